/- Appends next to one another, of slices that may have no room: what is written is a slice's block only where it has room. The condition: as many bytes as the model's append bears. -/
import Derived.Test.YtbcnapkbdbefhaaApart
namespace Go.Proofs.Ytbcnapkbdbefhaa
open Go.RowKit

/-- the block of a slice that has room -/
def capOf : Value → Nat
  | .slice _ _ c => c
  | _ => 0
def rowOf (v : Value) : Option Nat := if capOf v = 0 then none else v.ownBlock
theorem rowOf_one (a : Addr) (n : Nat) : rowOf (.slice (some a) n 1) = some a.block := rfl
theorem rowOf_pos {a : Addr} {n c : Nat} (hc : 0 < c) : rowOf (.slice (some a) n c) = some a.block := by
  unfold rowOf
  rw [if_neg (show ¬ capOf (.slice (some a) n c) = 0 from by show ¬ c = 0; omega)]; rfl
theorem rowOf_nil (n c : Nat) : rowOf (.slice none n c) = none := by
  unfold rowOf; split <;> rfl
theorem rowOf_own {v : Value} {k : Nat} (h : rowOf v = some k) : v.ownBlock = some k := by
  unfold rowOf at h
  split at h
  · cases h
  · exact h
/-- without room: nothing is held -/
theorem own_noroom {w w' : World} {base base' : Nat} {e : TypeId} {sz n : Nat} {v : Value} {xs : List Value} (h : Own w base e sz v n xs) (hv : rowOf v = none) : Own w' base' e sz v n xs := by
  rcases h with h | ⟨h1, g, cap, cur, fr, rfl, h3, h4, h5, hnc, h6⟩
  · exact .inl h
  · by_cases hc : cap = 0
    · subst hc
      obtain rfl : n = 0 := by omega
      exact .inl ⟨rfl, List.eq_nil_of_length_eq_zero (by simpa using h1), _, rfl⟩
    · rw [rowOf_pos (by omega)] at hv; cases hv
theorem own_ltR {w : World} {base : Nat} {e : TypeId} {size : Nat} {v : Value} {n : Nat} {xs : List Value} (h : Own w base e size v n xs) : ∀ k, rowOf v = some k → base ≤ k ∧ k < w.heap.size := by
  intro k hk
  rcases h with ⟨_, _, a, rfl⟩ | ⟨h1, g, cap, cur, fr, rfl, h3, h4, h5⟩
  · simp [rowOf, capOf] at hk
  · have := rowOf_own hk
    simp [Value.ownBlock] at this
    subst this
    exact ⟨h3, (Array.getElem?_eq_some_iff.1 h4).1⟩
theorem own_keptR {w w' : World} {base : Nat} {e : TypeId} {size : Nat} {v : Value} {n : Nat} {xs : List Value} {row : Option Nat} (h : Own w base e size v n xs) (hg : w.grownBy w' row) (hne : rowOf v = none ∨ rowOf v ≠ row) : Own w' base e size v n xs := by
  rcases hne with h0 | hne
  · exact own_noroom h h0
  · by_cases h0 : rowOf v = none
    · exact own_noroom h h0
    · refine own_kept h hg (.inr ?_)
      obtain ⟨k, hk⟩ := Option.ne_none_iff_exists'.1 h0
      rw [rowOf_own hk, ← hk]; exact hne
theorem own_room {w : World} {base : Nat} {e : TypeId} {sz n k c : Nat} {a : Option Addr} {xs : List Value} (h : Own w base e sz (.slice a k c) n xs) (hn : 0 < n) : 0 < c := by
  rcases h with ⟨h0, _⟩ | ⟨_, g, cap, cur, fr, e2, _, _, _, hnc, _⟩
  · omega
  · simp only [Value.slice.injEq] at e2; omega
theorem run_appR {P : Program} (w : World) (base : Nat) (t ty e : TypeId) (i : TypeInfo) (z : Value) (size bytes : Nat) (ht : P.underlying t = some (.slice e)) (hi : P.info? e = some i) (hz : i.zero = some z)
    (hsize : i.size = size) (hby : i.bytes = bytes) (hzs : z.cells.size = size) (hsz : 0 < size)
    (v : Value) (n : Nat) (xs : List Value) (hown : Own w base e size v n xs)
    (x : Value) (m : Nat) (news : List Value) (hx : Reads w size x m news) (h1 : ∀ u ∈ news, u.oneCell' = true)
    (hbytes : (n + m) * bytes ≤ 140737488355328) (hm : n + m ≤ 9223372036854775807) (hbase : base ≤ w.heap.size) :
    ∃ v' w', (Builtin.append_ #[t, t] ty #[v, x]).run P w = .ok v' w' ∧ Own w' base e size v' (n + m) (xs ++ news) ∧ w.grownBy w' (rowOf v) ∧ Below base w w' ∧ (∀ k, rowOf v' = some k → rowOf v = some k ∨ w.heap.size ≤ k) := by
  by_cases h0 : rowOf v = none
  · have hnil : n = 0 ∧ xs = [] ∧ ∃ a, v = .slice a 0 0 := by
      rcases hown with h | ⟨h1, g, cap, cur, fr, rfl, h3, h4, h5, hnc, h6⟩
      · exact h
      · by_cases hc : cap = 0
        · subst hc
          obtain rfl : n = 0 := by omega
          exact ⟨rfl, List.eq_nil_of_length_eq_zero (by simpa using h1), _, rfl⟩
        · rw [rowOf_pos (by omega)] at h0; cases h0
    obtain ⟨rfl, rfl, a, rfl⟩ := hnil
    obtain ⟨v', w', g1, g2, g3, g4, g5⟩ := run_app2 (P := P) w base t ty e i z size bytes ht hi hz hsize hby hzs hsz (.slice a 0 0) 0 [] hown x m news hx h1 hbytes hm hbase
    have hfresh : (w' = w ∧ v' = .slice a 0 0) ∨ ((∃ o, w' = w.drew.alloc o) ∧ ∀ k, v'.ownBlock = some k → w.heap.size ≤ k) := by
      obtain ⟨xa, cap, rfl, hl, hmc, hcm, hcells⟩ := hx
      have hrc := reads_cells (w := w) (sz := size) ⟨xa, cap, rfl, hl, hmc, hcm, hcells⟩
      by_cases hm0 : m = 0
      · left
        subst hm0
        have hn0 : news = [] := List.eq_nil_of_length_eq_zero (by simpa using hl)
        subst hn0
        have hr : (Builtin.append_ #[t, t] ty #[.slice a 0 0, .slice xa 0 cap]).run P w = .ok (.slice a 0 0) w := by
          subst hsize
          cases a <;> cases xa <;> simp [Builtin.append_, run_underlying ht, sizeOf, typeInfo, hi, Builtin.lenOf, Builtin.firstCells, loadCells, loadCellsFrom, storeCells]
        rw [hr] at g1
        cases g1
        exact ⟨rfl, rfl⟩
      · right
        cases xa with
        | none => exact absurd (hrc.1 rfl) (by have := Nat.mul_pos (Nat.pos_of_ne_zero hm0) hsz; omega)
        | some ad =>
          have hnews := hrc.2 ad rfl
          subst hsize hby
          cases a with
          | none =>
            have hr := run_append_nil (P := P) w t ty e i z ht hi hz ad m cap news hl hnews (by omega) (by omega) (by have hb := hbytes; simp only [Nat.zero_add] at hb; omega)
            rw [hr] at g1
            cases g1
            exact ⟨⟨_, rfl⟩, fun k h => by simp [Value.ownBlock] at h; omega⟩
          | some ad' =>
            have hr := run_append_grow (P := P) w t ty e i z ht hi hz ad' 0 0 [] (by simp) (by simp) ad m cap news hl hnews (by omega) (by omega) (growslice_fits (by omega) hbytes)
            rw [hr] at g1
            cases g1
            exact ⟨⟨_, rfl⟩, fun k h => by simp [Value.ownBlock] at h; omega⟩
    refine ⟨v', w', g1, g2, ?_, g4, fun k hk => ?_⟩
    · rcases hfresh with ⟨rfl, _⟩ | ⟨⟨o, rfl⟩, _⟩
      · exact ⟨rfl, rfl, rfl, Nat.le_refl _, fun _ _ _ => rfl⟩
      · exact ⟨rfl, rfl, rfl, by simp, fun k hk _ => heap_alloc_old w.drew _ hk⟩
    · rcases hfresh with ⟨_, rfl⟩ | ⟨_, h⟩
      · exact .inl hk
      · exact .inr (h k (rowOf_own hk))
  · obtain ⟨v', w', g1, g2, g3, g4, g5⟩ := run_app2 (P := P) w base t ty e i z size bytes ht hi hz hsize hby hzs hsz v n xs hown x m news hx h1 hbytes hm hbase
    obtain ⟨k0, hk0⟩ := Option.ne_none_iff_exists'.1 h0
    have hv := rowOf_own hk0
    refine ⟨v', w', g1, g2, by rw [hk0, ← hv]; exact g3, g4, fun k hk => ?_⟩
    rcases g5 k (rowOf_own hk) with h | h
    · left; rw [hk0, ← hv]; exact h
    · exact .inr h
/-- two slices of the call's own that lie apart, as far as they have room -/
def ApartR (w : World) (v u : Value) : Prop := ∀ k, rowOf v = some k → k < w.heap.size ∧ rowOf u ≠ some k
theorem ApartR.none (w : World) (u : Value) : ApartR w (.slice none 0 0) u := fun k h => by simp [rowOf_nil] at h
theorem ApartR.later {w w' : World} {v u : Value} (h : ApartR w v u) (hs : w.heap.size ≤ w'.heap.size) : ApartR w' v u := fun k hk => ⟨Nat.lt_of_lt_of_le (h k hk).1 hs, (h k hk).2⟩
theorem own_apartR {w w' : World} {base : Nat} {e : TypeId} {sz n : Nat} {v u : Value} {xs : List Value} (h : Own w base e sz v n xs) (ha : ApartR w v u) (hg : w.grownBy w' (rowOf u)) : Own w' base e sz v n xs := by
  refine own_keptR h hg ?_
  by_cases e : rowOf v = none
  · exact .inl e
  · obtain ⟨k, hk⟩ := Option.ne_none_iff_exists'.1 e
    exact .inr fun e2 => (ha k hk).2 (by rw [← e2, hk])
/-- what an append does to the others: they stand as they stood, apart -/
structure GrewR (w w' : World) (base : Nat) (v v' : Value) : Prop where
  below : Below base w w'
  keep : ∀ (base2 : Nat) (e : TypeId) (sz n : Nat) (u : Value) (xs : List Value), Own w base2 e sz u n xs → ApartR w u v → Own w' base2 e sz u n xs
  apart : ∀ u, ApartR w u v → ApartR w' u v'
  rows : w.grownBy w' (rowOf v)
theorem grewR_of {w w' : World} {base : Nat} {v v' : Value} (hb : Below base w w') (hg : w.grownBy w' (rowOf v)) (hk : ∀ k, rowOf v' = some k → rowOf v = some k ∨ w.heap.size ≤ k) : GrewR w w' base v v' :=
  ⟨hb, fun _ _ _ _ _ _ ho ha => own_apartR ho ha hg, fun u ha k hu => ⟨Nat.lt_of_lt_of_le (ha k hu).1 hb.size, fun e => by
    rcases hk k e with h | h
    · exact (ha k hu).2 h
    · have := (ha k hu).1; omega⟩, hg⟩
theorem wp_app_elR {w : World} {ops : Array Oper} {rest : List Oper} {o : Oper} {a : Act} {Q : Exit → Act → World → Prop} (hgd : Region.wanted o (yielded ops a.tmps) = true) (s x : Operand) {t e : TypeId} {i : TypeInfo} {z : Value} {sz by_ : Nat}
    (ho : o.op = .call { callee := .builtin .append, args := #[s, x], argTypes := #[t, t] }) (ht : Try.prog.underlying t = some (.slice e)) (hi : Try.prog.info? e = some i) (hz : i.zero = some z) (hs : i.size = sz) (hb : i.bytes = by_) (hzs : z.cells.size = sz) (hsz : 0 < sz)
    (base n m : Nat) (v v2 : Value) (xs ys zs : List Value) (r : Nat) (hs' : a.eval s = v) (hx : a.eval x = v2) (hown : Own w base e sz v n xs) (hrd : Reads w sz v2 m ys) (h1 : ∀ u ∈ ys, u.oneCell' = true)
    (hr : n + m = r) (hzz : xs ++ ys = zs) (hlen : r * by_ ≤ 140737488355328) (hnm : r ≤ 9223372036854775807) (hbase : base ≤ w.heap.size)
    (h : ∀ b c w', Hid (Own w' base e sz (.slice b r c) r zs) → Hid (GrewR w w' base v (.slice b r c)) → wpList Try.prog ops Q rest (a.put o.dst (.slice b r c)) w') : wpList Try.prog ops Q (o :: rest) a w := by
  subst hr hzz
  refine wpList_want hgd fun K hK => ?_
  obtain ⟨v', w', hr, h2, h3, h4, h5⟩ := run_appR (P := Try.prog) w base t o.type e i z sz by_ ht hi hz hs hb hzs hsz v n xs hown v2 m ys hrd h1 hlen hnm hbase
  unfold Oper.wp execOp
  simp only [ho, resolve, invoke, builtin, Sem.run_bind, Sem.run_pure, Result.andThen_ok, List.map_toArray, List.map_cons, List.map_nil, hs', hx, hr]
  obtain ⟨b, c, rfl⟩ := (reads_of_own h2).slice
  exact hK _ _ (h b c w' h2 (grewR_of h4 h3 h5))
end Go.Proofs.Ytbcnapkbdbefhaa

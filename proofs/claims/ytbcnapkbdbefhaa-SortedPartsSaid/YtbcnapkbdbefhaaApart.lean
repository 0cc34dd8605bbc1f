/- Appends next to one another: two slices of the call's own, of which one grows. The condition: as many bytes as the model's append bears. -/
import Derived.Test.YtbcnapkbdbefhaaHeld
import Derived.Test.YtbcnapkbdbefhaaStore
namespace Go.Proofs.Ytbcnapkbdbefhaa
open Go.RowKit

theorem run_app2 {P : Program} (w : World) (base : Nat) (t ty e : TypeId) (i : TypeInfo) (z : Value) (size bytes : Nat) (ht : P.underlying t = some (.slice e)) (hi : P.info? e = some i) (hz : i.zero = some z)
    (hsize : i.size = size) (hby : i.bytes = bytes) (hzs : z.cells.size = size) (hsz : 0 < size)
    (v : Value) (n : Nat) (xs : List Value) (hown : Own w base e size v n xs)
    (x : Value) (m : Nat) (news : List Value) (hx : Reads w size x m news) (h1 : ∀ u ∈ news, u.oneCell' = true)
    (hbytes : (n + m) * bytes ≤ 140737488355328) (hm : n + m ≤ 9223372036854775807) (hbase : base ≤ w.heap.size) :
    ∃ v' w', (Builtin.append_ #[t, t] ty #[v, x]).run P w = .ok v' w' ∧ Own w' base e size v' (n + m) (xs ++ news) ∧ w.grownBy w' v.ownBlock ∧ Below base w w' ∧ (∀ k, v'.ownBlock = some k → v.ownBlock = some k ∨ w.heap.size ≤ k) := by
  obtain ⟨a, cap, rfl, hl, hmc, hcm, hcells⟩ := hx
  have hrc := reads_cells (w := w) (sz := size) ⟨a, cap, rfl, hl, hmc, hcm, hcells⟩
  have refl : ∀ row, w.grownBy w row := fun row => ⟨rfl, rfl, rfl, Nat.le_refl _, fun _ _ _ => rfl⟩
  cases a with
  | none =>
    have hm0 : m = 0 := by
      have := hrc.1 rfl
      rcases Nat.eq_zero_or_pos m with h | h
      · exact h
      · have := Nat.mul_pos h hsz; omega
    subst hm0
    have hn0 : news = [] := List.eq_nil_of_length_eq_zero (by simpa using hl)
    subst hn0
    refine ⟨v, w, ?_, by simpa using hown, refl _, Below.refl _ _, fun _ h => .inl h⟩
    rcases hown with ⟨rfl, rfl, ad, rfl⟩ | ⟨_, g, cp, cur, fr, rfl, _, _, _, hnc, _⟩
    · cases ad <;> simp [Builtin.append_, run_underlying ht, sizeOf, typeInfo, hi, Builtin.lenOf, Builtin.firstCells, storeCells]
    · simp [Builtin.append_, run_underlying ht, sizeOf, typeInfo, hi, Builtin.lenOf, Builtin.firstCells, hnc, storeCells]
  | some ad =>
    have hnews := hrc.2 ad rfl
    subst hsize hby
    have gbel : ∀ (o : Obj), Below base w (w.drew.alloc o) := fun o => (Below.refl _ _).drew.alloc hbase _
    have grown : ∀ (old : Nat), old < n + m → xs.length = n * i.size → ∀ row,
        Own (w.drew.alloc (.cells (xs.toArray ++ news.toArray ++ Builtin.zeroCells z.cells (grownCap w (n + m) old e - (n + m))) e)) base e i.size (.slice (some ⟨w.heap.size, 0, none⟩) (n + m) (grownCap w (n + m) old e)) (n + m) (xs ++ news) ∧
        w.grownBy (w.drew.alloc (.cells (xs.toArray ++ news.toArray ++ Builtin.zeroCells z.cells (grownCap w (n + m) old e - (n + m))) e)) row := by
      intro old ho hxl row
      have hge := grownCap_ge w (n + m) old e
      have hcm' : grownCap w (n + m) old e ≤ maxLen := grownCap_le_maxLen w (n + m) old e (by unfold maxLen; omega)
      have hlen : (xs ++ news).length = (n + m) * i.size := by rw [List.length_append, hxl, hl, Nat.add_mul]
      refine ⟨.inr ⟨hlen, w.heap.size, _, _, (0, 0), rfl, hbase, heap_alloc_new w.drew _, fun _ _ h => by omega, hge, hcm', ?_, ?_⟩, ⟨rfl, rfl, rfl, by simp, fun k hk _ => heap_alloc_old w.drew _ hk⟩⟩
      · simp only [Array.size_append, List.size_toArray, size_zeroCells, hzs, hxl, hl, ← Nat.add_mul]
        apply Nat.le_of_eq
        congr 1
        omega
      · simp only [Array.toList_append, List.append_assoc]
        rw [← List.append_assoc, ← hlen]
        exact List.take_left
    rcases hown with ⟨rfl, rfl, ad', rfl⟩ | ⟨hxl, g, cp, cur, fr, rfl, hbg, hg, hfr, hnc, hcm2, hcs, htake⟩
    · by_cases hm0 : m = 0
      · subst hm0
        have hn0 : news = [] := List.eq_nil_of_length_eq_zero (by simpa using hl)
        subst hn0
        refine ⟨_, w, ?_, .inl ⟨rfl, rfl, ad', rfl⟩, refl _, Below.refl _ _, fun _ h => .inl h⟩
        cases ad' <;> simp [Builtin.append_, run_underlying ht, sizeOf, typeInfo, hi, Builtin.lenOf, Builtin.firstCells, loadCells, loadCellsFrom, storeCells]
      · have hgr := grown 0 (by omega) (by simp) (Value.ownBlock (.slice ad' 0 0))
        cases ad' with
        | none =>
          have hr := run_append_nil (P := P) w t ty e i z ht hi hz ad m cap news hl hnews (by omega) (by omega) (by have hb := hbytes; simp only [Nat.zero_add] at hb; omega)
          simp only [Nat.zero_add, List.nil_append, Array.empty_append] at hgr ⊢
          exact ⟨_, _, hr, hgr.1, hgr.2, gbel _, fun k h => .inr (by simp [Value.ownBlock] at h; omega)⟩
        | some ad' =>
          have hr := run_append_grow (P := P) w t ty e i z ht hi hz ad' 0 0 [] (by simp) (by simp) ad m cap news hl hnews (by omega) (by omega) (growslice_fits (by omega) hbytes)
          exact ⟨_, _, hr, hgr.1, hgr.2, gbel _, fun k h => .inr (by simp [Value.ownBlock] at h; omega)⟩
    · by_cases hroom : n + m ≤ cp
      · have hfit : n * i.size + news.length ≤ cur.size := by
          rw [hl, ← Nat.add_mul]
          exact Nat.le_trans (Nat.mul_le_mul_right _ hroom) hcs
        have hr := run_append_fr (P := P) w t ty e i ht hi g n cp cur fr hg hfr ad m cap news hl hnews h1 hroom hfit
        have hlen : (xs ++ news).length = (n + m) * i.size := by rw [List.length_append, hxl, hl, Nat.add_mul]
        refine ⟨_, _, hr, .inr ⟨hlen, g, cp, _, fr, rfl, hbg, setRow_heap w g cur _ e _ hg, ?_, hroom, hcm2, ?_, ?_⟩, ⟨rfl, rfl, rfl, by simp, fun k hk hne => setRow_other w g k _ (fun e => hne (by simp [Value.ownBlock, e]))⟩, ⟨rfl, rfl, rfl, by simp, fun k hk => setRow_other w g k _ (by omega)⟩, fun _ h => .inl h⟩
        · intro k hk
          apply hfr
          simp only [List.size_toArray, List.length_append, List.length_take, List.length_drop, Array.length_toList] at hk
          omega
        · simp only [List.size_toArray, List.length_append, List.length_take, List.length_drop, Array.length_toList]
          omega
        · rw [htake, ← hlen]
          exact List.take_left
      · have holds : ∀ j u, xs[j]? = some u → w.cell? ((⟨g, 0, none⟩ : Addr).add j) = some u := by
          intro j u hu
          have hadd : (⟨g, 0, none⟩ : Addr).add j = ⟨g, j, none⟩ := by unfold Addr.add; split <;> simp_all
          rw [hadd, cell_of_row w g j cur e fr hg]
          rw [← htake, List.getElem?_take] at hu
          split at hu
          · simpa using hu
          · cases hu
        have hr := run_append_grow (P := P) w t ty e i z ht hi hz ⟨g, 0, none⟩ n cp xs hxl holds ad m cap news hl hnews (by omega) (by omega) (growslice_fits (by omega) hbytes)
        have hgr := grown cp (by omega) hxl (Value.ownBlock (.slice (some ⟨g, 0, none⟩) n cp))
        exact ⟨_, _, hr, hgr.1, hgr.2, gbel _, fun k h => .inr (by simp [Value.ownBlock] at h; omega)⟩

/-- two slices of the call's own that lie apart -/
def Apart (w : World) (v u : Value) : Prop := ∀ k, v.ownBlock = some k → k < w.heap.size ∧ u.ownBlock ≠ some k
theorem Apart.none (w : World) (u : Value) : Apart w (.slice none 0 0) u := fun k h => by simp [Value.ownBlock] at h
theorem Apart.later {w w' : World} {v u : Value} (h : Apart w v u) (hs : w.heap.size ≤ w'.heap.size) : Apart w' v u := fun k hk => ⟨Nat.lt_of_lt_of_le (h k hk).1 hs, (h k hk).2⟩
theorem Apart.comm {w : World} {base : Nat} {e : TypeId} {sz n : Nat} {v u : Value} {xs : List Value} (h : Apart w v u) (hu : Own w base e sz u n xs) (hn : 0 < n) : Apart w u v :=
  fun k hk => ⟨(own_lt hu hn k hk).2, fun e => (h k e).2 hk⟩
theorem own_apart {w w' : World} {base : Nat} {e : TypeId} {sz n : Nat} {v u : Value} {xs : List Value} (h : Own w base e sz v n xs) (ha : Apart w v u) (hg : w.grownBy w' u.ownBlock) : Own w' base e sz v n xs := by
  refine own_kept h hg ?_
  by_cases e : v.ownBlock = none
  · exact .inl e
  · obtain ⟨k, hk⟩ := Option.ne_none_iff_exists'.1 e
    exact .inr fun e2 => (ha k hk).2 (by rw [← e2, hk])
/-- what an append does to the others: they stand as they stood, apart -/
structure Grew (w w' : World) (base : Nat) (v v' : Value) : Prop where
  below : Below base w w'
  keep : ∀ (base2 : Nat) (e : TypeId) (sz n : Nat) (u : Value) (xs : List Value), Own w base2 e sz u n xs → Apart w u v → Own w' base2 e sz u n xs
  apart : ∀ u, Apart w u v → Apart w' u v'
  rows : w.grownBy w' v.ownBlock
theorem grew_of {w w' : World} {base : Nat} {v v' : Value} (hb : Below base w w') (hg : w.grownBy w' v.ownBlock) (hk : ∀ k, v'.ownBlock = some k → v.ownBlock = some k ∨ w.heap.size ≤ k) : Grew w w' base v v' :=
  ⟨hb, fun _ _ _ _ _ _ ho ha => own_apart ho ha hg, fun u ha k hu => ⟨Nat.lt_of_lt_of_le (ha k hu).1 hb.size, fun e => by
    rcases hk k e with h | h
    · exact (ha k hu).2 h
    · have := (ha k hu).1; omega⟩, hg⟩
theorem wp_app_el2 {w : World} {ops : Array Oper} {rest : List Oper} {o : Oper} {a : Act} {Q : Exit → Act → World → Prop} (hgd : Region.wanted o (yielded ops a.tmps) = true) (s x : Operand) {t e : TypeId} {i : TypeInfo} {z : Value} {sz by_ : Nat}
    (ho : o.op = .call { callee := .builtin .append, args := #[s, x], argTypes := #[t, t] }) (ht : Try.prog.underlying t = some (.slice e)) (hi : Try.prog.info? e = some i) (hz : i.zero = some z) (hs : i.size = sz) (hb : i.bytes = by_) (hzs : z.cells.size = sz) (hsz : 0 < sz)
    (base n m : Nat) (v v2 : Value) (xs ys zs : List Value) (r : Nat) (hs' : a.eval s = v) (hx : a.eval x = v2) (hown : Own w base e sz v n xs) (hrd : Reads w sz v2 m ys) (h1 : ∀ u ∈ ys, u.oneCell' = true)
    (hr : n + m = r) (hzz : xs ++ ys = zs) (hlen : r * by_ ≤ 140737488355328) (hnm : r ≤ 9223372036854775807) (hbase : base ≤ w.heap.size)
    (h : ∀ b c w', Hid (Own w' base e sz (.slice b r c) r zs) → Hid (Grew w w' base v (.slice b r c)) → wpList Try.prog ops Q rest (a.put o.dst (.slice b r c)) w') : wpList Try.prog ops Q (o :: rest) a w := by
  subst hr hzz
  refine wpList_want hgd fun K hK => ?_
  obtain ⟨v', w', hr, h2, h3, h4, h5⟩ := run_app2 (P := Try.prog) w base t o.type e i z sz by_ ht hi hz hs hb hzs hsz v n xs hown v2 m ys hrd h1 hlen hnm hbase
  unfold Oper.wp execOp
  simp only [ho, resolve, invoke, builtin, Sem.run_bind, Sem.run_pure, Result.andThen_ok, List.map_toArray, List.map_cons, List.map_nil, hs', hx, hr]
  obtain ⟨b, c, rfl⟩ := (reads_of_own h2).slice
  exact hK _ _ (h b c w' h2 (grew_of h4 h3 h5))
end Go.Proofs.Ytbcnapkbdbefhaa

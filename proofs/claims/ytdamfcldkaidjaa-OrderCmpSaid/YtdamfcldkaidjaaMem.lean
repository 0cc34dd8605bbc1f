/- Memory that a call makes: a slice of the call's own, and append onto it from whatever source. The condition of append: as many bytes as the model's append bears. -/
import Derived.Test.YtdamfcldkaidjaaBase
namespace Go.Proofs.Ytdamfcldkaidjaa
open Go.RowKit

/-- a slice of the call's own, from block base on; or an empty one without room -/
def Own (w : World) (base : Nat) (e : TypeId) (size : Nat) (v : Value) (n : Nat) (xs : List Value) : Prop :=
  w.ownsRow base e size v n xs ∨ (n = 0 ∧ xs = [] ∧ ∃ a, v = .slice (some a) 0 0)
theorem own_of {w : World} {base : Nat} {e : TypeId} {size : Nat} {v : Value} {n : Nat} {xs : List Value} (h : w.ownsRow base e size v n xs) : Own w base e size v n xs := .inl h
theorem own_nil (w : World) (base : Nat) (e : TypeId) (size : Nat) : Own w base e size (.slice none 0 0) 0 [] := .inl (World.ownsRow_nil w base e size)
theorem ownsRow_mono {w : World} {base base' : Nat} {e : TypeId} {size : Nat} {v : Value} {n : Nat} {xs : List Value} (h : w.ownsRow base e size v n xs) (hb : base' ≤ base) : w.ownsRow base' e size v n xs := by
  refine ⟨h.1, ?_⟩
  rcases h.2 with hn | ⟨g, cap, cur, hv, hg, r⟩
  · exact .inl hn
  · exact .inr ⟨g, cap, cur, hv, by omega, r⟩
theorem own_mono {w : World} {base base' : Nat} {e : TypeId} {size : Nat} {v : Value} {n : Nat} {xs : List Value} (h : Own w base e size v n xs) (hb : base' ≤ base) : Own w base' e size v n xs := by
  rcases h with h | h
  · exact .inl (ownsRow_mono h hb)
  · exact .inr h
/-- while nothing below 'B' is written, and the slice lies below 'B' -/
theorem own_below {w w' : World} {base : Nat} {e : TypeId} {size : Nat} {v : Value} {n : Nat} {xs : List Value} (h : Own w base e size v n xs) (hb : Below w.heap.size w w') : Own w' base e size v n xs := by
  rcases h with h | h
  · refine .inl ⟨h.1, ?_⟩
    rcases h.2 with hn | ⟨g, cap, cur, hv, hg, hh, r⟩
    · exact .inl hn
    · exact .inr ⟨g, cap, cur, hv, hg, by rw [hb.block g (Array.getElem?_eq_some_iff.1 hh).1]; exact hh, r⟩
  · exact .inr h
theorem own_grown {w w' : World} {base : Nat} {e : TypeId} {size : Nat} {v : Value} {n : Nat} {xs : List Value} {row : Option Nat} (h : Own w base e size v n xs) (hg : w.grownBy w' row) (hne : v.ownBlock = none ∨ n = 0 ∨ v.ownBlock ≠ row) :
    n = 0 ∨ Own w' base e size v n xs := by
  rcases h with h | h
  · rcases hne with h1 | h1 | h1
    · exact .inr (.inl (h.kept hg (.inl h1)))
    · exact .inl h1
    · exact .inr (.inl (h.kept hg (.inr h1)))
  · exact .inl h.1

/-- a slice that reads, of elements of whatever size, as the cells xs -/
theorem reads_cells {w : World} {sz : Nat} {a : Option Addr} {n cap : Nat} {xs : List Value} (h : Reads w sz (.slice a n cap) n xs) :
    (a = none → n * sz = 0) ∧ ∀ ad, a = some ad → ∀ j u, xs[j]? = some u → w.cell? (ad.add j) = some u := by
  obtain ⟨a', cap', e, h1, h2, h3, h4⟩ := h
  simp only [Value.slice.injEq, true_and] at e
  obtain ⟨rfl, rfl⟩ := e
  refine ⟨fun e => ?_, fun ad e j u hj => ?_⟩
  · rw [← h1]
    apply Nat.eq_zero_of_not_pos
    intro hp
    obtain ⟨b, off, e', _⟩ := h4 0 hp
    rw [e] at e'; cases e'
  · have hj' : j < xs.length := (List.getElem?_eq_some_iff.1 hj).1
    obtain ⟨b, off, e', hc⟩ := h4 j hj'
    rw [e] at e'
    cases e'
    have : xs[j] = u := (List.getElem?_eq_some_iff.1 hj).2
    rw [← this, ← hc]
    congr 1
    unfold Addr.add
    split <;> simp_all

theorem rd_reads {w : World} {v : Value} {l : List UInt8} (h : Rd w v l) : Reads w 1 v l.length (u8s l) := by
  obtain ⟨a, cap, rfl, h1, h2, h3⟩ := h
  refine ⟨a, cap, rfl, by simp [u8s], h1, h2, fun j hj => ?_⟩
  obtain ⟨b, off, e, hc⟩ := h3 j (by simpa [u8s] using hj)
  exact ⟨b, off, e, by rw [hc]; simp [u8s]⟩
theorem one_u8s (l : List UInt8) : ∀ u ∈ u8s l, u.oneCell' = true := by
  intro u hu
  obtain ⟨c, _, rfl⟩ := List.mem_map.1 hu
  rfl

/-- append onto what the call owns, from whatever can be read: 'append(out, src...)' -/
theorem run_app {P : Program} (w : World) (base : Nat) (t ty e : TypeId) (i : TypeInfo) (z : Value) (size bytes : Nat) (ht : P.underlying t = some (.slice e)) (hi : P.info? e = some i) (hz : i.zero = some z)
    (hsize : i.size = size) (hby : i.bytes = bytes) (hzs : z.cells.size = size) (hsz : 0 < size)
    (v : Value) (n : Nat) (xs : List Value) (hown : Own w base e size v n xs)
    (x : Value) (m : Nat) (news : List Value) (hx : Reads w size x m news) (h1 : ∀ u ∈ news, u.oneCell' = true)
    (hbytes : (n + m) * bytes ≤ 140737488355328) (hm : n + m ≤ 9223372036854775807) (hbase : base ≤ w.heap.size) :
    ∃ v' w', (Builtin.append_ #[t, t] ty #[v, x]).run P w = .ok v' w' ∧ Own w' base e size v' (n + m) (xs ++ news) ∧ w.grownBy w' v.ownBlock := by
  obtain ⟨a, cap, rfl, hl, hmc, hcm, hcells⟩ := hx
  have hrc := reads_cells (w := w) (sz := size) ⟨a, cap, rfl, hl, hmc, hcm, hcells⟩
  cases a with
  | none =>
    have hm0 : m = 0 := by
      have := hrc.1 rfl
      rcases Nat.eq_zero_or_pos m with h | h
      · exact h
      · have := Nat.mul_pos h hsz; omega
    subst hm0
    have hn0 : news = [] := List.eq_nil_of_length_eq_zero (by simpa using hl)
    subst hn0
    refine ⟨v, w, ?_, by simpa using hown, ⟨rfl, rfl, rfl, Nat.le_refl _, fun _ _ _ => rfl⟩⟩
    rcases hown with ho | ⟨rfl, rfl, ad, rfl⟩
    · rcases ho.2 with ⟨rfl, rfl⟩ | ⟨g, cp, cur, rfl, _, _, hnc, _⟩
      · simp [Builtin.append_, run_underlying ht, sizeOf, typeInfo, hi, Builtin.lenOf, Builtin.firstCells]
      · simp [Builtin.append_, run_underlying ht, sizeOf, typeInfo, hi, Builtin.lenOf, Builtin.firstCells, hnc, storeCells]
    · simp [Builtin.append_, run_underlying ht, sizeOf, typeInfo, hi, Builtin.lenOf, Builtin.firstCells, storeCells]
  | some ad =>
    have hnews := hrc.2 ad rfl
    rcases hown with ho | ⟨rfl, rfl, ad', rfl⟩
    · obtain ⟨v', w', h2, h3, h4, _⟩ := run_append_own (P := P) w base t ty e i z size bytes ht hi hz hsize hby hzs hsz v n xs ho ad m cap news hl hnews h1 (by unfold maxLen; omega) hbytes hbase
      exact ⟨v', w', h2, .inl h3, h4⟩
    · by_cases hm0 : m = 0
      · subst hm0
        have hn0 : news = [] := List.eq_nil_of_length_eq_zero (by simpa using hl)
        subst hn0
        refine ⟨_, w, ?_, .inr ⟨rfl, rfl, ad', rfl⟩, ⟨rfl, rfl, rfl, Nat.le_refl _, fun _ _ _ => rfl⟩⟩
        simp [Builtin.append_, run_underlying ht, sizeOf, typeInfo, hi, Builtin.lenOf, Builtin.firstCells, loadCells, loadCellsFrom, storeCells]
      · subst hsize hby
        have hr := run_append_grow (P := P) w t ty e i z ht hi hz ad' 0 0 [] (by simp) (by simp) ad m cap news hl hnews (by omega) (by omega) (growslice_fits (by omega) hbytes)
        have hge := grownCap_ge w (0 + m) 0 e
        have hcm' : grownCap w (0 + m) 0 e ≤ maxLen := grownCap_le_maxLen w (0 + m) 0 e (by unfold maxLen; omega)
        refine ⟨_, _, hr, .inl ⟨by simp [hl], .inr ⟨w.heap.size, _, _, rfl, hbase, heap_alloc_new w.drew _, hge, hcm', ?_, ?_⟩⟩, ⟨rfl, rfl, rfl, by simp, fun k hk _ => heap_alloc_old w.drew _ hk⟩⟩
        · simp only [Array.size_append, List.size_toArray, size_zeroCells, hzs, hl, List.length_nil]
          rw [Nat.zero_add, ← Nat.add_mul]
          congr 1
          omega
        · simp only [Array.toList_append, List.nil_append, Nat.zero_add]
          rw [← hl]
          exact List.take_left

theorem info_u8 : (Try.prog.info? 5).map (fun i => (i.zero, i.size, i.bytes)) = some (some (.int .u8 0), 1, 1) := by kernel_rfl

/-- .. of bytes, as a step of the walk -/
theorem wp_app {w : World} {ops : Array Oper} {rest : List Oper} {o : Oper} {a : Act} {Q : Exit → Act → World → Prop} (hgd : o.guard = none) (s x : Operand)
    (ho : o.op = .call { callee := .builtin .append, args := #[s, x], argTypes := #[22, 22] })
    (base n k : Nat) (v v2 : Value) (l m : List UInt8) (hs : a.eval s = v) (hx : a.eval x = v2) (hown : Own w base 5 1 v n (u8s l)) (hrd : Rd w v2 m) (hk : m.length = k)
    (hlen : n + k ≤ 1099511627776) (hbase : base ≤ w.heap.size)
    (h : ∀ v' w', Own w' base 5 1 v' (n + k) (u8s (l ++ m)) → w.grownBy w' v.ownBlock → wpList Try.prog ops Q rest (a.put o.dst v') w') : wpList Try.prog ops Q (o :: rest) a w := by
  subst hk
  refine wpList_plain hgd fun K hK => ?_
  obtain ⟨i, hi, hz, hz1, hz2⟩ := info_parts info_u8
  obtain ⟨v', w', hr, h2, h3⟩ := run_app (P := Try.prog) w base 22 o.type 5 i (.int .u8 0) 1 1 Try.underlying22 hi hz hz1 hz2 rfl (by omega) v n (u8s l) hown v2 m.length (u8s m) (rd_reads hrd) (one_u8s m) (by omega) (by omega) hbase
  unfold Oper.wp execOp
  simp only [ho, resolve, invoke, builtin, Sem.run_bind, Sem.run_pure, Result.andThen_ok, List.map_toArray, List.map_cons, List.map_nil, hs, hx, hr]
  rw [← u8s_append] at h2
  exact hK _ _ (h v' w' h2 h3)

/-- an owned slice reads -/
theorem rd_of_own {w : World} {base : Nat} {v : Value} {l : List UInt8} (h : Own w base 5 1 v l.length (u8s l)) : Rd w v l := by
  rcases h with h | ⟨h1, _, a, rfl⟩
  · exact rd_of_owns h
  · have : l = [] := List.eq_nil_of_length_eq_zero h1
    subst this
    exact ⟨some a, 0, rfl, by simp, by omega, fun j hj => absurd hj (by simp)⟩
/-- one new cell, as append's operand -/
theorem rd_one (w : World) (c : UInt8) (x : Int) (hx : x = c.toNat) (ty : TypeId) : Rd (w.alloc (.cells #[.int .u8 x] ty)) (.slice (some ⟨w.heap.size, 0, none⟩) 1 1) [c] := by
  subst hx
  refine ⟨_, 1, rfl, by simp, by omega, fun j hj => ⟨_, _, rfl, ?_⟩⟩
  have : j = 0 := by simp at hj; omega
  subst this
  rw [World.cell?_alloc_at _ _ _ _ rfl]
  rfl

/-- append of bytes within the capacity -/
theorem wp_fits {w : World} {ops : Array Oper} {rest : List Oper} {o : Oper} {a : Act} {Q : Exit → Act → World → Prop} (hgd : o.guard = none) (s x : Operand)
    (ho : o.op = .call { callee := .builtin .append, args := #[s, x], argTypes := #[22, 22] })
    (base g n k cap : Nat) (v2 : Value) (l m : List UInt8) (hs : a.eval s = .slice (some ⟨g, 0, none⟩) n cap) (hx : a.eval x = v2) (hown : w.ownsRow base 5 1 (.slice (some ⟨g, 0, none⟩) n cap) n (u8s l)) (hrd : Rd w v2 m)
    (hk : m.length = k) (hlen : n + k ≤ cap)
    (h : ∀ w', w'.ownsRow base 5 1 (.slice (some ⟨g, 0, none⟩) (n + k) cap) (n + k) (u8s (l ++ m)) → w.grownBy w' (some g) → wpList Try.prog ops Q rest (a.put o.dst (.slice (some ⟨g, 0, none⟩) (n + k) cap)) w') : wpList Try.prog ops Q (o :: rest) a w := by
  subst hk
  obtain ⟨i, hi, hz, hz1, hz2⟩ := info_parts info_u8
  obtain ⟨a2, c2, rfl, hl, hmc, hcm, hcells⟩ := rd_reads hrd
  have hrc := reads_cells (w := w) (sz := 1) ⟨a2, c2, rfl, hl, hmc, hcm, hcells⟩
  cases a2 with
  | some ad =>
    refine wpList_append_fits w hgd s x 22 ho base 5 i 1 Try.underlying22 hi hz1 g n cap (u8s l) hs hown ad m.length c2 (u8s m) hx (by simp [u8s]) (hrc.2 ad rfl) (one_u8s m) hlen ?_
    intro w' h1 h2
    rw [← u8s_append] at h1
    exact h w' h1 h2
  | none =>
    have hm0 : m = [] := List.eq_nil_of_length_eq_zero (by have := hrc.1 rfl; omega)
    subst hm0
    refine wpList_plain hgd fun K hK => ?_
    have hnc : n ≤ cap := by omega
    have hrun : (Builtin.append_ #[22, 22] o.type #[.slice (some ⟨g, 0, none⟩) n cap, .slice none 0 c2]).run Try.prog w = .ok (.slice (some ⟨g, 0, none⟩) n cap) w := by
      simp [Builtin.append_, run_underlying Try.underlying22, sizeOf, typeInfo, hi, Builtin.lenOf, Builtin.firstCells, hnc, storeCells]
    unfold Oper.wp execOp
    simp only [ho, resolve, invoke, builtin, Sem.run_bind, Sem.run_pure, Result.andThen_ok, List.map_toArray, List.map_cons, List.map_nil, hs, hx, List.length_nil, hrun]
    have := h w (by simpa using hown) ⟨rfl, rfl, rfl, Nat.le_refl _, fun _ _ _ => rfl⟩
    simp only [List.length_nil, Nat.add_zero] at this
    exact hK _ _ this
end Go.Proofs.Ytdamfcldkaidjaa

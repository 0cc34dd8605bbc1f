/- Copies with a mark in the room behind: appends within the room. No condition. -/
import Derived.Test.YtbcnapkbdbefhaaGreatDoorKindA
namespace Go.Proofs.YtbcnapkbdbefhaaGreatDoor
open Go.RowKit

theorem run_fitsG {P : Program} (w : World) (t ty e : TypeId) (i : TypeInfo) (sz : Nat) (ht : P.underlying t = some (.slice e)) (hi : P.info? e = some i) (hs : i.size = sz) (hsz : 0 < sz) (g n c m : Nat) (xs ys : List Value) (v2 : Value)
    (h1 : xs.length = n * sz) (cur : Array Value) (fr : Nat × Nat) (hg : w.heap[g]? = some (.cells cur e fr)) (hf : ∀ i, i < cur.size → ¬ (fr.1 ≤ i ∧ i < fr.2)) (hcs : c * sz ≤ cur.size) (htk : cur.toList.take (n * sz) = xs)
    (hrd : Reads w sz v2 m ys) (hone : ∀ u ∈ ys, u.oneCell' = true) (hroom : n + m ≤ c) :
    ∃ w' cur', (Builtin.append_ #[t, t] ty #[.slice (some ⟨g, 0, none⟩) n c, v2]).run P w = .ok (.slice (some ⟨g, 0, none⟩) (n + m) c) w' ∧ w.grownBy w' (some g) ∧
      w'.heap[g]? = some (.cells cur' e fr) ∧ cur'.size = cur.size ∧ cur'.toList.take ((n + m) * sz) = xs ++ ys ∧ w'.heap.size = w.heap.size := by
  obtain ⟨a2, c2, rfl, hl, hmc, hcm, hcells⟩ := hrd
  have hrc := reads_cells (w := w) (sz := sz) ⟨a2, c2, rfl, hl, hmc, hcm, hcells⟩
  subst hs
  have hle : (n + m) * i.size ≤ c * i.size := Nat.mul_le_mul_right _ hroom
  have hadd : (n + m) * i.size = n * i.size + m * i.size := Nat.add_mul _ _ _
  cases a2 with
  | some ad =>
    have hr := run_append_fr (P := P) w t ty e i ht hi g n c cur fr hg hf ad m c2 ys hl (hrc.2 ad rfl) hone hroom (by omega)
    refine ⟨_, _, hr, ⟨rfl, rfl, rfl, by simp [World.setRow], fun k hk hne => ?_⟩, setRow_heap w g cur _ _ fr hg, ?_, ?_, by simp [World.setRow]⟩
    · have hgk : g ≠ k := fun e => hne (by rw [e])
      simp [World.setRow, Array.getElem?_modify, hgk]
    · simp; omega
    · rw [htk]
      have : (xs ++ ys).length = (n + m) * i.size := by simp [h1, hl, hadd]
      rw [← this, List.toList_toArray]
      exact List.take_left
  | none =>
    have hm0 : m = 0 := by
      rcases Nat.mul_eq_zero.1 (hrc.1 rfl) with h | h
      · exact h
      · omega
    subst hm0
    have hy : ys = [] := List.eq_nil_of_length_eq_zero (by simpa using hl)
    subst hy
    have hnc : n ≤ c := by omega
    have hrun : (Builtin.append_ #[t, t] ty #[.slice (some ⟨g, 0, none⟩) n c, .slice none 0 c2]).run P w = .ok (.slice (some ⟨g, 0, none⟩) n c) w := by
      simp [Builtin.append_, run_underlying ht, sizeOf, typeInfo, hi, Builtin.lenOf, Builtin.firstCells, hnc, storeCells]
    exact ⟨w, cur, hrun, ⟨rfl, rfl, rfl, Nat.le_refl _, fun _ _ _ => rfl⟩, hg, rfl, by simpa using htk, rfl⟩
theorem own_parts {w : World} {base : Nat} {e : TypeId} {sz g n c : Nat} {xs : List Value} (h : Own w base e sz (.slice (some ⟨g, 0, none⟩) n c) n xs) (hc : 0 < c) : xs.length = n * sz ∧ base ≤ g ∧ n ≤ c ∧ c ≤ maxLen ∧
    ∃ (cur : Array Value) (fr : Nat × Nat), w.heap[g]? = some (.cells cur e fr) ∧ (∀ i, i < cur.size → ¬ (fr.1 ≤ i ∧ i < fr.2)) ∧ c * sz ≤ cur.size ∧ cur.toList.take (n * sz) = xs := by
  rcases h with ⟨_, _, a, e2⟩ | ⟨h1, g', cap, cur, fr, e2, hb, hg, hf, hnc, hm, hcs, ht⟩
  · simp only [Value.slice.injEq] at e2; omega
  · simp only [Value.slice.injEq, Option.some.injEq, Addr.mk.injEq, and_true, true_and] at e2
    obtain ⟨rfl, rfl⟩ := e2
    exact ⟨h1, hb, hnc, hm, cur, fr, hg, hf, hcs, ht⟩
/-- append within the room of a slice of the call's own -/
theorem wp_fitsO {w : World} {ops : Array Oper} {rest : List Oper} {o : Oper} {a : Act} {Q : Exit → Act → World → Prop} (hgd : Region.wanted o (yielded ops a.tmps) = true) (s x : Operand) {t e : TypeId} {i : TypeInfo} {sz : Nat}
    (ho : o.op = .call { callee := .builtin .append, args := #[s, x], argTypes := #[t, t] }) (ht : Tryz.prog.underlying t = some (.slice e)) (hi : Tryz.prog.info? e = some i) (hs : i.size = sz) (hsz : 0 < sz)
    (base g n c m : Nat) (xs ys zs : List Value) (v2 : Value) (r : Nat) (hs' : a.eval s = .slice (some ⟨g, 0, none⟩) n c) (hx : a.eval x = v2) (hown : Own w base e sz (.slice (some ⟨g, 0, none⟩) n c) n xs) (hrd : Reads w sz v2 m ys) (h1 : ∀ u ∈ ys, u.oneCell' = true)
    (hr : n + m = r) (hzz : xs ++ ys = zs) (hroom : r ≤ c) (hc : 0 < c)
    (h : ∀ w', Hid (Own w' base e sz (.slice (some ⟨g, 0, none⟩) r c) r zs) → Hid (w.grownBy w' (some g)) → wpList Tryz.prog ops Q rest (a.put o.dst (.slice (some ⟨g, 0, none⟩) r c)) w') : wpList Tryz.prog ops Q (o :: rest) a w := by
  subst hr hzz
  obtain ⟨p1, p2, p3, p4, cur, fr, p5, p6, p7, p8⟩ := own_parts hown hc
  refine wpList_want hgd fun K hK => ?_
  obtain ⟨w', cur', hr, g1, g2, g3, g4, g5⟩ := run_fitsG (P := Tryz.prog) w t o.type e i sz ht hi hs hsz g n c m xs ys v2 p1 cur fr p5 p6 p7 p8 hrd h1 hroom
  unfold Oper.wp execOp
  simp only [ho, resolve, invoke, builtin, Sem.run_bind, Sem.run_pure, Result.andThen_ok, List.map_toArray, List.map_cons, List.map_nil, hs', hx, hr]
  have hl : (xs ++ ys).length = (n + m) * sz := by
    obtain ⟨_, _, _, hl, _⟩ := hrd
    rw [List.length_append, p1, hl, Nat.add_mul]
  exact hK _ _ (h w' (Lib.hid (.inr ⟨hl, g, c, cur', fr, rfl, p2, g2, fun i hi => p6 i (by omega), hroom, p4, by omega, g4⟩)) (Lib.hid g1))
theorem own_less {w : World} {base : Nat} {e : TypeId} {sz g n c : Nat} {xs : List Value} (h : Own w base e sz (.slice (some ⟨g, 0, none⟩) n c) n xs) (hc : 0 < c) (k : Nat) (hk : k ≤ n) : Own w base e sz (.slice (some ⟨g, 0, none⟩) k c) k (xs.take (k * sz)) := by
  obtain ⟨p1, p2, p3, p4, cur, fr, p5, p6, p7, p8⟩ := own_parts h hc
  have hle : k * sz ≤ n * sz := Nat.mul_le_mul_right _ hk
  exact .inr ⟨by rw [List.length_take]; omega, g, c, cur, fr, rfl, p2, p5, p6, by omega, p4, p7, by rw [← p8, List.take_take, Nat.min_eq_left hle]⟩
/-- a copy of so many elements, a mark behind -/
def TwG (w : World) (base : Nat) (e : TypeId) (sz g n : Nat) (xs sp : List Value) : Prop := base ≤ g ∧ g < w.heap.size ∧ xs.length = n * sz ∧ Own w base e sz (.slice (some ⟨g, 0, none⟩) (n + 1) (n + 1)) (n + 1) (xs ++ sp)
theorem TwG.below {w w' : World} {base : Nat} {e : TypeId} {sz g n : Nat} {xs sp : List Value} (h : TwG w base e sz g n xs sp) (hb : Below w.heap.size w w') : TwG w' base e sz g n xs sp :=
  ⟨h.1, Nat.lt_of_lt_of_le h.2.1 hb.size, h.2.2.1, own_below h.2.2.2 hb⟩
theorem own_capS {w : World} {base : Nat} {e : TypeId} {sz g n c d : Nat} {xs : List Value} (h : Own w base e sz (.slice (some ⟨g, 0, none⟩) n c) n xs) (hc : 0 < c) (hd : d = c) : Own w base e sz (.slice (some ⟨g, 0, none⟩) n d) n xs := by subst hd; exact h
theorem TwG.own {w : World} {base : Nat} {e : TypeId} {sz g n : Nat} {xs sp : List Value} (h : TwG w base e sz g n xs sp) : Own w base e sz (.slice (some ⟨g, 0, none⟩) n (n + 1)) n xs := by
  have := own_less h.2.2.2 (by omega) n (by omega)
  rwa [List.take_append_of_le_length (by rw [h.2.2.1]; exact Nat.le_refl _), List.take_of_length_le (by rw [h.2.2.1]; exact Nat.le_refl _)] at this
theorem TwG.spare {w : World} {base : Nat} {e : TypeId} {sz g n : Nat} {xs sp : List Value} (h : TwG w base e sz g n xs sp) (r : Nat) (hr : r < sz) (v : Value) (hv : sp[r]? = some v) : w.cell? ⟨g, n * sz + r, none⟩ = some v := by
  obtain ⟨u, hu, hc⟩ := own_cellv h.2.2.2 (n * sz + r) (by rw [Nat.add_mul, Nat.one_mul]; omega)
  rw [List.getElem?_append_right (by rw [h.2.2.1]; omega), h.2.2.1, show n * sz + r - n * sz = r from by omega, hv] at hu
  rw [hc, hu]
end Go.Proofs.YtbcnapkbdbefhaaGreatDoor

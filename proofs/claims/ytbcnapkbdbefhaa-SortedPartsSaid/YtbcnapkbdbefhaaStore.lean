/- A store into a row of bytes of the call's own, and into a boxed array. The condition: an index within. -/
import Derived.Test.YtbcnapkbdbefhaaRet
namespace Go.Proofs.Ytbcnapkbdbefhaa
open Go.RowKit

/-- a whole block of bytes -/
def Row (w : World) (g : Nat) (t : TypeId) (l : List UInt8) : Prop := ∃ fr : Nat × Nat, w.heap[g]? = some (.cells (u8s l).toArray t fr) ∧ ∀ i, i < l.length → ¬ (fr.1 ≤ i ∧ i < fr.2)
theorem row_cell {w : World} {g : Nat} {t : TypeId} {l : List UInt8} (h : Row w g t l) (i : Nat) (hi : i < l.length) : w.cell? ⟨g, i, none⟩ = some (.int .u8 l[i].toNat) := by
  obtain ⟨fr, hg, _⟩ := h
  rw [cell_of_row w g i _ _ fr hg]
  simp [u8s, hi]
theorem row_frozen {w : World} {g : Nat} {t : TypeId} {l : List UInt8} (h : Row w g t l) (i : Nat) (hi : i < l.length) : w.frozen? ⟨g, i, none⟩ = false := by
  obtain ⟨fr, hg, hf⟩ := h
  have := hf i hi
  simp only [World.frozen?, hg]
  simp
  omega
theorem row_set {w : World} {g : Nat} {t : TypeId} {l : List UInt8} (h : Row w g t l) (i : Nat) (c : UInt8) : Row (w.setCell ⟨g, i, none⟩ (.int .u8 c.toNat)) g t (l.set i c) := by
  obtain ⟨fr, hg, hf⟩ := h
  refine ⟨fr, ?_, by simpa using hf⟩
  rw [setCell_eq_setRow w g i _ t fr _ hg, setRow_heap w g _ _ t fr hg]
  congr 2
  simp [u8s, List.map_set]
theorem row_below {w w' : World} {g : Nat} {t : TypeId} {l : List UInt8} (h : Row w g t l) (hb : Below w.heap.size w w') : Row w' g t l := by
  obtain ⟨fr, hg, hf⟩ := h
  exact ⟨fr, by rw [hb.block g (Array.getElem?_eq_some_iff.1 hg).1]; exact hg, hf⟩
/-- a slice of the call's own with something in it: its block -/
theorem own_block {w : World} {base : Nat} {v : Value} {n : Nat} {l : List UInt8} (h : Own w base 5 1 v n (u8s l)) (hn : 0 < n) :
    ∃ g c, v = .slice (some ⟨g, 0, none⟩) n c ∧ base ≤ g ∧ g < w.heap.size ∧ ∀ i, i < n → w.frozen? ⟨g, i, none⟩ = false := by
  rcases h with ⟨rfl, _⟩ | ⟨h1, g, cap, cur, fr, rfl, hb, hg, hf, hnc, _, hcs, _⟩
  · omega
  · refine ⟨g, cap, rfl, hb, (Array.getElem?_eq_some_iff.1 hg).1, fun i hi => ?_⟩
    have := hf i (by omega)
    simp only [World.frozen?, hg]
    simp
    omega
theorem own_store {w : World} {base : Nat} {g n c : Nat} {l : List UInt8} (h : Own w base 5 1 (.slice (some ⟨g, 0, none⟩) n c) n (u8s l)) (i : Nat) (hi : i < n) (x : UInt8) :
    Own (w.setCell ⟨g, i, none⟩ (.int .u8 x.toNat)) base 5 1 (.slice (some ⟨g, 0, none⟩) n c) n (u8s (l.set i x)) := by
  rcases h with ⟨rfl, _⟩ | ⟨h1, g', cap, cur, fr, e, hb, hg, hf, hnc, hm, hcs, ht⟩
  · omega
  · simp only [Value.slice.injEq, Option.some.injEq, Addr.mk.injEq, and_true, true_and] at e
    obtain ⟨rfl, rfl⟩ := e
    refine .inr ⟨by simpa [u8s] using h1, g, c, cur.setIfInBounds i (.int .u8 x.toNat), fr, rfl, hb, ?_, by simpa using hf, hnc, hm, by simpa using hcs, ?_⟩
    · rw [setCell_eq_setRow w g i cur 5 fr _ hg, setRow_heap w g cur _ _ fr hg]
    · have : (u8s (l.set i x)) = (u8s l).set i (.int .u8 x.toNat) := by simp [u8s, List.map_set]
      rw [this, ← ht]
      simp [List.take_set]
end Go.Proofs.Ytbcnapkbdbefhaa

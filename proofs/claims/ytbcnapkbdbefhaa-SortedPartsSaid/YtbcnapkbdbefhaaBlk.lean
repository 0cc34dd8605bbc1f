/- A block of the call's own that is known whole: its cells, and what becomes of them. No condition. -/
import Derived.Test.YtbcnapkbdbefhaaRet
import Derived.Deep.WholeRow
namespace Go.Proofs.Ytbcnapkbdbefhaa
open Go.RowKit

/-- block g holds the cells cs, none of them frozen -/
def Blk (w : World) (g : Nat) (cs : Array Value) (t : TypeId) : Prop := w.heap[g]? = some (.cells cs t (0, 0))
theorem Blk.lt {w : World} {g : Nat} {cs : Array Value} {t : TypeId} (h : Blk w g cs t) : g < w.heap.size := (Array.getElem?_eq_some_iff.1 h).1
theorem Blk.cell {w : World} {g : Nat} {cs : Array Value} {t : TypeId} (h : Blk w g cs t) (i : Nat) : w.cell? ⟨g, i, none⟩ = cs[i]? := cell_of_row w g i cs t (0, 0) h
theorem Blk.cellv {w : World} {g : Nat} {cs : Array Value} {t : TypeId} (h : Blk w g cs t) (i : Nat) (x : Value) (hx : cs[i]? = some x) : w.cell? ⟨g, i, none⟩ = some x := by rw [h.cell i, hx]
theorem Blk.free {w : World} {g : Nat} {cs : Array Value} {t : TypeId} (h : Blk w g cs t) (i : Nat) : w.frozen? ⟨g, i, none⟩ = false := by
  unfold Blk at h
  simp only [World.frozen?, h]
  simp
theorem Blk.set {w : World} {g : Nat} {cs : Array Value} {t : TypeId} (h : Blk w g cs t) (i : Nat) (x : Value) : Blk (w.setCell ⟨g, i, none⟩ x) g (cs.setIfInBounds i x) t := by
  unfold Blk at *
  rw [setCell_eq_setRow w g i cs t (0, 0) x h, setRow_heap w g cs _ t _ h]
theorem Blk.set_other {w : World} {g : Nat} {cs : Array Value} {t : TypeId} (h : Blk w g cs t) (p : Addr) (hp : p.block ≠ g) (x : Value) : Blk (w.setCell p x) g cs t := by
  unfold Blk at *
  rw [Below.heap_setCell _ _ _ _ hp.symm]; exact h
theorem Blk.drewN {w : World} {g : Nat} {cs : Array Value} {t : TypeId} (h : Blk w g cs t) (n : Nat) : Blk (w.drewN n) g cs t := h
theorem Blk.drew {w : World} {g : Nat} {cs : Array Value} {t : TypeId} (h : Blk w g cs t) : Blk w.drew g cs t := h
theorem Blk.below {w w' : World} {g : Nat} {cs : Array Value} {t : TypeId} (h : Blk w g cs t) (hb : Below w.heap.size w w') : Blk w' g cs t := by
  have := h.lt
  unfold Blk at *
  rw [hb.block g this]; exact h
theorem Blk.grown {w w' : World} {g : Nat} {cs : Array Value} {t : TypeId} {r : Option Nat} (h : Blk w g cs t) (hb : w.grownBy w' r) (hne : some g ≠ r) : Blk w' g cs t := by
  have := h.lt
  unfold Blk at *
  rw [hb.block g this hne]; exact h
theorem Blk.new (w : World) (cs : Array Value) (t : TypeId) : Blk (w.alloc (.cells cs t)) w.heap.size cs t := heap_alloc_last w (.cells cs t)
theorem Blk.new_at (w : World) (cs : Array Value) (t : TypeId) (g : Nat) (h : g = w.heap.size) : Blk (w.alloc (.cells cs t)) g cs t := by subst h; exact Blk.new w cs t
theorem Blk.alloc {w : World} {g : Nat} {cs : Array Value} {t : TypeId} (h : Blk w g cs t) (o : Obj) : Blk (w.alloc o) g cs t := h.below ((Below.refl _ _).alloc (Nat.le_refl _) _)

/-- nothing but block g changed, and blocks were added -/
def Only (w w' : World) (g : Nat) : Prop := w.grownBy w' (some g)
theorem Only.refl (w : World) (g : Nat) : Only w w g := ⟨rfl, rfl, rfl, Nat.le_refl _, fun _ _ _ => rfl⟩
theorem Only.trans {w w1 w2 : World} {g : Nat} (h1 : Only w w1 g) (h2 : Only w1 w2 g) : Only w w2 g := by
  obtain ⟨a1, a2, a3, a4, a5⟩ := h1
  obtain ⟨b1, b2, b3, b4, b5⟩ := h2
  exact ⟨b1.trans a1, b2.trans a2, b3.trans a3, Nat.le_trans a4 b4, fun k hk hne => (b5 k (Nat.lt_of_lt_of_le hk a4) hne).trans (a5 k hk hne)⟩
theorem Only.set (w : World) (g i : Nat) (x : Value) : Only w (w.setCell ⟨g, i, none⟩ x) g := by
  have h := Below.setCell (B := 0) (Below.refl 0 w) (p := ⟨g, i, none⟩) (Nat.zero_le _) x
  obtain ⟨a1, a2, a3, a4, _⟩ := h
  exact ⟨a1, a2, a3, a4, fun k _ hne => Below.heap_setCell _ _ _ _ (fun e => hne (by simpa using e))⟩
theorem Only.of_below {w w' : World} {g : Nat} (h : Below w.heap.size w w') : Only w w' g := by
  obtain ⟨a1, a2, a3, a4, a5⟩ := h
  exact ⟨a1, a2, a3, a4, fun k hk _ => a5 k hk⟩
theorem Only.drewN {w w' : World} {g : Nat} (h : Only w w' g) (n : Nat) : Only w (w'.drewN n) g := h.trans (Only.of_below (drewN_below w' n))
theorem Only.below {w0 w w' : World} {g b : Nat} (h0 : Below b w0 w) (h : Only w w' g) (hg : b ≤ g) (hb : b ≤ w.heap.size) : Below b w0 w' := by
  obtain ⟨a1, a2, a3, a4, a5⟩ := h
  obtain ⟨b1, b2, b3, b4, b5⟩ := h0
  exact ⟨a1.trans b1, a2.trans b2, a3.trans b3, Nat.le_trans b4 a4, fun k hk => (a5 k (by omega) (fun e => by simp at e; omega)).trans (b5 k hk)⟩
theorem Blk.only {w w' : World} {g g' : Nat} {cs : Array Value} {t : TypeId} (h : Blk w g cs t) (hb : Only w w' g') (hne : g ≠ g') : Blk w' g cs t := h.grown hb (fun e => hne (by simpa using e))
end Go.Proofs.Ytbcnapkbdbefhaa

/- Memory of files: a row of the call's own as the sort's kit reads it, and behind the sort. The condition: an owned slice. -/
import Derived.Test.YtmonmfamnbfhcaaFl8
import Derived.Sort.OwnSorted
import Derived.Shelf.GgSortFunc.RowK
namespace Go.Proofs.Ytmonmfamnbfhcaa
open Go.RowKit Go.Sort

theorem own_get {w : World} {base : Nat} {e : TypeId} {sz g n c : Nat} {xs : List Value} (h : Own w base e sz (.slice (some ⟨g, 0, none⟩) n c) n xs) (hn : 0 < n) :
    xs.length = n * sz ∧ base ≤ g ∧ n ≤ c ∧ c ≤ maxLen ∧ ∃ cur fr, w.heap[g]? = some (.cells cur e fr) ∧ (∀ i, i < cur.size → ¬ (fr.1 ≤ i ∧ i < fr.2)) ∧ c * sz ≤ cur.size ∧ cur.toList.take (n * sz) = xs := by
  rcases h with ⟨rfl, _⟩ | ⟨h1, g', cap, cur, fr, e2, hb, hg, hf, hnc, hm, hcs, ht⟩
  · omega
  · simp only [Value.slice.injEq, Option.some.injEq, Addr.mk.injEq, and_true, true_and] at e2
    obtain ⟨rfl, rfl⟩ := e2
    exact ⟨h1, hb, hnc, hm, cur, fr, hg, hf, hcs, ht⟩
theorem holds_own {w : World} {base : Nat} {e : TypeId} {sz g n c : Nat} {xs : List Value} (h : Own w base e sz (.slice (some ⟨g, 0, none⟩) n c) n xs) (hn : 0 < n) : Holds id w g 0 xs.toArray := by
  obtain ⟨h1, hb, hnc, hm, cur, fr, hg, hf, hcs, ht⟩ := own_get h hn
  intro j hj
  have hj' : j < n * sz := by rw [← h1]; simpa using hj
  have hle : n * sz ≤ c * sz := Nat.mul_le_mul_right _ hnc
  have hx : xs[j]? = cur[j]? := by rw [← ht, List.getElem?_take_of_lt hj', Array.getElem?_toList]
  rw [Nat.zero_add]
  constructor
  · rw [cell_of_row w g j cur _ fr hg, ← hx]
    simp only [id_eq]
    rw [getElem!_pos xs.toArray j hj]
    simp only [List.getElem_toArray]
    exact List.getElem?_eq_getElem _
  · have := hf j (by omega)
    simp only [World.frozen?, hg]
    simp
    omega
theorem heap_sortedI {w : World} {g m : Nat} {os : Array Obj} {cur : Array Value} {e : TypeId} {fr : Nat × Nat} (d : Array Value) (hb : w.heap[g]? = some (.cells cur e fr)) :
    (grow (putRow id (Sort.ahead w m) g 0 d) os).heap[g]? = some (.cells (putCells id 0 d cur) e fr) := by
  have hg : g < w.heap.size := (Array.getElem?_eq_some_iff.1 hb).1
  rw [heap_grow_old _ _ (by simpa using hg)]
  simp [putRow, mapBlock, Sort.ahead, Array.getElem?_modify, hb, onCells]
theorem grownBy_sortedI {w : World} {g m : Nat} {os : Array Obj} (d : Array Value) : w.grownBy (grow (putRow id (Sort.ahead w m) g 0 d) os) (some g) := by
  refine ⟨rfl, rfl, rfl, by simp, fun k hk hne => ?_⟩
  rw [heap_grow_old _ _ (by simpa using hk)]
  have : g ≠ k := fun e => hne (by rw [e])
  simp [putRow, mapBlock, Sort.ahead, Array.getElem?_modify, this]
theorem take_putCellsI (cur : Array Value) (ts : List Value) (h : ts.length ≤ cur.size) : (putCells id 0 ts.toArray cur).toList.take ts.length = ts := by
  apply List.ext_getElem?
  intro j
  by_cases hj : j < ts.length
  · rw [List.getElem?_take_of_lt hj, Array.getElem?_toList]
    simp [putCells, hj, show j < cur.size by omega]
  · rw [List.getElem?_take_eq_none (by omega), List.getElem?_eq_none (by omega)]
theorem own_putK {w : World} {base : Nat} {e : TypeId} {k g n c m : Nat} {xs ys : List Value} {os : Array Obj} (h : Own w base e k (.slice (some ⟨g, 0, none⟩) n c) n xs) (hn : 0 < n) (hl : ys.length = n * k) :
    Own (grow (putRow id (Sort.ahead w m) g 0 ys.toArray) os) base e k (.slice (some ⟨g, 0, none⟩) n c) n ys := by
  obtain ⟨h1, hb, hnc, hm, cur, fr, hg, hf, hcs, ht⟩ := own_get h hn
  have hle : n * k ≤ c * k := Nat.mul_le_mul_right _ hnc
  exact .inr ⟨hl, g, c, _, fr, rfl, hb, heap_sortedI _ hg, by simpa [putCells] using hf, hnc, hm, by simpa [putCells] using hcs, by rw [← hl]; exact take_putCellsI cur ys (by omega)⟩
theorem fcells_at (l : List PF) (t : Nat) (h : t < l.length * 4) : (fcells l)[t]? = (PF.cells (l[t / 4]'(by omega)))[t % 4]? := by
  have hg := flatM_get PF.cells 4 (fun _ => rfl) l (t / 4) (t % 4) (by omega) (by omega)
  rw [show t / 4 * 4 + t % 4 = t from by omega] at hg
  exact hg
theorem flatK_fcells (l : List PF) : flatK PF.cells 4 l.toArray = (fcells l).toArray := by
  refine ext_get! (by simp [fcells_length]) fun t ht => ?_
  have ht' : t < l.length * 4 := by simpa using ht
  rw [get_flatK _ _ _ _ (by simpa using ht')]
  have h1 : l.toArray[t / 4]! = l[t / 4]'(by omega) := by rw [getElem!_pos l.toArray (t / 4) (by simp; omega)]; simp
  have h2 : (fcells l).toArray[t]? = (PF.cells (l[t / 4]'(by omega)))[t % 4]? := by
    rw [← fcells_at l t ht']; simp
  rw [h1]
  have h3 : t % 4 < (PF.cells (l[t / 4]'(by omega))).length := by show _ < 4; omega
  rw [List.getElem?_eq_getElem h3] at h2
  rw [getElem!_pos (PF.cells (l[t / 4]'(by omega))) (t % 4) h3, Array.getElem!_eq_getD, Array.getD_eq_getD_getElem?, h2]
  rfl
theorem flatK_of (d : Array PF) : flatK PF.cells 4 d = (fcells d.toList).toArray := by
  have := flatK_fcells d.toList
  rwa [Array.toArray_toList] at this
/-- the front of an owned slice -/
theorem own_front {w : World} {base : Nat} {e : TypeId} {sz g n c : Nat} {xs : List Value} (h : Own w base e sz (.slice (some ⟨g, 0, none⟩) n c) n xs) (hn : 0 < n) (k : Nat) (hk : k ≤ n) : Own w base e sz (.slice (some ⟨g, 0, none⟩) k c) k (xs.take (k * sz)) := by
  obtain ⟨h1, hb, hnc, hm, cur, fr, hg, hf, hcs, ht⟩ := own_get h hn
  have hle : k * sz ≤ n * sz := Nat.mul_le_mul_right _ hk
  exact .inr ⟨by rw [List.length_take, h1]; omega, g, c, cur, fr, rfl, hb, hg, hf, by omega, hm, hcs, by rw [← ht, List.take_take, Nat.min_eq_left hle]⟩
end Go.Proofs.Ytmonmfamnbfhcaa

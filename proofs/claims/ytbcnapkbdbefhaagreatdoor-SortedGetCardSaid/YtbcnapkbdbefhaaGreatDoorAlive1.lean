/- Walk of law01.alive: the answers that the document fixes. No condition. -/
import Derived.Test.YtbcnapkbdbefhaaGreatDoorPutsA
import Derived.Lib.SlBytesConst
namespace Go.Proofs.YtbcnapkbdbefhaaGreatDoor
open Go.RowKit

def RetTrue (w : World) (e : Ending) (w' : World) : Prop := e = .returned (.bool true) ∧ Below w.heap.size w w'
theorem g1 : vget [172, 2, 7] = (300, 2, 0) := by decide
theorem g2 : vget [128] = (0, 0, 5) := by decide
theorem g3 : vget [128, 0] = (0, 0, 4) := by decide
theorem g4 : fget [0, 0, 1, 2, 9] = (258, 0) := by decide
theorem g5 : tget [2, 97, 98, 99] = ([97, 98], 3, 0) := by decide
theorem g6 : tget [3, 97, 98] = ([], 0, 5) := by decide
theorem u8s_lit (l : List UInt8) (cs : Array Value) (h : cs.toList = u8s l) : cs = (u8s l).toArray := by rw [← h]

theorem rd_nil (w : World) : Rd w (.slice none 0 0) [] := ⟨none, 0, rfl, by simp, by omega, fun j hj => absurd hj (by simp)⟩
end Go.Proofs.YtbcnapkbdbefhaaGreatDoor

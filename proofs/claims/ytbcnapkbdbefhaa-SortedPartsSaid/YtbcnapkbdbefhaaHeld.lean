/- Small helpers of several laws: worlds named, SameBytes of the same bytes, slices that hold nothing. No condition. -/
import Derived.Test.YtbcnapkbdbefhaaReads
import Derived.Test.YtbcnapkbdbefhaaHelp1
import Derived.Deep.RegionHeld3
namespace Go.Proofs.Ytbcnapkbdbefhaa
open Go.RowKit
theorem the_world {n : Nat} {w w' : World} (_ : Below n w w') : ∃ x, x = w' := ⟨_, rfl⟩
theorem same_bt (w : World) (v v2 : Value) (l : List UInt8) (hv : Rd w v l) (hv2 : Rd w v2 l) : Calls Try.prog 18 #[v, v2] w fun e w' => e = .returned (.bool true) ∧ Below w.heap.size w w' := by
  refine (sameBytes_any v v2 l l w hv hv2).mono ?_
  rintro e w' ⟨rfl, n, rfl⟩
  exact ⟨by simp, drewN_below _ _⟩
theorem own_none (w : World) (base : Nat) (e : TypeId) (sz : Nat) : Own w base e sz (.slice none 0 0) 0 [] := .inl ⟨rfl, rfl, none, rfl⟩
end Go.Proofs.Ytbcnapkbdbefhaa

/- How a law's arguments are opened, more kinds: arrays of two bytes, of two numbers; lists of numbers and of texts. No condition. -/
import Derived.Test.YtafgioidneohhaaRow3
import Derived.SliceStrings
namespace Go.Proofs.Ytafgioidneohhaa
open Go.ChangeShapes Go.WideShapes Go.ChangeAt Go.RowKit

section
variable {H : Type} {enc : TypeId × Value → H} {W : World} {base : Nat} {v : Value} {d : DataW H} {p : List MemPlace}

theorem nat_wf {k : IntKind} {z : Int} (h : (Lit.int k z).wf = true) (hk : k = .u64 ∨ k = .u8 ∨ k = .u32) : ∃ n : Nat, z = n ∧ n < 18446744073709551616 ∧ (k = .u8 → n < 256) := by
  rcases hk with rfl | rfl | rfl
  all_goals
    have hb := h
    simp [Lit.wf, IntKind.min, IntKind.max, IntKind.signed, IntKind.bits] at hb
    obtain ⟨n, rfl⟩ := Int.eq_ofNat_of_zero_le hb.1
    refine ⟨n, rfl, by omega, fun e => ?_⟩
    first | omega | cases e
end
end Go.Proofs.Ytafgioidneohhaa

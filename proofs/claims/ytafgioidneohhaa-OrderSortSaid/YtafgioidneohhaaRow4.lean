/- How a law's arguments are opened, more kinds: arrays of two bytes, of two numbers; lists of numbers and of texts. No condition. -/
import Derived.Test.YtafgioidneohhaaRow3
import Derived.SliceStrings
namespace Go.Proofs.Ytafgioidneohhaa
open Go.ChangeShapes Go.WideShapes Go.ChangeAt Go.RowKit

section
variable {H : Type} {enc : TypeId × Value → H} {W : World} {base : Nat} {v : Value} {d : DataW H} {p : List MemPlace}

theorem nat_wf {k : IntKind} {z : Int} (h : (Lit.int k z).wf = true) (hk : k = .u64 ∨ k = .u8 ∨ k = .u32) : ∃ n : Nat, z = n ∧ n < 18446744073709551616 ∧ (k = .u8 → n < 256) := by
  rcases hk with rfl | rfl | rfl
  all_goals
    have hb := h
    simp [Lit.wf, IntKind.min, IntKind.max, IntKind.signed, IntKind.bits] at hb
    obtain ⟨n, rfl⟩ := Int.eq_ofNat_of_zero_le hb.1
    refine ⟨n, rfl, by omega, fun e => ?_⟩
    first | omega | cases e
set_option maxRecDepth 100000 in
/-- a [3]byte -/
theorem open_u8x3 {ts : List TypeId} {ds : List (DataW H)} {j : Nat} (_ : (DataW.weightsEach Try.prog ts ds).all (· ≤ reachBytes) = true) (_ : ts[j]? = some 54) (_ : ds[j]? = some d)
    (hval : Value.okWide Try.prog W .any base 54 v) (h : DataW.Trod enc Try.prog W 0 (fun _ => true) true 54 v d p) : ∃ b : UInt8 × UInt8 × UInt8, v = .agg #[.int .u8 b.1.toNat, .int .u8 b.2.1.toNat, .int .u8 b.2.2.toNat] ∧ True := by
  obtain ⟨zs, rfl, hl, hw⟩ := open_arr_ints (P := Try.prog) Try.underlying54 Try.underlying5 (by kernel_rfl) (by kernel_rfl) hval h
  match zs, hl with
  | [a, b, c], _ =>
    obtain ⟨n, rfl, _, hn⟩ := nat_wf (hw a (by simp)) (.inr (.inl rfl))
    obtain ⟨m, rfl, _, hm⟩ := nat_wf (hw b (by simp)) (.inr (.inl rfl))
    obtain ⟨q, rfl, _, hq⟩ := nat_wf (hw c (by simp)) (.inr (.inl rfl))
    exact ⟨(UInt8.ofNat n, UInt8.ofNat m, UInt8.ofNat q), by simp only [toNat_ofNat n (hn rfl), toNat_ofNat m (hm rfl), toNat_ofNat q (hq rfl)]; rfl, trivial⟩
end
end Go.Proofs.Ytafgioidneohhaa

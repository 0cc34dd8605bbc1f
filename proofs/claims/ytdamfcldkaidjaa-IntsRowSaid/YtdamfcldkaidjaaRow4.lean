/- How a law's arguments are opened, more kinds: arrays of two bytes, of two numbers; lists of numbers and of texts. No condition. -/
import Derived.Test.YtdamfcldkaidjaaRow3
import Derived.SliceStrings
namespace Go.Proofs.Ytdamfcldkaidjaa
open Go.ChangeShapes Go.WideShapes Go.ChangeAt Go.RowKit

section
variable {H : Type} {enc : TypeId × Value → H} {W : World} {base : Nat} {v : Value} {d : DataW H} {p : List MemPlace}

theorem nat_wf {k : IntKind} {z : Int} (h : (Lit.int k z).wf = true) (hk : k = .u64 ∨ k = .u8 ∨ k = .u32) : ∃ n : Nat, z = n ∧ n < 18446744073709551616 ∧ (k = .u8 → n < 256) := by
  rcases hk with rfl | rfl | rfl
  all_goals
    have hb := h
    simp [Lit.wf, IntKind.min, IntKind.max, IntKind.signed, IntKind.bits] at hb
    obtain ⟨n, rfl⟩ := Int.eq_ofNat_of_zero_le hb.1
    refine ⟨n, rfl, by omega, fun e => ?_⟩
    first | omega | cases e
set_option maxRecDepth 100000 in
/-- a [2]byte -/
theorem open_u8x2 {ts : List TypeId} {ds : List (DataW H)} {j : Nat} (_ : (DataW.weightsEach Try.prog ts ds).all (· ≤ reachBytes) = true) (_ : ts[j]? = some 91) (_ : ds[j]? = some d)
    (hval : Value.okWide Try.prog W .any base 91 v) (h : DataW.Trod enc Try.prog W 0 (fun _ => true) true 91 v d p) : ∃ b : UInt8 × UInt8, v = .agg #[.int .u8 b.1.toNat, .int .u8 b.2.toNat] ∧ True := by
  obtain ⟨zs, rfl, hl, hw⟩ := open_arr_ints (P := Try.prog) Try.underlying91 Try.underlying5 (by kernel_rfl) (by kernel_rfl) hval h
  match zs, hl with
  | [a, b], _ =>
    obtain ⟨n, rfl, _, hn⟩ := nat_wf (hw a (by simp)) (.inr (.inl rfl))
    obtain ⟨m, rfl, _, hm⟩ := nat_wf (hw b (by simp)) (.inr (.inl rfl))
    exact ⟨(UInt8.ofNat n, UInt8.ofNat m), by simp only [toNat_ofNat n (hn rfl), toNat_ofNat m (hm rfl)]; rfl, trivial⟩
set_option maxRecDepth 100000 in
/-- a [2]uint64 -/
theorem open_u64x2 {ts : List TypeId} {ds : List (DataW H)} {j : Nat} (_ : (DataW.weightsEach Try.prog ts ds).all (· ≤ reachBytes) = true) (_ : ts[j]? = some 92) (_ : ds[j]? = some d)
    (hval : Value.okWide Try.prog W .any base 92 v) (h : DataW.Trod enc Try.prog W 0 (fun _ => true) true 92 v d p) : ∃ b : Nat × Nat, v = .agg #[.int .u64 b.1, .int .u64 b.2] ∧ (b.1 < 18446744073709551616 ∧ b.2 < 18446744073709551616) := by
  obtain ⟨zs, rfl, hl, hw⟩ := open_arr_ints (P := Try.prog) Try.underlying92 Try.underlying30 (by kernel_rfl) (by kernel_rfl) hval h
  match zs, hl with
  | [a, b], _ =>
    obtain ⟨n, rfl, hn, _⟩ := nat_wf (hw a (by simp)) (.inl rfl)
    obtain ⟨m, rfl, hm, _⟩ := nat_wf (hw b (by simp)) (.inl rfl)
    exact ⟨(n, m), rfl, hn, hm⟩
end
end Go.Proofs.Ytdamfcldkaidjaa

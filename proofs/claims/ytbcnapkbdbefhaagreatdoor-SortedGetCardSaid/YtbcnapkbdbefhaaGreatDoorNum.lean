/- Numbers that a law is handed, and what put numbers are like: as many bytes as the bits ask, greater ones no fewer; four bytes compare as the number. Plain, no program. -/
import Derived.Test.YtbcnapkbdbefhaaGreatDoorAlive1
import Derived.Test.YtbcnapkbdbefhaaGreatDoorOrder1
namespace Go.Proofs.YtbcnapkbdbefhaaGreatDoor
open Go.RowKit

theorem nat_u64 {a : Int} (h : (Lit.int .u64 a).wf = true) : ∃ n : Nat, a = n ∧ n < 18446744073709551616 := by
  have hb : 0 ≤ a ∧ a ≤ 18446744073709551615 := by simpa [Lit.wf, IntKind.min, IntKind.max, IntKind.signed, IntKind.bits] using h
  obtain ⟨n, rfl⟩ := Int.eq_ofNat_of_zero_le hb.1
  exact ⟨n, rfl, by omega⟩
theorem nat_u32 {a : Int} (h : (Lit.int .u32 a).wf = true) : ∃ n : Nat, a = n ∧ n < 4294967296 := by
  have hb : 0 ≤ a ∧ a ≤ 4294967295 := by simpa [Lit.wf, IntKind.min, IntKind.max, IntKind.signed, IntKind.bits] using h
  obtain ⟨n, rfl⟩ := Int.eq_ofNat_of_zero_le hb.1
  exact ⟨n, rfl, by omega⟩
theorem nat_u16 {a : Int} (h : (Lit.int .u16 a).wf = true) : ∃ n : Nat, a = n ∧ n < 65536 := by
  have hb : 0 ≤ a ∧ a ≤ 65535 := by simpa [Lit.wf, IntKind.min, IntKind.max, IntKind.signed, IntKind.bits] using h
  obtain ⟨n, rfl⟩ := Int.eq_ofNat_of_zero_le hb.1
  exact ⟨n, rfl, by omega⟩
theorem nat_u8 {a : Int} (h : (Lit.int .u8 a).wf = true) : ∃ n : Nat, a = n ∧ n < 256 := by
  have hb : 0 ≤ a ∧ a ≤ 255 := by simpa [Lit.wf, IntKind.min, IntKind.max, IntKind.signed, IntKind.bits] using h
  obtain ⟨n, rfl⟩ := Int.eq_ofNat_of_zero_le hb.1
  exact ⟨n, rfl, by omega⟩

theorem vintF_mono (f : Nat) : ∀ a b, a ≤ b → (vintF f a).length ≤ (vintF f b).length := by
  induction f with
  | zero => intro a b _; simp [vintF]
  | succ f ih =>
    intro a b h
    unfold vintF
    by_cases ha : a < 128
    · rw [if_pos ha]
      split
      · simp
      · simp
    · rw [if_neg ha, if_neg (by omega)]
      simp only [List.length_cons]
      have := ih (a / 128) (b / 128) (Nat.div_le_div_right h)
      omega
theorem vint_mono (a b : Nat) (h : a ≤ b) : (vint a).length ≤ (vint b).length := vintF_mono 9 a b h
theorem vint_inj {a b : Nat} (ha : a < 18446744073709551616) (hb : b < 18446744073709551616) (h : vint a = vint b) : a = b := by
  have h1 := vget_put' a ha
  rw [h, vget_put' b hb] at h1
  exact (congrArg Prod.fst h1).symm
theorem four_length (n : Nat) : (four n).length = 4 := rfl
theorem ltB_cons (x y : Nat) (l m : List UInt8) (hx : x < 256) (hy : y < 256) : ltB (UInt8.ofNat x :: l) (UInt8.ofNat y :: m) = if x < y then true else if y < x then false else ltB l m := by
  simp only [ltB, toNat_ofNat x hx, toNat_ofNat y hy]
theorem ofNat_mod (n : Nat) : UInt8.ofNat n = UInt8.ofNat (n % 256) := by
  apply UInt8.toNat_inj.1
  simp
theorem four_less (x y : Nat) (hx : x < 4294967296) (hy : y < 4294967296) : ltB (four x) (four y) = decide (x < y) := by
  unfold four
  rw [ofNat_mod (x / 16777216), ofNat_mod (x / 65536), ofNat_mod (x / 256), ofNat_mod x, ofNat_mod (y / 16777216), ofNat_mod (y / 65536), ofNat_mod (y / 256), ofNat_mod y]
  rw [ltB_cons _ _ _ _ (by omega) (by omega), ltB_cons _ _ _ _ (by omega) (by omega), ltB_cons _ _ _ _ (by omega) (by omega), ltB_cons _ _ _ _ (by omega) (by omega)]
  simp only [ltB]
  by_cases h : x < y
  · simp only [h, decide_true]
    repeat' split
    all_goals first | rfl | omega
  · simp only [h, decide_false]
    repeat' split
    all_goals first | rfl | omega
end Go.Proofs.YtbcnapkbdbefhaaGreatDoor

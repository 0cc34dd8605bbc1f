/- Walk of ints.digits with the closure of Put. The condition: fewer than 2^39 bytes. -/
import Derived.Test.YtnfamahfaghejaaPuts1
import Derived.Test.YtnfamahfaghejaaSums1
import Derived.Test.YtnfamahfaghejaaInts3
namespace Go.Proofs.Ytnfamahfaghejaa
open Go.RowKit

set_option maxRecDepth 100000 in
theorem or128 (m : Nat) : bits BinOp.or IntKind.u8 ((m : Int) % 256) 128 = ((m % 128 + 128 : Nat) : Int) := by
  rw [show ((m : Int) % 256) = ((m % 256 : Nat) : Int) from by omega, show (128 : Int) = ((128 : Nat) : Int) from rfl, u8_or_nat _ _ (by omega) (by omega)]
  have key : ∀ j, j < 256 → j ||| 128 = j % 128 + 128 := by decide
  rw [key _ (by omega)]
  omega

set_option maxRecDepth 100000 in
set_option maxHeartbeats 1000000 in
theorem digits_any (w : World) (b g n : Nat) (l : List UInt8) (hn : n < 18446744073709551616) (hb : b ≤ g) (hl : (l ++ vint n).length ≤ 549755813888) (ha : Acc w g l) :
    Calls Try.prog 75 #[.int .u64 n, .func (.func 76) #[] #[.pointer (some ⟨g, 0, none⟩)]] w (RetAcc b g (l ++ vint n) w) := by
  have HA := Lib.hid ha
  clear ha
  go_enter Try.func75, Try.ntmps75
  go_wp2
  go_loopw [0] (fun x wr => ∃ (m : Nat) (k : List UInt8), x = .int .u64 m ∧ m < 18446744073709551616 ∧ Hid (Acc wr g k) ∧ Hid (k ++ vint m = l ++ vint n) ∧ Below b w wr) (fun x _ => (intOf x).toNat)
  case atStart => exact ⟨n, l, rfl, hn, HA, rfl, Below.refl _ _⟩
  case round =>
    obtain ⟨m, k, rfl, hm, HK, HE, hbel⟩ := hrel
    have hkl : k.length + 1 ≤ 549755813888 := by
      have e := congrArg List.length HE.out
      have := vint_pos m
      simp only [List.length_append] at e hl ⊢
      omega
    by_cases h128 : m < 128
    · go_wp2_with fail
      refine (put1_any wr b g m k (by omega) hb (by omega) HK.out).mono ?_
      rintro e w' ⟨rfl, hacc, hb2⟩
      have HC := Lib.hid hacc
      clear hacc
      go_wp2
      go_end0
      refine ⟨rfl, ?_, Below.trans hbel hb2⟩
      rw [← HE.out, vint_small m h128]
      exact HC.out
    · have hor := or128 m
      go_wp2_with fail
      refine (put1_any wr b g (m % 128 + 128) k (by omega) hb (by omega) HK.out).mono ?_
      rintro e w' ⟨rfl, hacc, hb2⟩
      have HC := Lib.hid hacc
      clear hacc
      clear hor
      go_wp2
      go_roundw
      case rel =>
        refine ⟨m / 128, _, by go_num, by omega, HC, ?_, Below.trans hbel hb2⟩
        show _ = _
        rw [← HE.out, vint_step m (by omega) (by omega), List.append_assoc]
        rfl
      case measure => simp [intOf]; omega
end Go.Proofs.Ytnfamahfaghejaa

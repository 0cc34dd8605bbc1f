/- Walks of sums.Of and of the reference's Table, On and Own. No condition. -/
import Derived.Test.YtnfamahfaghejaaSums2
import Derived.Deep.MidRow
namespace Go.Proofs.Ytnfamahfaghejaa
open Go.RowKit

set_option maxRecDepth 100000 in
theorem sumsOf_any (g : Nat) (v : Value) (l : List UInt8) (w : World) (ht : TabAt w g) (hv : Rd w v l) :
    Calls Try.prog 70 #[.pointer (some ⟨g, 0, none⟩), v] w fun e w' => e = .returned (.int .u32 ((crcOn 0 l : Nat) : Int)) ∧ w = w' := by
  have H := Lib.hid (sumsOn_any g 0 v l w (by omega) ht hv)
  clear ht hv
  go_enter Try.func70, Try.ntmps70
  go_wp2_with fail
  refine H.out.mono ?_
  rintro e w' ⟨rfl, rfl⟩
  go_wp2
  go_ret
  exact ⟨rfl, rfl⟩

theorem fold_words32 (x d : Nat) (hx : x < 4294967296) (hd : d < 256) : ∃ j : Nat, j < 256 ∧ (bits BinOp.xor IntKind.u32 ((x : Int) % 256) (d : Int) = (j : Int)) ∧
    bits BinOp.xor IntKind.u32 ((x : Int) / 256) ((ctab j : Nat) : Int) = ((cfold x (UInt8.ofNat d) : Nat) : Int) := by
  have hj : (x % 256) ^^^ d < 2 ^ 8 := Nat.xor_lt_two_pow (by omega) (by omega)
  refine ⟨(x % 256) ^^^ d, by omega, ?_, ?_⟩
  · rw [show ((x : Int) % 256) = ((x % 256 : Nat) : Int) from by omega]
    exact u32_xor_nat _ _ (by omega) (by omega)
  · rw [show ((x : Int) / 256) = ((x / 256 : Nat) : Int) from by omega, u32_xor_nat _ _ (by omega) (ctab_lt _ (by omega))]
    simp only [cfold, toNat_ofNat d hd]

theorem refStep_bits (x : Nat) (hx : x < 4294967296) (h : x % 2 = 1) : bits BinOp.xor IntKind.u32 ((x : Int) / 2) 2197175160 = ((cstep x : Nat) : Int) := by
  rw [show ((x : Int) / 2) = ((x / 2 : Nat) : Int) from by omega]
  have e := u32_xor_nat (x / 2) 2197175160 (by omega) (by omega)
  rw [show ((2197175160 : Nat) : Int) = 2197175160 from rfl] at e
  rw [e, cstep, if_pos h]
theorem cstep_even (x : Nat) (h : ¬ x % 2 = 1) : cstep x = x / 2 := by rw [cstep, if_neg h]

end Go.Proofs.Ytnfamahfaghejaa

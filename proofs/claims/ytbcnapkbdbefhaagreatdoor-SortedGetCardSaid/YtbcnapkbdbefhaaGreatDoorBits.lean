/- Small facts on the model's bit operations, in the walk's own spelling. No condition. -/
import Derived.Test.YtbcnapkbdbefhaaGreatDoorPlain1
import Derived.WalkKit
namespace Go.Proofs.YtbcnapkbdbefhaaGreatDoor

theorem or_low (x y k : Nat) (h : y < 2 ^ k) : x * 2 ^ k ||| y = x * 2 ^ k + y := by
  rw [Nat.mul_comm, ← Nat.two_pow_add_eq_or_of_lt h]
theorem wrap_u64_in (n : Nat) (h : n < 18446744073709551616) : IntKind.u64.wrap (n : Int) = (n : Int) := by
  rw [IntKind.wrap_u64]; omega
theorem wrap_u32_in (n : Nat) (h : n < 4294967296) : IntKind.u32.wrap (n : Int) = (n : Int) := by
  rw [IntKind.wrap_u32]; omega
theorem wrap_u8_in (n : Nat) (h : n < 256) : IntKind.u8.wrap (n : Int) = (n : Int) := by
  rw [IntKind.wrap_u8]; omega

/-- 'n<<7 | uint64(c &^ 128)' -/
theorem seven_more (x d : Nat) (hx : x < 144115188075855872) (hd : d < 256) :
    bits BinOp.or IntKind.u64 ((x : Int) * 128) (IntKind.u64.wrap (bits BinOp.andNot IntKind.u8 (d : Int) 128)) = ((x * 128 + d % 128 : Nat) : Int) := by
  have e1 : bits BinOp.andNot IntKind.u8 (d : Int) 128 = ((d % 128 : Nat) : Int) := by
    have := u8_andNot_nat d 128 hd (by omega)
    rw [show ((128 : Nat) : Int) = 128 from rfl] at this
    rw [this]
    exact congrArg (fun n : Nat => (n : Int)) (Nat.and_two_pow_sub_one_eq_mod d 7)
  rw [e1, wrap_u64_in _ (by omega), show ((x : Int) * 128) = ((x * 128 : Nat) : Int) from by omega]
  rw [bits_or_u64_nat _ _ (by omega) (by omega)]
  rw [show x * 128 = x * 2 ^ 7 from rfl, or_low x (d % 128) 7 (by omega)]
theorem vval_snoc (l : List UInt8) (c : UInt8) : vval (l ++ [c]) = vval l + 128 ^ l.length * (c.toNat % 128) := by
  induction l with
  | nil => simp [vval]
  | cons a t ih => simp only [List.cons_append, vval, ih, List.length_cons, Nat.pow_succ]; rw [Nat.add_mul, Nat.mul_right_comm]; omega
theorem vval_drop (l : List UInt8) (m : Nat) (h : 0 < m) (hm : m ≤ l.length) : vval (l.drop (m - 1)) = vval (l.drop m) * 128 + (l[m - 1]'(by omega)).toNat % 128 := by
  have e : l.drop (m - 1) = l[m - 1]'(by omega) :: l.drop (m - 1 + 1) := List.drop_eq_getElem_cons (by omega)
  rw [e, show m - 1 + 1 = m from by omega]; rfl
/-- a value of ten bytes, the last of which is 0 or 1, and of fewer -/
theorem vval_bound (l : List UInt8) (i m : Nat) (hi : i < l.length) (h10 : i < 10) (h1 : i = 9 → l[i].toNat ≤ 1) (hm : 0 < m) (hmi : m ≤ i + 1) : vval ((l.take (i + 1)).drop m) < 144115188075855872 := by
  by_cases h9 : i = 9 ∧ m = 1
  · obtain ⟨rfl, rfl⟩ := h9
    have e : (l.take (9 + 1)).drop 1 = ((l.take 9).drop 1) ++ [l[9]] := by
      rw [List.take_succ_eq_append_getElem hi, List.drop_append_of_le_length (by simp; omega)]
    rw [e, vval_snoc]
    have hlen : ((l.take 9).drop 1).length = 8 := by simp; omega
    have hb := vval_lt ((l.take 9).drop 1)
    have := h1 rfl
    rw [hlen] at hb ⊢
    have : 128 ^ 8 * (l[9].toNat % 128) ≤ 128 ^ 8 * 1 := Nat.mul_le_mul_left _ (by omega)
    omega
  · have hb := vval_lt ((l.take (i + 1)).drop m)
    have hlen : ((l.take (i + 1)).drop m).length ≤ 8 := by simp; omega
    have : 128 ^ ((l.take (i + 1)).drop m).length ≤ 128 ^ 8 := Nat.pow_le_pow_right (by omega) hlen
    omega
theorem vval_bound0 (l : List UInt8) (i : Nat) (hi : i < l.length) (h10 : i < 10) (h1 : i = 9 → l[i].toNat ≤ 1) : vval (l.take (i + 1)) < 18446744073709551616 := by
  have h := vval_bound l i 1 hi h10 h1 (by omega) (by omega)
  have e := vval_drop (l.take (i + 1)) 1 (by omega) (by simp; omega)
  simp only [Nat.sub_self, List.drop_zero] at e
  rw [e]
  omega
end Go.Proofs.YtbcnapkbdbefhaaGreatDoor

/- Bytes that are or-ed in place: plain laws. No condition. -/
import Derived.Test.YtnfamahfaghejaaBloomP
namespace Go.Proofs.Ytnfamahfaghejaa
open Go.RowKit

theorem getD_at (l : List UInt8) (j : Nat) (h : j < l.length) : l.getD j 0 = l[j] := by rw [List.getD_eq_getElem?_getD, List.getElem?_eq_getElem h]; rfl
theorem set_step {α : Type} (Z X : List α) (hl : Z.length = X.length) (j : Nat) (hj : j < Z.length) : (Z.take j ++ X.drop j).set j Z[j] = Z.take (j + 1) ++ X.drop (j + 1) := by
  have e : (Z.take j).length = j := by rw [List.length_take]; omega
  rw [List.set_append_right _ _ (by omega), e, Nat.sub_self, List.drop_eq_getElem_cons (by omega : j < X.length), List.set_cons_zero, List.take_succ_eq_append_getElem hj, List.append_assoc]
  rfl
theorem part_length (X M : List UInt8) (j : Nat) (hj : j ≤ X.length) : ((orL X M).take j ++ X.drop j).length = X.length := by
  rw [List.length_append, List.length_take, List.length_drop, orL_length]; omega
theorem part_lo (X M : List UInt8) (j i : Nat) (hj : j ≤ X.length) (hi : i < j) : ((orL X M).take j ++ X.drop j).getD i 0 = (orL X M).getD i 0 := by
  rw [List.getD_eq_getElem?_getD, List.getD_eq_getElem?_getD, List.getElem?_append_left (by rw [List.length_take, orL_length]; omega), List.getElem?_take_of_lt hi]
theorem part_hi (X M : List UInt8) (j i : Nat) (hj : j ≤ X.length) (hi : j ≤ i) : ((orL X M).take j ++ X.drop j).getD i 0 = X.getD i 0 := by
  have e : ((orL X M).take j).length = j := by rw [List.length_take, orL_length]; omega
  rw [List.getD_eq_getElem?_getD, List.getD_eq_getElem?_getD, List.getElem?_append_right (by omega), e, List.getElem?_drop]
  congr 2
  omega
theorem part_mono (X M : List UInt8) (j n : Nat) (hX : X.length = n + 1) (hj : j ≤ n) (q : Nat) (h : bitAt X q = true) : bitAt ((orL X M).take j ++ X.drop j) q = true := by
  by_cases hi : q / 8 < j
  · have e := bitAt_orL X M q (by omega)
    unfold bitAt at *
    rw [part_lo X M j _ (by omega) hi]
    rw [h, Bool.true_or] at e
    exact e
  · unfold bitAt at *
    rw [part_hi X M j _ (by omega) (by omega)]
    exact h
theorem zeros_set (n : Nat) (c : UInt8) : (List.replicate (n + 1) 0).set n c = List.replicate n 0 ++ [c] := by
  rw [List.replicate_succ', List.set_append_right _ _ (by simp)]
  simp
theorem mayB_zeros (key : List UInt8) (n : Nat) (hn : 8 ≤ n) : mayB ((List.replicate (n + 1) 0).set n 6) key = false := by
  rw [zeros_set, mayB_eq hn (by simp) (by simp [List.getD_eq_getElem?_getD]), mayAll_zeros key n (by omega)]
theorem mayB_part (b M key : List UInt8) (n j : Nat) (hn : 8 ≤ n) (hb : b.length = n + 1) (hj : j ≤ n) (h : mayB (b.set n 6) key = true) : mayB ((orL (b.set n 6) M).take j ++ (b.set n 6).drop j) key = true := by
  have hx : (b.set n 6).length = n + 1 := by rw [List.length_set, hb]
  have h6 : (b.set n 6).getD n 0 = 6 := by rw [List.getD_eq_getElem?_getD, List.getElem?_set_self (by omega)]; rfl
  rw [mayB_eq hn hx h6] at h
  rw [mayB_eq hn (by rw [part_length _ _ _ (by omega), hx]) (by rw [part_hi _ _ _ _ (by omega) hj, h6])]
  exact mayAll_mono (by omega) (fun q _ hb => part_mono _ M j n hx hj q hb) h
theorem cnt_le (f : Nat → Bool) (m : Nat) : cnt f m ≤ m := by
  induction m with
  | zero => exact Nat.le_refl _
  | succ m ih => simp only [cnt]; have := Bool.toNat_le (f m); omega
theorem bit_nat (d k : Nat) (hd : d < 256) : bits BinOp.and IntKind.u8 ((d : Int) / 2 ^ k) 1 = (((d / 2 ^ k % 2 == 1).toNat : Nat) : Int) := by
  have e : ((d : Int) / 2 ^ k) = ((d / 2 ^ k : Nat) : Int) := by simp
  have hl : d / 2 ^ k < 256 := Nat.lt_of_le_of_lt (Nat.div_le_self _ _) hd
  have h := u8_and_nat (d / 2 ^ k) 1 hl (by omega)
  rw [show ((1 : Nat) : Int) = 1 from rfl] at h
  rw [e, h, Nat.and_one_is_mod]
  generalize d / 2 ^ k = z
  by_cases hz : z % 2 = 1
  · rw [hz]; rfl
  · have : z % 2 = 0 := by omega
    rw [this]; rfl
end Go.Proofs.Ytnfamahfaghejaa

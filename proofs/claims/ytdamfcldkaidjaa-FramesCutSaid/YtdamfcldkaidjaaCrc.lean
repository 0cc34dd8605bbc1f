/- The sum tells of one byte that is another one, plain. No condition. -/
import Derived.Test.YtdamfcldkaidjaaFrames4
namespace Go.Proofs.Ytdamfcldkaidjaa
open Go.RowKit

def tabInv : List Nat := [0, 241, 226, 19, 196, 53, 38, 215, 136, 121, 106, 155, 76, 189, 174, 95, 16, 225, 242, 3, 212, 37, 54, 199, 152, 105, 122, 139, 92, 173, 190, 79, 32, 209, 194, 51, 228, 21, 6, 247, 168, 89, 74, 187, 108, 157, 142, 127, 48, 193, 210, 35, 244, 5, 22, 231, 184, 73, 90, 171, 124, 141, 158, 111, 177, 64, 83, 162, 117, 132, 151, 102, 57, 200, 219, 42, 253, 12, 31, 238, 161, 80, 67, 178, 101, 148, 135, 118, 41, 216, 203, 58, 237, 28, 15, 254, 145, 96, 115, 130, 85, 164, 183, 70, 25, 232, 251, 10, 221, 44, 63, 206, 129, 112, 99, 146, 69, 180, 167, 86, 9, 248, 235, 26, 205, 60, 47, 222, 98, 147, 128, 113, 166, 87, 68, 181, 234, 27, 8, 249, 46, 223, 204, 61, 114, 131, 144, 97, 182, 71, 84, 165, 250, 11, 24, 233, 62, 207, 220, 45, 66, 179, 160, 81, 134, 119, 100, 149, 202, 59, 40, 217, 14, 255, 236, 29, 82, 163, 176, 65, 150, 103, 116, 133, 218, 43, 56, 201, 30, 239, 252, 13, 211, 34, 49, 192, 23, 230, 245, 4, 91, 170, 185, 72, 159, 110, 125, 140, 195, 50, 33, 208, 7, 246, 229, 20, 75, 186, 169, 88, 143, 126, 109, 156, 243, 2, 17, 224, 55, 198, 213, 36, 123, 138, 153, 104, 191, 78, 93, 172, 227, 18, 1, 240, 39, 214, 197, 52, 107, 154, 137, 120, 175, 94, 77, 188]
set_option maxRecDepth 100000 in
theorem tab_inv : ((List.range 256).all fun j => tabInv.getD (ctab j / 16777216) 0 == j) = true := by kernel_rfl
theorem ctab_top {i j : Nat} (hi : i < 256) (hj : j < 256) (h : ctab i / 16777216 = ctab j / 16777216) : i = j := by
  have h1 := List.all_eq_true.1 tab_inv i (List.mem_range.2 hi)
  have h2 := List.all_eq_true.1 tab_inv j (List.mem_range.2 hj)
  rw [beq_iff_eq] at h1 h2
  rw [← h1, ← h2, h]
theorem xor_cancel {a b c : Nat} (h : a ^^^ c = b ^^^ c) : a = b := by
  have := congrArg (· ^^^ c) h
  simpa [Nat.xor_assoc] using this
theorem cfold_inj {n m : Nat} {c d : UInt8} (hn : n < 4294967296) (hm : m < 4294967296) (h : cfold n c = cfold m d) : (n % 256) ^^^ c.toNat = (m % 256) ^^^ d.toNat ∧ n / 256 = m / 256 := by
  unfold cfold at h
  have hc := c.toNat_lt
  have hd := d.toNat_lt
  have b1 : (n % 256) ^^^ c.toNat < 2 ^ 8 := Nat.xor_lt_two_pow (by omega) (by omega)
  have b2 : (m % 256) ^^^ d.toNat < 2 ^ 8 := Nat.xor_lt_two_pow (by omega) (by omega)
  generalize (n % 256) ^^^ c.toNat = i at *
  generalize (m % 256) ^^^ d.toNat = j at *
  have top : ∀ x y : Nat, x < 4294967296 → (x / 256 ^^^ y) / 16777216 = y / 16777216 := by
    intro x y hx
    have := Nat.shiftRight_xor_distrib (a := x / 256) (b := y) (i := 24)
    rw [Nat.shiftRight_eq_div_pow, Nat.shiftRight_eq_div_pow, Nat.shiftRight_eq_div_pow] at this
    rw [show (2 ^ 24 : Nat) = 16777216 from rfl] at this
    rw [this, show x / 256 / 16777216 = 0 from by omega, Nat.zero_xor]
  have e : i = j := by
    apply ctab_top (by omega) (by omega)
    have := congrArg (· / 16777216) h
    simp only [top n _ hn, top m _ hm] at this
    exact this
  subst e
  exact ⟨rfl, xor_cancel h⟩
theorem cfold_inj_n {n m : Nat} {c : UInt8} (hn : n < 4294967296) (hm : m < 4294967296) (h : cfold n c = cfold m c) : n = m := by
  obtain ⟨h1, h2⟩ := cfold_inj hn hm h
  have := xor_cancel h1
  omega
theorem cfold_inj_c {n : Nat} {c d : UInt8} (hn : n < 4294967296) (h : cfold n c = cfold n d) : c = d := by
  obtain ⟨h1, _⟩ := cfold_inj hn hn h
  rw [Nat.xor_comm, Nat.xor_comm (n % 256)] at h1
  exact UInt8.toNat_inj.1 (xor_cancel h1)
theorem fold_inj (l : List UInt8) : ∀ n m, n < 4294967296 → m < 4294967296 → l.foldl cfold n = l.foldl cfold m → n = m := by
  induction l with
  | nil => intro n m _ _ h; exact h
  | cons c t ih => intro n m hn hm h; exact cfold_inj_n hn hm (ih _ _ (cfold_lt n c hn) (cfold_lt m c hm) h)
/-- one byte is another one: the sum is another one -/
theorem crc_set (l : List UInt8) (i : Nat) (hi : i < l.length) (c : UInt8) (hc : c ≠ l[i]) : crcOn 0 (l.set i c) ≠ crcOn 0 l := by
  intro h
  unfold crcOn at h
  have h1 := fold_lt l 4294967295 (by omega)
  have h2 := fold_lt (l.set i c) 4294967295 (by omega)
  simp only [Nat.sub_zero] at h
  have h3 : (l.set i c).foldl cfold 4294967295 = l.foldl cfold 4294967295 := by omega
  have e1 : l = l.take i ++ (l[i] :: l.drop (i + 1)) := by rw [← List.drop_eq_getElem_cons hi, List.take_append_drop]
  have e2 : l.set i c = l.take i ++ (c :: l.drop (i + 1)) := by rw [List.set_eq_take_append_cons_drop, if_pos hi]
  rw [e2] at h3
  conv at h3 => rhs; rw [e1]
  rw [List.foldl_append, List.foldl_append, List.foldl_cons, List.foldl_cons] at h3
  have h4 := fold_lt (l.take i) 4294967295 (by omega)
  have h5 := fold_inj _ _ _ (cfold_lt _ _ h4) (cfold_lt _ _ h4) h3
  exact hc (cfold_inj_c h4 h5)
theorem fgetR_flip (r : List UInt8) (h : r.length ≤ 65536) (k : Nat) (hk4 : 4 ≤ k) (hk : k < r.length + 8) (c : UInt8) (hc : c ≠ (fput r)[k]'(by rw [fput_length]; exact hk)) : fgetR ((fput r).set k c) = ([], 0, 4) := by
  have hfl := fput_length r
  have e4 : ((fput r).set k c).take 4 = four r.length := by rw [List.take_set_of_le (by omega)]; rfl
  have hll : ((fput r).set k c).length = r.length + 8 := by rw [List.length_set, hfl]
  unfold fgetR
  rw [e4, fval_four' _ (by omega), if_neg (by omega), if_neg (by omega), if_neg (by omega)]
  rw [if_neg]
  by_cases h8 : k < 8
  · have e8 : ((fput r).set k c).drop 8 = r := by rw [List.drop_set_of_lt (by omega)]; rfl
    rw [e8, List.take_length]
    intro hq
    have hl4 : (((fput r).set k c).drop 4).take 4 = four (crcOn 0 (four r.length ++ r)) := by
      rw [hq]; exact (four_fval _ (by simp [hll])).symm
    have g1 : ((((fput r).set k c).drop 4).take 4)[k - 4]? = some c := by
      rw [List.getElem?_take, if_pos (by omega), List.getElem?_drop, show 4 + (k - 4) = k from by omega, List.getElem?_set_self (by omega)]
    have g2 : (four (crcOn 0 (four r.length ++ r)))[k - 4]? = some ((fput r)[k]'(by omega)) := by
      have : (four (crcOn 0 (four r.length ++ r))) = ((fput r).drop 4).take 4 := rfl
      rw [this, List.getElem?_take, if_pos (by omega), List.getElem?_drop, show 4 + (k - 4) = k from by omega, List.getElem?_eq_getElem (by omega)]
    rw [hl4, g2] at g1
    exact hc (Option.some.inj g1).symm
  · have e8 : (((fput r).set k c).drop 8).take r.length = r.set (k - 8) c := by
      rw [List.drop_set, if_neg (by omega)]
      have : (fput r).drop 8 = r := rfl
      rw [this, List.take_of_length_le (by simp)]
    have eq4 : (((fput r).set k c).drop 4).take 4 = four (crcOn 0 (four r.length ++ r)) := by
      rw [List.drop_set, if_neg (by omega), List.take_set_of_le (by omega)]; rfl
    rw [e8, eq4, fval_four' _ (crcOn_lt _ _)]
    have hset : four r.length ++ r.set (k - 8) c = (four r.length ++ r).set (k - 8 + 4) c := by
      rw [List.set_append_right _ _ (by rw [four_length]; omega), four_length]
      congr 2
    rw [hset]
    have hi : k - 8 + 4 < (four r.length ++ r).length := by rw [List.length_append, four_length]; omega
    refine crc_set _ _ hi c (fun e => hc ?_)
    rw [e]
    have a1 : (four r.length ++ r)[k - 8 + 4]? = (fput r)[k]? := by
      rw [List.getElem?_append_right (by rw [four_length]; omega), four_length, show k - 8 + 4 - 4 = k - 8 from by omega]
      unfold fput
      rw [List.getElem?_append_right (by rw [four_length]; omega), List.getElem?_append_right (by rw [four_length, four_length]; omega), four_length, four_length]
      congr 1
    rw [List.getElem?_eq_getElem hi, List.getElem?_eq_getElem (by omega)] at a1
    exact Option.some.inj a1
end Go.Proofs.Ytdamfcldkaidjaa

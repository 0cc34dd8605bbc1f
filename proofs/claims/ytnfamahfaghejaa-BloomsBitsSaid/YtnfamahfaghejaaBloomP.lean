/- Blooms, plain: which bits are set by keys that are put; what may be there. No program stands in this text; no condition. -/
import Derived.Test.YtnfamahfaghejaaBlooms2
namespace Go.Proofs.Ytnfamahfaghejaa
open Go.RowKit

def setBit (b : List UInt8) (p : Nat) : List UInt8 := b.set (p / 8) (UInt8.ofNat ((b.getD (p / 8) 0).toNat ||| 2 ^ (p % 8)))
def putBits (b key : List UInt8) (n : Nat) : Nat → List UInt8
  | 0 => b
  | k + 1 => setBit (putBits b key n k) (placeN key (8 * n) k)
def putKeys (b : List UInt8) (n : Nat) : List (List UInt8) → List UInt8
  | [] => b
  | k :: l => putKeys (putBits b k n 6) n l
def bloomN (m : Nat) : Nat := (max 64 (10 * m) + 7) / 8
def bloomPut (l : List (List UInt8)) : List UInt8 := putKeys (List.replicate (bloomN l.length) 0 ++ [6]) (bloomN l.length) l
/-- does a key set a bit? -/
def hits (key : List UInt8) (n q : Nat) : Bool := (List.range 6).any fun i => placeN key (8 * n) i == q

theorem bitAt_testBit (b : List UInt8) (q : Nat) : bitAt b q = (b.getD (q / 8) 0).toNat.testBit (q % 8) := by
  unfold bitAt
  rw [Nat.testBit_eq_decide_div_mod_eq]
  rw [Bool.eq_iff_iff]; simp
@[simp] theorem setBit_length (b : List UInt8) (p : Nat) : (setBit b p).length = b.length := by simp [setBit]
theorem or_bit_lt (c : UInt8) (r : Nat) (h : r < 8) : c.toNat ||| 2 ^ r < 256 :=
  Nat.or_lt_two_pow (n := 8) (UInt8.toNat_lt c) (Nat.pow_lt_pow_right (by omega) h)
theorem bitAt_setBit (b : List UInt8) (p q : Nat) (hp : p / 8 < b.length) : bitAt (setBit b p) q = (decide (p = q) || bitAt b q) := by
  rw [bitAt_testBit, bitAt_testBit]
  unfold setBit
  by_cases h : p / 8 = q / 8
  · rw [← h]
    rw [List.getD_eq_getElem?_getD (l := b.set _ _), List.getElem?_set_self hp, Option.getD_some, UInt8.toNat_ofNat', Nat.mod_eq_of_lt (or_bit_lt _ _ (by omega)), Nat.testBit_or, Nat.testBit_two_pow, Bool.or_comm]
    congr 1
    rw [Bool.eq_iff_iff]; simp; omega
  · rw [List.getD_eq_getElem?_getD (l := b.set _ _), List.getElem?_set_ne h, ← List.getD_eq_getElem?_getD]
    have : decide (p = q) = false := by simp; intro e; exact h (by rw [e])
    rw [this, Bool.false_or]
@[simp] theorem putBits_length (b key : List UInt8) (n k : Nat) : (putBits b key n k).length = b.length := by
  induction k with
  | zero => rfl
  | succ k ih => simp [putBits, ih]
theorem bitAt_putBits (b key : List UInt8) (n k q : Nat) (hn : 0 < n) (hb : n ≤ b.length) : bitAt (putBits b key n k) q = (((List.range k).any fun i => placeN key (8 * n) i == q) || bitAt b q) := by
  induction k with
  | zero => simp [putBits]
  | succ k ih =>
    have hp := placeN_lt key (8 * n) k (by omega)
    rw [putBits, bitAt_setBit _ _ _ (by rw [putBits_length]; omega), ih, List.range_succ, List.any_append]
    simp only [List.any_cons, List.any_nil, Bool.or_false]
    cases (List.range k).any fun i => placeN key (8 * n) i == q <;> cases bitAt b q <;> simp <;> rfl
@[simp] theorem putKeys_length (b : List UInt8) (n : Nat) (l : List (List UInt8)) : (putKeys b n l).length = b.length := by
  induction l generalizing b with
  | nil => rfl
  | cons k l ih => simp [putKeys, ih]
theorem bitAt_putKeys (b : List UInt8) (n q : Nat) (l : List (List UInt8)) (hn : 0 < n) (hb : n ≤ b.length) : bitAt (putKeys b n l) q = ((l.any fun k => hits k n q) || bitAt b q) := by
  induction l generalizing b with
  | nil => simp [putKeys]
  | cons k l ih =>
    rw [putKeys, ih _ (by simpa using hb), bitAt_putBits _ _ _ _ _ hn hb, List.any_cons]
    show _ = ((hits k n q || _) || _)
    rw [← Bool.or_assoc, Bool.or_comm (l.any _)]
    rfl
theorem putKeys_app (b : List UInt8) (n : Nat) (l m : List (List UInt8)) : putKeys b n (l ++ m) = putKeys (putKeys b n l) n m := by
  induction l generalizing b with
  | nil => rfl
  | cons k l ih => simp only [List.cons_append, putKeys, ih]
theorem setBit_last (b : List UInt8) (p n : Nat) (hp : p < 8 * n) : (setBit b p).getD n 0 = b.getD n 0 := by
  unfold setBit
  rw [List.getD_eq_getElem?_getD, List.getElem?_set_ne (by omega), ← List.getD_eq_getElem?_getD]
theorem putBits_last (b key : List UInt8) (n k : Nat) (hn : 0 < n) : (putBits b key n k).getD n 0 = b.getD n 0 := by
  induction k with
  | zero => rfl
  | succ k ih => rw [putBits, setBit_last _ _ _ (placeN_lt _ _ _ (by omega)), ih]
theorem putKeys_last (b : List UInt8) (n : Nat) (l : List (List UInt8)) (hn : 0 < n) : (putKeys b n l).getD n 0 = b.getD n 0 := by
  induction l generalizing b with
  | nil => rfl
  | cons k l ih => rw [putKeys, ih, putBits_last _ _ _ _ hn]
theorem bloomN_pos (m : Nat) : 8 ≤ bloomN m := by unfold bloomN; omega
theorem zeros_bit (n q : Nat) (h : q < 8 * n) (c : UInt8) : bitAt (List.replicate n 0 ++ [c]) q = false := by
  unfold bitAt
  rw [List.getD_eq_getElem?_getD, List.getElem?_append_left (by simp; omega), List.getElem?_replicate, if_pos (by omega)]
  simp
theorem bloomPut_length (l : List (List UInt8)) : (bloomPut l).length = bloomN l.length + 1 := by simp [bloomPut]
theorem bloomPut_last (l : List (List UInt8)) : (bloomPut l).getD (bloomN l.length) 0 = 6 := by
  unfold bloomPut
  rw [putKeys_last _ _ _ (by have := bloomN_pos l.length; omega), List.getD_eq_getElem?_getD, List.getElem?_append_right (by simp)]
  simp
theorem bitAt_bloomPut (l : List (List UInt8)) (q : Nat) (h : q < 8 * bloomN l.length) : bitAt (bloomPut l) q = l.any fun k => hits k (bloomN l.length) q := by
  unfold bloomPut
  rw [bitAt_putKeys _ _ _ _ (by have := bloomN_pos l.length; omega) (by simp), zeros_bit _ _ h, Bool.or_false]
/-- is told that it may be there, without an error -/
def mayB (b key : List UInt8) : Bool := (bloomMay b key).1 && decide ((bloomMay b key).2 = 0)
theorem mayB_eq {b key : List UInt8} {n : Nat} (hn : 8 ≤ n) (hb : b.length = n + 1) (h6 : b.getD n 0 = 6) : mayB b key = mayAll b key n := by
  have e : bloomMay b key = (mayAll b key n, 0) := by
    unfold bloomMay
    rw [hb, Nat.add_sub_cancel, if_neg]
    rintro (h | h)
    · omega
    · exact h h6
  unfold mayB; rw [e]; simp
theorem mayAll_iff {b key : List UInt8} {n : Nat} : mayAll b key n = true ↔ ∀ i, i < 6 → bitAt b (placeN key (8 * n) i) = true := by
  unfold mayAll
  rw [List.all_eq_true]
  simp
theorem hits_place (key : List UInt8) (n i : Nat) (hi : i < 6) : hits key n (placeN key (8 * n) i) = true := by
  unfold hits
  rw [List.any_eq_true]
  exact ⟨i, by simpa using hi, by simp⟩
/-- more bits set tell no less -/
theorem mayAll_mono {b c key : List UInt8} {n : Nat} (hn : 0 < n) (h : ∀ q, q < 8 * n → bitAt b q = true → bitAt c q = true) (hb : mayAll b key n = true) : mayAll c key n = true := by
  rw [mayAll_iff] at hb ⊢
  exact fun i hi => h _ (placeN_lt _ _ _ (by omega)) (hb i hi)
theorem mayAll_put {l : List (List UInt8)} {key : List UInt8} (h : key ∈ l) : mayAll (bloomPut l) key (bloomN l.length) = true := by
  rw [mayAll_iff]
  intro i hi
  have hN := bloomN_pos l.length
  rw [bitAt_bloomPut _ _ (placeN_lt _ _ _ (by omega)), List.any_eq_true]
  exact ⟨key, h, hits_place _ _ _ hi⟩
theorem mayB_put {l : List (List UInt8)} {key : List UInt8} (h : key ∈ l) : mayB (bloomPut l) key = true := by
  rw [mayB_eq (bloomN_pos l.length) (bloomPut_length l) (bloomPut_last l), mayAll_put h]
/-- bytes are their bits -/
theorem byte_ext {c d : UInt8} (h : ∀ r, r < 8 → c.toNat.testBit r = d.toNat.testBit r) : c = d := by
  apply UInt8.toNat_inj.1
  apply Nat.eq_of_testBit_eq
  intro r
  by_cases hr : r < 8
  · exact h r hr
  · have hp : 2 ^ 8 ≤ 2 ^ r := Nat.pow_le_pow_right (by omega) (by omega)
    rw [Nat.testBit_lt_two_pow (Nat.lt_of_lt_of_le (UInt8.toNat_lt c) hp), Nat.testBit_lt_two_pow (Nat.lt_of_lt_of_le (UInt8.toNat_lt d) hp)]
theorem bits_ext {b c : List UInt8} {n : Nat} (hb : b.length = n + 1) (hc : c.length = n + 1) (hl : b.getD n 0 = c.getD n 0) (h : ∀ q, q < 8 * n → bitAt b q = bitAt c q) : b = c := by
  apply List.ext_getElem (by rw [hb, hc])
  intro j h1 h2
  have eb : b.getD j 0 = b[j] := by rw [List.getD_eq_getElem?_getD, List.getElem?_eq_getElem h1]; rfl
  have ec : c.getD j 0 = c[j] := by rw [List.getD_eq_getElem?_getD, List.getElem?_eq_getElem h2]; rfl
  rw [← eb, ← ec]
  by_cases hj : j = n
  · rw [hj]; exact hl
  · apply byte_ext
    intro r hr
    have := h (8 * j + r) (by omega)
    rw [bitAt_testBit, bitAt_testBit, show (8 * j + r) / 8 = j from by omega, show (8 * j + r) % 8 = r from by omega] at this
    exact this
theorem bloomPut_perm {l m : List (List UInt8)} (hl : l.length = m.length) (h : ∀ f : List UInt8 → Bool, l.any f = m.any f) : bloomPut l = bloomPut m := by
  refine bits_ext (n := bloomN m.length) (by rw [bloomPut_length, hl]) (bloomPut_length m) ?_ ?_
  · rw [bloomPut_last m, ← hl, bloomPut_last l]
  · intro q hq
    rw [bitAt_bloomPut m q hq, bitAt_bloomPut l q (by rw [hl]; exact hq), hl, h]
/-- the bits of one are bits of the other one -/
theorem and_sub {b c : List UInt8} {n : Nat} (hl : b.getD n 0 = c.getD n 0) (h : ∀ q, q < 8 * n → bitAt b q = true → bitAt c q = true) (j : Nat) (hj : j ≤ n) : (b.getD j 0).toNat &&& (c.getD j 0).toNat = (b.getD j 0).toNat := by
  by_cases e : j = n
  · rw [e, hl, Nat.and_self]
  · apply Nat.eq_of_testBit_eq
    intro r
    rw [Nat.testBit_and]
    by_cases hr : r < 8
    · have := h (8 * j + r) (by omega)
      rw [bitAt_testBit, bitAt_testBit, show (8 * j + r) / 8 = j from by omega, show (8 * j + r) % 8 = r from by omega] at this
      cases hbit : (b.getD j 0).toNat.testBit r
      · rfl
      · rw [this hbit]; rfl
    · have hp : 2 ^ 8 ≤ 2 ^ r := Nat.pow_le_pow_right (by omega) (by omega)
      rw [Nat.testBit_lt_two_pow (Nat.lt_of_lt_of_le (UInt8.toNat_lt (b.getD j 0)) hp)]; rfl
/-- bytes, bit by bit or -/
def orL : List UInt8 → List UInt8 → List UInt8
  | [], _ => []
  | b, [] => b
  | x :: b, y :: c => UInt8.ofNat (x.toNat ||| y.toNat) :: orL b c
theorem or_lt (x y : UInt8) : x.toNat ||| y.toNat < 256 := Nat.or_lt_two_pow (n := 8) (UInt8.toNat_lt x) (UInt8.toNat_lt y)
theorem orL_nil (b : List UInt8) : orL b [] = b := by cases b <;> rfl
theorem orL_length (b c : List UInt8) : (orL b c).length = b.length := by
  induction b generalizing c with
  | nil => rfl
  | cons x b ih => cases c with
    | nil => rfl
    | cons y c => simp [orL, ih]
theorem orL_getD (b c : List UInt8) (j : Nat) (hj : j < b.length) : ((orL b c).getD j 0).toNat = (b.getD j 0).toNat ||| (c.getD j 0).toNat := by
  induction b generalizing c j with
  | nil => simp at hj
  | cons x b ih => cases c with
    | nil => simp [orL_nil]
    | cons y c => cases j with
      | zero => simp only [orL, List.getD_cons_zero, UInt8.toNat_ofNat']; exact Nat.mod_eq_of_lt (or_lt x y)
      | succ j => simp only [orL, List.getD_cons_succ]; exact ih c j (by simpa using hj)
theorem bitAt_orL (b c : List UInt8) (q : Nat) (hq : q / 8 < b.length) : bitAt (orL b c) q = (bitAt b q || bitAt c q) := by
  rw [bitAt_testBit, bitAt_testBit, bitAt_testBit, orL_getD b c _ hq, Nat.testBit_or]
/-- how many bits of the first ones are set -/
def cnt (f : Nat → Bool) : Nat → Nat
  | 0 => 0
  | m + 1 => cnt f m + (f m).toNat
theorem cnt_one (f : Nat → Bool) (p m : Nat) : cnt (fun q => decide (p = q) || f q) m ≤ cnt f m + (if p < m then 1 else 0) := by
  induction m with
  | zero => simp [cnt]
  | succ m ih =>
    simp only [cnt]
    by_cases e : p = m
    · subst e
      rw [if_neg (Nat.lt_irrefl p)] at ih
      rw [if_pos (by omega)]
      have : ((decide (p = p) || f p)).toNat ≤ 1 := Bool.toNat_le _
      omega
    · have h1 : decide (p = m) = false := by simpa using e
      rw [h1, Bool.false_or]
      by_cases hlt : p < m
      · rw [if_pos hlt] at ih; rw [if_pos (by omega)]; omega
      · rw [if_neg hlt] at ih; rw [if_neg (by omega)]; omega
theorem cnt_congr {f g : Nat → Bool} {m : Nat} (h : ∀ q, q < m → f q = g q) : cnt f m = cnt g m := by
  induction m with
  | zero => rfl
  | succ m ih => simp only [cnt]; rw [ih fun q hq => h q (by omega), h m (by omega)]
theorem cnt_pos {f : Nat → Bool} {p m : Nat} (hp : p < m) (h : f p = true) : 1 ≤ cnt f m := by
  induction m with
  | zero => omega
  | succ m ih =>
    simp only [cnt]
    by_cases e : p = m
    · subst e; rw [h]; simp
    · have := ih (by omega); omega
theorem cnt_zero {f : Nat → Bool} {m : Nat} (h : ∀ q, q < m → f q = false) : cnt f m = 0 := by
  induction m with
  | zero => rfl
  | succ m ih => simp only [cnt]; rw [ih fun q hq => h q (by omega), h m (by omega)]; rfl
theorem cnt_putBits (b key : List UInt8) (n k : Nat) (hn : 0 < n) (hb : n ≤ b.length) : cnt (bitAt (putBits b key n k)) (8 * n) ≤ cnt (bitAt b) (8 * n) + k := by
  induction k with
  | zero => simp [putBits]
  | succ k ih =>
    have hp := placeN_lt key (8 * n) k (by omega)
    have e : cnt (bitAt (putBits b key n (k + 1))) (8 * n) = cnt (fun q => decide (placeN key (8 * n) k = q) || bitAt (putBits b key n k) q) (8 * n) :=
      cnt_congr fun q _ => by rw [putBits, bitAt_setBit _ _ _ (by rw [putBits_length]; omega)]
    have h1 := cnt_one (bitAt (putBits b key n k)) (placeN key (8 * n) k) (8 * n)
    rw [if_pos hp] at h1
    omega
theorem cnt_one_key (key : List UInt8) : 1 ≤ cnt (bitAt (bloomPut [key])) 64 ∧ cnt (bitAt (bloomPut [key])) 64 ≤ 6 := by
  have h8 : bloomN [key].length = 8 := by simp [bloomN]
  constructor
  · refine cnt_pos (p := placeN key (8 * 8) 0) (placeN_lt _ _ _ (by omega)) ?_
    have hp := placeN_lt key (8 * 8) 0 (by omega)
    have hh := hits_place key 8 0 (by omega)
    generalize placeN key (8 * 8) 0 = p at hp hh ⊢
    rw [bitAt_bloomPut [key] p (by rw [h8]; exact hp), h8]
    simp only [List.any_cons, List.any_nil, Bool.or_false]
    exact hh
  · have h := cnt_putBits (List.replicate 8 0 ++ [6]) key 8 6 (by omega) (by simp)
    have h0 : cnt (bitAt (List.replicate 8 0 ++ [6])) (8 * 8) = 0 := cnt_zero fun q hq => zeros_bit 8 q hq 6
    rw [h0] at h
    have e : bloomPut [key] = putBits (List.replicate 8 0 ++ [6]) key 8 6 := by unfold bloomPut; rw [h8]; simp only [putKeys]
    rw [e]
    generalize putBits (List.replicate 8 0 ++ [6]) key 8 6 = B at h ⊢
    exact Nat.le_trans h (Nat.le_refl 6)
theorem mayAll_zeros (key : List UInt8) (n : Nat) (hn : 0 < n) (c : UInt8) : mayAll (List.replicate n 0 ++ [c]) key n = false := by
  cases h : mayAll (List.replicate n 0 ++ [c]) key n
  · rfl
  · rw [mayAll_iff] at h
    have := h 0 (by omega)
    rw [zeros_bit _ _ (placeN_lt _ _ _ (by omega))] at this
    cases this
end Go.Proofs.Ytnfamahfaghejaa

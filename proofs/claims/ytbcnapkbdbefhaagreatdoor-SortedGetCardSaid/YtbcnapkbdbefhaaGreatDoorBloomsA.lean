/- Walks of package blooms and of its reference that read: the places of a key, May. The condition: texts of less than 2^40 bytes. | Walks of blooms.May and of the reference's place and May. The condition: bytes and texts of less than 2^28. | Blooms, plain: which bits are set by keys that are put; what may be there. No program stands in this text; no condition. | Walks of blooms.Put and law09.may. The condition: texts of less than 2^40 bytes, at most 2^20 of them. -/
import Derived.Test.YtbcnapkbdbefhaaGreatDoorSumsA
import Derived.Test.YtbcnapkbdbefhaaGreatDoorMemB
import Derived.Test.YtbcnapkbdbefhaaGreatDoorListsA
import Derived.Deep.Cut
namespace Go.Proofs.YtbcnapkbdbefhaaGreatDoor
open Go.RowKit

/-- the i-th place of a key, of so many bits -/
def placeN (key : List UInt8) (bits i : Nat) : Nat := (crcOn 0 key + i * crcOn (crcOn 0 key) [1]) % 4294967296 % bits
theorem crcOn_more (l m : List UInt8) : crcOn (crcOn 0 l) m = crcOn 0 (l ++ m) := by
  have h := fold_lt l 4294967295 (by omega)
  unfold crcOn
  rw [List.foldl_append, Nat.sub_zero]
  congr 2
  omega
/-- is a bit of bytes set? -/
def bitAt (b : List UInt8) (p : Nat) : Bool := (b.getD (p / 8) 0).toNat / 2 ^ (p % 8) % 2 == 1

theorem rd_lit1 (w : World) (t : TypeId) : Rd (w.alloc (.cells #[.int .u8 1] t)) (.slice (some ⟨w.heap.size, 0, none⟩) 1 1) [1] := rd_one w 1 1 rfl t

theorem bit_words (d r : Nat) (hd : d < 256) : (bits BinOp.and IntKind.u8 ((d : Int) / 2 ^ r) 1 == 1) = (d / 2 ^ r % 2 == 1) := by
  have e : ((d : Int) / 2 ^ r) = ((d / 2 ^ r : Nat) : Int) := by simp
  have hl : d / 2 ^ r < 256 := Nat.lt_of_le_of_lt (Nat.div_le_self _ _) hd
  have h := u8_and_nat (d / 2 ^ r) 1 hl (by omega)
  rw [show ((1 : Nat) : Int) = 1 from rfl] at h
  rw [e, h, Nat.and_one_is_mod, Bool.eq_iff_iff]
  simp
  omega


/-- may a key be there, by n bytes of bits? -/
def mayAll (b key : List UInt8) (n : Nat) : Bool := (List.range 6).all fun i => bitAt b (placeN key (8 * n) i)
theorem placeN_lt (key : List UInt8) (bits i : Nat) (h : 0 < bits) : placeN key bits i < bits := Nat.mod_lt _ h
theorem all_next (f : Nat → Bool) (k : Nat) (h : ((List.range k).all f) = true) (hk : f k = true) : ((List.range (k + 1)).all f) = true := by
  rw [List.range_succ, List.all_append, h]; simp [hk]
theorem all_no (f : Nat → Bool) (k m : Nat) (hkm : k < m) (hk : f k = false) : ((List.range m).all f) = false := by
  rw [List.all_eq_false]
  exact ⟨k, by simpa using hkm, by simp [hk]⟩

end Go.Proofs.YtbcnapkbdbefhaaGreatDoor
namespace Go.Proofs.YtbcnapkbdbefhaaGreatDoor
open Go.RowKit

def bloomMay (b key : List UInt8) : Bool × Nat := if b.length < 9 ∨ b.getD (b.length - 1) 0 ≠ 6 then (false, 4) else (mayAll b key (b.length - 1), 0)
def RetMay (b key : List UInt8) (w : World) (e : Ending) (w' : World) : Prop := e = .returned (.tuple #[.bool (bloomMay b key).1, .int .i64 (bloomMay b key).2]) ∧ Below w.heap.size w w'
theorem ret_may {b key : List UInt8} {w w' : World} {r : Bool} {n : Nat} {x : Bool} {y : Int} (h : bloomMay b key = (r, n)) (h1 : x = r) (h2 : y = n) (h3 : Below w.heap.size w w') : RetMay b key w (.returned (.tuple #[.bool x, .int .i64 y])) w' := by
  subst h1 h2
  exact ⟨by rw [h], h3⟩
theorem neq_six (d : Nat) : ((d : Int) != 6) = decide (d ≠ 6) := by rw [Bool.eq_iff_iff]; simp; omega

set_option maxRecDepth 100000 in
set_option maxHeartbeats 800000 in
theorem place_any (key : ByteArray) (i n : Nat) (w : World) (hkey : key.size ≤ 268435456) (hi : i < 6) (hn : 0 < n) (hn2 : 8 * n < 4294967296) :
    Calls Tryz.prog 149 #[.string key, .int .i64 i, .int .i64 (8 * (n : Int))] w fun e w' => e = .returned (.int .i64 ((placeN key.data.toList (8 * n) i : Nat) : Int)) ∧ Below w.heap.size w w' := by
  obtain ⟨x, hx⟩ : ∃ x, x = crcOn 0 key.data.toList := ⟨_, rfl⟩
  obtain ⟨y, hy⟩ : ∃ y, y = crcOn 0 (key.data.toList ++ [1]) := ⟨_, rfl⟩
  have hxl : x < 4294967296 := by rw [hx]; exact crcOn_lt _ _
  have hyl : y < 4294967296 := by rw [hy]; exact crcOn_lt _ _
  have HX := Lib.hid hx
  have HY := Lib.hid hy
  have HP : Hid (placeN key.data.toList (8 * n) i = (x + i * y) % 4294967296 % (8 * n)) := by
    show _ = _
    rw [hx, hy, ← crcOn_more]; rfl
  clear hx hy
  go_enter Tryz.func149, Tryz.ntmps149
  go_wp2_with (with_reducible refine wp_bytes rfl _ rfl key rfl (by omega) ?_; intro vb w1 hown1 hbel1)
  obtain ⟨hsz1, hrd1⟩ := rd_of_own hown1
  have HS := Lib.hid hsz1
  clear hsz1
  refine (refOwn_any vb _ _ hrd1).mono ?_
  rintro e w2 ⟨rfl, hbel2⟩
  have hb2 : Below w.heap.size w w2 := hbel1.trans (hbel2.mono hbel1.size)
  rw [← HX.out]
  clear hown1 hrd1 hbel1 hbel2
  go_wp2_with (first | (with_reducible refine wp_bytes rfl _ rfl key rfl (by omega) ?_; intro vc w3 hown3 hbel3) | (at_builtin; go_loud (refine wp_app rfl _ _ rfl w2.heap.size key.size 1 _ _ key.data.toList [1] rfl rfl (own_below hown3 ((Below.refl _ _).alloc (Nat.le_refl _) _)) (rd_lit1 w3 _) rfl (by omega) (Nat.le_trans hbel3.size (by simp)) ?_); intro vd w4 hown4 _ hbel4))
  obtain ⟨hsz4, hrd4⟩ := rd_of_own hown4
  have hb3 : Below w.heap.size w (w3.alloc (.cells #[.int .u8 1] 5)) := (hb2.trans (hbel3.mono hb2.size)).alloc (Nat.le_trans hb2.size hbel3.size) _
  have hb4 : Below w.heap.size w w4 := hb3.trans (hbel4.mono hb2.size)
  clear hsz4 hown4 hbel4 hb3 hbel3 hown3
  refine (refOwn_any vd _ _ hrd4).mono ?_
  rintro e w5 ⟨rfl, hbel5⟩
  have hb5 : Below w.heap.size w w5 := hb4.trans (hbel5.mono hb4.size)
  rw [← HY.out]
  clear hb4 hbel5 hrd4 hb2
  have HB := Lib.hid hb5
  clear hb5
  go_wp2
  go_ret
  refine ⟨ret_int ?_, HB.out⟩
  rw [HP.out]
  have hp : (x + i * y) % 4294967296 % (8 * n) < 8 * n := Nat.mod_lt _ (by omega)
  generalize hz : (x + i * y) % 4294967296 % (8 * n) = p at hp
  have e : ((x : Int) + (i : Int) * (y : Int)) % 4294967296 % (8 * (n : Int)) = (p : Int) := by rw [← hz]; simp
  rw [e]
  exact IntWalk.wrap64_in _ ⟨by omega, by omega⟩
end Go.Proofs.YtbcnapkbdbefhaaGreatDoor
namespace Go.Proofs.YtbcnapkbdbefhaaGreatDoor
open Go.RowKit

def setBit (b : List UInt8) (p : Nat) : List UInt8 := b.set (p / 8) (UInt8.ofNat ((b.getD (p / 8) 0).toNat ||| 2 ^ (p % 8)))
def putBits (b key : List UInt8) (n : Nat) : Nat → List UInt8
  | 0 => b
  | k + 1 => setBit (putBits b key n k) (placeN key (8 * n) k)
def putKeys (b : List UInt8) (n : Nat) : List (List UInt8) → List UInt8
  | [] => b
  | k :: l => putKeys (putBits b k n 6) n l
def bloomN (m : Nat) : Nat := (max 64 (10 * m) + 7) / 8
def bloomPut (l : List (List UInt8)) : List UInt8 := putKeys (List.replicate (bloomN l.length) 0 ++ [6]) (bloomN l.length) l
/-- does a key set a bit? -/
def hits (key : List UInt8) (n q : Nat) : Bool := (List.range 6).any fun i => placeN key (8 * n) i == q

theorem bitAt_testBit (b : List UInt8) (q : Nat) : bitAt b q = (b.getD (q / 8) 0).toNat.testBit (q % 8) := by
  unfold bitAt
  rw [Nat.testBit_eq_decide_div_mod_eq]
  rw [Bool.eq_iff_iff]; simp
@[simp] theorem setBit_length (b : List UInt8) (p : Nat) : (setBit b p).length = b.length := by simp [setBit]
theorem or_bit_lt (c : UInt8) (r : Nat) (h : r < 8) : c.toNat ||| 2 ^ r < 256 :=
  Nat.or_lt_two_pow (n := 8) (UInt8.toNat_lt c) (Nat.pow_lt_pow_right (by omega) h)
theorem bitAt_setBit (b : List UInt8) (p q : Nat) (hp : p / 8 < b.length) : bitAt (setBit b p) q = (decide (p = q) || bitAt b q) := by
  rw [bitAt_testBit, bitAt_testBit]
  unfold setBit
  by_cases h : p / 8 = q / 8
  · rw [← h]
    rw [List.getD_eq_getElem?_getD (l := b.set _ _), List.getElem?_set_self hp, Option.getD_some, UInt8.toNat_ofNat', Nat.mod_eq_of_lt (or_bit_lt _ _ (by omega)), Nat.testBit_or, Nat.testBit_two_pow, Bool.or_comm]
    congr 1
    rw [Bool.eq_iff_iff]; simp; omega
  · rw [List.getD_eq_getElem?_getD (l := b.set _ _), List.getElem?_set_ne h, ← List.getD_eq_getElem?_getD]
    have : decide (p = q) = false := by simp; intro e; exact h (by rw [e])
    rw [this, Bool.false_or]
@[simp] theorem putBits_length (b key : List UInt8) (n k : Nat) : (putBits b key n k).length = b.length := by
  induction k with
  | zero => rfl
  | succ k ih => simp [putBits, ih]
theorem bitAt_putBits (b key : List UInt8) (n k q : Nat) (hn : 0 < n) (hb : n ≤ b.length) : bitAt (putBits b key n k) q = (((List.range k).any fun i => placeN key (8 * n) i == q) || bitAt b q) := by
  induction k with
  | zero => simp [putBits]
  | succ k ih =>
    have hp := placeN_lt key (8 * n) k (by omega)
    rw [putBits, bitAt_setBit _ _ _ (by rw [putBits_length]; omega), ih, List.range_succ, List.any_append]
    simp only [List.any_cons, List.any_nil, Bool.or_false]
    cases (List.range k).any fun i => placeN key (8 * n) i == q <;> cases bitAt b q <;> simp <;> rfl
@[simp] theorem putKeys_length (b : List UInt8) (n : Nat) (l : List (List UInt8)) : (putKeys b n l).length = b.length := by
  induction l generalizing b with
  | nil => rfl
  | cons k l ih => simp [putKeys, ih]
theorem bitAt_putKeys (b : List UInt8) (n q : Nat) (l : List (List UInt8)) (hn : 0 < n) (hb : n ≤ b.length) : bitAt (putKeys b n l) q = ((l.any fun k => hits k n q) || bitAt b q) := by
  induction l generalizing b with
  | nil => simp [putKeys]
  | cons k l ih =>
    rw [putKeys, ih _ (by simpa using hb), bitAt_putBits _ _ _ _ _ hn hb, List.any_cons]
    show _ = ((hits k n q || _) || _)
    rw [← Bool.or_assoc, Bool.or_comm (l.any _)]
    rfl
theorem putKeys_app (b : List UInt8) (n : Nat) (l m : List (List UInt8)) : putKeys b n (l ++ m) = putKeys (putKeys b n l) n m := by
  induction l generalizing b with
  | nil => rfl
  | cons k l ih => simp only [List.cons_append, putKeys, ih]
theorem setBit_last (b : List UInt8) (p n : Nat) (hp : p < 8 * n) : (setBit b p).getD n 0 = b.getD n 0 := by
  unfold setBit
  rw [List.getD_eq_getElem?_getD, List.getElem?_set_ne (by omega), ← List.getD_eq_getElem?_getD]
theorem putBits_last (b key : List UInt8) (n k : Nat) (hn : 0 < n) : (putBits b key n k).getD n 0 = b.getD n 0 := by
  induction k with
  | zero => rfl
  | succ k ih => rw [putBits, setBit_last _ _ _ (placeN_lt _ _ _ (by omega)), ih]
theorem putKeys_last (b : List UInt8) (n : Nat) (l : List (List UInt8)) (hn : 0 < n) : (putKeys b n l).getD n 0 = b.getD n 0 := by
  induction l generalizing b with
  | nil => rfl
  | cons k l ih => rw [putKeys, ih, putBits_last _ _ _ _ hn]
theorem bloomN_pos (m : Nat) : 8 ≤ bloomN m := by unfold bloomN; omega
theorem zeros_bit (n q : Nat) (h : q < 8 * n) (c : UInt8) : bitAt (List.replicate n 0 ++ [c]) q = false := by
  unfold bitAt
  rw [List.getD_eq_getElem?_getD, List.getElem?_append_left (by simp; omega), List.getElem?_replicate, if_pos (by omega)]
  simp
theorem bloomPut_length (l : List (List UInt8)) : (bloomPut l).length = bloomN l.length + 1 := by simp [bloomPut]
theorem bloomPut_last (l : List (List UInt8)) : (bloomPut l).getD (bloomN l.length) 0 = 6 := by
  unfold bloomPut
  rw [putKeys_last _ _ _ (by have := bloomN_pos l.length; omega), List.getD_eq_getElem?_getD, List.getElem?_append_right (by simp)]
  simp
theorem bitAt_bloomPut (l : List (List UInt8)) (q : Nat) (h : q < 8 * bloomN l.length) : bitAt (bloomPut l) q = l.any fun k => hits k (bloomN l.length) q := by
  unfold bloomPut
  rw [bitAt_putKeys _ _ _ _ (by have := bloomN_pos l.length; omega) (by simp), zeros_bit _ _ h, Bool.or_false]
/-- is told that it may be there, without an error -/
def mayB (b key : List UInt8) : Bool := (bloomMay b key).1 && decide ((bloomMay b key).2 = 0)
theorem mayB_eq {b key : List UInt8} {n : Nat} (hn : 8 ≤ n) (hb : b.length = n + 1) (h6 : b.getD n 0 = 6) : mayB b key = mayAll b key n := by
  have e : bloomMay b key = (mayAll b key n, 0) := by
    unfold bloomMay
    rw [hb, Nat.add_sub_cancel, if_neg]
    rintro (h | h)
    · omega
    · exact h h6
  unfold mayB; rw [e]; simp
theorem mayAll_iff {b key : List UInt8} {n : Nat} : mayAll b key n = true ↔ ∀ i, i < 6 → bitAt b (placeN key (8 * n) i) = true := by
  unfold mayAll
  rw [List.all_eq_true]
  simp
theorem hits_place (key : List UInt8) (n i : Nat) (hi : i < 6) : hits key n (placeN key (8 * n) i) = true := by
  unfold hits
  rw [List.any_eq_true]
  exact ⟨i, by simpa using hi, by simp⟩
/-- more bits set tell no less -/
theorem mayAll_mono {b c key : List UInt8} {n : Nat} (hn : 0 < n) (h : ∀ q, q < 8 * n → bitAt b q = true → bitAt c q = true) (hb : mayAll b key n = true) : mayAll c key n = true := by
  rw [mayAll_iff] at hb ⊢
  exact fun i hi => h _ (placeN_lt _ _ _ (by omega)) (hb i hi)
theorem mayAll_put {l : List (List UInt8)} {key : List UInt8} (h : key ∈ l) : mayAll (bloomPut l) key (bloomN l.length) = true := by
  rw [mayAll_iff]
  intro i hi
  have hN := bloomN_pos l.length
  rw [bitAt_bloomPut _ _ (placeN_lt _ _ _ (by omega)), List.any_eq_true]
  exact ⟨key, h, hits_place _ _ _ hi⟩
theorem mayB_put {l : List (List UInt8)} {key : List UInt8} (h : key ∈ l) : mayB (bloomPut l) key = true := by
  rw [mayB_eq (bloomN_pos l.length) (bloomPut_length l) (bloomPut_last l), mayAll_put h]
/-- bytes are their bits -/
theorem byte_ext {c d : UInt8} (h : ∀ r, r < 8 → c.toNat.testBit r = d.toNat.testBit r) : c = d := by
  apply UInt8.toNat_inj.1
  apply Nat.eq_of_testBit_eq
  intro r
  by_cases hr : r < 8
  · exact h r hr
  · have hp : 2 ^ 8 ≤ 2 ^ r := Nat.pow_le_pow_right (by omega) (by omega)
    rw [Nat.testBit_lt_two_pow (Nat.lt_of_lt_of_le (UInt8.toNat_lt c) hp), Nat.testBit_lt_two_pow (Nat.lt_of_lt_of_le (UInt8.toNat_lt d) hp)]
theorem bits_ext {b c : List UInt8} {n : Nat} (hb : b.length = n + 1) (hc : c.length = n + 1) (hl : b.getD n 0 = c.getD n 0) (h : ∀ q, q < 8 * n → bitAt b q = bitAt c q) : b = c := by
  apply List.ext_getElem (by rw [hb, hc])
  intro j h1 h2
  have eb : b.getD j 0 = b[j] := by rw [List.getD_eq_getElem?_getD, List.getElem?_eq_getElem h1]; rfl
  have ec : c.getD j 0 = c[j] := by rw [List.getD_eq_getElem?_getD, List.getElem?_eq_getElem h2]; rfl
  rw [← eb, ← ec]
  by_cases hj : j = n
  · rw [hj]; exact hl
  · apply byte_ext
    intro r hr
    have := h (8 * j + r) (by omega)
    rw [bitAt_testBit, bitAt_testBit, show (8 * j + r) / 8 = j from by omega, show (8 * j + r) % 8 = r from by omega] at this
    exact this
theorem bloomPut_perm {l m : List (List UInt8)} (hl : l.length = m.length) (h : ∀ f : List UInt8 → Bool, l.any f = m.any f) : bloomPut l = bloomPut m := by
  refine bits_ext (n := bloomN m.length) (by rw [bloomPut_length, hl]) (bloomPut_length m) ?_ ?_
  · rw [bloomPut_last m, ← hl, bloomPut_last l]
  · intro q hq
    rw [bitAt_bloomPut m q hq, bitAt_bloomPut l q (by rw [hl]; exact hq), hl, h]
/-- the bits of one are bits of the other one -/
theorem and_sub {b c : List UInt8} {n : Nat} (hl : b.getD n 0 = c.getD n 0) (h : ∀ q, q < 8 * n → bitAt b q = true → bitAt c q = true) (j : Nat) (hj : j ≤ n) : (b.getD j 0).toNat &&& (c.getD j 0).toNat = (b.getD j 0).toNat := by
  by_cases e : j = n
  · rw [e, hl, Nat.and_self]
  · apply Nat.eq_of_testBit_eq
    intro r
    rw [Nat.testBit_and]
    by_cases hr : r < 8
    · have := h (8 * j + r) (by omega)
      rw [bitAt_testBit, bitAt_testBit, show (8 * j + r) / 8 = j from by omega, show (8 * j + r) % 8 = r from by omega] at this
      cases hbit : (b.getD j 0).toNat.testBit r
      · rfl
      · rw [this hbit]; rfl
    · have hp : 2 ^ 8 ≤ 2 ^ r := Nat.pow_le_pow_right (by omega) (by omega)
      rw [Nat.testBit_lt_two_pow (Nat.lt_of_lt_of_le (UInt8.toNat_lt (b.getD j 0)) hp)]; rfl
/-- bytes, bit by bit or -/
def orL : List UInt8 → List UInt8 → List UInt8
  | [], _ => []
  | b, [] => b
  | x :: b, y :: c => UInt8.ofNat (x.toNat ||| y.toNat) :: orL b c
theorem or_lt (x y : UInt8) : x.toNat ||| y.toNat < 256 := Nat.or_lt_two_pow (n := 8) (UInt8.toNat_lt x) (UInt8.toNat_lt y)
theorem orL_nil (b : List UInt8) : orL b [] = b := by cases b <;> rfl
theorem orL_length (b c : List UInt8) : (orL b c).length = b.length := by
  induction b generalizing c with
  | nil => rfl
  | cons x b ih => cases c with
    | nil => rfl
    | cons y c => simp [orL, ih]
theorem orL_getD (b c : List UInt8) (j : Nat) (hj : j < b.length) : ((orL b c).getD j 0).toNat = (b.getD j 0).toNat ||| (c.getD j 0).toNat := by
  induction b generalizing c j with
  | nil => simp at hj
  | cons x b ih => cases c with
    | nil => simp [orL_nil]
    | cons y c => cases j with
      | zero => simp only [orL, List.getD_cons_zero, UInt8.toNat_ofNat']; exact Nat.mod_eq_of_lt (or_lt x y)
      | succ j => simp only [orL, List.getD_cons_succ]; exact ih c j (by simpa using hj)
theorem bitAt_orL (b c : List UInt8) (q : Nat) (hq : q / 8 < b.length) : bitAt (orL b c) q = (bitAt b q || bitAt c q) := by
  rw [bitAt_testBit, bitAt_testBit, bitAt_testBit, orL_getD b c _ hq, Nat.testBit_or]
/-- how many bits of the first ones are set -/
def cnt (f : Nat → Bool) : Nat → Nat
  | 0 => 0
  | m + 1 => cnt f m + (f m).toNat
theorem cnt_one (f : Nat → Bool) (p m : Nat) : cnt (fun q => decide (p = q) || f q) m ≤ cnt f m + (if p < m then 1 else 0) := by
  induction m with
  | zero => simp [cnt]
  | succ m ih =>
    simp only [cnt]
    by_cases e : p = m
    · subst e
      rw [if_neg (Nat.lt_irrefl p)] at ih
      rw [if_pos (by omega)]
      have : ((decide (p = p) || f p)).toNat ≤ 1 := Bool.toNat_le _
      omega
    · have h1 : decide (p = m) = false := by simpa using e
      rw [h1, Bool.false_or]
      by_cases hlt : p < m
      · rw [if_pos hlt] at ih; rw [if_pos (by omega)]; omega
      · rw [if_neg hlt] at ih; rw [if_neg (by omega)]; omega
theorem cnt_congr {f g : Nat → Bool} {m : Nat} (h : ∀ q, q < m → f q = g q) : cnt f m = cnt g m := by
  induction m with
  | zero => rfl
  | succ m ih => simp only [cnt]; rw [ih fun q hq => h q (by omega), h m (by omega)]
theorem cnt_pos {f : Nat → Bool} {p m : Nat} (hp : p < m) (h : f p = true) : 1 ≤ cnt f m := by
  induction m with
  | zero => omega
  | succ m ih =>
    simp only [cnt]
    by_cases e : p = m
    · subst e; rw [h]; simp
    · have := ih (by omega); omega
theorem cnt_zero {f : Nat → Bool} {m : Nat} (h : ∀ q, q < m → f q = false) : cnt f m = 0 := by
  induction m with
  | zero => rfl
  | succ m ih => simp only [cnt]; rw [ih fun q hq => h q (by omega), h m (by omega)]; rfl
theorem cnt_putBits (b key : List UInt8) (n k : Nat) (hn : 0 < n) (hb : n ≤ b.length) : cnt (bitAt (putBits b key n k)) (8 * n) ≤ cnt (bitAt b) (8 * n) + k := by
  induction k with
  | zero => simp [putBits]
  | succ k ih =>
    have hp := placeN_lt key (8 * n) k (by omega)
    have e : cnt (bitAt (putBits b key n (k + 1))) (8 * n) = cnt (fun q => decide (placeN key (8 * n) k = q) || bitAt (putBits b key n k) q) (8 * n) :=
      cnt_congr fun q _ => by rw [putBits, bitAt_setBit _ _ _ (by rw [putBits_length]; omega)]
    have h1 := cnt_one (bitAt (putBits b key n k)) (placeN key (8 * n) k) (8 * n)
    rw [if_pos hp] at h1
    omega
theorem cnt_one_key (key : List UInt8) : 1 ≤ cnt (bitAt (bloomPut [key])) 64 ∧ cnt (bitAt (bloomPut [key])) 64 ≤ 6 := by
  have h8 : bloomN [key].length = 8 := by simp [bloomN]
  constructor
  · refine cnt_pos (p := placeN key (8 * 8) 0) (placeN_lt _ _ _ (by omega)) ?_
    have hp := placeN_lt key (8 * 8) 0 (by omega)
    have hh := hits_place key 8 0 (by omega)
    generalize placeN key (8 * 8) 0 = p at hp hh ⊢
    rw [bitAt_bloomPut [key] p (by rw [h8]; exact hp), h8]
    simp only [List.any_cons, List.any_nil, Bool.or_false]
    exact hh
  · have h := cnt_putBits (List.replicate 8 0 ++ [6]) key 8 6 (by omega) (by simp)
    have h0 : cnt (bitAt (List.replicate 8 0 ++ [6])) (8 * 8) = 0 := cnt_zero fun q hq => zeros_bit 8 q hq 6
    rw [h0] at h
    have e : bloomPut [key] = putBits (List.replicate 8 0 ++ [6]) key 8 6 := by unfold bloomPut; rw [h8]; simp only [putKeys]
    rw [e]
    generalize putBits (List.replicate 8 0 ++ [6]) key 8 6 = B at h ⊢
    exact Nat.le_trans h (Nat.le_refl 6)
theorem mayAll_zeros (key : List UInt8) (n : Nat) (hn : 0 < n) (c : UInt8) : mayAll (List.replicate n 0 ++ [c]) key n = false := by
  cases h : mayAll (List.replicate n 0 ++ [c]) key n
  · rfl
  · rw [mayAll_iff] at h
    have := h 0 (by omega)
    rw [zeros_bit _ _ (placeN_lt _ _ _ (by omega))] at this
    cases this
end Go.Proofs.YtbcnapkbdbefhaaGreatDoor
namespace Go.Proofs.YtbcnapkbdbefhaaGreatDoor
open Go.RowKit

theorem u8s_set (b : List UInt8) (i : Nat) (c : UInt8) : (u8s b).toArray.setIfInBounds i (.int .u8 c.toNat) = (u8s (b.set i c)).toArray := by
  simp [u8s, List.map_set]
theorem u8s_get (b : List UInt8) (i : Nat) (h : i < b.length) : (u8s b).toArray[i]? = some (.int .u8 b[i].toNat) := by
  simp [u8s, h]

set_option maxRecDepth 100000 in
set_option maxHeartbeats 400000 in
theorem putBit_any (w : World) (g c p : Nat) (cap : Nat) (b : List UInt8) (hg : Blk w g (u8s b).toArray 5) (hc : w.cell? ⟨c, 0, none⟩ = some (.slice (some ⟨g, 0, none⟩) b.length cap)) (hp : p / 8 < b.length) (hp2 : p < 4294967296) (hl : b.length ≤ 268435456) :
    Calls Tryz.prog 143 #[.int .u32 p, .pointer (some ⟨c, 0, none⟩)] w fun e w' => e = .returned (.bool true) ∧ Blk w' g (u8s (setBit b p)).toArray 5 ∧ Only w w' g := by
  have hcell := hg.cellv (p / 8) _ (u8s_get b (p / 8) hp)
  have hfree := hg.free (p / 8)
  have hset := hg.set (p / 8) (.int .u8 (UInt8.ofNat ((b.getD (p / 8) 0).toNat ||| 2 ^ (p % 8))).toNat)
  rw [u8s_set] at hset
  have HS : Hid (Blk (w.setCell ⟨g, p / 8, none⟩ (.int .u8 (UInt8.ofNat ((b.getD (p / 8) 0).toNat ||| 2 ^ (p % 8))).toNat)) g (u8s (setBit b p)).toArray 5) := hset
  have HO := Only.set w g (p / 8) (.int .u8 (UInt8.ofNat ((b.getD (p / 8) 0).toNat ||| 2 ^ (p % 8))).toNat)
  have hgd : b.getD (p / 8) 0 = b[p / 8] := by rw [List.getD_eq_getElem?_getD, List.getElem?_eq_getElem hp]; rfl
  rw [UInt8.toNat_ofNat', Nat.mod_eq_of_lt (or_bit_lt _ _ (by omega)), hgd] at HS HO
  obtain ⟨d, hd⟩ : ∃ d : Nat, d = b[p / 8].toNat := ⟨_, rfl⟩
  rw [← hd] at hcell HS HO
  have hd256 : d < 256 := by rw [hd]; exact UInt8.toNat_lt _
  clear hset hgd hd hg
  have hr8 : p % 8 < 8 := by omega
  have hm256 : 2 ^ (p % 8) < 256 := by show 2 ^ (p % 8) < 2 ^ 8; exact Nat.pow_lt_pow_right (by omega) hr8
  have hsh : IntKind.u8.wrap (2 ^ (p % 8)) = ((2 ^ (p % 8) : Nat) : Int) := by
    rw [show ((2 : Int) ^ (p % 8)) = ((2 ^ (p % 8) : Nat) : Int) from by simp, wrap_u8_in _ hm256]
  have hor := u8_or_nat d (2 ^ (p % 8)) hd256 hm256
  have hql : ((p / 8 : Nat) : Int) < (b.length : Int) := by omega
  generalize hmm : 2 ^ (p % 8) = m at hsh hor HS HO hm256
  go_enter Tryz.func143, Tryz.ntmps143
  rw [IntKind.wrap_u8] at hsh
  go_wp2
  go_ret
  exact ⟨rfl, HS.out, HO⟩

set_option maxRecDepth 100000 in
set_option maxHeartbeats 800000 in
theorem eachPut_any (key : ByteArray) (n g c cap : Nat) (b : List UInt8) (w : World) (hkey : key.size ≤ 1099511627776) (hb : 0 < n) (hb2 : 8 * n < 4294967296) (hn : b.length = n + 1) (hl : b.length ≤ 268435456)
    (hg : Blk w g (u8s b).toArray 5) (hc : Blk w c #[.slice (some ⟨g, 0, none⟩) b.length cap] 22) (hgc : g ≠ c) :
    Calls Tryz.prog 142 #[.string key, .int .u32 ((8 * n : Nat) : Int), .func (.func 143) #[] #[.pointer (some ⟨c, 0, none⟩)]] w fun e w' => e = .returned (.bool true) ∧ Blk w' g (u8s (putBits b key.data.toList n 6)).toArray 5 ∧ Only w w' g := by
  have HC := Lib.hid hc
  have HV := Lib.hid hg
  clear hc hg
  obtain ⟨bits, hbits⟩ : ∃ bits, bits = 8 * n := ⟨_, rfl⟩
  have hbp : 0 < bits := by omega
  have HBN := Lib.hid hbits
  rw [← hbits] at hb2 ⊢
  clear hbits
  go_enter Tryz.func142, Tryz.ntmps142
  go_wp2_with fail
  refine (table_any _).mono ?_
  rintro e w1 ⟨rfl, hb1⟩
  have hst := run_storeCells_new (P := Tryz.prog) w1 210 Tryz.zeroCells210 (tabCells 256) (by rw [tabCells_size]; exact info_tab) (by rw [zero_tab, tabCells_size, tabCells_size]) (tabCells_one _)
  go_wp2_with (with_reducible refine wp_bytes rfl _ rfl key rfl (by omega) ?_; intro vb w2 hown2 hbel2)
  clear hst
  obtain ⟨hn2, hrd⟩ := rd_of_own hown2
  have hb2' : Below w.heap.size w (w1.alloc (.cells (tabCells 256) 210)) := hb1.alloc hb1.size _
  have hb3 : Below w.heap.size w w2 := hb2'.trans (hbel2.mono hb2'.size)
  have ht2 : TabAt w2 w1.heap.size := tab_below (heap_alloc_last w1 _) hbel2
  refine (sumsOf_any _ vb _ _ ht2 hrd).mono ?_
  rintro e w' ⟨rfl, rfl⟩
  have HX := Lib.hid (crcOn_lt 0 key.data.toList)
  clear hn2
  go_wp2_with fail
  have hb4 : Below w.heap.size w (w2.alloc (.cells #[.int .u8 1] 5)) := hb3.alloc hb3.size _
  refine (sumsOn_any _ _ _ [1] _ HX.out (tab_below ht2 ((Below.refl _ _).alloc (Nat.le_refl _) _)) (rd_lit1 _ _)).mono ?_
  rintro e w' ⟨rfl, rfl⟩
  obtain ⟨W, hW⟩ : ∃ W, W = w2.alloc (.cells #[.int .u8 1] 5) := ⟨_, rfl⟩
  rw [← hW] at hb4 ⊢
  clear hW hb3 ht2 hrd hown2 hbel2 hb2' hb1
  obtain ⟨x, hx⟩ : ∃ x, x = crcOn 0 key.data.toList := ⟨_, rfl⟩
  obtain ⟨y, hy⟩ : ∃ y, y = crcOn x [1] := ⟨_, rfl⟩
  have hxl : x < 4294967296 := by rw [hx]; exact crcOn_lt _ _
  have hyl : y < 4294967296 := by rw [hy]; exact crcOn_lt _ _
  have HP : Hid (∀ i, placeN key.data.toList (8 * n) i = (x + i * y) % 4294967296 % bits) := fun i => by rw [hy, hx, HBN.out]; rfl
  rw [← hx, ← hy]
  clear hx hy HX
  replace HC := Lib.hid (HC.out.below hb4)
  replace HV := Lib.hid (HV.out.below hb4)
  have HO : Hid (Only w W g) := Only.of_below hb4
  clear hb4
  go_wp2_with fail
  go_loopw [10, 18] (fun _ c wr => ∃ k : Nat, k ≤ 6 ∧ c = .int .i64 k ∧ Hid (Blk wr g (u8s (putBits b key.data.toList n k)).toArray 5) ∧ Hid (Only W wr g)) (fun _ c _ => (6 - intOf c).toNat)
  case atStart => exact ⟨0, by omega, rfl, HV, Lib.hid (Only.refl _ _)⟩
  case round =>
    obtain ⟨k, hk, rfl, HK, HR⟩ := hrel
    by_cases hlt : k < 6
    · have e : ((x : Int) + (k : Int) * (y : Int)) % 4294967296 % (bits : Int) = (((x + k * y) % 4294967296 % bits : Nat) : Int) := by simp
      have hpl : (x + k * y) % 4294967296 % bits < bits := Nat.mod_lt _ hbp
      have hpe := HP.out k
      obtain ⟨p, hp⟩ : ∃ p, p = (x + k * y) % 4294967296 % bits := ⟨_, rfl⟩
      rw [← hp] at e hpl hpe
      have HE := Lib.hid e
      have HPE := Lib.hid hpe
      have hp8 : p / 8 < b.length := by have := HBN.out; omega
      have hlb := putBits_length b key.data.toList n k
      have HN : Hid (putBits b key.data.toList n (k + 1) = setBit (putBits b key.data.toList n k) p) := by show _ = _; rw [← HPE.out]; rfl
      have hcc := (HC.out.only HR.out (Ne.symm hgc)).cellv 0 _ rfl
      clear e hp hpe
      generalize putBits b key.data.toList n k = B at HK hlb HN
      rw [← hlb] at hcc
      have HCC := Lib.hid hcc
      have HLB := Lib.hid hlb
      clear hcc hlb
      go_wp2_with fail
      rw [HE.out]
      refine (putBit_any _ g c p cap B HK.out HCC.out (by rw [HLB.out]; exact hp8) (by omega) (by rw [HLB.out]; exact hl)).mono ?_
      rintro e w' ⟨rfl, h1, h2⟩
      rw [← HN.out] at h1
      go_wp2
      exact ⟨⟨k + 1, by omega, by go_num, h1, HR.out.trans h2⟩, by simp [intOf]; omega⟩
    · obtain rfl : k = 6 := by omega
      go_wp2
      go_ret
      exact ⟨rfl, HK.out, HO.out.trans HR.out⟩

theorem madeZeros (n : Nat) : madeCells #[Value.int .u8 0] n = (u8s (List.replicate n 0)).toArray := by
  apply Array.ext'
  simp [madeCells, u8s, Nat.mod_one, List.map_const']

set_option maxRecDepth 100000 in
set_option maxHeartbeats 400000 in
theorem whole_any (w : World) (m : Nat) (hm : m ≤ 1099511627776) : Calls Tryz.prog 141 #[.int .i64 m] w fun e w' => e = .returned (.int .i64 (((m + 7) / 8 : Nat) : Int)) ∧ w = w' := by
  go_enter Tryz.func141, Tryz.ntmps141
  go_wp2
  go_ret
  exact ⟨ret_int (by omega), rfl⟩

set_option maxRecDepth 100000 in
set_option maxHeartbeats 1600000 in
theorem bloomsPut_any (w : World) (v : Value) (l : List ByteArray) (hv : RdT w v l) (hl : l.length ≤ 1048576) (hs : ∀ s ∈ l, s.size ≤ 1099511627776) :
    Calls Tryz.prog 79 #[v] w (RetMy (bloomPut (l.map fun s => s.data.toList)) w) := by
  have HV := Lib.hid hv
  have HS := Lib.hid hs
  clear hs
  obtain ⟨va, vc, rfl, h1, h2, h3⟩ := hv
  clear h3
  obtain ⟨vn, hvn⟩ : ∃ n, n = l.length := ⟨_, rfl⟩
  have HVN := Lib.hid hvn
  rw [← hvn] at h1 HV hl ⊢
  clear hvn
  obtain ⟨n, hn⟩ : ∃ n, n = bloomN vn := ⟨_, rfl⟩
  have hn8 : 8 ≤ n := by rw [hn]; exact bloomN_pos vn
  have hnb : n ≤ 1310728 := by rw [hn]; unfold bloomN; omega
  have HN := Lib.hid hn
  have hw64 : 10 * (vn : Int) ≤ 64 → Calls Tryz.prog 141 #[.int .i64 64] w fun e w' => e = .returned (.int .i64 (n : Int)) ∧ w = w' := fun h => by
    have e : n = (64 + 7) / 8 := by rw [hn]; unfold bloomN; omega
    rw [e]; exact whole_any w 64 (by omega)
  have hw10 : 64 < 10 * (vn : Int) → Calls Tryz.prog 141 #[.int .i64 (10 * (vn : Int))] w fun e w' => e = .returned (.int .i64 (n : Int)) ∧ w = w' := fun h => by
    have e : n = (10 * vn + 7) / 8 := by rw [hn]; unfold bloomN; omega
    have := whole_any w (10 * vn) (by omega)
    rw [e]
    simpa using this
  have HW1 := Lib.hid hw64
  have HW2 := Lib.hid hw10
  clear hw64 hw10 hn
  have hwr : IntKind.i64.wrap (10 * (vn : Int)) = 10 * (vn : Int) := IntWalk.i64_in _ (by omega)
  obtain ⟨i0, hi, hz, hz1, hz2⟩ := info_parts info_u8
  have hmk := fun (w : World) => run_make (P := Tryz.prog) w 22 5 i0 (.int .u8 0) Tryz.underlying22 hi hz .i64 .i64 ((n : Int) + 1) ((n : Int) + 1) (by omega) (by omega) (by rw [hz2]; omega) (by omega)
  have e1 : ((n : Int) + 1).toNat = n + 1 := by omega
  rw [e1, hz1, Nat.mul_one] at hmk
  have e2 : madeCells (Value.int IntKind.u8 0).cells (n + 1) = (u8s (List.replicate (n + 1) 0)).toArray := madeZeros _
  rw [e2] at hmk
  clear e1 e2 hi hz hz1 hz2
  go_enter Tryz.func79, Tryz.ntmps79
  go_wp2_with fail
  case' inl h => refine (HW2.out h).mono ?_
  case' inr h => refine (HW1.out h).mono ?_
  all_goals
    rintro e w' ⟨rfl, rfl⟩
    clear HW1 HW2
    obtain ⟨W, hW⟩ : ∃ W, W = (w.alloc (.cells (u8s (List.replicate (n + 1) 0)).toArray 5)).alloc (.cells #[.slice (some ⟨w.heap.size, 0, none⟩) (n + 1) (n + 1)] 22) := ⟨_, rfl⟩
    have hg : Blk W w.heap.size (u8s (List.replicate (n + 1) 0)).toArray 5 := by rw [hW]; exact (Blk.new _ _ _).alloc _
    have hc : Blk W (w.heap.size + 1) #[.slice (some ⟨w.heap.size, 0, none⟩) (n + 1) (n + 1)] 22 := by rw [hW]; exact Blk.new_at _ _ _ _ (by simp)
    have hbel : Below w.heap.size w W := by rw [hW]; exact ((Below.refl _ _).alloc (Nat.le_refl _) _).alloc (by simp) _
    go_upto_region 3 with (fail)
    rw [← hW]
    clear hW hmk hwr
    generalize hgc : w.heap.size + 1 = c at hg hc ⊢
    generalize hgg : w.heap.size = g at hg hc ⊢
    have hne : g ≠ c := by omega
    have c0 := hc.cellv 0 _ rfl
    have z0 := hg.cellv n (.int .u8 0) (by simp [u8s])
    have f0 := hg.free n
    have hg2 := hg.set n (.int .u8 6)
    have e6 : (u8s (List.replicate (n + 1) 0)).toArray.setIfInBounds n (.int .u8 6) = (u8s (List.replicate n 0 ++ [6])).toArray := by
      have := u8s_set (List.replicate (n + 1) 0) n 6
      rw [show ((6 : UInt8).toNat : Int) = 6 from rfl] at this
      rw [this, List.replicate_succ', List.set_append_right _ _ (by simp)]
      simp
    rw [e6] at hg2
    have hc2 := hc.set_other ⟨g, n, none⟩ hne (.int .u8 6)
    have hb2 : Below w.heap.size w (W.setCell ⟨g, n, none⟩ (.int .u8 6)) := hbel.setCell (p := ⟨g, n, none⟩) (by show w.heap.size ≤ g; omega) _
    go_upto_region 4 with (fail)
    clear c0 z0 f0 e6 hbel hg hc
    generalize W.setCell ⟨g, n, none⟩ (.int .u8 6) = W2 at hg2 hc2 hb2 ⊢
    have hgb : w.heap.size ≤ g := by omega
    have hsz : w.heap.size ≤ W2.heap.size := hb2.size
    clear h
    go_wp2_with fail
    go_loopw [6, 20] (fun _ i wr => ∃ k : Nat, k ≤ vn ∧ i = .int .i64 k ∧ Hid (Blk wr g (u8s (putKeys (List.replicate n 0 ++ [6]) n ((l.take k).map fun s => s.data.toList))).toArray 5) ∧ Hid (Only W2 wr g)) (fun _ i _ => vn - (intOf i).toNat)
    case atStart => exact ⟨0, Nat.zero_le _, rfl, hg2, Lib.hid (Only.refl _ _)⟩
    case round =>
      obtain ⟨k, hk, rfl, HK, HR⟩ := hrel
      by_cases hlt : k < vn
      · have hkl : k < l.length := by rw [← HVN.out]; exact hlt
        obtain ⟨a', c', hve, _, _, hcell⟩ := HV.out.below (Only.below hb2 HR.out hgb hsz)
        obtain ⟨b, off, hae, x0⟩ := hcell k hkl
        cases hve
        subst hae
        clear hcell
        have hks := HS.out _ (List.getElem_mem (l := l) (n := k) hkl)
        have htk : (l.take (k + 1)).map (fun s => s.data.toList) = (l.take k).map (fun s => s.data.toList) ++ [l[k].data.toList] := by rw [List.take_succ_eq_append_getElem hkl, List.map_append]; rfl
        have HN2 : Hid (putKeys (List.replicate n 0 ++ [6]) n ((l.take (k + 1)).map fun s => s.data.toList) = putBits (putKeys (List.replicate n 0 ++ [6]) n ((l.take k).map fun s => s.data.toList)) l[k].data.toList n 6) := by
          show _ = _
          rw [htk, putKeys_app]; rfl
        have hlb : (putKeys (List.replicate n 0 ++ [6]) n ((l.take k).map fun s => s.data.toList)).length = n + 1 := by simp
        generalize putKeys (List.replicate n 0 ++ [6]) n ((l.take k).map fun s => s.data.toList) = B at HK HN2 hlb
        obtain ⟨x, hx⟩ : ∃ x, x = l[k] := ⟨_, rfl⟩
        rw [← hx] at x0 hks HN2
        clear hx htk
        have hcc := hc2.only HR.out (Ne.symm hne)
        rw [← hlb] at hcc
        have HCC := Lib.hid hcc
        have HLB := Lib.hid hlb
        clear hcc hlb
        go_wp2_with fail
        refine (eachPut_any x n g c _ B _ hks (by omega) (by omega) HLB.out (by rw [HLB.out]; omega) HK.out HCC.out hne).mono ?_
        rintro e w' ⟨rfl, h1, h2⟩
        rw [← HN2.out] at h1
        go_wp2
        exact ⟨⟨k + 1, by omega, by go_num, h1, HR.out.trans h2⟩, by simp [intOf]; omega⟩
      · have hkn : k = vn := by omega
        subst hkn
        have e : l.take k = l := List.take_of_length_le (by rw [← HVN.out]; exact Nat.le_refl _)
        rw [e] at HK
        have HB : Hid (putKeys (List.replicate n 0 ++ [6]) n (l.map fun s => s.data.toList) = bloomPut (l.map fun s => s.data.toList)) := by
          show _ = _
          unfold bloomPut
          rw [List.length_map, ← HVN.out, ← HN.out]
        rw [HB.out] at HK
        have c0 := (hc2.only HR.out (Ne.symm hne)).cellv 0 _ rfl
        have HL : Hid ((bloomPut (l.map fun s => s.data.toList)).length = n + 1) := by
          show _ = _
          rw [← HB.out]; simp
        have hbf := Only.below hb2 HR.out hgb hsz
        have HF := Lib.hid hbf
        clear hbf
        go_wp2
        go_ret
        refine ⟨_, n + 1, n + 1, rfl, HL.out.symm, .inr ⟨by rw [u8s_length, HL.out]; omega, g, n + 1, _, (0, 0), rfl, hgb, HK.out, fun _ _ h => by omega, Nat.le_refl _, by unfold maxLen; omega, by simp [u8s, HL.out], ?_⟩, HF.out⟩
        rw [List.take_of_length_le (by simp [u8s, HL.out])]
end Go.Proofs.YtbcnapkbdbefhaaGreatDoor

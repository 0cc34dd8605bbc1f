/- Walks: Check, the comparisons of keys, numbers and flags, and Cmp of marks, of package order and of its reference. No condition. -/
import Derived.Test.YtbcnapkbdbefhaaGreatDoorMem
import Derived.Lib.Strings
namespace Go.Proofs.YtbcnapkbdbefhaaGreatDoor
open Go.RowKit

/-- does one text stand ahead of another one? -/
def ltB : List UInt8 → List UInt8 → Bool
  | [], [] => false
  | [], _ :: _ => true
  | _ :: _, [] => false
  | a :: l, b :: m => if a.toNat < b.toNat then true else if b.toNat < a.toNat then false else ltB l m
theorem ltB_less : ∀ (l m : List UInt8), Op.bytesLess l m = ltB l m := by
  intro l
  induction l with
  | nil => intro m; cases m <;> simp [Op.bytesLess, ltB]
  | cons a l ih =>
    intro m
    cases m with
    | nil => simp [Op.bytesLess, ltB]
    | cons b m =>
      simp only [Op.bytesLess, ltB, ih]
      by_cases h : a.toNat < b.toNat
      · simp [UInt8.lt_iff_toNat_lt, h]
      · by_cases h2 : b.toNat < a.toNat
        · have : ¬ a = b := fun e => by subst e; omega
          simp [UInt8.lt_iff_toNat_lt, h, h2, this]
        · have : a = b := UInt8.toNat_inj.1 (by omega)
          subst this
          simp
theorem ltB_self (l : List UInt8) : ltB l l = false := by
  induction l with
  | nil => rfl
  | cons a l ih => simp [ltB, ih]
theorem ltB_asymm : ∀ (l m : List UInt8), ltB l m = true → ltB m l = false := by
  intro l
  induction l with
  | nil => intro m; cases m <;> simp [ltB]
  | cons a l ih =>
    intro m
    cases m with
    | nil => simp [ltB]
    | cons b m =>
      simp only [ltB]
      split
      · intro _; rw [if_neg (by omega)]
      · split
        · intro h; cases h
        · intro h; exact ih m h
theorem ltB_total : ∀ (l m : List UInt8), ltB l m = false → ltB m l = false → l = m := by
  intro l
  induction l with
  | nil => intro m; cases m <;> simp [ltB]
  | cons a l ih =>
    intro m
    cases m with
    | nil => simp [ltB]
    | cons b m =>
      simp only [ltB]
      split
      · intro h; cases h
      · split
        · intro _ h; cases h
        · intro h1 h2
          rw [ih m h1 h2, UInt8.toNat_inj.1 (by omega : a.toNat = b.toNat)]
def cmpS (l m : List UInt8) : Int := if ltB l m then -1 else if ltB m l then 1 else 0
def cmpN (a b : Nat) : Int := if a < b then -1 else if b < a then 1 else 0
def flagN (g : Bool) : Nat := if g then 1 else 0
def cmpM (k1 : List UInt8) (s1 : Nat) (g1 : Bool) (k2 : List UInt8) (s2 : Nat) (g2 : Bool) : Int :=
  if cmpS k1 k2 ≠ 0 then cmpS k1 k2 else if cmpN s2 s1 ≠ 0 then cmpN s2 s1 else cmpN (flagN g2) (flagN g1)

theorem less_str (a b : ByteArray) : Op.bytesLess a.toList b.toList = ltB a.data.toList b.data.toList := by rw [Lib.toList_data, Lib.toList_data, ltB_less]
theorem cmpS_lt {l m : List UInt8} (h : ltB l m = true) : cmpS l m = -1 := by simp [cmpS, h]
theorem cmpS_gt {l m : List UInt8} (h : ltB l m = false) (h2 : l ≠ m) : cmpS l m = 1 := by
  have : ltB m l = true := by
    cases h3 : ltB m l
    · exact absurd (ltB_total l m h h3) h2
    · rfl
  simp [cmpS, h, this]
theorem cmpS_self (l : List UInt8) : cmpS l l = 0 := by simp [cmpS, ltB_self]
theorem cmpS_eq {l m : List UInt8} (h : cmpS l m = 0) : l = m := by
  unfold cmpS at h
  split at h
  · cases h
  · split at h
    · cases h
    · exact ltB_total l m (by simp_all) (by simp_all)

set_option maxRecDepth 100000 in
theorem cmpString_any (a b : ByteArray) (w : World) : Calls Tryz.prog 154 #[.string a, .string b] w fun e w' => e = .returned (.int .i64 (cmpS a.data.toList b.data.toList)) ∧ w = w' := by
  have HL := Lib.hid (less_str a b)
  have HE : Hid ((a.toList == b.toList) = decide (a.data.toList = b.data.toList)) := by
    show _ = _
    rw [Lib.toList_data, Lib.toList_data, Bool.eq_iff_iff]; simp
  by_cases h1 : ltB a.data.toList b.data.toList = true
  · have hb : Op.bytesLess a.toList b.toList = true := by rw [HL.out, h1]
    have HC := Lib.hid (cmpS_lt h1)
    clear h1
    go_enter Tryz.func154, Tryz.ntmps154
    go_wp2
    go_ret
    exact ⟨ret_int (by rw [HC.out]), rfl⟩
  · have h1' : ltB a.data.toList b.data.toList = false := by simpa using h1
    have hb : Op.bytesLess a.toList b.toList = false := by rw [HL.out, h1']
    by_cases h2 : a.data.toList = b.data.toList
    · have hb2 : (a.toList == b.toList) = true := by rw [HE.out]; simp [h2]
      have HC : Hid (cmpS a.data.toList b.data.toList = 0) := by show _ = _; rw [h2]; exact cmpS_self _
      clear h1 h1' h2
      go_enter Tryz.func154, Tryz.ntmps154
      go_wp2
      go_ret
      exact ⟨ret_int (by rw [HC.out]), rfl⟩
    · have hb2 : (a.toList == b.toList) = false := by rw [HE.out]; simp [h2]
      have HC := Lib.hid (cmpS_gt h1' h2)
      clear h1 h1' h2
      go_enter Tryz.func154, Tryz.ntmps154
      go_wp2
      go_ret
      exact ⟨ret_int (by rw [HC.out]), rfl⟩
set_option maxRecDepth 100000 in
theorem cmpU64_any (a b : Nat) (w : World) : Calls Tryz.prog 156 #[.int .u64 a, .int .u64 b] w fun e w' => e = .returned (.int .i64 (cmpN a b)) ∧ w = w' := by
  rcases Nat.lt_trichotomy a b with h | h | h
  · have HC : Hid (cmpN a b = -1) := by show _ = _; simp [cmpN, h]
    go_enter Tryz.func156, Tryz.ntmps156
    go_wp2
    go_ret
    exact ⟨ret_int (by rw [HC.out]), rfl⟩
  · subst h
    have HC : Hid (cmpN a a = 0) := by show _ = _; simp [cmpN]
    go_enter Tryz.func156, Tryz.ntmps156
    go_wp2
    go_ret
    exact ⟨ret_int (by rw [HC.out]), rfl⟩
  · have HC : Hid (cmpN a b = 1) := by show _ = _; simp [cmpN, h]; omega
    go_enter Tryz.func156, Tryz.ntmps156
    go_wp2
    go_ret
    exact ⟨ret_int (by rw [HC.out]), rfl⟩
set_option maxRecDepth 100000 in
theorem cmpU8_any (a b : Nat) (w : World) : Calls Tryz.prog 158 #[.int .u8 a, .int .u8 b] w fun e w' => e = .returned (.int .i64 (cmpN a b)) ∧ w = w' := by
  rcases Nat.lt_trichotomy a b with h | h | h
  · have HC : Hid (cmpN a b = -1) := by show _ = _; simp [cmpN, h]
    go_enter Tryz.func158, Tryz.ntmps158
    go_wp2
    go_ret
    exact ⟨ret_int (by rw [HC.out]), rfl⟩
  · subst h
    have HC : Hid (cmpN a a = 0) := by show _ = _; simp [cmpN]
    go_enter Tryz.func158, Tryz.ntmps158
    go_wp2
    go_ret
    exact ⟨ret_int (by rw [HC.out]), rfl⟩
  · have HC : Hid (cmpN a b = 1) := by show _ = _; simp [cmpN, h]; omega
    go_enter Tryz.func158, Tryz.ntmps158
    go_wp2
    go_ret
    exact ⟨ret_int (by rw [HC.out]), rfl⟩
set_option maxRecDepth 100000 in
theorem flag_any (g : Bool) (w : World) : Calls Tryz.prog 159 #[.bool g] w fun e w' => e = .returned (.int .u8 (flagN g)) ∧ w = w' := by
  cases g
  · go_enter Tryz.func159, Tryz.ntmps159
    go_wp2
    go_ret
    exact ⟨rfl, rfl⟩
  · go_enter Tryz.func159, Tryz.ntmps159
    go_wp2
    go_ret
    exact ⟨rfl, rfl⟩
def checkK (l : List UInt8) : Bool := decide (1 ≤ l.length ∧ l.length ≤ 32)
theorem size_data (s : ByteArray) : s.data.toList.length = s.size := by rw [Array.length_toList]; rfl
set_option maxRecDepth 100000 in
theorem check_any (s : ByteArray) (w : World) : Calls Tryz.prog 126 #[.string s] w fun e w' => e = .returned (.bool (checkK s.data.toList)) ∧ w = w' := by
  have hs := size_data s
  by_cases h0 : s.data.toList = []
  · have hb : (s.toList == []) = true := by rw [Lib.toList_data, h0]; rfl
    have hb2 : s.toList.isEmpty = true := by rw [Lib.toList_data, h0]; rfl
    have HC : Hid (checkK s.data.toList = false) := by show _ = _; rw [h0]; rfl
    clear hs h0
    go_enter Tryz.func126, Tryz.ntmps126
    go_wp2
    go_ret
    exact ⟨ret_bool (by rw [HC.out]), rfl⟩
  · have hb2 : s.toList.isEmpty = false := by rw [Lib.toList_data]; simpa using h0
    have hb3 : ¬ s.toList = [] := by rw [Lib.toList_data]; exact h0
    have hp : 0 < s.data.toList.length := List.length_pos_iff.2 h0
    have HC : Hid (checkK s.data.toList = decide ((s.size : Int) ≤ 32)) := by
      show _ = _; unfold checkK; rw [hs, Bool.eq_iff_iff]; simp; omega
    clear hs h0 hp
    go_enter Tryz.func126, Tryz.ntmps126
    go_wp2
    go_ret
    exact ⟨ret_bool (by rw [HC.out]), rfl⟩
set_option maxRecDepth 100000 in
theorem refCheck_any (s : ByteArray) (w : World) : Calls Tryz.prog 168 #[.string s] w fun e w' => e = .returned (.bool (checkK s.data.toList)) ∧ w = w' := by
  have hs := size_data s
  by_cases h0 : 1 ≤ s.size
  · have HC : Hid (checkK s.data.toList = decide ((s.size : Int) ≤ 32)) := by
      show _ = _; unfold checkK; rw [hs, Bool.eq_iff_iff]; simp; omega
    clear hs
    go_enter Tryz.func168, Tryz.ntmps168
    go_wp2
    go_ret
    exact ⟨ret_bool (by rw [HC.out]), rfl⟩
  · have HC : Hid (checkK s.data.toList = false) := by
      show _ = _; unfold checkK; rw [hs]; simp; omega
    clear hs
    go_enter Tryz.func168, Tryz.ntmps168
    go_wp2
    go_ret
    exact ⟨ret_bool (by rw [HC.out]), rfl⟩
end Go.Proofs.YtbcnapkbdbefhaaGreatDoor

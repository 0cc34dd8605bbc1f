import Derived.Test.YtbcnapkbdbefhaaGreatDoorOrder2
import Derived.Test.YtbcnapkbdbefhaaGreatDoorHelp1
namespace Go.Proofs.YtbcnapkbdbefhaaGreatDoor
open Go.RowKit
theorem drewN_two (w : World) (a b : Nat) : ∃ m, (w.drewN a).drewN b = w.drewN m := ⟨_, World.drewN_drewN _ _ _⟩
theorem drewN_three (w : World) (a b c : Nat) : ∃ m, ((w.drewN a).drewN b).drewN c = w.drewN m := ⟨_, by rw [World.drewN_drewN, World.drewN_drewN]⟩
theorem ltB_drop_lt {l m : List UInt8} {k : Nat} (hl : k < l.length) (hm : k < m.length) (h : l[k].toNat < m[k].toNat) : ltB (l.drop k) (m.drop k) = true := by
  rw [List.drop_eq_getElem_cons hl, List.drop_eq_getElem_cons hm]; simp [ltB, h]
theorem ltB_drop_gt {l m : List UInt8} {k : Nat} (hl : k < l.length) (hm : k < m.length) (h : m[k].toNat < l[k].toNat) : ltB (l.drop k) (m.drop k) = false := by
  rw [List.drop_eq_getElem_cons hl, List.drop_eq_getElem_cons hm]; simp only [ltB]; rw [if_neg (by omega), if_pos h]
theorem ltB_drop_eq {l m : List UInt8} {k : Nat} (hl : k < l.length) (hm : k < m.length) (h : l[k].toNat = m[k].toNat) : ltB (l.drop k) (m.drop k) = ltB (l.drop (k + 1)) (m.drop (k + 1)) := by
  rw [List.drop_eq_getElem_cons hl, List.drop_eq_getElem_cons hm]; simp only [ltB]; rw [if_neg (by omega), if_neg (by omega)]
theorem ltB_drop_end {l m : List UInt8} {k : Nat} (hk : k ≤ l.length) (hm : k ≤ m.length) (h : ¬ (k < l.length ∧ k < m.length)) : ltB (l.drop k) (m.drop k) = decide (l.length < m.length) := by
  by_cases h1 : k < l.length
  · have h2 : m.drop k = [] := List.drop_of_length_le (by omega)
    rw [h2, List.drop_eq_getElem_cons h1]; simp [ltB]; omega
  · have h2 : l.drop k = [] := List.drop_of_length_le (by omega)
    rw [h2]
    by_cases h3 : k < m.length
    · rw [List.drop_eq_getElem_cons h3]; simp [ltB]; omega
    · have h4 : m.drop k = [] := List.drop_of_length_le (by omega)
      rw [h4]; simp [ltB]; omega
theorem str_get (s : ByteArray) (k : Nat) (h : k < s.size) : s[k] = s.data.toList[k]'(by rw [size_data]; exact h) := rfl

set_option maxRecDepth 100000 in
set_option maxHeartbeats 1000000 in
theorem refLess_any (a b : ByteArray) (w : World) (ha : a.size ≤ 9223372036854775807) : Calls Tryz.prog 161 #[.string a, .string b] w (RetQ (.bool (ltB a.data.toList b.data.toList)) w) := by
  have hsa := size_data a
  have hsb := size_data b
  have HA := Lib.hid hsa
  have HB := Lib.hid hsb
  clear hsa hsb
  go_enter Tryz.func161, Tryz.ntmps161
  go_wp2
  go_loopw [5] (fun i wr => ∃ k : Nat, k ≤ a.size ∧ k ≤ b.size ∧ i = .int .i64 k ∧ Hid (ltB a.data.toList b.data.toList = ltB (a.data.toList.drop k) (b.data.toList.drop k)) ∧ ∃ n, wr = w.drewN n) (fun i _ => a.size - (intOf i).toNat)
  case atStart => exact ⟨0, Nat.zero_le _, Nat.zero_le _, rfl, rfl, 0, rfl⟩
  case round =>
    obtain ⟨k, hk1, hk2, rfl, HP, n, rfl⟩ := hrel
    by_cases hlt : k < a.size ∧ k < b.size
    · obtain ⟨h1, h2⟩ := hlt
      have g1 : k < a.data.toList.length := by rw [HA.out]; exact h1
      have g2 : k < b.data.toList.length := by rw [HB.out]; exact h2
      have e1 := str_get a k h1
      have e2 := str_get b k h2
      rcases Nat.lt_trichotomy (a[k].toNat) (b[k].toNat) with h | h | h
      · have HR : Hid (ltB a.data.toList b.data.toList = true) := HP.out.trans (ltB_drop_lt g1 g2 h)
        have hne : ((a[k].toNat : Int) != (b[k].toNat : Int)) = true := by simp; omega
        have hl : ((a[k].toNat : Int) < (b[k].toNat : Int)) := by omega
        clear e1 e2 h
        go_wp2
        go_quiet (fail)
        go_wp2
        go_quiet (fail)
        go_wp2
        go_ret
        exact ⟨ret_bool (by rw [HR.out] <;> (simp; omega)), drewN_three _ _ _ _⟩
      · have HR : Hid (ltB a.data.toList b.data.toList = ltB (a.data.toList.drop (k + 1)) (b.data.toList.drop (k + 1))) := HP.out.trans (ltB_drop_eq g1 g2 h)
        have hne : ((a[k].toNat : Int) != (b[k].toNat : Int)) = false := by simp; omega
        clear e1 e2 h
        go_wp2
        go_quiet (fail)
        go_wp2
        go_roundw
        case rel => exact ⟨k + 1, by omega, by omega, by go_num, HR, n + nq, rfl⟩
        case measure => simp [intOf]; omega
      · have HR : Hid (ltB a.data.toList b.data.toList = false) := HP.out.trans (ltB_drop_gt g1 g2 h)
        have hne : ((a[k].toNat : Int) != (b[k].toNat : Int)) = true := by simp; omega
        have hl : ¬ ((a[k].toNat : Int) < (b[k].toNat : Int)) := by omega
        clear e1 e2 h
        go_wp2
        go_quiet (fail)
        go_wp2
        go_quiet (fail)
        go_wp2
        go_ret
        exact ⟨ret_bool (by rw [HR.out] <;> (simp; omega)), drewN_three _ _ _ _⟩
    · have HR : Hid (ltB a.data.toList b.data.toList = decide (a.size < b.size)) := HP.out.trans (by rw [ltB_drop_end (by rw [HA.out]; omega) (by rw [HB.out]; omega) (by rw [HA.out, HB.out]; exact hlt), HA.out, HB.out])
      rcases (by omega : (k < a.size ∧ b.size ≤ k) ∨ a.size ≤ k) with ⟨q1, q2⟩ | q1
      · clear hlt
        go_wp2
        go_ret
        exact ⟨ret_bool (by rw [HR.out]), n, rfl⟩
      · clear hlt
        go_wp2
        go_ret
        exact ⟨ret_bool (by rw [HR.out]), n, rfl⟩
theorem cell_first2 (w : World) (A : Array Value) (t : TypeId) (B : Obj) (j : Nat) (x : Value) (h : A[j]? = some x) : ((w.alloc (.cells A t)).alloc B).cell? ⟨w.heap.size, j, none⟩ = some x := by
  rw [World.cell?_alloc_past _ _ _ (by simp), World.cell?_alloc_at _ _ _ _ rfl, h]
theorem cell_second2 (w : World) (A : Obj) (B : Array Value) (t : TypeId) (j : Nat) (x : Value) (h : B[j]? = some x) : ((w.alloc A).alloc (.cells B t)).cell? ⟨w.heap.size + 1, j, none⟩ = some x := by
  rw [World.cell?_alloc_at _ _ _ _ (by simp), h]
theorem cmpM_lt {k1 k2 : List UInt8} (s1 s2 : Nat) (g1 g2 : Bool) (h : ltB k1 k2 = true) : cmpM k1 s1 g1 k2 s2 g2 = -1 := by simp [cmpM, cmpS, h]
theorem cmpM_gt {k1 k2 : List UInt8} (s1 s2 : Nat) (g1 g2 : Bool) (h : ltB k1 k2 = false) (h2 : ltB k2 k1 = true) : cmpM k1 s1 g1 k2 s2 g2 = 1 := by simp [cmpM, cmpS, h, h2]
theorem cmpM_same {k1 k2 : List UInt8} (s1 s2 : Nat) (g1 g2 : Bool) (h : ltB k1 k2 = false) (h2 : ltB k2 k1 = false) : cmpM k1 s1 g1 k2 s2 g2 = if s2 < s1 then -1 else if s1 < s2 then 1 else if g1 = g2 then 0 else if g1 then -1 else 1 := by
  simp only [cmpM, cmpS, h, h2, cmpN]
  by_cases a : s2 < s1
  · simp [a]
  · by_cases b : s1 < s2
    · simp [a, b]
    · cases g1 <;> cases g2 <;> simp [a, b, flagN]

set_option maxRecDepth 100000 in
set_option maxHeartbeats 1000000 in
theorem refCmp_any (k1 k2 : ByteArray) (s1 s2 : Nat) (g1 g2 : Bool) (w : World) (h1 : k1.size ≤ 9223372036854775807) (h2 : k2.size ≤ 9223372036854775807) :
    Calls Tryz.prog 99 #[.agg #[.string k1, .int .u64 s1, .bool g1], .agg #[.string k2, .int .u64 s2, .bool g2]] w (RetCmp (cmpM k1.data.toList s1 g1 k2.data.toList s2 g2) w) := by
  have HL := Lib.hid (fun w' => refLess_any k1 k2 w' h1)
  have HG := Lib.hid (fun w' => refLess_any k2 k1 w' h2)
  have hbel : ∀ (A B : Obj) (n : Nat), Below w.heap.size w (((w.alloc A).alloc B).drewN n) := fun A B n => (below2' _ _ _).trans ((drewN_below _ _).mono (by simp; omega))
  have HBE := Lib.hid hbel
  clear hbel
  cases hl : ltB k1.data.toList k2.data.toList
  · cases hg : ltB k2.data.toList k1.data.toList
    · have HM := Lib.hid (cmpM_same s1 s2 g1 g2 hl hg)
      rw [hl] at HL
      rw [hg] at HG
      clear hl hg
      rcases Nat.lt_trichotomy s2 s1 with hs | hs | hs
      · have HR : Hid (cmpM k1.data.toList s1 g1 k2.data.toList s2 g2 = -1) := HM.out.trans (by rw [if_pos hs])
        go_enter Tryz.func99, Tryz.ntmps99
        go_wp2_with fail
        refine (HL.out _).mono ?_
        rintro e w' ⟨rfl, n, rfl⟩
        go_wp2_with fail
        refine (HG.out _).mono ?_
        rintro e w' ⟨rfl, n2, rfl⟩
        go_wp2
        go_ret
        exact ⟨ret_int HR.out.symm, HBE.out _ _ _⟩
      · subst hs
        cases g1 <;> cases g2
        all_goals
          have HR := Lib.hid (HM.out)
          simp only [Nat.lt_irrefl, if_false] at HR
          clear HM
          go_enter Tryz.func99, Tryz.ntmps99
          go_wp2_with fail
          refine (HL.out _).mono ?_
          rintro e w' ⟨rfl, n, rfl⟩
          go_wp2_with fail
          refine (HG.out _).mono ?_
          rintro e w' ⟨rfl, n2, rfl⟩
          go_wp2
          go_ret
          exact ⟨ret_int (by rw [HR.out]; rfl), HBE.out _ _ _⟩
      · have HR : Hid (cmpM k1.data.toList s1 g1 k2.data.toList s2 g2 = 1) := HM.out.trans (by rw [if_neg (by omega), if_pos hs])
        go_enter Tryz.func99, Tryz.ntmps99
        go_wp2_with fail
        refine (HL.out _).mono ?_
        rintro e w' ⟨rfl, n, rfl⟩
        go_wp2_with fail
        refine (HG.out _).mono ?_
        rintro e w' ⟨rfl, n2, rfl⟩
        go_wp2
        go_ret
        exact ⟨ret_int HR.out.symm, HBE.out _ _ _⟩
    · have HR := Lib.hid (cmpM_gt s1 s2 g1 g2 hl hg)
      rw [hl] at HL
      rw [hg] at HG
      clear hl hg
      go_enter Tryz.func99, Tryz.ntmps99
      go_wp2_with fail
      refine (HL.out _).mono ?_
      rintro e w' ⟨rfl, n, rfl⟩
      go_wp2_with fail
      refine (HG.out _).mono ?_
      rintro e w' ⟨rfl, n2, rfl⟩
      go_wp2
      go_ret
      exact ⟨ret_int HR.out.symm, HBE.out _ _ _⟩
  · have HR := Lib.hid (cmpM_lt s1 s2 g1 g2 hl)
    rw [hl] at HL
    clear hl
    go_enter Tryz.func99, Tryz.ntmps99
    go_wp2_with fail
    refine (HL.out _).mono ?_
    rintro e w' ⟨rfl, n, rfl⟩
    go_wp2
    go_ret
    exact ⟨ret_int HR.out.symm, HBE.out _ _ _⟩
end Go.Proofs.YtbcnapkbdbefhaaGreatDoor

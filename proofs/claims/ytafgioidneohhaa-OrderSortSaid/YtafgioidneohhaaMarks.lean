/- Marks in a row, plain facts on how marks stand, and law04.great. The condition: at most 64 marks, keys of at most 2^47 bytes. -/
import Derived.Test.YtafgioidneohhaaMore
import Derived.Test.YtafgioidneohhaaOrder2
import Derived.Test.YtafgioidneohhaaHelp1
namespace Go.Proofs.Ytafgioidneohhaa
open Go.RowKit

theorem ltB_trans : ∀ (l m k : List UInt8), ltB l m = true → ltB m k = true → ltB l k = true := by
  intro l
  induction l with
  | nil =>
    intro m k h1 h2
    cases k with
    | nil => cases m <;> simp [ltB] at h2
    | cons c k => rfl
  | cons a l ih =>
    intro m k h1 h2
    cases m with
    | nil => simp [ltB] at h1
    | cons b m =>
      cases k with
      | nil => simp [ltB] at h2
      | cons c k =>
        simp only [ltB] at h1 h2 ⊢
        by_cases hab : a.toNat < b.toNat
        · by_cases hbc : b.toNat < c.toNat
          · rw [if_pos (by omega)]
          · rw [if_neg hbc] at h2
            by_cases hcb : c.toNat < b.toNat
            · rw [if_pos hcb] at h2; cases h2
            · rw [if_pos (by omega)]
        · rw [if_neg hab] at h1
          by_cases hba : b.toNat < a.toNat
          · rw [if_pos hba] at h1; cases h1
          · rw [if_neg hba] at h1
            by_cases hbc : b.toNat < c.toNat
            · rw [if_pos (by omega)]
            · rw [if_neg hbc] at h2
              by_cases hcb : c.toNat < b.toNat
              · rw [if_pos hcb] at h2; cases h2
              · rw [if_neg hcb] at h2
                rw [if_neg (by omega), if_neg (by omega)]
                exact ih m k h1 h2
theorem cmpS_neg (l m : List UInt8) : cmpS m l = - cmpS l m := by
  unfold cmpS
  cases h1 : ltB l m
  · cases h2 : ltB m l <;> simp
  · rw [ltB_asymm l m h1]; simp
theorem cmpN_neg (a b : Nat) : cmpN b a = - cmpN a b := by
  unfold cmpN
  repeat' split
  all_goals omega
theorem cmpN_eq {a b : Nat} (h : cmpN a b = 0) : a = b := by
  unfold cmpN at h
  repeat' split at h
  all_goals omega
theorem cmpS_rng (l m : List UInt8) : cmpS l m = -1 ∨ cmpS l m = 0 ∨ cmpS l m = 1 := by
  unfold cmpS
  repeat' split
  all_goals simp
theorem cmpN_rng (a b : Nat) : cmpN a b = -1 ∨ cmpN a b = 0 ∨ cmpN a b = 1 := by
  unfold cmpN
  repeat' split
  all_goals simp
theorem cmpS_tr (l m k : List UInt8) (h1 : cmpS l m ≤ 0) (h2 : cmpS m k ≤ 0) : cmpS l k ≤ 0 ∧ (cmpS l k = 0 ↔ cmpS l m = 0 ∧ cmpS m k = 0) := by
  by_cases e1 : cmpS l m = 0
  · obtain rfl := cmpS_eq e1
    exact ⟨h2, by simp [cmpS_self]⟩
  · by_cases e2 : cmpS m k = 0
    · obtain rfl := cmpS_eq e2
      exact ⟨h1, by simp [cmpS_self]⟩
    · have l1 : ltB l m = true := by
        unfold cmpS at h1 e1
        split at h1
        · assumption
        · split at h1
          · omega
          · rename_i a b; rw [if_neg a, if_neg b] at e1; omega
      have l2 : ltB m k = true := by
        unfold cmpS at h2 e2
        split at h2
        · assumption
        · split at h2
          · omega
          · rename_i a b; rw [if_neg a, if_neg b] at e2; omega
      have := cmpS_lt (ltB_trans l m k l1 l2)
      rw [this]
      exact ⟨by omega, by simp [e1]⟩
theorem cmpN_tr (a b c : Nat) (h1 : cmpN a b ≤ 0) (h2 : cmpN b c ≤ 0) : cmpN a c ≤ 0 ∧ (cmpN a c = 0 ↔ cmpN a b = 0 ∧ cmpN b c = 0) := by
  unfold cmpN at *
  repeat' split at h1
  all_goals (repeat' split at h2)
  all_goals (first | omega | skip)
  all_goals simp only [*]
  all_goals (repeat' split)
  all_goals omega

/-- a mark -/
structure Mk where
  key : List UInt8
  seq : Nat
  gone : Bool
def cmpK (a b : Mk) : Int := cmpM a.key a.seq a.gone b.key b.seq b.gone
theorem cmpK_rng (a b : Mk) : cmpK a b = -1 ∨ cmpK a b = 0 ∨ cmpK a b = 1 := by
  unfold cmpK cmpM
  repeat' split
  · exact cmpS_rng _ _
  · exact cmpN_rng _ _
  · exact cmpN_rng _ _
theorem cmpK_neg (a b : Mk) : cmpK b a = - cmpK a b := by
  unfold cmpK cmpM
  rw [cmpS_neg a.key b.key, cmpN_neg b.seq a.seq, cmpN_neg (flagN b.gone) (flagN a.gone)]
  repeat' split
  all_goals omega
theorem flagN_inj {a b : Bool} (h : flagN a = flagN b) : a = b := by cases a <;> cases b <;> simp_all [flagN]
theorem cmpK_eq {a b : Mk} (h : cmpK a b = 0) : a = b := by
  unfold cmpK cmpM at h
  by_cases h1 : cmpS a.key b.key = 0
  · rw [if_neg (by omega)] at h
    by_cases h2 : cmpN b.seq a.seq = 0
    · rw [if_neg (by omega)] at h
      have e1 := cmpS_eq h1
      have e2 := cmpN_eq h2
      have e3 := flagN_inj (cmpN_eq h)
      cases a; cases b; simp_all
    · rw [if_pos h2] at h; exact absurd h h2
  · rw [if_pos h1] at h; exact absurd h h1
theorem cmpK_self (a : Mk) : cmpK a a = 0 := by
  have := cmpK_neg a a
  omega
theorem cmpK_tr (a b c : Mk) (h1 : cmpK a b ≤ 0) (h2 : cmpK b c ≤ 0) : cmpK a c ≤ 0 ∧ (cmpK a c = 0 ↔ cmpK a b = 0 ∧ cmpK b c = 0) := by
  by_cases e1 : cmpK a b = 0
  · obtain rfl := cmpK_eq e1
    exact ⟨h2, by simp [cmpK_self]⟩
  · by_cases e2 : cmpK b c = 0
    · obtain rfl := cmpK_eq e2
      exact ⟨h1, by simp [cmpK_self]⟩
    · have key : cmpK a c < 0 := by
        have s1 := cmpS_tr a.key b.key c.key
        have n1 := cmpN_tr c.seq b.seq a.seq
        have f1 := cmpN_tr (flagN c.gone) (flagN b.gone) (flagN a.gone)
        unfold cmpK cmpM at *
        generalize cmpS a.key b.key = p1 at *
        generalize cmpS b.key c.key = p2 at *
        generalize cmpS a.key c.key = p3 at *
        generalize cmpN b.seq a.seq = q1 at *
        generalize cmpN c.seq b.seq = q2 at *
        generalize cmpN c.seq a.seq = q3 at *
        generalize cmpN (flagN b.gone) (flagN a.gone) = r1 at *
        generalize cmpN (flagN c.gone) (flagN b.gone) = r2 at *
        generalize cmpN (flagN c.gone) (flagN a.gone) = r3 at *
        omega
      exact ⟨by omega, by omega⟩

/-- a mark as the program holds it -/
structure MkB where
  k : ByteArray
  s : Nat
  g : Bool
def MkB.m (x : MkB) : Mk := ⟨x.k.data.toList, x.s, x.g⟩
/-- a slice that reads as marks -/
def RdM (w : World) (v : Value) (ms : List MkB) : Prop :=
  ∃ a cap, v = .slice a ms.length cap ∧ ms.length ≤ cap ∧ cap ≤ 9223372036854775807 ∧
    ∀ j, (h : j < ms.length) → ∃ b off, a = some ⟨b, off, none⟩ ∧ w.cell? ⟨b, off + j * 3, none⟩ = some (.string ms[j].k) ∧ w.cell? ⟨b, off + j * 3 + 1, none⟩ = some (.int .u64 ms[j].s) ∧ w.cell? ⟨b, off + j * 3 + 2, none⟩ = some (.bool ms[j].g)
theorem RdM.below {w w' : World} {v : Value} {ms : List MkB} (h : RdM w v ms) (hb : Below w.heap.size w w') : RdM w' v ms := by
  obtain ⟨a, cap, h1, h2, h3, h4⟩ := h
  refine ⟨a, cap, h1, h2, h3, fun j hj => ?_⟩
  obtain ⟨b, off, e, c0, c1, c2⟩ := h4 j hj
  exact ⟨b, off, e, Below.keeps hb _ _ _ c0, Below.keeps hb _ _ _ c1, Below.keeps hb _ _ _ c2⟩
def keysLen (ms : List MkB) : Nat := (ms.map fun x => x.k.size).sum
theorem keysLen_take (ms : List MkB) (j : Nat) (h : j < ms.length) : keysLen (ms.take (j + 1)) = keysLen (ms.take j) + ms[j].k.size := by
  unfold keysLen
  rw [List.take_succ_eq_append_getElem h, List.map_append, List.sum_append]
  simp
theorem keysLen_le (ms : List MkB) (j B : Nat) (h : ∀ x ∈ ms, x.k.size ≤ B) (hj : j ≤ ms.length) : keysLen (ms.take j) ≤ j * B := by
  induction j with
  | zero => simp [keysLen]
  | succ j ih =>
    rw [keysLen_take ms j (by omega), Nat.succ_mul]
    have := ih (by omega)
    have := h _ (List.getElem_mem (l := ms) (n := j) (by omega))
    omega

set_option maxRecDepth 100000 in
set_option maxHeartbeats 1000000 in
theorem great_any (w : World) (v : Value) (ms : List MkB) (hv : RdM w v ms) (hn : ms.length ≤ 64) (hk : ∀ x ∈ ms, x.k.size ≤ 140737488351232) :
    Calls Try.prog 17 #[v] w fun e w' => e = .returned (.bool (decide (100000 < keysLen ms))) ∧ w = w' := by
  obtain ⟨a, cap, rfl, h1, h2, h3⟩ := hv
  have HC := Lib.hid h3
  have HK := Lib.hid hk
  clear h3 hk
  obtain ⟨n, hnn⟩ : ∃ n, n = ms.length := ⟨_, rfl⟩
  have HN := Lib.hid hnn
  rw [← hnn] at h1 hn ⊢
  clear hnn
  go_enter Try.func17, Try.ntmps17
  go_wp2
  go_loop [3, 4] (fun t i => ∃ k : Nat, k ≤ n ∧ i = .int .i64 k ∧ t = .int .i64 ((keysLen (ms.take k) : Nat) : Int)) (fun _ i => n - (intOf i).toNat)
  case atStart => exact ⟨0, Nat.zero_le _, rfl, rfl⟩
  case round =>
    obtain ⟨k, hk, rfl, rfl⟩ := hrel
    have hle := keysLen_le ms k 140737488351232 HK.out (by rw [← HN.out]; exact hk)
    have hb : keysLen (ms.take k) ≤ 9007199254478848 := by omega
    by_cases hlt : k < n
    · have hkl : k < ms.length := by rw [← HN.out]; exact hlt
      obtain ⟨b, off, rfl, c0, c1, c2⟩ := HC.out k hkl
      have HT := Lib.hid (keysLen_take ms k hkl)
      have hsz := HK.out _ (List.getElem_mem (l := ms) (n := k) hkl)
      generalize keysLen (ms.take k) = S at hb HT hle ⊢
      obtain ⟨K, hK⟩ : ∃ K, K = ms[k].k := ⟨_, rfl⟩
      rw [← hK] at c0 hsz HT
      clear hK c1 c2 hle
      go_wp2
      go_round
      case rel => exact ⟨k + 1, by omega, by go_num, by rw [HT.out]; go_num⟩
      case measure => simp [intOf]; omega
    · have hkn : k = n := by omega
      subst hkn
      have e : ms.take k = ms := List.take_of_length_le (by rw [← HN.out]; exact Nat.le_refl _)
      rw [e]
      clear hle
      go_wp2
      go_ret
      exact ⟨ret_bool (by simp; omega), rfl⟩
end Go.Proofs.Ytafgioidneohhaa

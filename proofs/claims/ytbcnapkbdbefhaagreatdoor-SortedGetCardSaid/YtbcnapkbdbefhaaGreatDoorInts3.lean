/- Walks of package ints and of its reference that only read: Get, GetFour, GetText. The condition: a slice that reads as bytes. | Walks that only read: the reference's Get; GetFour and GetText, both. The condition: a slice that reads as bytes. | Walks that only read: GetText and GetFour, of package ints and of its reference. The condition: a slice that reads as bytes. -/
import Derived.Test.YtbcnapkbdbefhaaGreatDoorBase
import Derived.Test.YtbcnapkbdbefhaaGreatDoorBits
namespace Go.Proofs.YtbcnapkbdbefhaaGreatDoor
open Go.RowKit

/-- what IndexFunc tells of bytes: the first one below 128 -/
def FirstEnd (l : List UInt8) (r : Int) : Prop :=
  (r = -1 ∧ ∀ j (h : j < l.length), 128 ≤ l[j].toNat) ∨ ∃ i : Nat, r = i ∧ ∃ h : i < l.length, l[i].toNat < 128 ∧ ∀ j (h : j < l.length), j < i → 128 ≤ l[j].toNat
def RetEnd (l : List UInt8) (w : World) (e : Ending) (w' : World) : Prop := ∃ r, e = .returned (.int .i64 r) ∧ FirstEnd l r ∧ w = w'

theorem more_yes (n : Nat) (w : World) (h : (n : Int) < 128) : Calls Tryz.prog 183 #[.int .u8 n] w fun e w' => e = .returned (.bool true) ∧ w = w' := by
  go_enter Tryz.func183, Tryz.ntmps183
  go_wp2
  go_ret
  exact ⟨rfl, rfl⟩
theorem more_no (n : Nat) (w : World) (h : ¬ (n : Int) < 128) : Calls Tryz.prog 183 #[.int .u8 n] w fun e w' => e = .returned (.bool false) ∧ w = w' := by
  go_enter Tryz.func183, Tryz.ntmps183
  go_wp2
  go_ret
  exact ⟨rfl, rfl⟩

set_option maxHeartbeats 400000 in
theorem indexFunc_any (v : Value) (l : List UInt8) (w : World) (hv : Rd w v l) :
    Calls Tryz.prog 182 #[v, .func (.func 183) #[] #[]] w (RetEnd l w) := by
  obtain ⟨a, cap, rfl, h1, h2, h3⟩ := hv
  go_enter Tryz.func182, Tryz.ntmps182
  go_wp2
  go_loop [5, 8] (fun _ i => ∃ k : Nat, k ≤ l.length ∧ i = .int .i64 k ∧ (∀ j (h : j < l.length), j < k → 128 ≤ l[j].toNat)) (fun _ i => l.length - (intOf i).toNat)
  case atStart => exact ⟨0, Nat.zero_le _, rfl, fun j _ hj => absurd hj (by omega)⟩
  case round =>
    obtain ⟨k, hk, rfl, hp⟩ := hrel
    have HP := Lib.hid hp
    clear hp
    by_cases hlt : k < l.length
    · obtain ⟨b, off, rfl, hc⟩ := h3 k hlt
      clear h3
      obtain ⟨n, hn⟩ : ∃ n : Nat, n = l[k].toNat := ⟨_, rfl⟩
      rw [← hn] at hc
      have HN := Lib.hid hn
      clear hn
      by_cases hs : n < 128
      · go_wp2_with fail
        refine (more_yes n _ (by omega)).mono ?_
        rintro e w' ⟨rfl, rfl⟩
        go_wp2
        go_ret
        exact ⟨_, rfl, .inr ⟨k, rfl, hlt, by rw [← HN.out]; exact hs, HP.out⟩, rfl⟩
      · go_wp2_with fail
        refine (more_no n _ (by omega)).mono ?_
        rintro e w' ⟨rfl, rfl⟩
        go_wp2
        go_round
        case rel =>
          refine ⟨k + 1, by omega, by go_num, fun j hj hjk => ?_⟩
          by_cases e : j = k
          · subst e; rw [← HN.out]; omega
          · exact HP.out j hj (by omega)
        case measure => simp [intOf]; omega
    · clear h3
      go_wp2
      go_ret
      exact ⟨_, rfl, .inl ⟨rfl, fun j hj => HP.out j hj (by omega)⟩, rfl⟩

def RetGet (l : List UInt8) (w : World) (e : Ending) (w' : World) : Prop :=
  e = .returned (.tuple #[.int .u64 (vget l).1, .int .i64 (vget l).2.1, .int .i64 (vget l).2.2]) ∧ w = w'
theorem ret_get {l : List UInt8} {w : World} {n k e : Nat} {x y z : Int} (h : vget l = (n, k, e)) (h1 : x = n) (h2 : y = k) (h3 : z = e) :
    RetGet l w (.returned (.tuple #[.int .u64 x, .int .i64 y, .int .i64 z])) w := by
  subst h1 h2 h3
  exact ⟨by rw [h], rfl⟩

theorem i64_next (m : Nat) (h : 0 < m) : Value.int .i64 ((m : Int) - 1 - 1) = .int .i64 (((m - 1 : Nat) : Int) - 1) := by
  congr 1; omega

/-- the first bytes of ints.Get, as IndexFunc tells of them -/
theorem first_none {l : List UInt8} (h : ∀ j (h : j < (l.take 10).length), 128 ≤ (l.take 10)[j].toNat) : ∀ j (hj : j < l.length), j < 10 → 128 ≤ l[j].toNat := by
  intro j hj h10
  have := h j (by simp; omega)
  simpa using this

set_option maxHeartbeats 1000000 in
theorem intsGet_end (a : Option Addr) (cap : Nat) (l : List UInt8) (w : World) (h1 : l.length ≤ cap) (h2 : cap ≤ 9223372036854775807)
    (h3 : ∀ j, (h : j < l.length) → ∃ b off, a = some ⟨b, off, none⟩ ∧ w.cell? ⟨b, off + j, none⟩ = some (.int .u8 l[j].toNat))
    (i : Nat) (hi : i < l.length) (h10 : i < 10) (hend : l[i].toNat < 128) (hall : ∀ j (hj : j < l.length), j < i → 128 ≤ l[j].toNat)
    (hcall : Calls Tryz.prog 182 #[.slice a (min l.length 10) cap, .func (.func 183) #[] #[]] w fun e w' => e = .returned (.int .i64 i) ∧ w = w') :
    Calls Tryz.prog 179 #[.slice a l.length cap] w (RetGet l w) := by
  obtain ⟨b, off, rfl, hc⟩ := h3 i hi
  obtain ⟨n, hn⟩ : ∃ n : Nat, n = l[i].toNat := ⟨_, rfl⟩
  have hv := vget_at l i hi h10 hall hend
  rw [← hn] at hc hv hend
  have HV := Lib.hid hv
  have HN := Lib.hid hn
  have HC := Lib.hid h3
  clear hall h3 hn hv
  have H := Lib.hid hcall
  clear hcall
  rcases (by omega : l.length ≤ 10 ∨ 10 < l.length) with hl | hl
  all_goals
    first | rw [Nat.min_eq_left (by omega)] at H | rw [Nat.min_eq_right (by omega)] at H
    by_cases hb : (0 < i ∧ n = 0) ∨ (i = 9 ∧ 1 < n)
    · have HV2 := HV.out
      rw [if_pos hb] at HV2
      have HV3 := Lib.hid HV2
      clear HV2
      go_enter Tryz.func179, Tryz.ntmps179
      go_wp2_with fail
      refine H.out.mono ?_
      rintro e w' ⟨rfl, rfl⟩
      rcases hb with ⟨hb1, rfl⟩ | ⟨rfl, hb2⟩
      · go_wp2
        go_ret3
        exact ret_get HV3.out rfl rfl rfl
      · have hn0 : ¬ (n : Int) = 0 := by omega
        go_wp2
        go_ret3
        exact ret_get HV3.out rfl rfl rfl
    · have HV2 := HV.out
      rw [if_neg hb] at HV2
      have HV3 := Lib.hid HV2
      clear HV2
      have hz : 0 < i → ¬ (n : Int) = 0 := fun h h' => hb (.inl ⟨h, by omega⟩)
      have h9 : i = 9 → n ≤ 1 := fun h => by apply Nat.le_of_not_lt; intro h'; exact hb (.inr ⟨h, h'⟩)
      have HB := Lib.hid (fun m => vval_bound l i m hi h10 (fun e => by rw [← HN.out]; exact h9 e))
      go_enter Tryz.func179, Tryz.ntmps179
      go_wp2_with fail
      refine H.out.mono ?_
      rintro e w' ⟨rfl, rfl⟩
      have hcase : i ≤ 0 ∨ (0 < i ∧ ¬ (i : Int) = 9 ∧ ¬ (n : Int) = 0) ∨ (9 ≤ i ∧ i ≤ 9 ∧ ¬ (n : Int) = 0 ∧ n ≤ 1) := by omega
      clear hb hz h9
      have hc9 : i = 9 → w.cell? ⟨b, off + 9, none⟩ = some (.int .u8 n) := fun e => e ▸ hc
      rcases hcase with hi0 | ⟨hi0, hi9, hz⟩ | ⟨hi0, hi9, hz, h9⟩
      case' inl => clear hc9
      case' inr.inl => clear hc9
      case' inr.inr => replace hc9 := hc9 (by omega)
      all_goals go_wp2
      all_goals
        clear hend hc
        try clear hz
        go_loop [2, 6] (fun t c => ∃ m : Nat, m ≤ i + 1 ∧ c = .int .i64 ((m : Int) - 1) ∧ t = .int .u64 ((vval ((l.take (i + 1)).drop m) : Nat) : Int)) (fun _ c => (intOf c + 1).toNat)
        case atStart => exact ⟨i + 1, by omega, by congr 1; omega, by rw [List.drop_of_length_le (by simp; omega)]; rfl⟩
        case round =>
          obtain ⟨m, hm, rfl, rfl⟩ := hrel
          by_cases h0 : 0 < m
          · obtain ⟨b', off', e1, hcm⟩ := HC.out (m - 1) (by omega)
            cases e1
            have HD := Lib.hid (vval_drop (l.take (i + 1)) m h0 (by simp; omega))
            obtain ⟨x, hx⟩ : ∃ x : Nat, x = vval ((l.take (i + 1)).drop m) := ⟨_, rfl⟩
            obtain ⟨d, hd⟩ : ∃ d : Nat, d = l[m - 1].toNat := ⟨_, rfl⟩
            have hxb : x < 144115188075855872 := by rw [hx]; exact HB.out m h0 hm
            have hd256 : d < 256 := by rw [hd]; exact UInt8.toNat_lt _
            have HX : Hid (x * 128 + d % 128 = vval ((l.take (i + 1)).drop (m - 1))) := by
              show _ = _
              rw [HD.out, hx, hd]; simp
            rw [← hd] at hcm
            rw [← hx]
            clear hd hx HD
            have HK := Lib.hid (seven_more x d hxb hd256)
            go_wp2
            go_round
            case rel => exact ⟨m - 1, by omega, i64_next m h0, by rw [HK.out, HX.out]⟩
            case measure => simp [intOf]; omega
          · obtain rfl : m = 0 := by omega
            go_wp2
            go_ret3
            exact ret_get HV3.out (by simp) (by omega) rfl

theorem intsGet_any (v : Value) (l : List UInt8) (w : World) (hv : Rd w v l) : Calls Tryz.prog 179 #[v] w (RetGet l w) := by
  obtain ⟨a, cap, rfl, h1, h2, h3⟩ := hv
  have hm : Rd w (.slice a (min l.length 10) cap) (l.take 10) := by
    refine ⟨a, cap, by simp [Nat.min_comm], by simp; omega, h2, fun j hj => ?_⟩
    obtain ⟨b, off, e1, e2⟩ := h3 j (by simp at hj; omega)
    exact ⟨b, off, e1, by rw [e2]; simp⟩
  by_cases hx : ∃ i, ∃ hi : i < l.length, i < 10 ∧ l[i].toNat < 128 ∧ ∀ j (hj : j < l.length), j < i → 128 ≤ l[j].toNat
  · obtain ⟨i, hi, h10, hend, hall⟩ := hx
    refine intsGet_end a cap l w h1 h2 h3 i hi h10 hend hall ((indexFunc_any _ _ _ hm).mono ?_)
    rintro e w' ⟨r, rfl, (⟨rfl, hr⟩ | ⟨i', rfl, hi', hend', hall'⟩), rfl⟩
    · have := first_none hr i hi h10
      omega
    · have e1 : i' < l.length ∧ i' < 10 := by simp at hi'; omega
      have e2 : (l.take 10)[i'] = l[i']'e1.1 := by simp
      rw [e2] at hend'
      have : i' = i := by
        rcases Nat.lt_trichotomy i' i with h | h | h
        · have := hall i' e1.1 h; omega
        · exact h
        · have := hall' i (by simp; omega) h
          simp at this
          omega
      subst this
      exact ⟨rfl, rfl⟩
  · have hall : ∀ j (hj : j < l.length), j < 10 → 128 ≤ l[j].toNat := by
      intro j
      induction j using Nat.strongRecOn with
      | _ j ih =>
        intro hj h10
        apply Nat.le_of_not_lt
        intro hlt
        exact hx ⟨j, hj, h10, hlt, fun j' hj' h' => ih j' h' hj' (by omega)⟩
    have HV := Lib.hid (vget_none l hall)
    have H : Calls Tryz.prog 182 #[.slice a (min l.length 10) cap, .func (.func 183) #[] #[]] w fun e w' => e = .returned (.int .i64 (-1)) ∧ w = w' := by
      refine (indexFunc_any _ _ _ hm).mono ?_
      rintro e w' ⟨r, rfl, (⟨rfl, hr⟩ | ⟨i', rfl, hi', hend', hall'⟩), rfl⟩
      · exact ⟨rfl, rfl⟩
      · have := hall i' (by simp at hi'; omega) (by simp at hi'; omega)
        simp at hend'
        omega
    clear hx hall h3 hm
    have H2 := Lib.hid H
    clear H
    rcases (by omega : l.length < 10 ∨ l.length = 10 ∨ 10 < l.length) with hl | hl | hl
    · have HV2 := HV.out
      rw [if_pos hl] at HV2
      have HV3 := Lib.hid HV2
      clear HV HV2
      rw [Nat.min_eq_left (by omega)] at H2
      go_enter Tryz.func179, Tryz.ntmps179
      go_wp2_with fail
      refine H2.out.mono ?_
      rintro e w' ⟨rfl, rfl⟩
      go_wp2
      go_ret3
      exact ret_get HV3.out rfl rfl rfl
    · have HV2 := HV.out
      rw [if_neg (by omega)] at HV2
      have HV3 := Lib.hid HV2
      clear HV HV2
      rw [Nat.min_eq_left (by omega)] at H2
      have hl1 : l.length ≤ 10 := by omega
      have hl2 : 10 ≤ l.length := by omega
      clear hl
      go_enter Tryz.func179, Tryz.ntmps179
      go_wp2_with fail
      refine H2.out.mono ?_
      rintro e w' ⟨rfl, rfl⟩
      go_wp2
      go_ret3
      exact ret_get HV3.out rfl rfl rfl
    · have HV2 := HV.out
      rw [if_neg (by omega)] at HV2
      have HV3 := Lib.hid HV2
      clear HV HV2
      rw [Nat.min_eq_right (by omega)] at H2
      go_enter Tryz.func179, Tryz.ntmps179
      go_wp2_with fail
      refine H2.out.mono ?_
      rintro e w' ⟨rfl, rfl⟩
      go_wp2
      go_ret3
      exact ret_get HV3.out rfl rfl rfl
end Go.Proofs.YtbcnapkbdbefhaaGreatDoor
namespace Go.Proofs.YtbcnapkbdbefhaaGreatDoor
open Go.RowKit

set_option maxRecDepth 100000 in
set_option maxHeartbeats 1000000 in
theorem refGet_any (v : Value) (l : List UInt8) (w : World) (hv : Rd w v l) : Calls Tryz.prog 97 #[v] w (RetGet l w) := by
  obtain ⟨a, cap, rfl, h1, h2, h3⟩ := hv
  go_enter Tryz.func97, Tryz.ntmps97
  go_wp2
  go_loop [5] (fun c => ∃ i : Nat, i ≤ l.length ∧ i ≤ 10 ∧ c = .int .i64 i ∧ (∀ j (hj : j < l.length), j < i → 128 ≤ l[j].toNat)) (fun c => (10 - intOf c).toNat)
  case atStart => exact ⟨0, by omega, by omega, rfl, fun j _ hj => absurd hj (by omega)⟩
  case round =>
    obtain ⟨i, hi, h10, rfl, hall⟩ := hrel
    have HC := Lib.hid h3
    have HA := Lib.hid hall
    clear h3 hall
    by_cases hin : i < l.length ∧ i < 10
    · obtain ⟨hin1, hin2⟩ := hin
      obtain ⟨b, off, rfl, hc⟩ := HC.out i hin1
      obtain ⟨n, hn⟩ : ∃ n : Nat, n = l[i].toNat := ⟨_, rfl⟩
      rw [← hn] at hc
      have HN := Lib.hid hn
      clear hn
      by_cases hs : 128 ≤ n
      · go_wp2
        go_round
        case rel =>
          refine ⟨i + 1, by omega, by omega, by go_num, fun j hj hji => ?_⟩
          by_cases e : j = i
          · subst e; rw [← HN.out]; exact hs
          · exact HA.out j hj (by omega)
        case measure => simp [intOf]; omega
      · have hv := vget_at l i hin1 hin2 HA.out (by rw [← HN.out]; omega)
        rw [← HN.out] at hv
        by_cases hb : (0 < i ∧ n = 0) ∨ (i = 9 ∧ 1 < n)
        · rw [if_pos hb] at hv
          have HV := Lib.hid hv
          clear hv HA
          rcases hb with ⟨hb1, rfl⟩ | ⟨rfl, hb2⟩
          · go_wp2
            go_ret3
            exact ret_get HV.out rfl rfl rfl
          · have hn0 : ¬ (n : Int) = 0 := by omega
            go_wp2
            go_ret3
            exact ret_get HV.out rfl rfl rfl
        · rw [if_neg hb] at hv
          have HV := Lib.hid hv
          clear hv
          have hz : 0 < i → ¬ (n : Int) = 0 := fun h h' => hb (.inl ⟨h, by omega⟩)
          have h9 : i = 9 → n ≤ 1 := fun h => by apply Nat.le_of_not_lt; intro h'; exact hb (.inr ⟨h, h'⟩)
          have HB := Lib.hid (fun m => vval_bound l i m hin1 hin2 (fun e => by rw [← HN.out]; exact h9 e))
          have hcase : i ≤ 0 ∨ (0 < i ∧ ¬ (i : Int) = 9 ∧ ¬ (n : Int) = 0) ∨ (9 ≤ i ∧ i ≤ 9 ∧ ¬ (n : Int) = 0 ∧ n ≤ 1) := by omega
          clear hb hz h9
          have hc9 : i = 9 → w.cell? ⟨b, off + 9, none⟩ = some (.int .u8 n) := fun e => e ▸ hc
          rcases hcase with hi0 | ⟨hi0, hi9, hz⟩ | ⟨hi0, hi9, hz, h9⟩
          case' inl => clear hc9
          case' inr.inl => clear hc9
          case' inr.inr =>
            replace hc9 := hc9 (by omega)
            have hzb : ((n : Int) == 0) = false := beq_eq_false_iff_ne.2 (by omega)
          all_goals go_wp2
          all_goals
            clear hc
            try clear hz
            go_loop [6, 7] (fun t c => ∃ m : Nat, m ≤ i + 1 ∧ c = .int .i64 ((m : Int) - 1) ∧ t = .int .u64 ((vval ((l.take (i + 1)).drop m) : Nat) : Int)) (fun _ c => (intOf c + 1).toNat)
            case atStart => exact ⟨i + 1, by omega, by congr 1; omega, by rw [List.drop_of_length_le (by simp; omega)]; rfl⟩
            case round =>
              obtain ⟨m, hm, rfl, rfl⟩ := hrel
              by_cases h0 : 0 < m
              · obtain ⟨b', off', e1, hcm⟩ := HC.out (m - 1) (by omega)
                cases e1
                have HD := Lib.hid (vval_drop (l.take (i + 1)) m h0 (by simp; omega))
                obtain ⟨x, hx⟩ : ∃ x : Nat, x = vval ((l.take (i + 1)).drop m) := ⟨_, rfl⟩
                obtain ⟨d, hd⟩ : ∃ d : Nat, d = l[m - 1].toNat := ⟨_, rfl⟩
                have hxb : x < 144115188075855872 := by rw [hx]; exact HB.out m h0 hm
                have hd256 : d < 256 := by rw [hd]; exact UInt8.toNat_lt _
                have HX : Hid (x * 128 + d % 128 = vval ((l.take (i + 1)).drop (m - 1))) := by
                  show _ = _
                  rw [HD.out, hx, hd]; simp
                rw [← hd] at hcm
                rw [← hx]
                clear hd hx HD
                go_wp2
                go_round
                case rel => exact ⟨m - 1, by omega, i64_next m h0, by rw [← HX.out]; congr 1⟩
                case measure => simp [intOf]; omega
              · obtain rfl : m = 0 := by omega
                go_wp2
                go_ret3
                exact ret_get HV.out (by simp) (by omega) rfl
    · have hv := vget_none l (fun j hj h10 => HA.out j hj (by omega))
      have HV := Lib.hid hv
      clear hv
      rcases (by omega : (i < l.length ∧ 10 ≤ i) ∨ (l.length ≤ i ∧ l.length < 10) ∨ (l.length ≤ i ∧ 10 ≤ l.length)) with ⟨q1, q2⟩ | ⟨q1, q2⟩ | ⟨q1, q2⟩
      · have HV2 := HV.out
        rw [if_neg (by omega)] at HV2
        have HV3 := Lib.hid HV2
        clear HV2 hin
        go_wp2
        go_ret3
        exact ret_get HV3.out rfl rfl rfl
      · have HV2 := HV.out
        rw [if_pos (by omega)] at HV2
        have HV3 := Lib.hid HV2
        clear HV2 hin
        go_wp2
        go_ret3
        exact ret_get HV3.out rfl rfl rfl
      · have HV2 := HV.out
        rw [if_neg (by omega)] at HV2
        have HV3 := Lib.hid HV2
        clear HV2 hin
        go_wp2
        go_ret3
        exact ret_get HV3.out rfl rfl rfl
def RetText (l : List UInt8) (w : World) (e : Ending) (w' : World) : Prop :=
  e = .returned (.tuple #[.string (bs (tget l).1), .int .i64 (tget l).2.1, .int .i64 (tget l).2.2]) ∧ w = w'
theorem ret_text {l : List UInt8} {w : World} {s : List UInt8} {k e : Nat} {t : ByteArray} {y z : Int} (h : tget l = (s, k, e)) (h1 : t = bs s) (h2 : y = k) (h3 : z = e) :
    RetText l w (.returned (.tuple #[.string t, .int .i64 y, .int .i64 z])) w := by
  subst h1 h2 h3
  exact ⟨by rw [h], rfl⟩
theorem tget_bad {l : List UInt8} {n k e : Nat} (h : vget l = (n, k, e)) (he : e ≠ 0) : tget l = ([], 0, e) := by
  unfold tget; rw [h]; simp [he]
theorem tget_short {l : List UInt8} {n k : Nat} (h : vget l = (n, k, 0)) (he : l.length - k < n) : tget l = ([], 0, 5) := by
  unfold tget; rw [h]; simp [he]
theorem tget_ok {l : List UInt8} {n k : Nat} (h : vget l = (n, k, 0)) (he : ¬ l.length - k < n) : tget l = ((l.drop k).take n, k + n, 0) := by
  unfold tget; rw [h]; simp [he]
end Go.Proofs.YtbcnapkbdbefhaaGreatDoor
namespace Go.Proofs.YtbcnapkbdbefhaaGreatDoor
open Go.RowKit

set_option maxRecDepth 100000 in
set_option maxHeartbeats 1000000 in
theorem intsGetText_any (v : Value) (l : List UInt8) (w : World) (hv : Rd w v l) : Calls Tryz.prog 180 #[v] w (RetText l w) := by
  have hv0 := hv
  obtain ⟨a, cap, rfl, h1, h2, h3⟩ := hv
  have HG := Lib.hid (intsGet_any _ l w hv0)
  clear h3
  rcases hg : vget l with ⟨n, k, e⟩
  have H0 := Lib.hid hg
  have HG2 : Hid (Calls Tryz.prog 179 #[.slice a l.length cap] w fun e' w' => e' = .returned (.tuple #[.int .u64 n, .int .i64 k, .int .i64 e]) ∧ w = w') := by
    refine HG.out.mono ?_
    rintro e' w' ⟨rfl, rfl⟩
    rw [H0.out]; exact ⟨rfl, rfl⟩
  clear HG
  by_cases he : e = 0
  · subst he
    have hb := vget_got hg
    clear hg
    obtain ⟨hn, hk1, hk2, hk3, _⟩ := hb
    by_cases hs : l.length - k < n
    · have HT := Lib.hid (tget_short H0.out hs)
      go_enter Tryz.func180, Tryz.ntmps180
      go_wp2_with fail
      refine HG2.out.mono ?_
      rintro e' w' ⟨rfl, rfl⟩
      go_wp2
      go_ret3
      exact ret_text HT.out rfl rfl rfl
    · have HT := Lib.hid (tget_ok H0.out hs)
      have hkn : k + n ≤ l.length := by omega
      obtain ⟨a', cap', hcut, hrd⟩ := run_cut hv0 k (k + n) (by omega) hkn
      rw [Nat.add_sub_cancel_left] at hrd
      have hcut2 : ∀ w', (Instr.slice 22 (.slice a l.length cap) (some (.int .i64 k)) (some (.int .i64 ((k : Int) + (n : Int)))) none).run Tryz.prog w' = .ok (.slice a' n cap') w' := by
        intro w'
        have := hcut w' .i64 .i64
        rwa [Nat.add_sub_cancel_left, show ((k + n : Nat) : Int) = (k : Int) + (n : Int) from by omega] at this
      have hstr := run_str hrd
      clear hcut hrd hv0
      go_enter Tryz.func180, Tryz.ntmps180
      go_wp2_with fail
      refine HG2.out.mono ?_
      rintro e' w' ⟨rfl, rfl⟩
      go_wp2
      go_ret3
      exact ret_text HT.out (by rw [List.drop_take, Nat.add_sub_cancel_left]) (by omega) rfl
  · have HT := Lib.hid (tget_bad H0.out he)
    clear hg
    go_enter Tryz.func180, Tryz.ntmps180
    go_wp2_with fail
    refine HG2.out.mono ?_
    rintro e' w' ⟨rfl, rfl⟩
    go_wp2
    go_ret3
    exact ret_text HT.out rfl rfl rfl
set_option maxRecDepth 100000 in
set_option maxHeartbeats 1000000 in
theorem refGetText_any (v : Value) (l : List UInt8) (w : World) (hv : Rd w v l) : Calls Tryz.prog 98 #[v] w (RetText l w) := by
  have hv0 := hv
  obtain ⟨a, cap, rfl, h1, h2, h3⟩ := hv
  have HG := Lib.hid (refGet_any _ l w hv0)
  clear h3
  rcases hg : vget l with ⟨n, k, e⟩
  have H0 := Lib.hid hg
  have HG2 : Hid (Calls Tryz.prog 97 #[.slice a l.length cap] w fun e' w' => e' = .returned (.tuple #[.int .u64 n, .int .i64 k, .int .i64 e]) ∧ w = w') := by
    refine HG.out.mono ?_
    rintro e' w' ⟨rfl, rfl⟩
    rw [H0.out]; exact ⟨rfl, rfl⟩
  clear HG
  by_cases he : e = 0
  · subst he
    have hb := vget_got hg
    clear hg
    obtain ⟨hn, hk1, hk2, hk3, _⟩ := hb
    by_cases hs : l.length - k < n
    · have HT := Lib.hid (tget_short H0.out hs)
      go_enter Tryz.func98, Tryz.ntmps98
      go_wp2_with fail
      refine HG2.out.mono ?_
      rintro e' w' ⟨rfl, rfl⟩
      go_wp2
      go_ret3
      exact ret_text HT.out rfl rfl rfl
    · have HT := Lib.hid (tget_ok H0.out hs)
      have hkn : k + n ≤ l.length := by omega
      obtain ⟨a', cap', hcut, hrd⟩ := run_cut hv0 k (k + n) (by omega) hkn
      rw [Nat.add_sub_cancel_left] at hrd
      have hcut2 : ∀ w', (Instr.slice 22 (.slice a l.length cap) (some (.int .i64 k)) (some (.int .i64 ((k : Int) + (n : Int)))) none).run Tryz.prog w' = .ok (.slice a' n cap') w' := by
        intro w'
        have := hcut w' .i64 .i64
        rwa [Nat.add_sub_cancel_left, show ((k + n : Nat) : Int) = (k : Int) + (n : Int) from by omega] at this
      have hstr := run_str hrd
      clear hcut hrd hv0
      go_enter Tryz.func98, Tryz.ntmps98
      go_wp2_with fail
      refine HG2.out.mono ?_
      rintro e' w' ⟨rfl, rfl⟩
      go_wp2
      go_ret3
      exact ret_text HT.out (by rw [List.drop_take, Nat.add_sub_cancel_left]) (by omega) rfl
  · have HT := Lib.hid (tget_bad H0.out he)
    clear hg
    go_enter Tryz.func98, Tryz.ntmps98
    go_wp2_with fail
    refine HG2.out.mono ?_
    rintro e' w' ⟨rfl, rfl⟩
    go_wp2
    go_ret3
    exact ret_text HT.out rfl rfl rfl
/-- a number of four bytes, the highest first -/
def fval (l : List UInt8) : Nat := l.foldl (fun n c => n * 256 + c.toNat) 0
def fget (l : List UInt8) : Nat × Nat := if l.length < 4 then (0, 5) else (fval (l.take 4), 0)
def four (n : Nat) : List UInt8 := [UInt8.ofNat (n / 16777216), UInt8.ofNat (n / 65536), UInt8.ofNat (n / 256), UInt8.ofNat n]
def RetFour (l : List UInt8) (w : World) (e : Ending) (w' : World) : Prop :=
  e = .returned (.tuple #[.int .u32 (fget l).1, .int .i64 (fget l).2]) ∧ w = w'
theorem ret_four {l : List UInt8} {w : World} {n e : Nat} {x z : Int} (h : fget l = (n, e)) (h1 : x = n) (h3 : z = e) :
    RetFour l w (.returned (.tuple #[.int .u32 x, .int .i64 z])) w := by
  subst h1 h3
  exact ⟨by rw [h], rfl⟩
theorem fval_snoc (l : List UInt8) (c : UInt8) : fval (l ++ [c]) = fval l * 256 + c.toNat := by simp [fval]
theorem fval_lt (l : List UInt8) : fval l < 256 ^ l.length := by
  have key : ∀ (r : List UInt8), fval r.reverse < 256 ^ r.length := by
    intro r
    induction r with
    | nil => simp [fval]
    | cons c t ih =>
      have := c.toNat_lt
      rw [List.reverse_cons, fval_snoc, List.length_cons, Nat.pow_succ]; omega
  have := key l.reverse
  simpa using this
/-- 'n<<8 | uint32(c)' -/
theorem eight_more (x d : Nat) (hx : x < 16777216) (hd : d < 256) :
    bits BinOp.or IntKind.u32 ((x : Int) * 256) (d : Int) = ((x * 256 + d : Nat) : Int) := by
  rw [show ((x : Int) * 256) = ((x * 256 : Nat) : Int) from by omega]
  rw [u32_or_nat _ _ (by omega) (by omega)]
  rw [show x * 256 = x * 2 ^ 8 from rfl, or_low x d 8 (by omega)]

set_option maxRecDepth 100000 in
set_option maxHeartbeats 1000000 in
theorem intsGetFour_any (v : Value) (l : List UInt8) (w : World) (hv : Rd w v l) : Calls Tryz.prog 23 #[v] w (RetFour l w) := by
  obtain ⟨a, cap, rfl, h1, h2, h3⟩ := hv
  by_cases h4 : l.length < 4
  · have HF : Hid (fget l = (0, 5)) := by show _ = _; unfold fget; rw [if_pos h4]
    clear h3
    go_enter Tryz.func23, Tryz.ntmps23
    go_wp2
    go_ret2
    exact ret_four HF.out rfl rfl
  · have HF : Hid (fget l = (fval (l.take 4), 0)) := by show _ = _; unfold fget; rw [if_neg h4]
    have HC := Lib.hid h3
    obtain ⟨b, off, rfl, _⟩ := h3 0 (by omega)
    clear h3
    go_enter Tryz.func23, Tryz.ntmps23
    go_wp2
    go_loop [2, 5, 12] (fun t _ c => ∃ i : Nat, i ≤ 4 ∧ c = .int .i64 i ∧ t = .int .u32 ((fval (l.take i) : Nat) : Int)) (fun _ _ c => (4 - intOf c).toNat)
    case atStart => exact ⟨0, by omega, rfl, rfl⟩
    case round =>
      obtain ⟨i, hi, rfl, rfl⟩ := hrel
      by_cases hlt : i < 4
      · obtain ⟨b', off', e1, hc⟩ := HC.out i (by omega)
        cases e1
        obtain ⟨x, hx⟩ : ∃ x : Nat, x = fval (l.take i) := ⟨_, rfl⟩
        obtain ⟨d, hd⟩ : ∃ d : Nat, d = l[i].toNat := ⟨_, rfl⟩
        have hxb : x < 16777216 := by
          have h5 := fval_lt (l.take i)
          have h6 : 256 ^ (l.take i).length ≤ 256 ^ 3 := Nat.pow_le_pow_right (by omega) (by simp; omega)
          omega
        have hd256 : d < 256 := by rw [hd]; exact UInt8.toNat_lt _
        have HX : Hid (x * 256 + d = fval (l.take (i + 1))) := by
          show _ = _
          rw [List.take_succ_eq_append_getElem (by omega), fval_snoc, hx, hd]
        rw [← hd] at hc
        rw [← hx]
        have HK := Lib.hid (eight_more x d hxb hd256)
        clear hd hx
        go_wp2
        go_round
        case rel => exact ⟨i + 1, by omega, by go_num, by rw [← HX.out, ← HK.out]; done⟩
        case measure => simp [intOf]; omega
      · obtain rfl : i = 4 := by omega
        go_wp2
        go_ret2
        exact ret_four HF.out rfl rfl
theorem fval_four (l : List UInt8) (h : 4 ≤ l.length) : fval (l.take 4) = 16777216 * l[0].toNat + 65536 * l[1].toNat + 256 * l[2].toNat + l[3].toNat := by
  match l, h with
  | a :: b :: c :: d :: t, _ => simp [fval]; omega

set_option maxRecDepth 100000 in
set_option maxHeartbeats 1000000 in
theorem refGetFour_any (v : Value) (l : List UInt8) (w : World) (hv : Rd w v l) : Calls Tryz.prog 95 #[v] w fun e w' => ∃ n, RetFour l (w.drewN n) e w' := by
  obtain ⟨a, cap, rfl, h1, h2, h3⟩ := hv
  by_cases h4 : l.length < 4
  · have HF : Hid (fget l = (0, 5)) := by show _ = _; unfold fget; rw [if_pos h4]
    clear h3
    go_enter Tryz.func95, Tryz.ntmps95
    go_wp2
    go_ret2
    exact ⟨0, ret_four HF.out rfl rfl⟩
  · have HF : Hid (fget l = (fval (l.take 4), 0)) := by show _ = _; unfold fget; rw [if_neg h4]
    have HV := Lib.hid (fval_four l (by omega))
    obtain ⟨b, off, rfl, c0⟩ := h3 0 (by omega)
    obtain ⟨b1, off1, e1, c1⟩ := h3 1 (by omega)
    obtain ⟨b2, off2, e2, c2⟩ := h3 2 (by omega)
    obtain ⟨b3, off3, e3, c3⟩ := h3 3 (by omega)
    cases e1; cases e2; cases e3
    have b0 := l[0].toNat_lt
    have b1 := l[1].toNat_lt
    have b2 := l[2].toNat_lt
    have b3 := l[3].toNat_lt
    clear h3
    generalize hd0 : l[0].toNat = d0 at *
    generalize hd1 : l[1].toNat = d1 at *
    generalize hd2 : l[2].toNat = d2 at *
    generalize hd3 : l[3].toNat = d3 at *
    clear hd0 hd1 hd2 hd3
    have h4' : 4 ≤ l.length := by omega
    rw [Nat.add_zero] at c0
    go_enter Tryz.func95, Tryz.ntmps95
    go_wp2
    go_quiet (fail)
    go_wp2
    go_ret2
    exact ⟨_, ret_four HF.out (by rw [HV.out]; omega) rfl⟩
end Go.Proofs.YtbcnapkbdbefhaaGreatDoor

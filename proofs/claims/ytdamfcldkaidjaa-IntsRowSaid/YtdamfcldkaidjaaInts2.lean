/- Walks that only read: the reference's Get; GetFour and GetText, both. The condition: a slice that reads as bytes. -/
import Derived.Test.YtdamfcldkaidjaaInts1
namespace Go.Proofs.Ytdamfcldkaidjaa
open Go.RowKit

set_option maxRecDepth 100000 in
set_option maxHeartbeats 1000000 in
theorem refGet_any (v : Value) (l : List UInt8) (w : World) (hv : Rd w v l) : Calls Try.prog 45 #[v] w (RetGet l w) := by
  obtain ⟨a, cap, rfl, h1, h2, h3⟩ := hv
  go_enter Try.func45, Try.ntmps45
  go_wp2
  go_loop [5] (fun c => ∃ i : Nat, i ≤ l.length ∧ i ≤ 10 ∧ c = .int .i64 i ∧ (∀ j (hj : j < l.length), j < i → 128 ≤ l[j].toNat)) (fun c => (10 - intOf c).toNat)
  case atStart => exact ⟨0, by omega, by omega, rfl, fun j _ hj => absurd hj (by omega)⟩
  case round =>
    obtain ⟨i, hi, h10, rfl, hall⟩ := hrel
    have HC := Lib.hid h3
    have HA := Lib.hid hall
    clear h3 hall
    by_cases hin : i < l.length ∧ i < 10
    · obtain ⟨hin1, hin2⟩ := hin
      obtain ⟨b, off, rfl, hc⟩ := HC.out i hin1
      obtain ⟨n, hn⟩ : ∃ n : Nat, n = l[i].toNat := ⟨_, rfl⟩
      rw [← hn] at hc
      have HN := Lib.hid hn
      clear hn
      by_cases hs : 128 ≤ n
      · go_wp2
        go_round
        case rel =>
          refine ⟨i + 1, by omega, by omega, by go_num, fun j hj hji => ?_⟩
          by_cases e : j = i
          · subst e; rw [← HN.out]; exact hs
          · exact HA.out j hj (by omega)
        case measure => simp [intOf]; omega
      · have hv := vget_at l i hin1 hin2 HA.out (by rw [← HN.out]; omega)
        rw [← HN.out] at hv
        by_cases hb : (0 < i ∧ n = 0) ∨ (i = 9 ∧ 1 < n)
        · rw [if_pos hb] at hv
          have HV := Lib.hid hv
          clear hv HA
          rcases hb with ⟨hb1, rfl⟩ | ⟨rfl, hb2⟩
          · go_wp2
            go_ret3
            exact ret_get HV.out rfl rfl rfl
          · have hn0 : ¬ (n : Int) = 0 := by omega
            go_wp2
            go_ret3
            exact ret_get HV.out rfl rfl rfl
        · rw [if_neg hb] at hv
          have HV := Lib.hid hv
          clear hv
          have hz : 0 < i → ¬ (n : Int) = 0 := fun h h' => hb (.inl ⟨h, by omega⟩)
          have h9 : i = 9 → n ≤ 1 := fun h => by apply Nat.le_of_not_lt; intro h'; exact hb (.inr ⟨h, h'⟩)
          have HB := Lib.hid (fun m => vval_bound l i m hin1 hin2 (fun e => by rw [← HN.out]; exact h9 e))
          have hcase : i ≤ 0 ∨ (0 < i ∧ ¬ (i : Int) = 9 ∧ ¬ (n : Int) = 0) ∨ (9 ≤ i ∧ i ≤ 9 ∧ ¬ (n : Int) = 0 ∧ n ≤ 1) := by omega
          clear hb hz h9
          have hc9 : i = 9 → w.cell? ⟨b, off + 9, none⟩ = some (.int .u8 n) := fun e => e ▸ hc
          rcases hcase with hi0 | ⟨hi0, hi9, hz⟩ | ⟨hi0, hi9, hz, h9⟩
          case' inl => clear hc9
          case' inr.inl => clear hc9
          case' inr.inr =>
            replace hc9 := hc9 (by omega)
            have hzb : ((n : Int) == 0) = false := beq_eq_false_iff_ne.2 (by omega)
          all_goals go_wp2
          all_goals
            clear hc
            try clear hz
            go_loop [6, 7] (fun t c => ∃ m : Nat, m ≤ i + 1 ∧ c = .int .i64 ((m : Int) - 1) ∧ t = .int .u64 ((vval ((l.take (i + 1)).drop m) : Nat) : Int)) (fun _ c => (intOf c + 1).toNat)
            case atStart => exact ⟨i + 1, by omega, by congr 1; omega, by rw [List.drop_of_length_le (by simp; omega)]; rfl⟩
            case round =>
              obtain ⟨m, hm, rfl, rfl⟩ := hrel
              by_cases h0 : 0 < m
              · obtain ⟨b', off', e1, hcm⟩ := HC.out (m - 1) (by omega)
                cases e1
                have HD := Lib.hid (vval_drop (l.take (i + 1)) m h0 (by simp; omega))
                obtain ⟨x, hx⟩ : ∃ x : Nat, x = vval ((l.take (i + 1)).drop m) := ⟨_, rfl⟩
                obtain ⟨d, hd⟩ : ∃ d : Nat, d = l[m - 1].toNat := ⟨_, rfl⟩
                have hxb : x < 144115188075855872 := by rw [hx]; exact HB.out m h0 hm
                have hd256 : d < 256 := by rw [hd]; exact UInt8.toNat_lt _
                have HX : Hid (x * 128 + d % 128 = vval ((l.take (i + 1)).drop (m - 1))) := by
                  show _ = _
                  rw [HD.out, hx, hd]; simp
                rw [← hd] at hcm
                rw [← hx]
                clear hd hx HD
                go_wp2
                go_round
                case rel => exact ⟨m - 1, by omega, i64_next m h0, by rw [← HX.out]; congr 1⟩
                case measure => simp [intOf]; omega
              · obtain rfl : m = 0 := by omega
                go_wp2
                go_ret3
                exact ret_get HV.out (by simp) (by omega) rfl
    · have hv := vget_none l (fun j hj h10 => HA.out j hj (by omega))
      have HV := Lib.hid hv
      clear hv
      rcases (by omega : (i < l.length ∧ 10 ≤ i) ∨ (l.length ≤ i ∧ l.length < 10) ∨ (l.length ≤ i ∧ 10 ≤ l.length)) with ⟨q1, q2⟩ | ⟨q1, q2⟩ | ⟨q1, q2⟩
      · have HV2 := HV.out
        rw [if_neg (by omega)] at HV2
        have HV3 := Lib.hid HV2
        clear HV2 hin
        go_wp2
        go_ret3
        exact ret_get HV3.out rfl rfl rfl
      · have HV2 := HV.out
        rw [if_pos (by omega)] at HV2
        have HV3 := Lib.hid HV2
        clear HV2 hin
        go_wp2
        go_ret3
        exact ret_get HV3.out rfl rfl rfl
      · have HV2 := HV.out
        rw [if_neg (by omega)] at HV2
        have HV3 := Lib.hid HV2
        clear HV2 hin
        go_wp2
        go_ret3
        exact ret_get HV3.out rfl rfl rfl

def RetText (l : List UInt8) (w : World) (e : Ending) (w' : World) : Prop :=
  e = .returned (.tuple #[.string (bs (tget l).1), .int .i64 (tget l).2.1, .int .i64 (tget l).2.2]) ∧ w = w'
theorem ret_text {l : List UInt8} {w : World} {s : List UInt8} {k e : Nat} {t : ByteArray} {y z : Int} (h : tget l = (s, k, e)) (h1 : t = bs s) (h2 : y = k) (h3 : z = e) :
    RetText l w (.returned (.tuple #[.string t, .int .i64 y, .int .i64 z])) w := by
  subst h1 h2 h3
  exact ⟨by rw [h], rfl⟩
theorem tget_bad {l : List UInt8} {n k e : Nat} (h : vget l = (n, k, e)) (he : e ≠ 0) : tget l = ([], 0, e) := by
  unfold tget; rw [h]; simp [he]
theorem tget_short {l : List UInt8} {n k : Nat} (h : vget l = (n, k, 0)) (he : l.length - k < n) : tget l = ([], 0, 5) := by
  unfold tget; rw [h]; simp [he]
theorem tget_ok {l : List UInt8} {n k : Nat} (h : vget l = (n, k, 0)) (he : ¬ l.length - k < n) : tget l = ((l.drop k).take n, k + n, 0) := by
  unfold tget; rw [h]; simp [he]
end Go.Proofs.Ytdamfcldkaidjaa

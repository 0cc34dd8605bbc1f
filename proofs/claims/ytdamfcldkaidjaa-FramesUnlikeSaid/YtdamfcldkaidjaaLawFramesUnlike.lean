/- Walk of law03.FramesUnlike. The condition: bytes of at most 2^47. -/
import Derived.Test.YtdamfcldkaidjaaFrames4
import Derived.Test.YtdamfcldkaidjaaHelp1
import Derived.Deep.RegionHeld3
namespace Go.Proofs.Ytdamfcldkaidjaa
open Go.RowKit

theorem unlike (a b : List UInt8) (ha : a.length ≤ 65536) (hb : b.length ≤ 65536) (n : Nat) (hn : n = min (a.length + 8) (b.length + 8)) : ((fput a).take n = (fput b).take n) ↔ a = b := by
  constructor
  · intro h
    have h4 : four a.length = four b.length := by
      have := congrArg (List.take 4) h
      rw [List.take_take, List.take_take, Nat.min_eq_left (by omega)] at this
      exact this
    have hl : a.length = b.length := by
      have := congrArg fval h4
      rwa [fval_four' _ (by omega), fval_four' _ (by omega)] at this
    rw [List.take_of_length_le (by rw [fput_length]; omega), List.take_of_length_le (by rw [fput_length]; omega)] at h
    exact congrArg (List.drop 8) h
  · intro h; rw [h]
theorem rd_take {w : World} {a : Option Addr} {N c : Nat} {l : List UInt8} (h : Rd w (.slice a N c) l) (n : Nat) (hn : n ≤ l.length) : Rd w (.slice a n c) (l.take n) ∧ n ≤ c ∧ c ≤ 9223372036854775807 := by
  obtain ⟨a0, c0, e, h1, h2, h3⟩ := h
  simp only [Value.slice.injEq] at e
  obtain ⟨rfl, _, rfl⟩ := e
  have hl : (l.take n).length = n := by simp; omega
  refine ⟨⟨a, c, by rw [hl], by rw [hl]; omega, h2, fun j hj => ?_⟩, by omega, h2⟩
  rw [hl] at hj
  obtain ⟨b, off, e, hc⟩ := h3 j (by omega)
  exact ⟨b, off, e, by rw [hc]; simp⟩
theorem same_dec (w : World) (v v2 : Value) (l m : List UInt8) (hv : Rd w v l) (hv2 : Rd w v2 m) (b : Bool) (hb : decide (l = m) = b) : Calls Try.prog 58 #[v, v2] w fun e w' => e = .returned (.bool b) ∧ Below w.heap.size w w' := by
  subst hb
  refine (sameBytes_any v v2 l m w hv hv2).mono ?_
  rintro e w' ⟨rfl, n, rfl⟩
  exact ⟨rfl, drewN_below _ _⟩

set_option maxRecDepth 100000 in
set_option maxHeartbeats 4000000 in
theorem framesUnlike_walk (w : World) (v : Value) (l : List UInt8) (v2 : Value) (m : List UInt8) (hv : Rd w v l) (hl : l.length ≤ 140737488351232) (hv2 : Rd w v2 m) (hm : m.length ≤ 140737488351232) :
    Calls Try.prog 24 #[v, v2] w (RetTrue w) := by
  have hend : ∀ (w5 : World), Hid (Calls Try.prog 65 #[] w5 (RetTrue w5)) := fun w5 => alive03_any w5
  obtain ⟨va, vn, vc, rfl, hvn⟩ := rd_len hv
  obtain ⟨ma, mn, mc, rfl, hmn⟩ := rd_len hv2
  rw [← hvn] at hl
  rw [← hmn] at hm
  have HVN := Lib.hid hvn
  have HV := Lib.hid hv
  have HMN := Lib.hid hmn
  have HM := Lib.hid hv2
  clear hvn hv hmn hv2
  rcases (by omega : 65536 < vn ∨ (vn ≤ 65536 ∧ 65536 < mn) ∨ (vn ≤ 65536 ∧ mn ≤ 65536)) with h1 | ⟨h1, h2⟩ | ⟨h1, h2⟩
  · go_enter Try.func24, Try.ntmps24
    go_wp2_with fail
    refine (hend _).out.mono ?_
    rintro e w1 ⟨rfl, bel⟩
    go_wp2_with fail
    refine (hend _).out.mono ?_
    rintro e w3 ⟨rfl, bel3⟩
    replace bel := Below.trans bel (bel3.mono bel.size)
    go_wp2
    go_ret
    exact ⟨rfl, bel⟩
  · go_enter Try.func24, Try.ntmps24
    go_wp2_with fail
    refine (hend _).out.mono ?_
    rintro e w1 ⟨rfl, bel⟩
    go_wp2_with fail
    refine (hend _).out.mono ?_
    rintro e w3 ⟨rfl, bel3⟩
    replace bel := Below.trans bel (bel3.mono bel.size)
    go_wp2
    go_ret
    exact ⟨rfl, bel⟩
  · go_enter Try.func24, Try.ntmps24
    go_wp2_with fail
    refine (hend _).out.mono ?_
    rintro e w1 ⟨rfl, bel⟩
    go_wp2_with fail
    refine (put_var w1 _ l (HV.out.below bel) (by rw [← HVN.out]; omega)).mono ?_
    rintro e w2 ⟨ba, bn, bc, rfl, hbn, HB, bel2⟩
    rw [← HVN.out] at hbn
    have HBN := Lib.hid hbn
    have hb64 : bn ≤ 65544 := by omega
    clear hbn
    replace bel := Below.trans bel (bel2.mono bel.size)
    have HBR := Lib.hid (rd_of_own HB.out).2
    clear HB bel2
    go_wp2_with fail
    refine (put_var w2 _ m (HM.out.below bel) (by rw [← HMN.out]; omega)).mono ?_
    rintro e w3 ⟨da, dn, dc, rfl, hdn, HD, bel3⟩
    rw [← HMN.out] at hdn
    have HDN := Lib.hid hdn
    have hd64 : dn ≤ 65544 := by omega
    clear hdn
    replace HBR := Lib.hid (HBR.out.below bel3)
    replace bel := Below.trans bel (bel3.mono bel.size)
    have HDR := Lib.hid (rd_of_own HD.out).2
    clear HD bel3
    obtain ⟨n, hn⟩ : ∃ n, n = min bn dn := ⟨_, rfl⟩
    have hn1 : n ≤ bn := by omega
    have hn2 : n ≤ dn := by omega
    have HU := Lib.hid (unlike l m (by rw [← HVN.out]; omega) (by rw [← HMN.out]; omega) n (by rw [← HVN.out, ← HMN.out, ← HBN.out, ← HDN.out]; exact hn))
    obtain ⟨hr1, hc1, hm1⟩ := rd_take HBR.out n (by rw [fput_length, ← HVN.out, ← HBN.out]; exact hn1)
    obtain ⟨hr2, hc2, hm2⟩ := rd_take HDR.out n (by rw [fput_length, ← HMN.out, ← HDN.out]; exact hn2)
    obtain ⟨B, hB⟩ : ∃ B, B = decide (l = m) := ⟨_, rfl⟩
    have hB2 : decide ((fput l).take n = (fput m).take n) = B := by rw [hB]; exact decide_eq_decide.2 HU.out
    have T1 : Hid (∀ w', Below w3.heap.size w3 w' → Calls Try.prog 58 #[.slice ba n bc, .slice da n dc] w' fun e w9 => e = .returned (.bool B) ∧ Below w'.heap.size w' w9) := fun w' hb' => same_dec w' _ _ _ _ (hr1.below hb') (hr2.below hb') B hB2
    have T2 : Hid (∀ w', Below w3.heap.size w3 w' → Calls Try.prog 58 #[.slice va vn vc, .slice ma mn mc] w' fun e w9 => e = .returned (.bool B) ∧ Below w'.heap.size w' w9) := fun w' hb' => same_dec w' _ _ _ _ (HV.out.below (Below.trans bel (hb'.mono bel.size))) (HM.out.below (Below.trans bel (hb'.mono bel.size))) B hB.symm
    have h33 : Below w3.heap.size w3 w3 := Below.refl _ _
    clear hr1 hr2 HBR HDR hB hB2 HU
    rcases Nat.lt_or_ge dn bn with hlt | hge
    case' inl => obtain rfl : n = dn := by omega
    case' inr =>
      obtain rfl : n = bn := by omega
      have hnl : ¬ dn < n := by omega
    all_goals
      clear hn
      go_upto_region 6 with (fail)
      cases B
      all_goals
        go_region_held3 (fun w' => Below w3.heap.size w3 w')
          ((first | assumption | exact Below.drew h33 | exact Below.trans (by assumption) (hb9.mono (Below.size (by assumption)))))
          ((go_at_call 58; (first | with_reducible refine (T1.out _ (by assumption)).mono ?_ | with_reducible refine (T2.out _ (by assumption)).mono ?_); rintro e w9 ⟨rfl, hb9⟩))
        go_wp2
        go_ret
        refine ⟨by first | rfl | (simp; done), Below.trans bel (Below.mono (B := w3.heap.size) ?_ bel.size)⟩
        assumption
end Go.Proofs.Ytdamfcldkaidjaa

/- Walk of law03.FramesJoin. The condition: bytes of at most 2^47. -/
import Derived.Test.YtdamfcldkaidjaaFrames4
import Derived.Test.YtdamfcldkaidjaaOrderPut
import Derived.Test.YtdamfcldkaidjaaHelp1
namespace Go.Proofs.Ytdamfcldkaidjaa
open Go.RowKit

theorem same_bt (w : World) (v v2 : Value) (l : List UInt8) (hv : Rd w v l) (hv2 : Rd w v2 l) : Calls Try.prog 58 #[v, v2] w fun e w' => e = .returned (.bool true) ∧ Below w.heap.size w w' := by
  refine (sameBytes_any v v2 l l w hv hv2).mono ?_
  rintro e w' ⟨rfl, n, rfl⟩
  exact ⟨by simp, drewN_below _ _⟩

set_option maxRecDepth 100000 in
set_option maxHeartbeats 4000000 in
theorem framesJoin_walk (w : World) (v : Value) (l : List UInt8) (v2 : Value) (m : List UInt8) (hv : Rd w v l) (hl : l.length ≤ 140737488351232) (hv2 : Rd w v2 m) (hm : m.length ≤ 140737488351232) :
    Calls Try.prog 25 #[v, v2] w (RetTrue w) := by
  have hend : ∀ (w5 : World), Hid (Calls Try.prog 65 #[] w5 (RetTrue w5)) := fun w5 => alive03_any w5
  obtain ⟨va, vn, vc, rfl, hvn⟩ := rd_len hv
  obtain ⟨ma, mn, mc, rfl, hmn⟩ := rd_len hv2
  rw [← hvn] at hl
  rw [← hmn] at hm
  have HVN := Lib.hid hvn
  have HV := Lib.hid hv
  have HMN := Lib.hid hmn
  have HM := Lib.hid hv2
  clear hvn hv hmn hv2
  by_cases h1 : 65536 < vn + mn
  · go_enter Try.func25, Try.ntmps25
    go_wp2_with fail
    refine (hend _).out.mono ?_
    rintro e w1 ⟨rfl, bel⟩
    have hd : decide (65536 < (vn : Int) + (mn : Int)) = true := by simp; omega
    go_wp2_with fail
    refine (hend _).out.mono ?_
    rintro e w3 ⟨rfl, bel3⟩
    replace bel := Below.trans bel (bel3.mono bel.size)
    go_wp2
    go_ret
    exact ⟨rfl, bel⟩
  · have hd : decide (65536 < (vn : Int) + (mn : Int)) = false := by simp; omega
    go_enter Try.func25, Try.ntmps25
    go_wp2_with fail
    refine (hend _).out.mono ?_
    rintro e w1 ⟨rfl, bel⟩
    go_wp2_with fail
    refine (put_var w1 _ l (HV.out.below bel) (by rw [← HVN.out]; omega)).mono ?_
    rintro e w2 ⟨ba, bn, bc, rfl, hbn, HB, bel2⟩
    rw [← HVN.out] at hbn
    have HBN := Lib.hid hbn
    have b8 : 8 ≤ bn := by omega
    have b64 : bn ≤ 65544 := by omega
    replace bel := Below.trans bel (bel2.mono bel.size)
    have HBR := Lib.hid (rd_of_own HB.out).2
    clear HB bel2 hbn
    go_wp2_with fail
    refine (put_var w2 _ m (HM.out.below bel) (by rw [← HMN.out]; omega)).mono ?_
    rintro e w3 ⟨da, dn, dc, rfl, hdn, HD, bel3⟩
    rw [← HMN.out] at hdn
    have HDN := Lib.hid hdn
    have d8 : 8 ≤ dn := by omega
    have d64 : dn ≤ 65544 := by omega
    replace HBR := Lib.hid (HBR.out.below bel3)
    replace bel := Below.trans bel (bel3.mono bel.size)
    have HDR := Lib.hid (rd_of_own HD.out).2
    clear HD bel3 hdn
    have hlm : (l ++ m).length ≤ 65536 := by rw [List.length_append, ← HVN.out, ← HMN.out]; omega
    have HLM := Lib.hid hlm
    clear hlm
    go_wp2_with fail
    refine (twin_my _ l w3 (HV.out.below bel) (by rw [← HVN.out]; omega)).mono ?_
    rintro e w4 ⟨ta, tn, tc, rfl, HTN, HT, bel4⟩
    have HM4 := Lib.hid (HM.out.below (Below.trans bel (bel4.mono bel.size)))
    have HB4 := Lib.hid bel4
    clear bel4
    go_wp2_with (at_builtin; refine wp_app_my rfl _ _ rfl w3.heap.size _ _ _ _ m rfl rfl HT.out HM4.out (by have := HLM.out; rw [List.length_append] at this; omega) HB4.out.size ?_; intro ua un uc w5 HUN HU bel5)
    have B35 : Below w3.heap.size w3 w5 := Below.trans HB4.out bel5
    refine (put_var w5 _ (l ++ m) (rd_of_own HU.out).2 HLM.out).mono ?_
    rintro e w6 ⟨za, zn, zc, rfl, hzn, HZ, bel6⟩
    have B36 := Below.trans B35 (bel6.mono B35.size)
    have hsum : zn + 8 = bn + dn := by rw [hzn, HBN.out, HDN.out, List.length_append, ← HVN.out, ← HMN.out]; omega
    have hzl : zn = 8 + (l ++ m).length := by rw [hzn]; omega
    have HZL := Lib.hid hzl
    have z8 : 8 ≤ zn := by omega
    have z64 : zn ≤ 65544 := by have := HLM.out; omega
    replace HBR := Lib.hid (HBR.out.below B36)
    replace HDR := Lib.hid (HDR.out.below B36)
    replace bel := Below.trans bel (B36.mono bel.size)
    have HZR := Lib.hid (rd_of_own HZ.out).2
    have hneq : (((zn : Int) + 8) != ((bn : Int) + (dn : Int))) = false := by simp; omega
    have hneq2 : ¬ ((zn : Int) + 8 ≠ (bn : Int) + (dn : Int)) := by omega
    clear HZ HU HUN HT HTN B35 B36 bel5 bel6 HB4 HM4 hsum hzl hzn
    obtain ⟨pn, hpn⟩ : ∃ pn, pn = (l ++ m).length := ⟨_, rfl⟩
    obtain ⟨x1a, x1c, hcut1, hr1⟩ := cut_rest HZR.out 8 pn (by rw [fput_length, ← hpn]; omega)
    obtain ⟨x2a, x2c, hcut2, hr2⟩ := cut_rest HBR.out 8 vn (by rw [fput_length, ← HVN.out]; omega)
    obtain ⟨x3a, x3c, hcut3, hr3⟩ := cut_rest HDR.out 8 mn (by rw [fput_length, ← HMN.out]; omega)
    rw [show (fput (l ++ m)).drop 8 = l ++ m from rfl] at hr1
    rw [show (fput l).drop 8 = l from rfl] at hr2
    rw [show (fput m).drop 8 = m from rfl] at hr3
    simp only [show ((8 : Nat) : Int) = 8 from rfl] at hcut1 hcut2 hcut3
    have s1 := fun w' => hcut1 w' .i64
    have s2 := fun w' => hcut2 w' .i64
    have s3 := fun w' => hcut3 w' .i64
    have R1 := Lib.hid hr1
    have R2 := Lib.hid hr2
    have R3 := Lib.hid hr3
    have h66 : Below w6.heap.size w6 w6 := Below.refl _ _
    clear hcut1 hcut2 hcut3 hr1 hr2 hr3 HZR HBR HDR hpn
    go_upto_region 8 with (fail)
    clear hneq hneq2 hd
    go_region_held3 (fun w' => Below w6.heap.size w6 w')
      ((first | assumption | exact Below.drew h66 | exact Below.trans (by assumption) (hb9.mono (Below.size (by assumption))) | exact Below.trans (by assumption) hb8))
      (first
        | (go_at_call 39; refine (twin_my _ l _ (R2.out.below (by assumption)) (by have := HLM.out; rw [List.length_append] at this; omega)).mono ?_; rintro e w7 ⟨ta, tn, tc, rfl, HTN, HT, hb9⟩; replace HT := Lib.hid (own_mono HT.out (Below.size (w := w6) (by assumption))))
        | (refine step_app rfl _ _ rfl _ _ _ _ l m rfl rfl HT.out (R3.out.below (by assumption)) (by have := HLM.out; rw [List.length_append] at this; omega) (Below.size (w := w6) (by assumption)) ?_; intro ua un uc w8 HUN HU hb8)
        | (go_at_call 58; refine (same_bt _ _ _ (l ++ m) (R1.out.below (by assumption)) (rd_of_own HU.out).2).mono ?_; rintro e w10 ⟨rfl, hb9⟩))
    go_wp2
    go_ret
    refine ⟨by first | rfl | (simp; done), Below.trans bel (Below.mono (B := w6.heap.size) ?_ bel.size)⟩
    assumption
end Go.Proofs.Ytdamfcldkaidjaa

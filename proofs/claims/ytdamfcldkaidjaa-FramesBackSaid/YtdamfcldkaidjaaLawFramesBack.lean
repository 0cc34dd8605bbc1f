/- Walk of law03.FramesBack. The condition: bytes of at most 2^47. -/
import Derived.Test.YtdamfcldkaidjaaFrames4
import Derived.Test.YtdamfcldkaidjaaHelp1
namespace Go.Proofs.Ytdamfcldkaidjaa
open Go.RowKit

set_option maxRecDepth 100000 in
set_option maxHeartbeats 4000000 in
theorem framesBack_walk (w : World) (v : Value) (l : List UInt8) (v2 : Value) (m : List UInt8) (hv : Rd w v l) (hl : l.length ≤ 140737488351232) (hv2 : Rd w v2 m) (hm : m.length ≤ 140737488351232) :
    Calls Try.prog 19 #[v, v2] w (RetTrue w) := by
  have hend : ∀ (w5 : World), Hid (Calls Try.prog 65 #[] w5 (RetTrue w5)) := fun w5 => alive03_any w5
  obtain ⟨va, vn, vc, rfl, hvn⟩ := rd_len hv
  obtain ⟨ma, mn, mc, rfl, hmn⟩ := rd_len hv2
  rw [← hvn] at hl
  rw [← hmn] at hm
  have HVN := Lib.hid hvn
  have HV := Lib.hid hv
  have HMN := Lib.hid hmn
  have HM := Lib.hid hv2
  clear hvn hv hmn hv2
  rcases (by omega : 70000 < vn ∨ (vn ≤ 70000 ∧ 20000 < mn) ∨ (vn ≤ 70000 ∧ mn ≤ 20000)) with h1 | ⟨h1, h2⟩ | ⟨h1, h2⟩
  · go_enter Try.func19, Try.ntmps19
    go_wp2_with fail
    refine (hend _).out.mono ?_
    rintro e w1 ⟨rfl, bel⟩
    go_wp2_with fail
    refine (hend _).out.mono ?_
    rintro e w3 ⟨rfl, bel3⟩
    replace bel := Below.trans bel (bel3.mono bel.size)
    go_wp2
    go_ret
    exact ⟨rfl, bel⟩
  · go_enter Try.func19, Try.ntmps19
    go_wp2_with fail
    refine (hend _).out.mono ?_
    rintro e w1 ⟨rfl, bel⟩
    go_wp2_with fail
    refine (hend _).out.mono ?_
    rintro e w3 ⟨rfl, bel3⟩
    replace bel := Below.trans bel (bel3.mono bel.size)
    go_wp2
    go_ret
    exact ⟨rfl, bel⟩
  · by_cases hlong : 65536 < vn
    · go_enter Try.func19, Try.ntmps19
      go_wp2_with fail
      refine (hend _).out.mono ?_
      rintro e w1 ⟨rfl, bel⟩
      go_wp2_with fail
      refine (framesPut_long _ _ l (HV.out.below bel) (by rw [← HVN.out]; exact hl) (by rw [← HVN.out]; exact hlong)).mono ?_
      rintro e w2 ⟨rfl, rfl⟩
      go_wp2
      go_ret
      exact ⟨by first | rfl | (simp; done) | (simp; omega), bel⟩
    · have HG := Lib.hid (fgetR_put l m (by rw [← HVN.out]; omega))
      rw [← HVN.out] at HG
      go_enter Try.func19, Try.ntmps19
      go_wp2_with fail
      refine (hend _).out.mono ?_
      rintro e w1 ⟨rfl, bel⟩
      go_wp2_with fail
      refine (put_var w1 _ l (HV.out.below bel) (by rw [← HVN.out]; omega)).mono ?_
      rintro e w2 ⟨ba, bn, bc, rfl, hbn, HB, bel2⟩
      rw [← HVN.out] at hbn
      subst hbn
      replace bel := Below.trans bel (bel2.mono bel.size)
      have HBR := Lib.hid (rd_of_own HB.out).2
      have hfl : (fput l).length ≤ 70000 := by rw [fput_length, ← HVN.out]; omega
      have HFL := Lib.hid hfl
      have HM2 := Lib.hid (HM.out.below bel)
      clear HB bel2 hfl
      go_wp2_with (first
        | (at_builtin; refine wp_app_my rfl _ _ rfl w2.heap.size 0 _ _ [] (fput l) rfl rfl (own_nil _ _ _ _) HBR.out (by have := HFL.out; simp; omega) (Nat.le_refl _) ?_; intro xa xn xc w3 HXN HX bel3)
        | (at_builtin; refine wp_app_my rfl _ _ rfl w2.heap.size _ _ _ _ m rfl rfl HX.out (HM2.out.below bel3) (by have := HFL.out; have := HMN.out; simp; omega) bel3.size ?_; intro ya yn yc w4 HYN HY bel4))
      have B24 : Below w2.heap.size w2 w4 := Below.trans bel3 bel4
      replace bel := Below.trans bel (B24.mono bel.size)
      clear HXN HX bel3 bel4 B24 HBR HM2
      refine (got_var w4 _ _ l (vn + 8) 0 HG.out (rd_of_own HY.out).2 (by have := HFL.out; have := HMN.out; simp; omega)).mono ?_
      rintro e w5 ⟨za, zn, zc, rfl, HZN, HZ, bel5⟩
      replace bel := Below.trans bel (bel5.mono bel.size)
      have hsame := sameBytes_any _ _ _ _ _ (rd_of_own HZ.out).2 (HV.out.below bel)
      rw [decide_eq_true rfl] at hsame
      have HSA := Lib.hid hsame
      clear hsame HZ HYN HY
      go_wp2_with fail
      refine HSA.out.mono ?_
      rintro e w9 ⟨rfl, k9, rfl⟩
      go_wp2
      go_ret
      exact ⟨by first | rfl | (simp; done) | (simp; omega), Below.trans bel ((drewN_below _ _).mono bel.size)⟩
end Go.Proofs.Ytdamfcldkaidjaa

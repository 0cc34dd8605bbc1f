/- Walk of law03.FramesAny. The condition: bytes of at most 2^47. -/
import Derived.Test.YtdamfcldkaidjaaFrames4
import Derived.Test.YtdamfcldkaidjaaHelp1
namespace Go.Proofs.Ytdamfcldkaidjaa
open Go.RowKit

set_option maxRecDepth 100000 in
set_option maxHeartbeats 4000000 in
theorem framesAny_walk (w : World) (v : Value) (l : List UInt8) (hv : Rd w v l) (hl : l.length ≤ 140737488351232) :
    Calls Try.prog 22 #[v] w (RetTrue w) := by
  have hend : ∀ (w5 : World), Hid (Calls Try.prog 65 #[] w5 (RetTrue w5)) := fun w5 => alive03_any w5
  obtain ⟨va, vn, vc, rfl, hvn⟩ := rd_len hv
  rw [← hvn] at hl
  have HVN := Lib.hid hvn
  have HV := Lib.hid hv
  clear hvn hv
  by_cases hb : 100000 < vn
  · go_enter Try.func22, Try.ntmps22
    go_wp2_with fail
    refine (hend _).out.mono ?_
    rintro e w1 ⟨rfl, bel⟩
    go_wp2_with fail
    refine (hend _).out.mono ?_
    rintro e w3 ⟨rfl, bel3⟩
    replace bel := Below.trans bel (bel3.mono bel.size)
    go_wp2
    go_ret
    exact ⟨rfl, bel⟩
  · rcases hg : fgetR l with ⟨r, k, er⟩
    have HG := Lib.hid hg
    by_cases he : er = 0
    · subst he
      obtain ⟨g1, g2, g3, g4⟩ := fgetR_got hg
      rw [← HVN.out] at g3
      have HG4 := Lib.hid g4
      have HG1 := Lib.hid g1
      obtain ⟨rn, hrn⟩ : ∃ rn, rn = r.length := ⟨_, rfl⟩
      rw [← hrn] at g1 g2
      have HRN := Lib.hid hrn
      subst g2
      clear hg g4 hrn
      go_enter Try.func22, Try.ntmps22
      go_wp2_with fail
      refine (hend _).out.mono ?_
      rintro e w1 ⟨rfl, bel⟩
      go_wp2_with fail
      refine (got_var w1 _ l r (rn + 8) 0 HG.out (HV.out.below bel) (by rw [← HVN.out]; exact hl)).mono ?_
      rintro e w2 ⟨za, zn, zc, rfl, HZN, HZ, bel2⟩
      replace bel := Below.trans bel (bel2.mono bel.size)
      go_wp2_with fail
      refine (put_var w2 _ r (rd_of_own HZ.out).2 HG1.out).mono ?_
      rintro e w3 ⟨ba, bn, bc, rfl, hbn, HB, bel3⟩
      rw [← HRN.out] at hbn
      subst hbn
      replace bel := Below.trans bel (bel3.mono bel.size)
      obtain ⟨xa, xc, hcut, hr⟩ := cut_to (HV.out.below bel) (rn + 8) (by rw [← HVN.out]; exact g3)
      rw [← HG4.out] at hr
      have hsame := sameBytes_any _ _ _ _ _ (rd_of_own HB.out).2 hr
      rw [decide_eq_true rfl] at hsame
      have HSA := Lib.hid hsame
      simp only [Int.natCast_add, show ((8 : Nat) : Int) = 8 from rfl] at hcut
      clear hsame HB hr HZ HZN bel2 bel3
      go_wp2_with fail
      refine HSA.out.mono ?_
      rintro e w9 ⟨rfl, k9, rfl⟩
      go_wp2
      go_ret
      exact ⟨by first | rfl | (simp; done) | (simp; omega), Below.trans bel ((drewN_below _ _).mono bel.size)⟩
    · obtain ⟨rfl, rfl, hcase⟩ := fgetR_bad hg he
      rcases hcase with rfl | rfl
      all_goals
        clear hg he
        go_enter Try.func22, Try.ntmps22
        go_wp2_with fail
        refine (hend _).out.mono ?_
        rintro e w1 ⟨rfl, bel⟩
        go_wp2_with fail
        refine (got_var w1 _ l [] 0 _ HG.out (HV.out.below bel) (by rw [← HVN.out]; exact hl)).mono ?_
        rintro e w2 ⟨za, zn, zc, rfl, HZN, HZ, bel2⟩
        obtain rfl : zn = 0 := HZN.out
        replace bel := Below.trans bel (bel2.mono bel.size)
        go_wp2
        go_ret
        exact ⟨by first | rfl | (simp; done) | (simp; omega), bel⟩
end Go.Proofs.Ytdamfcldkaidjaa

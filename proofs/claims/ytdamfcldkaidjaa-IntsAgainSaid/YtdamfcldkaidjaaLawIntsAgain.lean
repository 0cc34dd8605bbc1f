/- Walk of law01.IntsAgain. The condition: bytes of at most 2^47. -/
import Derived.Test.YtdamfcldkaidjaaRet
import Derived.Deep.RegionHeld3
namespace Go.Proofs.Ytdamfcldkaidjaa
open Go.RowKit

set_option maxRecDepth 100000 in
set_option maxHeartbeats 4000000 in
theorem intsAgain_walk (w : World) (v : Value) (l : List UInt8) (hv : Rd w v l) (hl : l.length ≤ 140737488351232) :
    Calls Try.prog 13 #[v] w (RetTrue w) := by
  have hend : ∀ (w5 : World), Hid (Calls Try.prog 61 #[] w5 (RetTrue w5)) := fun w5 => alive01_any w5
  obtain ⟨va, vn, vc, rfl, hvn⟩ := rd_len hv
  rw [← hvn] at hl
  have HVN := Lib.hid hvn
  clear hvn
  by_cases hb : 1048576 < vn
  · go_enter Try.func13, Try.ntmps13
    go_wp2_with fail
    refine (hend _).out.mono ?_
    rintro e w1 ⟨rfl, bel⟩
    go_wp2_with fail
    refine (beyond_one w1 _ _ (by omega) (by omega) true (by simp; omega)).mono ?_
    rintro e w2 ⟨rfl, bel2⟩
    replace bel := Below.trans bel (bel2.mono bel.size)
    clear bel2
    go_wp2_with fail
    refine (hend _).out.mono ?_
    rintro e w3 ⟨rfl, bel3⟩
    replace bel := Below.trans bel (bel3.mono bel.size)
    clear bel3
    go_wp2
    go_ret
    exact ⟨rfl, bel⟩
  · rcases hg : vget l with ⟨n, k, e⟩
    by_cases he : e = 0
    · subst he
      obtain ⟨hn64, hk1, hkl, hk10, hvk⟩ := vget_got hg
      go_enter Try.func13, Try.ntmps13
      go_wp2_with fail
      refine (hend _).out.mono ?_
      rintro e w1 ⟨rfl, bel⟩
      go_wp2_with fail
      refine (beyond_one w1 _ _ (by omega) (by omega) false (by simp; omega)).mono ?_
      rintro e w2 ⟨rfl, bel2⟩
      replace bel := Below.trans bel (bel2.mono bel.size)
      clear bel2
      have HV := Lib.hid (hv.below bel)
      clear hv
      have HG := Lib.hid hg
      have HVK := Lib.hid hvk
      rw [← HVN.out] at hkl
      clear hg hvk
      go_wp2_with fail
      refine (intsGet_any _ l w2 HV.out).mono ?_
      rintro e w3 ⟨rfl, rfl⟩
      rw [HG.out]
      obtain ⟨x1a, x1c, hcut1, hr1⟩ := cut_to HV.out k (by rw [← HVN.out]; exact hkl)
      rw [← HVK.out] at hr1
      have H1 := Lib.hid hr1
      clear hr1
      have d1 : decide ((k : Int) < 1) = false := by simp; omega
      have d2 : decide ((vn : Int) < (k : Int)) = false := by simp; omega
      have d4 : decide (vn < k) = false := by simp; omega
      have d5 : decide (k ≤ vn) = true := by simp; omega
      have d3 : decide ((10 : Int) < (k : Int)) = false := by simp; omega
      go_wp2_with fail
      go_region_held3 (fun w' => Rd w' (.slice va vn vc) l ∧ Rd w' (.slice x1a k x1c) (vint n) ∧ Below w.heap.size w w') ((go_split_ands; (repeat' apply And.intro) <;> first | assumption | exact H1.out | exact HV.out | exact Below.drew (by assumption) | exact Rd.drewN (by assumption) _ | exact Rd.below (by assumption) bel4 | exact Below.trans (by assumption) (bel4.mono (Below.size (by assumption))) | exact Below.trans (by assumption) ((drewN_below _ _).mono (Below.size (by assumption)))))
        (first | (go_at_call 62; refine (put_rd _ _ [] n (rd_nil _) hn64 (by decide)).mono ?_; rintro e w4 ⟨pa, pn, pc, rfl, HPN, HP, bel4⟩; rw [List.nil_append] at HP) | (go_at_call 58; refine (sameBytes_any _ _ _ _ _ HP.out (by assumption : Rd _ (.slice va vn vc) l ∧ Rd _ (.slice x1a k x1c) (vint n) ∧ Below w.heap.size w _).2.1).mono ?_; rw [decide_eq_true rfl]; rintro e w5 ⟨rfl, k5, rfl⟩))
      obtain ⟨hv6, _, bel6⟩ := (by assumption : Rd _ (.slice va vn vc) l ∧ Rd _ (.slice x1a k x1c) (vint n) ∧ Below w.heap.size w _)
      clear bel4 HP HPN
      rw [show w4.drewN k5 = w4.drewN k5 from rfl] at hv6 bel6
      generalize w4.drewN k5 = w6 at *
      have HV6 := Lib.hid hv6
      clear hv6
      go_wp2_with fail
      refine (intsGetText_any _ l w6 HV6.out).mono ?_
      rintro e w7 ⟨rfl, rfl⟩
      clear hcut1 H1
      by_cases hsh : vn - k < n
      · rw [tget_short HG.out (by rw [← HVN.out]; exact hsh)]
        rw [show bs (([] : List UInt8), 0, 5).fst = .empty from rfl]
        have hw1 : IntKind.u64.wrap ((vn : Int) - (k : Int)) = (vn : Int) - (k : Int) := by rw [IntKind.wrap_u64]; omega
        have hlt : decide ((vn : Int) - (k : Int) < (n : Int)) = true := by simp; omega
        go_wp2
        go_ret
        exact ⟨by simp, bel6⟩
      · rw [tget_ok HG.out (by rw [← HVN.out]; exact hsh)]
        have hkn : k + n ≤ vn := by omega
        obtain ⟨s, hs⟩ : ∃ s : ByteArray, s = bs ((l.drop k).take n) := ⟨_, rfl⟩
        have hsn : s.size = n := by rw [hs, bs_size, List.length_take, List.length_drop, ← HVN.out]; omega
        have hst : vint n ++ s.data.toList = l.take (k + n) := by rw [hs, bs_data, HVK.out, List.take_add]
        obtain ⟨y1a, y1c, hcut2, hr2⟩ := cut_to HV6.out (k + n) (by rw [← HVN.out]; exact hkn)
        rw [← hst] at hr2
        simp only [← hs]
        clear hs hst
        have HS := Lib.hid hsn
        have H2 := Lib.hid hr2
        simp only [Int.natCast_add] at hcut2
        have e1 : ((s.size : Int) == (n : Int)) = true := by simp; omega
        have e2 : IntKind.i64.wrap ((k : Int) + (s.size : Int)) = (k : Int) + (n : Int) := by rw [IntKind.wrap_i64]; omega
        have e3 : IntKind.u64.wrap (s.size : Int) = (n : Int) := by rw [IntKind.wrap_u64]; omega
        clear hsn hr2
        have hs64 : s.size < 18446744073709551616 := by rw [HS.out]; exact hn64
        have hs37 : s.size ≤ 137438953472 := by rw [HS.out]; omega
        go_wp2_with fail
        go_region_held3 (fun w' => Rd w' (.slice y1a (k + n) y1c) (vint n ++ s.data.toList) ∧ Below w.heap.size w w') ((go_split_ands; (repeat' apply And.intro) <;> first | assumption | exact H2.out | exact Below.drew (by assumption) | exact Rd.drewN (by assumption) _ | exact Rd.below (by assumption) bel4 | exact Below.trans (by assumption) (bel4.mono (Below.size (by assumption))) | exact Below.trans (by assumption) ((drewN_below _ _).mono (Below.size (by assumption)))))
          (first | (go_at_call 63; refine (putText_rd _ _ [] s (rd_nil _) hs37 (by decide)).mono ?_; rintro e w4 ⟨pa, pn, pc, rfl, HPN, HP, bel4⟩; rw [List.nil_append, HS.out] at HP) | (go_at_call 58; refine (sameBytes_any _ _ _ _ _ HP.out (by assumption : Rd _ (.slice y1a (k + n) y1c) (vint n ++ s.data.toList) ∧ Below w.heap.size w _).1).mono ?_; rw [decide_eq_true rfl]; rintro e w5 ⟨rfl, k5, rfl⟩))
        obtain ⟨_, bel7⟩ := (by assumption : Rd _ (.slice y1a (k + n) y1c) (vint n ++ s.data.toList) ∧ Below w.heap.size w _)
        go_wp2
        go_ret
        exact ⟨by simp, bel7⟩
    · have hbad := vget_bad (l := l) (by rw [hg]; exact he)
      rcases hbad with ⟨h5, hlen⟩ | ⟨h4, hlen⟩
      · rw [← HVN.out] at hlen
        have HG := Lib.hid h5
        clear h5 hg
        go_enter Try.func13, Try.ntmps13
        go_wp2_with fail
        refine (hend _).out.mono ?_
        rintro e w1 ⟨rfl, bel⟩
        go_wp2_with fail
        refine (beyond_one w1 _ _ (by omega) (by omega) false (by simp; omega)).mono ?_
        rintro e w2 ⟨rfl, bel2⟩
        replace bel := Below.trans bel (bel2.mono bel.size)
        clear bel2
        have HV := Lib.hid (hv.below bel)
        clear hv
        go_wp2_with fail
        refine (intsGet_any _ l w2 HV.out).mono ?_
        rintro e w3 ⟨rfl, rfl⟩
        rw [HG.out]
        go_wp2
        go_ret
        exact ⟨by first | (simp; done) | (simp; omega), bel⟩
      · rw [← HVN.out] at hlen
        have HG := Lib.hid h4
        clear h4 hg
        go_enter Try.func13, Try.ntmps13
        go_wp2_with fail
        refine (hend _).out.mono ?_
        rintro e w1 ⟨rfl, bel⟩
        go_wp2_with fail
        refine (beyond_one w1 _ _ (by omega) (by omega) false (by simp; omega)).mono ?_
        rintro e w2 ⟨rfl, bel2⟩
        replace bel := Below.trans bel (bel2.mono bel.size)
        clear bel2
        have HV := Lib.hid (hv.below bel)
        clear hv
        go_wp2_with fail
        refine (intsGet_any _ l w2 HV.out).mono ?_
        rintro e w3 ⟨rfl, rfl⟩
        rw [HG.out]
        go_wp2
        go_ret
        exact ⟨by first | (simp; done) | (simp; omega), bel⟩
end Go.Proofs.Ytdamfcldkaidjaa

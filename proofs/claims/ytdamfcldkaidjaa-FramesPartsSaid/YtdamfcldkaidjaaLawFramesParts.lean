/- Walk of law03.FramesParts. The condition: bytes of at most 2^47. -/
import Derived.Test.YtdamfcldkaidjaaFrames4
import Derived.Test.YtdamfcldkaidjaaHelp1
namespace Go.Proofs.Ytdamfcldkaidjaa
open Go.RowKit

theorem same_true (w : World) (v v2 : Value) (l : List UInt8) (hv : Rd w v l) (hv2 : Rd w v2 l) : Calls Try.prog 58 #[v, v2] w fun e w' => e = .returned (.bool true) ∧ Below w.heap.size w w' := by
  refine (sameBytes_any v v2 l l w hv hv2).mono ?_
  rintro e w' ⟨rfl, n, rfl⟩
  exact ⟨by simp, drewN_below _ _⟩

set_option maxRecDepth 100000 in
set_option maxHeartbeats 4000000 in
theorem framesParts_walk (w : World) (v : Value) (l : List UInt8) (hv : Rd w v l) (hl : l.length ≤ 140737488351232) :
    Calls Try.prog 23 #[v] w (RetTrue w) := by
  have hend : ∀ (w5 : World), Hid (Calls Try.prog 65 #[] w5 (RetTrue w5)) := fun w5 => alive03_any w5
  obtain ⟨va, vn, vc, rfl, hvn⟩ := rd_len hv
  rw [← hvn] at hl
  have HVN := Lib.hid hvn
  have HV := Lib.hid hv
  clear hvn hv
  by_cases hb : 65536 < vn
  · go_enter Try.func23, Try.ntmps23
    go_wp2_with fail
    refine (hend _).out.mono ?_
    rintro e w1 ⟨rfl, bel⟩
    go_wp2_with fail
    refine (hend _).out.mono ?_
    rintro e w3 ⟨rfl, bel3⟩
    replace bel := Below.trans bel (bel3.mono bel.size)
    go_wp2
    go_ret
    exact ⟨rfl, bel⟩
  · have HCM := Lib.hid (crcOn_more (four vn) l)
    go_enter Try.func23, Try.ntmps23
    go_wp2_with fail
    refine (hend _).out.mono ?_
    rintro e w1 ⟨rfl, bel⟩
    go_wp2_with fail
    refine (put_var w1 _ l (HV.out.below bel) (by rw [← HVN.out]; omega)).mono ?_
    rintro e w2 ⟨ba, bn, bc, rfl, hbn, HB, bel2⟩
    rw [← HVN.out] at hbn
    subst hbn
    replace bel := Below.trans bel (bel2.mono bel.size)
    have HBR := Lib.hid (rd_of_own HB.out).2
    clear HB bel2
    go_wp2_with fail
    refine (table_any _).mono ?_
    rintro e w3 ⟨rfl, bel3⟩
    have hst := run_storeCells_new (P := Try.prog) w3 80 Try.zeroCells80 (tabCells 256) (by rw [tabCells_size]; exact info_tab) (by rw [zero_tab, tabCells_size, tabCells_size]) (tabCells_one _)
    go_upto_region 7 with (fail)
    obtain ⟨T, hT⟩ : ∃ T, T = w3.heap.size := ⟨_, rfl⟩
    have bel4 : Below w2.heap.size w2 (w3.alloc (.cells (tabCells 256) 80)) := bel3.alloc bel3.size _
    have HTT : Hid (TabAt (w3.alloc (.cells (tabCells 256) 80)) T) := by rw [hT]; exact heap_alloc_last w3 _
    rw [← hT]
    replace HBR := Lib.hid (HBR.out.below bel4)
    replace bel := Below.trans bel (bel4.mono bel.size)
    clear hst hT bel3 bel4
    generalize w3.alloc (.cells (tabCells 256) 80) = w4 at HTT HBR bel ⊢
    have hmod : (vn : Int) % 4294967296 = (vn : Int) := by omega
    go_wp2_with fail
    try rw [hmod]
    refine (putFour_rd w4 _ [] vn (rd_nil w4) (by omega) (by decide)).mono ?_
    rintro e w5 ⟨xa, xn, xc, rfl, HXN, HX, bel5⟩
    rw [List.nil_append] at HX HXN
    replace HBR := Lib.hid (HBR.out.below bel5)
    replace HTT := Lib.hid (tab_below HTT.out bel5)
    replace bel := Below.trans bel (bel5.mono bel.size)
    clear bel5 hmod
    go_wp2_with fail
    refine (sumsOf_any _ _ (four vn) _ HTT.out HX.out).mono ?_
    rintro e w' ⟨rfl, rfl⟩
    have hcl := crcOn_lt 0 (four vn)
    generalize crcOn 0 (four vn) = C0 at hcl HCM ⊢
    go_wp2_with fail
    refine (sumsOn_any _ _ _ l _ hcl HTT.out (HV.out.below bel)).mono ?_
    rintro e w' ⟨rfl, rfl⟩
    obtain ⟨C, hC⟩ : ∃ C, C = crcOn C0 l := ⟨_, rfl⟩
    have hCl : C < 4294967296 := by rw [hC]; exact crcOn_lt _ _
    rw [← hC]
    have HC : Hid (C = crcOn 0 (four vn ++ l)) := by show _ = _; rw [hC]; exact HCM.out
    clear hC HCM hcl
    have hfl : (fput l).length = vn + 8 := by rw [fput_length, HVN.out]
    obtain ⟨y1a, y1c, hcut1, hr1⟩ := cut_to HBR.out 4 (by omega)
    obtain ⟨y2a, y2c, hcut2, hr2⟩ := run_cut (cap := bc) (a := ba) (l := fput l) (by have := HBR.out; rwa [← hfl] at this) 4 8 (by omega) (by omega)
    obtain ⟨y3a, y3c, hcut3, hr3⟩ := cut_rest HBR.out 8 vn (by omega)
    rw [hfl] at hcut2
    have p1 : (fput l).take 4 = four vn := by rw [HVN.out]; rfl
    have p2 : ((fput l).take 8).drop 4 = four C := by rw [HC.out, HVN.out]; rfl
    have p3 : (fput l).drop 8 = l := rfl
    rw [p1] at hr1
    rw [p2] at hr2
    rw [p3] at hr3
    simp only [show ((4 : Nat) : Int) = 4 from rfl, show ((8 : Nat) : Int) = 8 from rfl, show 8 - 4 = 4 from rfl] at hcut1 hcut2 hcut3 hr2
    have s1 := fun w' => hcut1 w' .i64
    have s2 := fun w' => hcut2 w' .i64 .i64
    have s3 := fun w' => hcut3 w' .i64
    have T1 : Hid (∀ w', Below w5.heap.size w5 w' → Calls Try.prog 58 #[.slice y1a 4 y1c, .slice xa xn xc] w' fun e w9 => e = .returned (.bool true) ∧ Below w'.heap.size w' w9) := fun w' hb' => same_true w' _ _ _ (hr1.below hb') (HX.out.below hb')
    have T3 : Hid (∀ w', Below w5.heap.size w5 w' → Calls Try.prog 58 #[.slice y3a vn y3c, .slice va vn vc] w' fun e w9 => e = .returned (.bool true) ∧ Below w'.heap.size w' w9) := fun w' hb' => same_true w' _ _ _ (hr3.below hb') (HV.out.below (Below.trans bel (hb'.mono bel.size)))
    have R2 := Lib.hid hr2
    have h55 : Below w5.heap.size w5 w5 := Below.refl _ _
    have d4 : decide (4 ≤ vn + 8) = true := by simp
    clear hcut1 hcut2 hcut3 hr1 hr2 hr3 p1 p2 p3 hfl HBR HTT HC HXN HX
    go_wp2_with fail
    go_region_held (fun w' => Below w5.heap.size w5 w')
      ((first | assumption | exact Below.drew h55 | exact Below.trans (by assumption) (hb9.mono (Below.size (by assumption)))))
      (first
        | (go_at_call 58; (first | with_reducible refine (T1.out _ (by assumption)).mono ?_ | with_reducible refine (T3.out _ (by assumption)).mono ?_ | refine (same_true _ _ _ (four C) (R2.out.below (by assumption)) HP.out).mono ?_); rintro e w9 ⟨rfl, hb9⟩)
        | (go_at_call 64; refine (putFour_rd _ _ [] C (rd_nil _) hCl (by decide)).mono ?_; rintro e w9 ⟨pa, pn, pc, rfl, HPN, HP, hb9⟩; rw [List.nil_append] at HP))
    go_wp2
    go_ret
    refine ⟨by first | rfl | (simp; done), Below.trans bel (Below.mono (B := w5.heap.size) ?_ bel.size)⟩
    assumption
end Go.Proofs.Ytdamfcldkaidjaa

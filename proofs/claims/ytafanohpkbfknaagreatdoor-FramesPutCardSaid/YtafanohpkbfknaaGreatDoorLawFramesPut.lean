/- The law FramesPut answers true for any record. The condition: bytes that the machine bears. -/
import Derived.Test.YtafanohpkbfknaaGreatDoorBookE
import Derived.Test.YtafanohpkbfknaaGreatDoorRefFrames
namespace Go.Proofs.YtafanohpkbfknaaGreatDoor
open Go.RowKit

theorem no_block {w w' : World} : Hid (∀ b, (Value.slice none 0 0).ownBlock = some b → w.heap.size ≤ b ∧ b < w'.heap.size) := fun b hb => by simp [Value.ownBlock] at hb

set_option maxRecDepth 100000 in
set_option maxHeartbeats 8000000 in
theorem framesPut_walk1 (w : World) (v : Value) (l : List UInt8) (hv : Rd w v l) (hl : l.length ≤ 65536) :
    Calls Tryz.prog 6 #[v] w (fun e w' => e = .returned (.bool true) ∧ Below w.heap.size w w') := by
  obtain ⟨va, vn, vc, rfl, hvn⟩ := rd_len hv
  have HV := Lib.hid hv
  have HVN := Lib.hid hvn
  rw [← hvn] at hl
  clear hvn hv
  have hvs : vn ≤ 65536 := hl
  have HLL : Hid (l.length ≤ 65536) := by show _ ≤ _; rw [← HVN.out]; exact hvs
  clear hl
  have HFL : Hid (0 < (fput l).length ∧ (fput l).length ≤ 1000000000000) := by
    show _ ∧ _
    have := HLL.out
    rw [fput_length]
    omega
  go_enter Tryz.func6, Tryz.ntmps6
  go_wp2_with fail
  refine (twinBytes_any _ l w HV.out (by have := HLL.out; omega)).mono ?_
  rintro e w2 ⟨vt, rfl, htw, bel2⟩
  obtain ⟨tg, htv, _, htb, htg⟩ := id htw
  have htv2 : vt = .slice (some ⟨tg, 0, none⟩) vn (vn + 1) := by rw [HVN.out]; exact htv
  subst htv2
  have htl : tg < w2.heap.size := (Array.getElem?_eq_some_iff.1 htg).1
  have HTW := Lib.hid htw
  have HB2 := Lib.hid bel2
  have HTG : Hid (w.heap.size ≤ tg ∧ tg < w2.heap.size) := ⟨htb, htl⟩
  have HV2 := Lib.hid (HV.out.below bel2)
  clear htv htb htg htl htw bel2 HV
  go_wp2_with fail
  refine (framesPut_any w2 _ l (twin_rd HTW.out) HLL.out).mono ?_
  rintro e w3 ⟨xa, xn, xc, rfl, HXN, HXO, bel⟩
  have HX := Lib.hid (own_lt HXO.out (by rw [HXN.out]; exact HFL.out.1))
  have HB3 := Lib.hid (HB2.out.trans (bel.mono HB2.out.size))
  have HTW3 := Lib.hid (twin_below HTW.out bel)
  have HV3 := Lib.hid (HV2.out.below bel)
  have HS3 : Hid (w2.heap.size ≤ w3.heap.size) := bel.size
  clear bel HTW HV2
  go_wp2_with fail
  refine (framesPut_any w3 _ l (twin_rd HTW3.out) HLL.out).mono ?_
  rintro e w4 ⟨ya, yn, yc, rfl, HYN, HYO, bel⟩
  have HY := Lib.hid (own_lt HYO.out (by rw [HYN.out]; exact HFL.out.1))
  have HB4 := Lib.hid (HB3.out.trans (bel.mono HB3.out.size))
  have HTW4 := Lib.hid (twin_below HTW3.out bel)
  have HV4 := Lib.hid (HV3.out.below bel)
  have HS4 : Hid (w3.heap.size ≤ w4.heap.size) := bel.size
  have HXO4 := Lib.hid (own_below HXO.out bel)
  clear bel HTW3 HXO HV3
  go_wp2_with fail
  refine (refFramesPut_any w4 _ l HV4.out HLL.out).mono ?_
  rintro e w5 ⟨ra, rn, rc, rfl, _, HRO, belr⟩
  have HC5 := Lib.hid belr
  have HSB := Lib.hid (same_bt w5 (.slice xa xn xc) (.slice ra rn rc) _ ((rd_of_own HXO4.out).2.below belr) (rd_of_own HRO.out).2)
  have HRR := Lib.hid (rd_of_own HRO.out).2
  clear belr HRO
  go_wp2_with fail
  refine HSB.out.mono ?_
  rintro e w6 ⟨rfl, belb⟩
  have HC6 := Lib.hid (HC5.out.trans (belb.mono HC5.out.size))
  have HSB2 := Lib.hid (same_bt w6 (.slice ya yn yc) (.slice ra rn rc) _ ((rd_of_own HYO.out).2.below HC6.out) (HRR.out.below belb))
  clear HSB belb HC5 HRR
  go_wp2_with fail
  refine HSB2.out.mono ?_
  rintro e wb ⟨rfl, belb⟩
  have HCb := Lib.hid (HC6.out.trans (belb.mono HC6.out.size))
  clear HSB2 belb HC6
  have HLB := Lib.hid (leftBytes_any _ _ _ l wb (twin_below HTW4.out HCb.out) (HV4.out.below HCb.out))
  go_wp2_with fail
  refine HLB.out.mono ?_
  rintro e wc ⟨rfl, nd, rfl⟩
  have hdw := drewN_below wb nd
  have HCc := Lib.hid (HCb.out.trans (hdw.mono HCb.out.size))
  generalize wb.drewN nd = wc at HCc ⊢
  clear HLB hdw HCb
  have HBc := Lib.hid (HB4.out.trans (HCc.out.mono HB4.out.size))
  obtain ⟨base, hba⟩ : ∃ x, x = w.heap.size := ⟨_, rfl⟩
  have hbl : base ≤ w.heap.size := by rw [hba]; exact Nat.le_refl _
  have HT0 := Lib.hid (own_mono (own_below (twin_own HTW4.out) HCc.out) hbl)
  rw [← HVN.out] at HT0
  have hszc : w4.heap.size ≤ wc.heap.size := HCc.out.size
  obtain ⟨HKS, HAPT, HLIM⟩ := book3 HB2.out.size HS3.out HS4.out hszc HT0.out (own_mono (own_below HXO4.out HCc.out) (Nat.le_trans hbl HB2.out.size)) (own_mono (own_below HYO.out HCc.out) (Nat.le_trans hbl (Nat.le_trans HB2.out.size HS3.out)))
    (fun b hb => by simp only [Value.ownBlock, Option.some.injEq] at hb; subst hb; exact HTG.out) HX.out HY.out (by omega) (by rw [HXN.out]; exact HFL.out.2) (by rw [HYN.out]; exact HFL.out.2)
  have hgb : base ≤ wc.heap.size := by rw [hba]; exact HBc.out.size
  have hal : Below w.heap.size w (wc.alloc (.cells (bkC 0 (.slice none 0 0) (.slice none 0 0)) 43)) := HBc.out.alloc HBc.out.size _
  rw [← hba] at hal
  have HAL := Lib.hid hal
  clear hal hszc HT0 HTW4 HXO4 HYO HX HY HTG HBc HCc HB4 HB3 HB2 HV4
  go_upto_region 10 with (fail)
  obtain ⟨wk, hwk⟩ : ∃ x, x = wc.alloc (.cells (bkC 0 (.slice none 0 0) (.slice none 0 0)) 43) := ⟨_, rfl⟩
  rw [← hwk] at HKS HAL
  change Code.wp _ _ _ _ (wc.alloc (.cells (bkC 0 (.slice none 0 0) (.slice none 0 0)) 43))
  rw [← hwk]
  clear hwk
  obtain ⟨gk, hgk⟩ : ∃ x, x = wc.heap.size := ⟨_, rfl⟩
  rw [← hgk] at HKS hgb
  rw [← hgk]
  clear hgk
  have HKB := Lib.hid (bytes_any wk base gk 0 3 (.slice none 0 0) (.slice none 0 0) (three3 (Value.slice (some ⟨tg, 0, none⟩) vn (vn + 1)) (.slice xa xn xc) (.slice ya yn yc)) (three3 vn xn yn) (three3 l (fput l) (fput l)) HKS.out (by omega) (by omega) hgb _ rfl)
  go_wp2_with fail
  refine HKB.out.mono ?_
  rintro e wk1 ⟨rfl, hks, hb⟩
  have HAL2 := Lib.hid (HAL.out.trans hb)
  clear HAL HKS HKB
  obtain ⟨bv1, hks2⟩ := hks.out
  have HAL := HAL2
  have HKS := Lib.hid hks2
  clear HAL2 hks hks2 hb
  have HKB := Lib.hid (bytes_any wk1 base gk 1 3 bv1 (.slice none 0 0) (three3 (Value.slice (some ⟨tg, 0, none⟩) vn (vn + 1)) (.slice xa xn xc) (.slice ya yn yc)) (three3 vn xn yn) (three3 l (fput l) (fput l)) HKS.out (by omega) (by omega) hgb _ rfl)
  go_wp2_with fail
  refine HKB.out.mono ?_
  rintro e wk2 ⟨rfl, hks, hb⟩
  have HAL2 := Lib.hid (HAL.out.trans hb)
  clear HAL HKS HKB
  obtain ⟨bv2, hks2⟩ := hks.out
  have HAL := HAL2
  have HKS := Lib.hid hks2
  clear HAL2 hks hks2 hb
  have HKB := Lib.hid (bytes_any wk2 base gk 2 3 bv2 (.slice none 0 0) (three3 (Value.slice (some ⟨tg, 0, none⟩) vn (vn + 1)) (.slice xa xn xc) (.slice ya yn yc)) (three3 vn xn yn) (three3 l (fput l) (fput l)) HKS.out (by omega) (by omega) hgb _ rfl)
  go_wp2_with fail
  refine HKB.out.mono ?_
  rintro e wk3 ⟨rfl, hks, hb⟩
  have HAL2 := Lib.hid (HAL.out.trans hb)
  clear HAL HKS HKB
  obtain ⟨bv3, hks2⟩ := hks.out
  have HAL := HAL2
  have HKS := Lib.hid hks2
  clear HAL2 hks hks2 hb
  have HAP := Lib.hid (apart_any wk3 base gk 3 bv3 (three3 (Value.slice (some ⟨tg, 0, none⟩) vn (vn + 1)) (.slice xa xn xc) (.slice ya yn yc)) (three3 vn xn yn) (three3 l (fput l) (fput l)) (HKS.out.bk HAPT.out) (by omega) hgb HLIM.out)
  go_wp2_with fail
  refine HAP.out.mono ?_
  rintro e wz ⟨rfl, hb⟩
  have HF := HAL.out.trans hb
  clear HAL HKS HAP hb
  go_wp2
  go_ret
  rw [← hba]
  exact ⟨rfl, HF⟩

set_option maxRecDepth 100000 in
set_option maxHeartbeats 8000000 in
theorem framesPut_walk2 (w : World) (v : Value) (l : List UInt8) (hv : Rd w v l) (hl : l.length ≤ 140737488351232) (hlong : 65536 < l.length) :
    Calls Tryz.prog 6 #[v] w (fun e w' => e = .returned (.bool true) ∧ Below w.heap.size w w') := by
  obtain ⟨va, vn, vc, rfl, hvn⟩ := rd_len hv
  have HV := Lib.hid hv
  have HVN := Lib.hid hvn
  rw [← hvn] at hl
  clear hvn hv
  by_cases hbig : 70000 < vn
  · go_enter Tryz.func6, Tryz.ntmps6
    go_wp2
    go_ret
    exact ⟨rfl, Below.refl _ _⟩
  have hvs : vn ≤ 70000 := by omega
  have HLL : Hid (l.length ≤ 70000) := by show _ ≤ _; rw [← HVN.out]; exact hvs
  clear hl
  have HLO := Lib.hid hlong
  clear hlong
  go_enter Tryz.func6, Tryz.ntmps6
  go_wp2_with fail
  refine (twinBytes_any _ l w HV.out (by have := HLL.out; omega)).mono ?_
  rintro e w2 ⟨vt, rfl, htw, bel2⟩
  obtain ⟨tg, htv, _, htb, htg⟩ := id htw
  have htv2 : vt = .slice (some ⟨tg, 0, none⟩) vn (vn + 1) := by rw [HVN.out]; exact htv
  subst htv2
  have htl : tg < w2.heap.size := (Array.getElem?_eq_some_iff.1 htg).1
  have HTW := Lib.hid htw
  have HB2 := Lib.hid bel2
  have HTG : Hid (w.heap.size ≤ tg ∧ tg < w2.heap.size) := ⟨htb, htl⟩
  have HV2 := Lib.hid (HV.out.below bel2)
  clear htv htb htg htl htw bel2 HV
  go_wp2_with fail
  refine (framesPut_long w2 _ l (twin_rd HTW.out) (by have := HLL.out; omega) HLO.out).mono ?_
  rintro e w2 ⟨rfl, rfl⟩
  go_wp2_with fail
  refine (framesPut_long w2 _ l (twin_rd HTW.out) (by have := HLL.out; omega) HLO.out).mono ?_
  rintro e w2 ⟨rfl, rfl⟩
  go_wp2_with fail
  refine (refFramesPut_long w2 _ l HV2.out (by have := HLL.out; omega) HLO.out).mono ?_
  rintro e w2 ⟨rfl, rfl⟩
  have HSB := Lib.hid (same_bt w2 (.slice none 0 0) (.slice none 0 0) [] (rd_nil _) (rd_nil _))
  go_wp2_with fail
  refine HSB.out.mono ?_
  rintro e w6 ⟨rfl, belb⟩
  have HC6 := Lib.hid belb
  have HSB2 := Lib.hid (same_bt w6 (.slice none 0 0) (.slice none 0 0) [] (rd_nil _) (rd_nil _))
  clear HSB belb
  go_wp2_with fail
  refine HSB2.out.mono ?_
  rintro e wb ⟨rfl, belb⟩
  have HCb := Lib.hid (HC6.out.trans (belb.mono HC6.out.size))
  clear HSB2 belb HC6
  have HLB := Lib.hid (leftBytes_any _ _ _ l wb (twin_below HTW.out HCb.out) (HV2.out.below HCb.out))
  go_wp2_with fail
  refine HLB.out.mono ?_
  rintro e wc ⟨rfl, nd, rfl⟩
  have hdw := drewN_below wb nd
  have HCc := Lib.hid (HCb.out.trans (hdw.mono HCb.out.size))
  generalize wb.drewN nd = wc at HCc ⊢
  clear HLB hdw HCb
  have HBc := Lib.hid (HB2.out.trans (HCc.out.mono HB2.out.size))
  obtain ⟨base, hba⟩ : ∃ x, x = w.heap.size := ⟨_, rfl⟩
  have hbl : base ≤ w.heap.size := by rw [hba]; exact Nat.le_refl _
  have HT0 := Lib.hid (own_mono (own_below (twin_own HTW.out) HCc.out) hbl)
  rw [← HVN.out] at HT0
  have hszc : w2.heap.size ≤ wc.heap.size := HCc.out.size
  obtain ⟨HKS, HAPT, HLIM⟩ := book3 (l1 := []) (l2 := []) HB2.out.size (Nat.le_refl _) (Nat.le_refl _) hszc HT0.out (own_none wc base 5 1) (own_none wc base 5 1)
    (fun b hb => by simp only [Value.ownBlock, Option.some.injEq] at hb; subst hb; exact HTG.out) (fun b hb => by simp [Value.ownBlock] at hb) (fun b hb => by simp [Value.ownBlock] at hb) (by omega) (by omega) (by omega)
  have hgb : base ≤ wc.heap.size := by rw [hba]; exact HBc.out.size
  have hal : Below w.heap.size w (wc.alloc (.cells (bkC 0 (.slice none 0 0) (.slice none 0 0)) 43)) := HBc.out.alloc HBc.out.size _
  rw [← hba] at hal
  have HAL := Lib.hid hal
  clear hal hszc HT0 HTW HTG HBc HCc HB2 HV2
  go_upto_region 10 with (fail)
  obtain ⟨wk, hwk⟩ : ∃ x, x = wc.alloc (.cells (bkC 0 (.slice none 0 0) (.slice none 0 0)) 43) := ⟨_, rfl⟩
  rw [← hwk] at HKS HAL
  change Code.wp _ _ _ _ (wc.alloc (.cells (bkC 0 (.slice none 0 0) (.slice none 0 0)) 43))
  rw [← hwk]
  clear hwk
  obtain ⟨gk, hgk⟩ : ∃ x, x = wc.heap.size := ⟨_, rfl⟩
  rw [← hgk] at HKS hgb
  rw [← hgk]
  clear hgk
  have HKB := Lib.hid (bytes_any wk base gk 0 3 (.slice none 0 0) (.slice none 0 0) (three3 (Value.slice (some ⟨tg, 0, none⟩) vn (vn + 1)) (.slice none 0 0) (.slice none 0 0)) (three3 vn 0 0) (three3 l [] []) HKS.out (by omega) (by omega) hgb _ rfl)
  go_wp2_with fail
  refine HKB.out.mono ?_
  rintro e wk1 ⟨rfl, hks, hb⟩
  have HAL2 := Lib.hid (HAL.out.trans hb)
  clear HAL HKS HKB
  obtain ⟨bv1, hks2⟩ := hks.out
  have HAL := HAL2
  have HKS := Lib.hid hks2
  clear HAL2 hks hks2 hb
  have HKB := Lib.hid (bytes_any wk1 base gk 1 3 bv1 (.slice none 0 0) (three3 (Value.slice (some ⟨tg, 0, none⟩) vn (vn + 1)) (.slice none 0 0) (.slice none 0 0)) (three3 vn 0 0) (three3 l [] []) HKS.out (by omega) (by omega) hgb _ rfl)
  go_wp2_with fail
  refine HKB.out.mono ?_
  rintro e wk2 ⟨rfl, hks, hb⟩
  have HAL2 := Lib.hid (HAL.out.trans hb)
  clear HAL HKS HKB
  obtain ⟨bv2, hks2⟩ := hks.out
  have HAL := HAL2
  have HKS := Lib.hid hks2
  clear HAL2 hks hks2 hb
  have HKB := Lib.hid (bytes_any wk2 base gk 2 3 bv2 (.slice none 0 0) (three3 (Value.slice (some ⟨tg, 0, none⟩) vn (vn + 1)) (.slice none 0 0) (.slice none 0 0)) (three3 vn 0 0) (three3 l [] []) HKS.out (by omega) (by omega) hgb _ rfl)
  go_wp2_with fail
  refine HKB.out.mono ?_
  rintro e wk3 ⟨rfl, hks, hb⟩
  have HAL2 := Lib.hid (HAL.out.trans hb)
  clear HAL HKS HKB
  obtain ⟨bv3, hks2⟩ := hks.out
  have HAL := HAL2
  have HKS := Lib.hid hks2
  clear HAL2 hks hks2 hb
  have HAP := Lib.hid (apart_any wk3 base gk 3 bv3 (three3 (Value.slice (some ⟨tg, 0, none⟩) vn (vn + 1)) (.slice none 0 0) (.slice none 0 0)) (three3 vn 0 0) (three3 l [] []) (HKS.out.bk HAPT.out) (by omega) hgb HLIM.out)
  go_wp2_with fail
  refine HAP.out.mono ?_
  rintro e wz ⟨rfl, hb⟩
  have HF := HAL.out.trans hb
  clear HAL HKS HAP hb
  go_wp2
  go_ret
  rw [← hba]
  exact ⟨rfl, HF⟩
theorem framesPut_walk (w : World) (v : Value) (l : List UInt8) (hv : Rd w v l) (hl : l.length ≤ 140737488351232) :
    Calls Tryz.prog 6 #[v] w (fun e w' => e = .returned (.bool true) ∧ Below w.heap.size w w') := by
  by_cases h : l.length ≤ 65536
  · exact framesPut_walk1 w v l hv h
  · exact framesPut_walk2 w v l hv hl (by omega)
end Go.Proofs.YtafanohpkbfknaaGreatDoor

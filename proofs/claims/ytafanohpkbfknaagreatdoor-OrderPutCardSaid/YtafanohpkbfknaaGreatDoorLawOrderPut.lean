/- The law OrderPut answers true for any bytes and entry. The condition: bytes and texts that the machine bears. -/
import Derived.Test.YtafanohpkbfknaaGreatDoorBookE
import Derived.Test.YtafanohpkbfknaaGreatDoorRefOrderPut
import Derived.Test.YtafanohpkbfknaaGreatDoorNum
namespace Go.Proofs.YtafanohpkbfknaaGreatDoor
open Go.RowKit

theorem eput_le (k u : ByteArray) (s : Nat) (g : Bool) (hk : k.size ≤ 1048576) (hu : u.size ≤ 1048576) (l : List UInt8) (hl : l.length ≤ 1048576) : 0 < (l ++ eput ⟨k.data.toList, s, g, u.data.toList⟩).length ∧ (l ++ eput ⟨k.data.toList, s, g, u.data.toList⟩).length ≤ 1000000000000 := by
  have h1 := vint_le k.size
  have h2 := vint_le s
  have h3 := vint_le u.size
  cases g with
  | true =>
    rw [eput_true]
    simp only [List.length_append, size_data, List.length_cons, List.length_nil]
    omega
  | false =>
    rw [← eput_false]
    simp only [List.length_append, size_data, List.length_cons, List.length_nil]
    omega

set_option maxRecDepth 100000 in
set_option maxHeartbeats 8000000 in
theorem orderPut_walk (w : World) (v : Value) (l : List UInt8) (k : ByteArray) (s : Nat) (g : Bool) (u : ByteArray) (hv : Rd w v l) (hl : l.length ≤ 140737488351232) (hk : k.size ≤ 140737488351232) (hs : s < 18446744073709551616) (hu : u.size ≤ 140737488351232) :
    Calls Tryz.prog 4 #[v, .agg #[.string k, .int .u64 s, .bool g, .string u]] w (fun e w' => e = .returned (.bool true) ∧ Below w.heap.size w w') := by
  obtain ⟨va, vn, vc, rfl, hvn⟩ := rd_len hv
  obtain ⟨w0, hw0⟩ : ∃ W, W = w.alloc (.cells #[.string k, .int .u64 s, .bool g, .string u] 52) := ⟨_, rfl⟩
  have HX0 : Hid (Blk w0 w.heap.size #[.string k, .int .u64 s, .bool g, .string u] 52) := by rw [hw0]; exact Blk.new _ _ _
  have hb0 : Below w.heap.size w w0 := by rw [hw0]; exact (Below.refl _ _).alloc (Nat.le_refl _) _
  have HV := Lib.hid (hv.below hb0)
  have HB0 := Lib.hid hb0
  have HVN := Lib.hid hvn
  rw [← hvn] at hl
  clear hvn hv hb0
  obtain ⟨z, hz⟩ : ∃ z, z = vn + k.size + u.size := ⟨_, rfl⟩
  have hw1 : IntKind.i64.wrap ((vn : Int) + (k.size : Int)) = (vn : Int) + (k.size : Int) := IntWalk.i64_in _ (by omega)
  have hzi : (vn : Int) + (k.size : Int) + (u.size : Int) = (z : Int) := by omega
  have hzw : IntKind.i64.wrap (z : Int) = (z : Int) := IntWalk.i64_in _ (by omega)
  have hz2 : z ≤ 422212465053696 := by omega
  have HZ := Lib.hid hz
  have HSZ0 : Hid (w0.heap.size = w.heap.size + 1) := by show _ = _; rw [hw0]; simp
  have HW := Lib.hid hw0
  clear hz hw0
  go_enter Tryz.func4, Tryz.ntmps4
  have x0 := HX0.out.cellv 0 (.string k) rfl
  have x3 := HX0.out.cellv 3 (.string u) rfl
  rw [HW.out] at x0 x3
  go_wp2_with fail
  rw [← HW.out, ← HSZ0.out]
  clear x0 x3 HSZ0
  by_cases hbig : 1048576 < z
  · refine (beyond_one w0 _ _ (by omega) (by omega) true (by simp; omega)).mono ?_
    rintro e w1 ⟨rfl, bel⟩
    have bel := HB0.out.trans (bel.mono HB0.out.size)
    go_wp2
    go_ret
    exact ⟨rfl, bel⟩
  refine (beyond_one w0 _ _ (by omega) (by omega) false (by simp; omega)).mono ?_
  rintro e w1 ⟨rfl, bel1⟩
  have HB1 := Lib.hid (HB0.out.trans (bel1.mono HB0.out.size))
  have HX1 := Lib.hid (HX0.out.below bel1)
  have HV1 := Lib.hid (HV.out.below bel1)
  have hz3 : vn + k.size + u.size ≤ 1048576 := by have := HZ.out; omega
  have hvs : vn ≤ 1048576 := by omega
  have hks : k.size ≤ 1048576 := by omega
  have hus : u.size ≤ 1048576 := by omega
  have HLL : Hid (l.length ≤ 1048576) := by show _ ≤ _; rw [← HVN.out]; exact hvs
  clear bel1 hzi hzw hw1 hz2 HZ hbig hz3 HX0 HB0 HV HW
  go_wp2_with fail
  refine (twinBytes_any _ l w1 HV1.out (by have := HLL.out; omega)).mono ?_
  rintro e w2 ⟨vt, rfl, htw, bel2⟩
  obtain ⟨tg, htv, _, htb, htg⟩ := id htw
  have htv2 : vt = .slice (some ⟨tg, 0, none⟩) vn (vn + 1) := by rw [HVN.out]; exact htv
  subst htv2
  have htl : tg < w2.heap.size := (Array.getElem?_eq_some_iff.1 htg).1
  have HTW := Lib.hid htw
  have HB2 := Lib.hid (HB1.out.trans (bel2.mono HB1.out.size))
  have HX2 := Lib.hid (HX1.out.below bel2)
  have HTG : Hid (w1.heap.size ≤ tg ∧ tg < w2.heap.size) := ⟨htb, htl⟩
  have HS2 : Hid (w1.heap.size ≤ w2.heap.size) := bel2.size
  have HV2 := Lib.hid (HV1.out.below bel2)
  clear htv htb htg htl htw bel2 HX1 HV1
  -- the first answer
  have x0 := HX2.out.cellv 0 (.string k) rfl
  have x1 := HX2.out.cellv 1 (.int .u64 s) rfl
  have x2 := HX2.out.cellv 2 (.bool g) rfl
  have x3 := HX2.out.cellv 3 (.string u) rfl
  go_wp2_with fail
  clear x0 x1 x2 x3
  refine (orderPut_my w2 _ l k u s g (twin_rd HTW.out) (by have := HLL.out; omega) (by omega) (by omega) hs).mono ?_
  rintro e w3 ⟨xa, xn, xc, rfl, HXN, HXO, bel3⟩
  have HLE := Lib.hid (eput_le k u s g hks hus l HLL.out)
  have HX := Lib.hid (own_lt HXO.out (by rw [HXN.out]; exact HLE.out.1))
  have HB3 := Lib.hid (HB2.out.trans (bel3.mono HB2.out.size))
  have HTW3 := Lib.hid (twin_below HTW.out bel3)
  have HX3 := Lib.hid (HX2.out.below bel3)
  have HV3 := Lib.hid (HV2.out.below bel3)
  have HS3 : Hid (w2.heap.size ≤ w3.heap.size) := bel3.size
  clear bel3 HTW HX2 HV2
  -- the second one
  have x0 := HX3.out.cellv 0 (.string k) rfl
  have x1 := HX3.out.cellv 1 (.int .u64 s) rfl
  have x2 := HX3.out.cellv 2 (.bool g) rfl
  have x3 := HX3.out.cellv 3 (.string u) rfl
  go_wp2_with fail
  clear x0 x1 x2 x3
  refine (orderPut_my w3 _ l k u s g (twin_rd HTW3.out) (by have := HLL.out; omega) (by omega) (by omega) hs).mono ?_
  rintro e w4 ⟨ya, yn, yc, rfl, HYN, HYO, bel4⟩
  have HY := Lib.hid (own_lt HYO.out (by rw [HYN.out]; exact HLE.out.1))
  have HB4 := Lib.hid (HB3.out.trans (bel4.mono HB3.out.size))
  have HTW4 := Lib.hid (twin_below HTW3.out bel4)
  have HXO4 := Lib.hid (own_below HXO.out bel4)
  have HX4 := Lib.hid (HX3.out.below bel4)
  have HV4 := Lib.hid (HV3.out.below bel4)
  have HS4 : Hid (w3.heap.size ≤ w4.heap.size) := bel4.size
  clear bel4 HTW3 HX3 HXO HV3
  -- the document's
  have x0 := HX4.out.cellv 0 (.string k) rfl
  have x1 := HX4.out.cellv 1 (.int .u64 s) rfl
  have x2 := HX4.out.cellv 2 (.bool g) rfl
  have x3 := HX4.out.cellv 3 (.string u) rfl
  go_wp2_with fail
  clear x0 x1 x2 x3
  refine (refOrderPut_any w4 _ l k u s g HV4.out (by have := HLL.out; omega) (by omega) (by omega) hs).mono ?_
  rintro e w5 ⟨ra, rn, rc, rfl, _, HRO, belr⟩
  have HC5 := Lib.hid belr
  have HSB := Lib.hid (same_bt w5 (.slice xa xn xc) (.slice ra rn rc) _ ((rd_of_own HXO4.out).2.below belr) (rd_of_own HRO.out).2)
  have HRR := Lib.hid (rd_of_own HRO.out).2
  clear belr HRO HX4
  go_wp2_with fail
  refine HSB.out.mono ?_
  rintro e w6 ⟨rfl, belb⟩
  have HC6 := Lib.hid (HC5.out.trans (belb.mono HC5.out.size))
  have HSB2 := Lib.hid (same_bt w6 (.slice ya yn yc) (.slice ra rn rc) _ ((rd_of_own HYO.out).2.below HC6.out) (HRR.out.below belb))
  clear HSB belb HC5 HRR
  go_wp2_with fail
  refine HSB2.out.mono ?_
  rintro e wb ⟨rfl, belb⟩
  have HCb := Lib.hid (HC6.out.trans (belb.mono HC6.out.size))
  clear HSB2 belb HC6
  have HLB := Lib.hid (leftBytes_any _ _ _ l wb (twin_below HTW4.out HCb.out) (HV4.out.below HCb.out))
  go_wp2_with fail
  refine HLB.out.mono ?_
  rintro e wc ⟨rfl, nd, rfl⟩
  have hdw := drewN_below wb nd
  have HCc := Lib.hid (HCb.out.trans (hdw.mono HCb.out.size))
  generalize wb.drewN nd = wc at HCc ⊢
  clear HLB hdw HCb
  -- the book
  have HBc := Lib.hid (HB4.out.trans (HCc.out.mono HB4.out.size))
  obtain ⟨base, hba⟩ : ∃ x, x = w.heap.size := ⟨_, rfl⟩
  have hbl : base ≤ w1.heap.size := by rw [hba]; exact HB1.out.size
  have HT0 := Lib.hid (own_mono (own_below (twin_own HTW4.out) HCc.out) hbl)
  rw [← HVN.out] at HT0
  have hszc : w4.heap.size ≤ wc.heap.size := HCc.out.size
  obtain ⟨HKS, HAPT, HLIM⟩ := book3 HS2.out HS3.out HS4.out hszc HT0.out (own_mono (own_below HXO4.out HCc.out) (Nat.le_trans hbl HS2.out)) (own_mono (own_below HYO.out HCc.out) (Nat.le_trans hbl (Nat.le_trans HS2.out HS3.out)))
    (fun b hb => by simp only [Value.ownBlock, Option.some.injEq] at hb; subst hb; exact HTG.out) HX.out HY.out (by omega) (by rw [HXN.out]; exact HLE.out.2) (by rw [HYN.out]; exact HLE.out.2)
  have hgb : base ≤ wc.heap.size := by rw [hba]; exact HBc.out.size
  have hal : Below w.heap.size w (wc.alloc (.cells (bkC 0 (.slice none 0 0) (.slice none 0 0)) 43)) := HBc.out.alloc HBc.out.size _
  rw [← hba] at hal
  have HAL := Lib.hid hal
  clear hal hszc HT0 HTW4 HXO4 HYO HX HY HTG HXN HYN HBc HCc HB4 HB3 HB2 HB1 HLE HV4
  go_upto_region 10 with (fail)
  obtain ⟨wk, hwk⟩ : ∃ x, x = wc.alloc (.cells (bkC 0 (.slice none 0 0) (.slice none 0 0)) 43) := ⟨_, rfl⟩
  rw [← hwk] at HKS HAL
  change Code.wp _ _ _ _ (wc.alloc (.cells (bkC 0 (.slice none 0 0) (.slice none 0 0)) 43))
  rw [← hwk]
  clear hwk
  obtain ⟨gk, hgk⟩ : ∃ x, x = wc.heap.size := ⟨_, rfl⟩
  rw [← hgk] at HKS hgb
  rw [← hgk]
  clear hgk
  have HKB := Lib.hid (bytes_any wk base gk 0 3 (.slice none 0 0) (.slice none 0 0) (three3 (Value.slice (some ⟨tg, 0, none⟩) vn (vn + 1)) (.slice xa xn xc) (.slice ya yn yc)) (three3 vn xn yn) (three3 l (l ++ eput ⟨k.data.toList, s, g, u.data.toList⟩) (l ++ eput ⟨k.data.toList, s, g, u.data.toList⟩)) HKS.out (by omega) (by omega) hgb _ rfl)
  go_wp2_with fail
  refine HKB.out.mono ?_
  rintro e wk1 ⟨rfl, hks, hb⟩
  have HAL2 := Lib.hid (HAL.out.trans hb)
  clear HAL HKS HKB
  obtain ⟨bv1, hks2⟩ := hks.out
  have HAL := HAL2
  have HKS := Lib.hid hks2
  clear HAL2 hks hks2 hb
  have HKB := Lib.hid (bytes_any wk1 base gk 1 3 bv1 (.slice none 0 0) (three3 (Value.slice (some ⟨tg, 0, none⟩) vn (vn + 1)) (.slice xa xn xc) (.slice ya yn yc)) (three3 vn xn yn) (three3 l (l ++ eput ⟨k.data.toList, s, g, u.data.toList⟩) (l ++ eput ⟨k.data.toList, s, g, u.data.toList⟩)) HKS.out (by omega) (by omega) hgb _ rfl)
  go_wp2_with fail
  refine HKB.out.mono ?_
  rintro e wk2 ⟨rfl, hks, hb⟩
  have HAL2 := Lib.hid (HAL.out.trans hb)
  clear HAL HKS HKB
  obtain ⟨bv2, hks2⟩ := hks.out
  have HAL := HAL2
  have HKS := Lib.hid hks2
  clear HAL2 hks hks2 hb
  have HKB := Lib.hid (bytes_any wk2 base gk 2 3 bv2 (.slice none 0 0) (three3 (Value.slice (some ⟨tg, 0, none⟩) vn (vn + 1)) (.slice xa xn xc) (.slice ya yn yc)) (three3 vn xn yn) (three3 l (l ++ eput ⟨k.data.toList, s, g, u.data.toList⟩) (l ++ eput ⟨k.data.toList, s, g, u.data.toList⟩)) HKS.out (by omega) (by omega) hgb _ rfl)
  go_wp2_with fail
  refine HKB.out.mono ?_
  rintro e wk3 ⟨rfl, hks, hb⟩
  have HAL2 := Lib.hid (HAL.out.trans hb)
  clear HAL HKS HKB
  obtain ⟨bv3, hks2⟩ := hks.out
  have HAL := HAL2
  have HKS := Lib.hid hks2
  clear HAL2 hks hks2 hb
  have HAP := Lib.hid (apart_any wk3 base gk 3 bv3 (three3 (Value.slice (some ⟨tg, 0, none⟩) vn (vn + 1)) (.slice xa xn xc) (.slice ya yn yc)) (three3 vn xn yn) (three3 l (l ++ eput ⟨k.data.toList, s, g, u.data.toList⟩) (l ++ eput ⟨k.data.toList, s, g, u.data.toList⟩)) (HKS.out.bk HAPT.out) (by omega) hgb HLIM.out)
  go_wp2_with fail
  refine HAP.out.mono ?_
  rintro e wz ⟨rfl, hb⟩
  have HF := HAL.out.trans hb
  clear HAL HKS HAP hb
  go_wp2
  go_ret
  rw [← hba]
  exact ⟨rfl, HF⟩
end Go.Proofs.YtafanohpkbfknaaGreatDoor

/- Walk of edits.Get. The condition: 50000 bytes at most. -/
import Derived.Test.YtmonmfamnbfhcaaFlN
namespace Go.Proofs.Ytmonmfamnbfhcaa
open Go.RowKit

set_option maxRecDepth 100000 in
set_option maxHeartbeats 4000000 in
theorem getX_any (w : World) (v : Value) (b : List UInt8) (hv : Rd w v b) (hb : b.length ≤ 50000) :
    Calls Try.prog 14 #[v] w (RetGetX b w) := by
  obtain ⟨sa, sn, sc, rfl, hsn⟩ := rd_len hv
  have HV := Lib.hid hv
  obtain ⟨W0, hW0⟩ : ∃ W, W = w.alloc (.cells #[.slice none 0 0, .slice none 0 0, .int .u32 0, .int .u32 0, .int .u64 0] 27) := ⟨_, rfl⟩
  have hX0 : Blk W0 w.heap.size #[.slice none 0 0, .slice none 0 0, .int .u32 0, .int .u32 0, .int .u64 0] 27 := by rw [hW0]; exact Blk.new _ _ _
  have hsz0 : W0.heap.size = w.heap.size + 1 := by rw [hW0]; simp
  have hbel0 : Below w.heap.size w W0 := by rw [hW0]; exact alloc_bel _ _
  obtain ⟨W, hW⟩ : ∃ W, W = W0.alloc (.cells #[.slice sa sn sc, .bool false] 65) := ⟨_, rfl⟩
  obtain ⟨g, hg⟩ : ∃ g, g = w.heap.size + 1 := ⟨_, rfl⟩
  have hbelW : Below w.heap.size w W := by rw [hW]; exact hbel0.trans ((alloc_bel W0 _).mono hbel0.size)
  have HX0 : Hid (Blk W w.heap.size #[.slice none 0 0, .slice none 0 0, .int .u32 0, .int .u32 0, .int .u64 0] 27) := Lib.hid (by rw [hW]; exact hX0.alloc _)
  have HRS : Hid (RS w W g false b) := Lib.hid ⟨sa, sn, sc, by rw [hW]; exact Blk.new_at _ _ _ _ (by rw [hg, hsz0]), HV.out, hbelW, by omega⟩
  have hXg : w.heap.size ≠ g := by omega
  have hgW : g < W.heap.size := by rw [hW, hg]; simp [hsz0]
  have hXW : w.heap.size < W.heap.size := by rw [hW]; simp [hsz0]; omega
  have HT1 := Lib.hid (sevF_any w W g false b HRS.out (by omega))
  clear hv hX0 hbel0 hbelW hsn
  go_enter Try.func14, Try.ntmps14
  go_wp2_with fail
  rw [← hW0, ← hg, ← hW]
  have hwg : w.heap.size ≤ g := by omega
  clear hW hW0 hsz0 hg
  refine HT1.out.mono ?_
  rintro e1 w1 ⟨xs, aa, ak, ac, b1, l1, rfl, HAK, HAL, HOA, HAN, R1, O1, S1⟩
  have HX1 := Lib.hid (HX0.out.only O1.out hXg)
  have HB1 : Hid (Below w.heap.size w w1) := Lib.hid (Only.below HRS.out.choose_spec.choose_spec.choose_spec.2.2.1 O1.out hwg HRS.out.lt.2.2)
  have k0 := HX1.out.cellv 0 _ rfl
  have u0 := HX1.out.free 0
  clear HT1 HX0 HRS
  go_upto_region 3 with (fail)
  have HX2 := Lib.hid (HX1.out.set 0 (.slice aa ak ac))
  have R2 := Lib.hid (R1.out.set ⟨w.heap.size, 0, none⟩ hXg (Nat.le_refl _) (.slice aa ak ac))
  have HB2 := Lib.hid (HB1.out.setCell (p := ⟨w.heap.size, 0, none⟩) (Nat.le_refl _) (.slice aa ak ac))
  have HOA2 := Lib.hid (own_set HOA.out ⟨w.heap.size, 0, none⟩ hXW (.slice aa ak ac))
  have HWS : Hid (W.heap.size ≤ (w1.setCell ⟨w.heap.size, 0, none⟩ (.slice aa ak ac)).heap.size) := Lib.hid (Nat.le_trans O1.out.size (Below.setCell (B := 0) (Below.refl 0 w1) (p := ⟨w.heap.size, 0, none⟩) (Nat.zero_le _) _).size)
  generalize w1.setCell ⟨w.heap.size, 0, none⟩ (.slice aa ak ac) = w2 at HX2 R2 HB2 HOA2 HWS ⊢
  have HT2 := Lib.hid (sevU_any w w2 g b1 l1 R2.out (by have := S1.out.2.2; omega))
  have HWS2 := HWS
  clear k0 u0 HX1 HB1 R1 HOA O1 HWS
  go_wp2_with fail
  refine HT2.out.mono ?_
  rintro e3 w3 ⟨ks, ra, rk, rc, b3, l3, rfl, HRK, HRL, HOR, HRN, R3, O3, S3⟩
  have HX3 := Lib.hid (HX2.out.only O3.out hXg)
  have HB3 : Hid (Below w.heap.size w w3) := Lib.hid (Only.below HB2.out O3.out hwg HB2.out.size)
  have HOA3 := Lib.hid (own_other HOA2.out O3.out hgW)
  have k1 := HX3.out.cellv 1 _ rfl
  have u1 := HX3.out.free 1
  have HXW2 : Hid (w.heap.size < w2.heap.size ∧ g < w2.heap.size) := Lib.hid ⟨Nat.lt_of_lt_of_le hXW HWS2.out, Nat.lt_of_lt_of_le hgW HWS2.out⟩
  clear HT2 HX2 HB2 R2 HOA2 O3 HWS2
  go_upto_region 4 with (fail)
  have HX4 := Lib.hid (HX3.out.set 1 (.slice ra rk rc))
  have R4 := Lib.hid (R3.out.set ⟨w.heap.size, 1, none⟩ hXg (Nat.le_refl _) (.slice ra rk rc))
  have HB4 := Lib.hid (HB3.out.setCell (p := ⟨w.heap.size, 1, none⟩) (Nat.le_refl _) (.slice ra rk rc))
  have HOA4 := Lib.hid (own_set HOA3.out ⟨w.heap.size, 1, none⟩ hXW (.slice ra rk rc))
  have HOR4 := Lib.hid (own_set HOR.out ⟨w.heap.size, 1, none⟩ HXW2.out.1 (.slice ra rk rc))
  generalize w3.setCell ⟨w.heap.size, 1, none⟩ (.slice ra rk rc) = w4 at HX4 R4 HB4 HOA4 HOR4 ⊢
  have HT4 := Lib.hid (numE_any w w4 g b3 l3 R4.out)
  clear k1 u1 HX3 HB3 R3 HOA3 HOR
  go_wp2_with fail
  refine HT4.out.mono ?_
  rintro e5 w5 ⟨jo, b5, l5, rfl, hjo, R5, O5, S5⟩
  have HX5 := Lib.hid (HX4.out.only O5.out hXg)
  have HB5 : Hid (Below w.heap.size w w5) := Lib.hid (Only.below HB4.out O5.out hwg HB4.out.size)
  have HOA5 := Lib.hid (own_other HOA4.out O5.out hgW)
  have HOR5 := Lib.hid (own_other HOR4.out O5.out HXW2.out.2)
  have HT5 := Lib.hid (numE_any w w5 g b5 l5 R5.out)
  clear HT4 HX4 HB4 R4 HOA4 HOR4 O5
  go_wp2_with fail
  refine HT5.out.mono ?_
  rintro e6 w6 ⟨nx, b6, l6, rfl, hnx, R6, O6, S6⟩
  have HX6 := Lib.hid (HX5.out.only O6.out hXg)
  have HB6 : Hid (Below w.heap.size w w6) := Lib.hid (Only.below HB5.out O6.out hwg HB5.out.size)
  have HOA6 := Lib.hid (own_other HOA5.out O6.out hgW)
  have HOR6 := Lib.hid (own_other HOR5.out O6.out HXW2.out.2)
  have HT6 := Lib.hid (numberE_any w w6 g b6 l6 18446744073709551615 R6.out (by omega))
  clear HT5 HX5 HB5 R5 HOA5 HOR5 O6
  go_wp2_with fail
  refine HT6.out.mono ?_
  rintro e7 w7 ⟨sq, bad, l7, rfl, hsq, R7, O7, S7⟩
  have HX7 := Lib.hid (HX6.out.only O7.out hXg)
  have HB7 : Hid (Below w.heap.size w w7) := Lib.hid (Only.below HB6.out O7.out hwg HB6.out.size)
  have HOA7 := Lib.hid (own_other HOA6.out O7.out hgW)
  have HOR7 := Lib.hid (own_other HOR6.out O7.out HXW2.out.2)
  have HS := Lib.hid (step_edit S1.out S3.out S5.out S6.out S7.out)
  have HFIT : Hid ((PX.mk xs ks jo nx sq).fit) := Lib.hid ⟨by have := HAK.out; have := HAL.out; show xs.length ≤ 100000; omega, by have := HRK.out; have := HRL.out; have := S1.out.2.2; show ks.length ≤ 100000; omega, HAN.out, HRN.out, hjo, hnx, hsq⟩
  have k2 := HX7.out.cellv 2 _ rfl
  have u2 := HX7.out.free 2
  have k3 := HX7.out.cellv 3 _ rfl
  have u3 := HX7.out.free 3
  have k4 := HX7.out.cellv 4 _ rfl
  have u4 := HX7.out.free 4
  clear HT6 HX6 HB6 R6 HOA6 HOR6 O7 S1 S3 S5 S6 S7
  go_upto_region 5 with (fail)
  have HX8 : Hid (Blk (((w7.setCell ⟨w.heap.size, 2, none⟩ (.int .u32 jo)).setCell ⟨w.heap.size, 3, none⟩ (.int .u32 nx)).setCell ⟨w.heap.size, 4, none⟩ (.int .u64 sq)) w.heap.size #[.slice aa ak ac, .slice ra rk rc, .int .u32 jo, .int .u32 nx, .int .u64 sq] 27) := Lib.hid (((HX7.out.set 2 (.int .u32 jo)).set 3 (.int .u32 nx)).set 4 (.int .u64 sq))
  have R8 := Lib.hid (((R7.out.set ⟨w.heap.size, 2, none⟩ hXg (Nat.le_refl _) (.int .u32 jo)).set ⟨w.heap.size, 3, none⟩ hXg (Nat.le_refl _) (.int .u32 nx)).set ⟨w.heap.size, 4, none⟩ hXg (Nat.le_refl _) (.int .u64 sq))
  have HB8 := Lib.hid (((HB7.out.setCell (p := ⟨w.heap.size, 2, none⟩) (Nat.le_refl _) (.int .u32 jo)).setCell (p := ⟨w.heap.size, 3, none⟩) (Nat.le_refl _) (.int .u32 nx)).setCell (p := ⟨w.heap.size, 4, none⟩) (Nat.le_refl _) (.int .u64 sq))
  have HOA8 := Lib.hid (own_set (own_set (own_set HOA7.out ⟨w.heap.size, 2, none⟩ hXW (.int .u32 jo)) ⟨w.heap.size, 3, none⟩ hXW (.int .u32 nx)) ⟨w.heap.size, 4, none⟩ hXW (.int .u64 sq))
  have HOR8 := Lib.hid (own_set (own_set (own_set HOR7.out ⟨w.heap.size, 2, none⟩ HXW2.out.1 (.int .u32 jo)) ⟨w.heap.size, 3, none⟩ HXW2.out.1 (.int .u32 nx)) ⟨w.heap.size, 4, none⟩ HXW2.out.1 (.int .u64 sq))
  generalize ((w7.setCell ⟨w.heap.size, 2, none⟩ (.int .u32 jo)).setCell ⟨w.heap.size, 3, none⟩ (.int .u32 nx)).setCell ⟨w.heap.size, 4, none⟩ (.int .u64 sq) = w8 at HX8 R8 HB8 HOA8 HOR8 ⊢
  clear k2 u2 k3 u3 k4 u4 HX7 HB7 R7 HOA7 HOR7
  have HPUT := Lib.hid (putX_any w8 (.agg #[.slice aa ak ac, .slice ra rk rc, .int .u32 jo, .int .u32 nx, .int .u64 sq]) (PX.mk xs ks jo nx sq) ⟨_, _, rfl, by have := rdF_of (reads_of_own HOA8.out); exact this.2, by have := rdU_of (reads_of_own HOR8.out); exact this.2⟩ HFIT.out)
  have k0 : w8.cell? ⟨w.heap.size, 0, none⟩ = some (.slice aa ak ac) := HX8.out.cellv 0 _ rfl
  have k1 : w8.cell? ⟨w.heap.size, 1, none⟩ = some (.slice ra rk rc) := HX8.out.cellv 1 _ rfl
  have k2 : w8.cell? ⟨w.heap.size, 2, none⟩ = some (.int .u32 jo) := HX8.out.cellv 2 _ rfl
  have k3 : w8.cell? ⟨w.heap.size, 3, none⟩ = some (.int .u32 nx) := HX8.out.cellv 3 _ rfl
  have k4 : w8.cell? ⟨w.heap.size, 4, none⟩ = some (.int .u64 sq) := HX8.out.cellv 4 _ rfl
  go_wp2_with fail
  refine HPUT.out.mono ?_
  rintro e9 w9 ⟨pl, q, pa, pn, pc, rfl, HQ, HPN, HPO, b9⟩
  have HX9 := Lib.hid (HX8.out.below b9)
  have R9 := Lib.hid (R8.out.other b9)
  have HB9 := Lib.hid (HB8.out.trans (b9.mono HB8.out.size))
  have HOA9 := Lib.hid (own_mono (own_below HOA8.out b9) (show w.heap.size ≤ W.heap.size from Nat.le_of_lt hXW))
  have HOR9 := Lib.hid (own_mono (own_below HOR8.out b9) (show w.heap.size ≤ w2.heap.size from Nat.le_of_lt HXW2.out.1))
  clear k0 k1 k2 k3 k4 HX8 R8 HB8 HOA8 HOR8 HPUT b9
  obtain ⟨ga, gn, gc, hBg, _, _, _⟩ := R9.out
  have gk1 := hBg.cellv 1 _ rfl
  clear hBg
  have k0 : w9.cell? ⟨w.heap.size, 0, none⟩ = some (.slice aa ak ac) := HX9.out.cellv 0 _ rfl
  have u0 := HX9.out.free 0
  have e0 : w9.setCell ⟨w.heap.size, 0, none⟩ (.slice aa ak ac) = w9 := HX9.out.same 0 _ rfl
  have k1 : w9.cell? ⟨w.heap.size, 1, none⟩ = some (.slice ra rk rc) := HX9.out.cellv 1 _ rfl
  have u1 := HX9.out.free 1
  have e1 : w9.setCell ⟨w.heap.size, 1, none⟩ (.slice ra rk rc) = w9 := HX9.out.same 1 _ rfl
  have k2 : w9.cell? ⟨w.heap.size, 2, none⟩ = some (.int .u32 jo) := HX9.out.cellv 2 _ rfl
  have u2 := HX9.out.free 2
  have e2 : w9.setCell ⟨w.heap.size, 2, none⟩ (.int .u32 jo) = w9 := HX9.out.same 2 _ rfl
  have k3 : w9.cell? ⟨w.heap.size, 3, none⟩ = some (.int .u32 nx) := HX9.out.cellv 3 _ rfl
  have u3 := HX9.out.free 3
  have e3 : w9.setCell ⟨w.heap.size, 3, none⟩ (.int .u32 nx) = w9 := HX9.out.same 3 _ rfl
  have k4 : w9.cell? ⟨w.heap.size, 4, none⟩ = some (.int .u64 sq) := HX9.out.cellv 4 _ rfl
  have u4 := HX9.out.free 4
  have e4 : w9.setCell ⟨w.heap.size, 4, none⟩ (.int .u64 sq) = w9 := HX9.out.same 4 _ rfl
  go_upto_region 6 with (fail)
  have HZ : Hid (Blk (((((w9.setCell ⟨w.heap.size, 0, none⟩ (.slice none 0 0)).setCell ⟨w.heap.size, 1, none⟩ (.slice none 0 0)).setCell ⟨w.heap.size, 2, none⟩ (.int .u32 0)).setCell ⟨w.heap.size, 3, none⟩ (.int .u32 0)).setCell ⟨w.heap.size, 4, none⟩ (.int .u64 0)) w.heap.size #[.slice none 0 0, .slice none 0 0, .int .u32 0, .int .u32 0, .int .u64 0] 27) := Lib.hid (((((HX9.out.set 0 (.slice none 0 0)).set 1 (.slice none 0 0)).set 2 (.int .u32 0)).set 3 (.int .u32 0)).set 4 (.int .u64 0))
  have HBZ := Lib.hid (((((HB9.out.setCell (p := ⟨w.heap.size, 0, none⟩) (Nat.le_refl _) (.slice none 0 0)).setCell (p := ⟨w.heap.size, 1, none⟩) (Nat.le_refl _) (.slice none 0 0)).setCell (p := ⟨w.heap.size, 2, none⟩) (Nat.le_refl _) (.int .u32 0)).setCell (p := ⟨w.heap.size, 3, none⟩) (Nat.le_refl _) (.int .u32 0)).setCell (p := ⟨w.heap.size, 4, none⟩) (Nat.le_refl _) (.int .u64 0))
  cases bad with
  | true =>
    have HG := Lib.hid (getR_bad HS.out)
    go_wp2
    refine bodyPost_ret (v := .tuple #[.agg #[.slice none 0 0, .slice none 0 0, .int .u32 0, .int .u32 0, .int .u64 0], .int .i64 ((4 : Nat) : Int)]) (res_edit _ _ w.heap.size _ 4 rfl rfl rfl HZ.out) rfl ⟨PX.zero, 4, .slice none 0 0, .slice none 0 0, rfl, HG, own_nil _ _ _ _, own_nil _ _ _ _, HBZ.out⟩
  | false =>
    rcases HQ.out with ⟨hm, rfl, rfl⟩ | ⟨hm, rfl, rfl⟩
    · have HM := Lib.hid hm
      have HEQ := Lib.hid (bytesEqual_any w9 (.slice pa pn pc) (.slice sa sn sc) (ePut (PX.mk xs ks jo nx sq)) b (rd_of_own HPO.out).2 (HV.out.below HB9.out))
      clear hm
      by_cases he : ePut (PX.mk xs ks jo nx sq) = b
      · have HE := Lib.hid he
        have HG := Lib.hid (getR_ok HS.out HM.out HFIT.out he)
        have hd : decide (ePut (PX.mk xs ks jo nx sq) = b) = true := by simp [he]
        rw [hd] at HEQ
        clear he hd
        go_wp2_with fail
        refine HEQ.out.mono ?_
        rintro e10 w10 ⟨rfl, rfl⟩
        go_wp2
        refine bodyPost_ret (v := .tuple #[.agg #[.slice aa ak ac, .slice ra rk rc, .int .u32 jo, .int .u32 nx, .int .u64 sq], .int .i64 ((0 : Nat) : Int)]) (res_edit _ _ w.heap.size _ 0 rfl rfl rfl HX9.out) rfl ⟨PX.mk xs ks jo nx sq, 0, .slice aa ak ac, .slice ra rk rc, rfl, HG, ?_, ?_, HB9.out⟩
        · show Hid (Own w9 w.heap.size 33 4 (.slice aa ak ac) xs.length (fcells xs))
          rw [← HAK.out]; exact HOA9
        · show Hid (Own w9 w.heap.size 24 1 (.slice ra rk rc) ks.length (ucells ks))
          rw [← HRK.out]; exact HOR9
      · have HG := Lib.hid (getR_ne HS.out he)
        have hd : decide (ePut (PX.mk xs ks jo nx sq) = b) = false := by simp [he]
        rw [hd] at HEQ
        clear he hd
        go_wp2_with fail
        refine HEQ.out.mono ?_
        rintro e10 w10 ⟨rfl, rfl⟩
        go_wp2
        refine bodyPost_ret (v := .tuple #[.agg #[.slice none 0 0, .slice none 0 0, .int .u32 0, .int .u32 0, .int .u64 0], .int .i64 ((4 : Nat) : Int)]) (res_edit _ _ w.heap.size _ 4 rfl rfl rfl HZ.out) rfl ⟨PX.zero, 4, .slice none 0 0, .slice none 0 0, rfl, HG, own_nil _ _ _ _, own_nil _ _ _ _, HBZ.out⟩
    · have HG := Lib.hid (getR_may HS.out hm)
      clear hm
      go_wp2
      refine bodyPost_ret (v := .tuple #[.agg #[.slice none 0 0, .slice none 0 0, .int .u32 0, .int .u32 0, .int .u64 0], .int .i64 ((4 : Nat) : Int)]) (res_edit _ _ w.heap.size _ 4 rfl rfl rfl HZ.out) rfl ⟨PX.zero, 4, .slice none 0 0, .slice none 0 0, rfl, HG, own_nil _ _ _ _, own_nil _ _ _ _, HBZ.out⟩
end Go.Proofs.Ytmonmfamnbfhcaa

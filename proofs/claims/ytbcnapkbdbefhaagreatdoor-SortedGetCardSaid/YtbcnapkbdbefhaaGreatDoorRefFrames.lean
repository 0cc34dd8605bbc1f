/- Walks of the reference's frames: Put and Get. The condition: bytes of at most 2^47. -/
import Derived.Test.YtbcnapkbdbefhaaGreatDoorRefPutA
import Derived.Test.YtbcnapkbdbefhaaGreatDoorFramesA
import Derived.Test.YtbcnapkbdbefhaaGreatDoorSumsA
import Derived.Deep.QuietTactic
import Derived.StillTailTactics
namespace Go.Proofs.YtbcnapkbdbefhaaGreatDoor
open Go.RowKit

theorem still_allF {P : Program} {id : Nat} {Q : Exit → Act → World → Prop} {a : Act} {w wd : World} {l : List Oper} (hm : P.follows .mixedOrders = true) (hB : Region.lexB .any l.toArray = true) (hwd : wd = w.drew)
    (h : wpStill P l.toArray wd (fun a' => Q .normal a' wd) l a) : (Code.region id l.toArray true).wp P Q a w := by
  subst hwd
  exact wp_region_still_lit hm hB h
theorem refFramesPut_long (w : World) (v : Value) (l : List UInt8) (hv : Rd w v l) (hl : l.length ≤ 140737488351232) (h : 65536 < l.length) :
    Calls Tryz.prog 96 #[v] w fun e w' => e = .returned (.tuple #[.slice none 0 0, .int .i64 3]) ∧ w = w' := by
  obtain ⟨va, vn, vc, rfl, hvn⟩ := rd_len hv
  rw [← hvn] at hl h
  clear hv hvn
  go_enter Tryz.func96, Tryz.ntmps96
  go_wp2
  go_ret2
  exact ⟨rfl, rfl⟩

set_option maxRecDepth 100000 in
set_option maxHeartbeats 2000000 in
theorem refFramesPut_any (w : World) (v : Value) (l : List UInt8) (hv : Rd w v l) (hl : l.length ≤ 65536) :
    Calls Tryz.prog 96 #[v] w (RetFrame l w) := by
  obtain ⟨va, vn, vc, rfl, hvn⟩ := rd_len hv
  rw [← hvn] at hl
  have HVN := Lib.hid hvn
  have HV := Lib.hid hv
  clear hv hvn
  have hmod : (vn : Int) % 4294967296 = (vn : Int) := by omega
  go_enter Tryz.func96, Tryz.ntmps96
  go_wp2_with fail
  try rw [hmod]
  refine (refPutFour_any w _ [] vn (rd_nil w) (by omega) (by decide)).mono ?_
  rintro e w1 ⟨xa, xn, xc, rfl, HXN, HX, bel1⟩
  rw [List.nil_append] at HXN HX
  have HV1 := Lib.hid (HV.out.below bel1)
  have HLL : Hid (l.length ≤ 65536) := by show _ ≤ _; rw [← HVN.out]; exact hl
  have HB1 := Lib.hid bel1
  clear hmod bel1
  have h4 : (four vn).length = 4 := four_length vn
  go_wp2_with (at_builtin; go_loud (first
    | (refine wp_app_my rfl _ _ rfl w1.heap.size 0 (.slice none 0 0) _ [] (four vn) rfl rfl (.inl ⟨rfl, rfl, _, rfl⟩) (rd_of_own HX.out).2 (by rw [four_length]; decide) (Nat.le_refl _) ?_; intro b0 k0 c0 w2 HK0 HO0 hb0)
    | (refine wp_app_my rfl _ _ rfl w1.heap.size k0 (.slice b0 k0 c0) _ (four vn) l rfl rfl HO0.out (HV1.out.below hb0) (by have := HLL.out; simp only [four_length]; omega) hb0.size ?_; intro b1 k1 c1 w3 HK1 HO1 hb1)))
  have hb13 := hb0.trans hb1
  have HX3 := Lib.hid (own_below HX.out hb13)
  have HV3 := Lib.hid (HV1.out.below hb13)
  have HB3 := Lib.hid (HB1.out.trans (hb13.mono HB1.out.size))
  clear hb13 hb0 hb1 HV1 HO0 HX HB1
  obtain ⟨C, hC⟩ : ∃ C, C = crcOn 0 (four vn ++ l) := ⟨_, rfl⟩
  have hCl : C < 4294967296 := by rw [hC]; exact crcOn_lt _ _
  have HC := Lib.hid hC
  refine (refOwn_any _ _ w3 (rd_of_own HO1.out).2).mono ?_
  rintro e w4 ⟨rfl, bel4⟩
  rw [← hC]
  have HB4 := Lib.hid (HB3.out.trans (bel4.mono HB3.out.size))
  have HX4 := Lib.hid (own_below HX3.out bel4)
  have HV4 := Lib.hid (HV3.out.below bel4)
  clear bel4 hC HX3 HV3 HB3 HO1
  go_wp2_with fail
  refine (refPutFour_any w4 _ (four vn) C (rd_of_own HX4.out).2 hCl (by rw [four_length]; decide)).mono ?_
  rintro e w5 ⟨ya, yn, yc, rfl, HYN, HY, bel5⟩
  have HV5 := Lib.hid (HV4.out.below bel5)
  have HB5 := Lib.hid (HB4.out.trans (bel5.mono HB4.out.size))
  have HS45 : Hid (w4.heap.size ≤ w5.heap.size) := bel5.size
  have HW4 : Hid (w.heap.size ≤ w4.heap.size) := HB4.out.size
  clear bel5 HV4 HB4 HX4
  go_wp2_with (at_builtin; go_loud (refine wp_app_my rfl _ _ rfl w4.heap.size yn (.slice ya yn yc) _ (four vn ++ four C) l rfl rfl HY.out HV5.out (by have := HLL.out; simp only [List.length_append, four_length]; omega) HS45.out ?_; intro b2 k2 c2 w6 HK2 HO2 hb2))
  have e6 : (four vn ++ four C) ++ l = fput l := by
    unfold fput
    rw [HC.out, HVN.out, List.append_assoc]
  rw [e6] at HK2 HO2
  go_ret2
  exact ⟨b2, k2, c2, rfl, HK2, own_mono HO2.out HW4.out, HB5.out.trans (hb2.mono HW4.out)⟩

theorem fval_four2 (n : Nat) (h : n < 4294967296) : fval (four n) = n := by
  simp only [fval, four, List.foldl_cons, List.foldl_nil, UInt8.toNat_ofNat']
  omega
theorem four_fval2 (l : List UInt8) (h : l.length = 4) : four (fval l) = l := by
  match l, h with
  | [a, b, c, d], _ =>
    have ha := a.toNat_lt
    have hb := b.toNat_lt
    have hc := c.toNat_lt
    have hd := d.toNat_lt
    simp only [fval, four, List.foldl_cons, List.foldl_nil]
    congr 1
    · apply UInt8.toNat_inj.1; rw [UInt8.toNat_ofNat']; omega
    · congr 1
      · apply UInt8.toNat_inj.1; rw [UInt8.toNat_ofNat']; omega
      · congr 1
        · apply UInt8.toNat_inj.1; rw [UInt8.toNat_ofNat']; omega
        · congr 1
          apply UInt8.toNat_inj.1; rw [UInt8.toNat_ofNat']; omega
theorem take_parts (l : List UInt8) (n : Nat) : l.take (8 + n) = l.take 4 ++ ((l.drop 4).take 4 ++ (l.drop 8).take n) := by
  rw [show 8 + n = 4 + (4 + n) from by omega, List.take_add, List.take_add, List.drop_drop]
/-- a record's frame stands ahead just if the sum is its own -/
theorem frame_same (l : List UInt8) (n : Nat) (h8 : 8 + n ≤ l.length) (hn : n = fval (l.take 4)) :
    (fput ((l.drop 8).take n) = l.take (8 + n)) ↔ crcOn 0 (l.take 4 ++ (l.drop 8).take n) = fval ((l.drop 4).take 4) := by
  have h4 : (l.take 4).length = 4 := by simp; omega
  have h44 : ((l.drop 4).take 4).length = 4 := by simp; omega
  have hr : ((l.drop 8).take n).length = n := by simp; omega
  have e4 : four n = l.take 4 := by rw [hn]; exact four_fval2 _ h4
  rw [take_parts, fput, hr, e4, List.append_cancel_left_eq]
  generalize (l.drop 8).take n = r
  generalize hC : crcOn 0 (l.take 4 ++ r) = C
  have hCl : C < 4294967296 := by rw [← hC]; exact crcOn_lt _ _
  generalize hq : (l.drop 4).take 4 = q at h44
  rw [List.append_cancel_right_eq]
  constructor
  · intro h; rw [← h]; exact (fval_four2 C hCl).symm
  · intro h; rw [h]; exact four_fval2 q h44

set_option maxRecDepth 100000 in
set_option maxHeartbeats 4000000 in
theorem refFramesGet_any (w : World) (v : Value) (l : List UInt8) (hv : Rd w v l) (hl : l.length ≤ 137438953472) :
    Calls Tryz.prog 28 #[v] w (RetRec (fgetR l) w) := by
  obtain ⟨va, vn, vc, rfl, hvn⟩ := rd_len hv
  rw [← hvn] at hl
  have HVN := Lib.hid hvn
  have HV := Lib.hid hv
  clear hv hvn
  by_cases h8 : vn < 8
  · have HR : Hid (fgetR l = ([], 0, 5)) := by show _ = _; unfold fgetR; rw [if_pos (by rw [← HVN.out]; exact h8)]
    go_enter Tryz.func28, Tryz.ntmps28
    go_wp2
    go_ret3
    exact ret_rec_bad HR.out (Below.refl _ _)
  · have h8l : 8 ≤ l.length := by rw [← HVN.out]; omega
    have H8 := Lib.hid h8l
    obtain ⟨n, hn⟩ : ∃ n, n = fval (l.take 4) := ⟨_, rfl⟩
    have hnl : n < 4294967296 := by
      rw [hn]; have h5 := fval_lt (l.take 4); have h6 : (l.take 4).length = 4 := by simp; omega
      rw [h6] at h5; omega
    have HF1 := Lib.hid (fget_eight h8l)
    rw [← hn] at HF1
    have HN := Lib.hid hn
    clear hn h8l
    go_enter Tryz.func28, Tryz.ntmps28
    go_wp2_with fail
    refine (refGetFour_any _ l w HV.out).mono ?_
    rintro e w1 ⟨dn, hret⟩
    obtain ⟨rfl, rfl⟩ : e = .returned (.tuple #[.int .u32 (fget l).1, .int .i64 (fget l).2]) ∧ w.drewN dn = w1 := hret
    rw [HF1.out]
    have hdw := drewN_below w dn
    have HB1 := Lib.hid hdw
    generalize w.drewN dn = w1 at HB1 ⊢
    clear hdw
    by_cases hbig : 65536 < n
    · have HR : Hid (fgetR l = ([], 0, 4)) := by
        show _ = _; unfold fgetR
        rw [if_neg (by have := H8.out; omega), if_pos (by rw [← HN.out]; exact hbig)]
      go_wp2
      go_ret3
      exact ret_rec_bad HR.out HB1.out
    by_cases hsh : vn < 8 + n
    · have HR : Hid (fgetR l = ([], 0, 5)) := by
        show _ = _; unfold fgetR
        rw [if_neg (by have := H8.out; omega), if_neg (by rw [← HN.out]; exact hbig), if_pos (by rw [← HN.out, ← HVN.out]; exact hsh)]
      go_wp2
      go_ret3
      exact ret_rec_bad HR.out HB1.out
    have HV1 := Lib.hid (HV.out.below HB1.out)
    obtain ⟨ca, cc, hcut, hcr⟩ : ∃ ca cc, (∀ (w' : World), (Instr.slice 22 (.slice va vn vc) (some (.int .i64 8)) (some (.int .u32 (8 + (n : Int)))) none).run Tryz.prog w' = .ok (.slice ca n cc) w') ∧ Rd w1 (.slice ca n cc) ((l.drop 8).take n) := by
      have hv1 := HV1.out
      rw [HVN.out] at hv1
      obtain ⟨ca, cc, h1, h2⟩ := run_cut hv1 8 (8 + n) (by omega) (by rw [← HVN.out]; omega)
      rw [show 8 + n - 8 = n from by omega] at h1 h2
      refine ⟨ca, cc, fun w' => ?_, by rw [List.drop_take] at h2; rw [show 8 + n - 8 = n from by omega] at h2; exact h2⟩
      have := h1 w' .i64 .u32
      rw [← HVN.out] at this
      rwa [show ((8 + n : Nat) : Int) = 8 + (n : Int) from by omega, show ((8 : Nat) : Int) = 8 from rfl] at this
    have HCR := Lib.hid hcr
    have hwr : ((8 : Int) + (n : Int)) % 4294967296 = 8 + (n : Int) := by omega
    have HRL : Hid (((l.drop 8).take n).length = n) := by show _ = _; simp; have := HVN.out; omega
    clear hcr
    have d1 : decide ((vn : Int) - 8 < (n : Int)) = false := by simp; omega
    have d2 : decide ((65536 : Int) < (n : Int)) = false := by simp; omega
    have hn16 : n ≤ 65536 := by omega
    have h8n : 8 + n ≤ l.length := by rw [← HVN.out]; omega
    have HSM := Lib.hid (frame_same l n h8n HN.out)
    have HF : Hid (fgetR l = if crcOn 0 (l.take 4 ++ (l.drop 8).take n) = fval ((l.drop 4).take 4) then ((l.drop 8).take n, 8 + n, 0) else ([], 0, 4)) := by
      show _ = _
      unfold fgetR
      rw [if_neg (by have := H8.out; omega), if_neg (by rw [← HN.out]; exact hbig), if_neg (by rw [← HN.out, ← HVN.out]; exact hsh), ← HN.out]
    have H8N := Lib.hid h8n
    clear h8n hbig
    go_wp2_with (at_builtin; go_loud (refine wp_app_my rfl _ _ rfl w1.heap.size 0 (.slice none 0 0) _ [] ((l.drop 8).take n) rfl rfl (.inl ⟨rfl, rfl, _, rfl⟩) HCR.out (by rw [HRL.out]; simp; omega) (Nat.le_refl _) ?_; intro b0 k0 c0 w2 HK0 HO0 hb0))
    rw [List.nil_append] at HK0 HO0
    have HB2 := Lib.hid (HB1.out.trans (hb0.mono HB1.out.size))
    have HV2 := Lib.hid (HV1.out.below hb0)
    have HS1 : Hid (w.heap.size ≤ w1.heap.size) := HB1.out.size
    clear hb0 HV1 HCR hcut hwr d1
    refine (refFramesPut_any w2 _ _ (rd_of_own HO0.out).2 (by rw [HRL.out]; omega)).mono ?_
    rintro e w3 ⟨fa, fn, fc, rfl, HFN, HFO, bel3⟩
    have HB3 := Lib.hid (HB2.out.trans (bel3.mono HB2.out.size))
    have HO3 := Lib.hid (own_below HO0.out bel3)
    have HV3 := Lib.hid (HV2.out.below bel3)
    clear bel3 HO0 HV2
    obtain ⟨cb, ccb, hcut, hcr⟩ : ∃ cb ccb, (∀ (w' : World), (Instr.slice 22 (.slice va vn vc) none (some (.int .u32 (8 + (n : Int)))) none).run Tryz.prog w' = .ok (.slice cb (8 + n) ccb) w') ∧ Rd w3 (.slice cb (8 + n) ccb) (l.take (8 + n)) := by
      obtain ⟨cb, ccb, h1, h2⟩ := cut_to HV3.out (8 + n) H8N.out
      exact ⟨cb, ccb, fun w' => by have := h1 w' .u32; rwa [show ((8 + n : Nat) : Int) = 8 + (n : Int) from by omega] at this, h2⟩
    obtain ⟨wd, hwd⟩ : ∃ wd, wd = w3.drew := ⟨_, rfl⟩
    have hbd : Below w3.heap.size w3 wd := by rw [hwd]; exact (Below.refl _ _).drew
    have kx := run_str ((rd_of_own HFO.out).2.below hbd)
    have ky := run_str (hcr.below hbd)
    have HWD := Lib.hid hwd
    have HB4 := Lib.hid (HB3.out.trans (hbd.mono HB3.out.size))
    have HO4 := Lib.hid (own_below HO3.out (hbd.mono (by simp)))
    clear hbd hwd
    have hwr : ((8 : Int) + (n : Int)) % 4294967296 = 8 + (n : Int) := by omega
    clear hcr
    have hw2 : IntKind.u32.wrap ((8 : Int) + (n : Int)) = 8 + (n : Int) := by
      simp only [IntKind.wrap, IntKind.signed, IntKind.bits]
      simp
      omega
    have HR0 : Hid (fgetR l = (if fput ((l.drop 8).take n) = l.take (8 + n) then ((l.drop 8).take n, 8 + n, 0) else ([], 0, 4))) := by
      show _ = _
      rw [HF.out]
      by_cases h : crcOn 0 (l.take 4 ++ (l.drop 8).take n) = fval ((l.drop 4).take 4)
      · rw [if_pos h, if_pos (HSM.out.2 h)]
      · rw [if_neg h, if_neg (fun h2 => h (HSM.out.1 h2))]
    clear HF HSM hwr
    by_cases hsame : fput ((l.drop 8).take n) = l.take (8 + n)
    · have HF := HR0.out
      rw [if_pos hsame] at HF
      have HG := Lib.hid HF
      rw [hsame] at kx
      clear HF HR0 hsame
      generalize bs (l.take (8 + n)) = sx at kx ky
      go_upto_region 10 with (fail)
      refine still_allF (wd := wd) ?hm ?hB ?hwd ?h
      case hm => kernel_rfl
      case hB => kernel_rfl
      case hwd => exact HWD.out
      repeat ((with_reducible refine wpStill_step (fun K hK => ?_)); go_simp; refine hK _ ?_; clear hK K)
      refine wpStill_nil ?_
      clear kx ky
      go_wp2
      go_ret3
      rw [HG.out]
      refine ⟨b0, k0, c0, ?_, HK0, own_mono HO4.out HS1.out, HB4.out⟩
      congr 4
    · have HF := HR0.out
      rw [if_neg hsame] at HF
      have HG := Lib.hid HF
      have hne : ((bs (fput ((l.drop 8).take n))).toList == (bs (l.take (8 + n))).toList) = false := by
        rw [Lib.toList_data, Lib.toList_data, bs_data, bs_data, beq_eq_false_iff_ne]
        exact hsame
      clear HF HR0 hsame
      generalize bs (l.take (8 + n)) = sx at kx ky hne
      generalize bs (fput ((l.drop 8).take n)) = sy at kx hne
      go_upto_region 10 with (fail)
      refine still_allF (wd := wd) ?hm2 ?hB2 ?hwd2 ?h2
      case hm2 => kernel_rfl
      case hB2 => kernel_rfl
      case hwd2 => exact HWD.out
      repeat ((with_reducible refine wpStill_step (fun K hK => ?_)); go_simp; refine hK _ ?_; clear hK K)
      refine wpStill_nil ?_
      clear kx ky
      go_wp2
      go_ret3
      exact ret_rec_bad HG.out HB4.out
end Go.Proofs.YtbcnapkbdbefhaaGreatDoor

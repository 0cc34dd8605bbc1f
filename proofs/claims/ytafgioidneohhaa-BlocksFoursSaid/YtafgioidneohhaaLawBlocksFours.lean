/- The law BlocksFours answers true for any entries and any number. No condition. -/
import Derived.Test.YtafgioidneohhaaBlkL
import Derived.Deep.RegionHeld3
namespace Go.Proofs.Ytafgioidneohhaa
open Go.RowKit

set_option maxRecDepth 100000 in
set_option maxHeartbeats 8000000 in
theorem blocksFours_walk (w : World) (v : Value) (l : List PE) (a1 : Int) (hv : RdE w v l) (hl : l.length ≤ 2932031007402 ∧ ∀ x ∈ l, x.ok) (wa : (Lit.int .u8 a1).wf = true) :
    Calls Try.prog 10 #[v, .int .u8 a1] w (RetTrue w) := by
  obtain ⟨c, rfl, hc⟩ := nat_u8 wa
  clear wa
  have hend : ∀ (w5 : World), Hid (Calls Try.prog 20 #[] w5 (RetTrue w5)) := fun w5 => alive08_any w5
  obtain ⟨hln, hlo⟩ := hl
  have HS := Lib.hid hlo
  have HV0 := Lib.hid hv
  obtain ⟨va, vc, rfl, h1, h2, h3⟩ := hv
  clear h3 hlo
  obtain ⟨vn, hvn⟩ : ∃ n, n = l.length := ⟨_, rfl⟩
  have HVN := Lib.hid hvn
  rw [← hvn] at h1 HV0 hln ⊢
  clear hvn
  go_enter Try.func10, Try.ntmps10
  go_wp2_with fail
  refine (hend _).out.mono ?_
  rintro e w1 ⟨rfl, bel⟩
  have hv1 := HV0.out.below bel
  have hz := entriesSize_any w1 _ l hv1 (by rw [← HVN.out]; omega) HS.out
  rw [← HVN.out] at hz
  have HZ := Lib.hid hz
  clear hz
  go_wp2_with fail
  refine HZ.out.mono ?_
  rintro e w2 ⟨z, rfl, hz, bel2⟩
  replace bel := Below.trans bel (bel2.mono bel.size)
  have HB := Lib.hid bel
  clear HZ bel2 hv1 bel
  by_cases hb3 : 40000 < z
  · clear hz
    go_wp2_with fail
    refine (hend _).out.mono ?_
    rintro e w3 ⟨rfl, bel3⟩
    have bel := Below.trans HB.out (bel3.mono HB.out.size)
    clear bel3
    go_wp2
    go_ret
    exact ⟨rfl, bel⟩
  have hzz := hz (by omega)
  have hvs : vn ≤ 40000 := by omega
  clear hz hzz
  by_cases hb4 : vn < 5
  · go_wp2_with fail
    refine (hend _).out.mono ?_
    rintro e w3 ⟨rfl, bel3⟩
    have bel := Below.trans HB.out (bel3.mono HB.out.size)
    clear bel3
    go_wp2
    go_ret
    exact ⟨rfl, bel⟩
  have hz1 : decide (40000 < (z : Int)) = false := by simp; omega
  have hz2 : decide (40000 < z) = false := by simp; omega
  have hz3 : decide ((vn : Int) < 5) = false := by simp; omega
  have hz4 : decide (vn < 5) = false := by simp; omega
  have hv5 : 5 ≤ vn := by omega
  clear hb3 hb4
  obtain ⟨m, hm⟩ : ∃ m, m = (vn - 1) / 4 := ⟨_, rfl⟩
  have hm1 : 1 ≤ m := by omega
  have hmq : ((vn : Int) - 1) / 4 = (m : Int) := by omega
  obtain ⟨r, hr⟩ : ∃ r, r = c % m := ⟨_, rfl⟩
  have hrm : r < m := by rw [hr]; exact Nat.mod_lt _ hm1
  have hrq : (c : Int) % (m : Int) = (r : Int) := by rw [hr]; simp
  obtain ⟨k, hk⟩ : ∃ k, k = 4 * (1 + r) := ⟨_, rfl⟩
  have hkq : (4 : Int) * (1 + (r : Int)) = (k : Int) := by omega
  have hm0 : ((m : Int) == 0) = false := by simp; omega
  have hm0' : ¬ (m : Int) = 0 := by omega
  have HKM : Hid (k % 4 = 0 ∧ 0 < k ∧ k < vn) := ⟨by omega, by omega, by omega⟩
  clear hm hr hk
  go_upto_region 3 with (fail)
  clear hz1 hz2 hz3 hz4
  go_upto_region 4 with (fail)
  clear hmq hrq hkq hm0 hm0' hrm
  obtain ⟨x1, y1, hcut1, hcr1⟩ := cutE_to (HV0.out.below HB.out) k (by have := HKM.out; have := HVN.out; omega)
  obtain ⟨n2, hn2⟩ : ∃ n, n = vn - k := ⟨_, rfl⟩
  have hnk : n2 + k = vn := by have := HKM.out; omega
  obtain ⟨x2, y2, hcut2, hcr2⟩ := cutE_rest (HV0.out.below HB.out) k n2 (by have := HVN.out; omega)
  have HR1 := Lib.hid hcr1
  have HR2 := Lib.hid hcr2
  have hlk : (l.take k).length = k := by rw [List.length_take]; have := HKM.out; have := HVN.out; omega
  have hkv : k ≤ vn := by have := HKM.out; omega
  have hsq := seqs_of HS.out
  have HSQ := Lib.hid hsq.2
  have HSP1 : Hid (∀ x ∈ l.take k, x.s < 18446744073709551616) := fun x hx => hsq.1 x (List.mem_of_mem_take hx)
  have HSP2 : Hid (∀ x ∈ l.drop k, x.s < 18446744073709551616) := fun x hx => hsq.1 x (List.mem_of_mem_drop hx)
  clear hcr1 hcr2 hn2 hlk
  cases hm : mayL (entsOf l)
  · have HP := Lib.hid (put_no w2 _ l (HV0.out.below HB.out) hsq.1 hm)
    clear hsq hm
    go_wp2_with fail
    refine HP.out.mono ?_
    rintro e w3 ⟨rfl, bel3⟩
    have HB3 := Lib.hid (Below.trans HB.out (bel3.mono HB.out.size))
    have HP1 := Lib.hid (blocksPut_any w3 _ _ (HR1.out.below bel3) HSP1.out)
    replace HR2 := Lib.hid (HR2.out.below bel3)
    clear HP HB bel3
    go_wp2_with fail
    refine HP1.out.mono ?_
    rintro e w4 ⟨bel4, h4⟩
    have HB4 := Lib.hid (Below.trans HB3.out (bel4.mono HB3.out.size))
    have HP2 := Lib.hid (blocksPut_any w4 _ _ (HR2.out.below bel4) HSP2.out)
    clear HP1 HR1 HR2 bel4 HB3
    rcases h4 with ⟨_, qa, qn, qc, rfl, _, _⟩ | ⟨_, rfl⟩
    all_goals
      go_upto_region 6 with (fail)
      go_wp2_with fail
      refine HP2.out.mono ?_
      rintro e w5 ⟨bel5, h5⟩
      have bel := Below.trans HB4.out (bel5.mono HB4.out.size)
      rcases h5 with ⟨_, ra, rn, rc, rfl, _, _⟩ | ⟨_, rfl⟩
      all_goals
        go_wp2_with fail
        go_ret
        exact ⟨rfl, bel⟩
  have HP := Lib.hid (put_is w2 _ l (HV0.out.below HB.out) hsq.1 hm)
  have HMM := Lib.hid hm
  have hn64 : vn ≤ 64 := by have := ((mayL_iff _).1 hm).1.2; rw [entsOf_length, ← HVN.out] at this; exact this
  have hev : (entsOf l).length = vn := by rw [entsOf_length, HVN.out]
  have HEV := Lib.hid hev
  have ht1 : entsOf (l.take k) = (entsOf l).take k := List.map_take
  have ht2 : entsOf (l.drop k) = (entsOf l).drop k := List.map_drop
  have HT1 := Lib.hid ht1
  have HT2 := Lib.hid ht2
  have hm1' : mayL (entsOf (l.take k)) = true := by rw [ht1]; exact may_take hm k HKM.out.2.1 (by rw [hev]; exact hkv)
  have hm2' : mayL (entsOf (l.drop k)) = true := by rw [ht2]; exact may_drop hm k (by rw [hev]; exact HKM.out.2.2)
  have HM1 := Lib.hid hm1'
  have HM2 := Lib.hid hm2'
  clear hsq hm hev ht1 ht2 hm1' hm2'
  go_wp2_with fail
  refine HP.out.mono ?_
  rintro e w3 ⟨pa, pn, pc, rfl, HPN, HPO, bel3⟩
  have HB3 := Lib.hid (Below.trans HB.out (bel3.mono HB.out.size))
  have HPR3 := Lib.hid (rd_of_own HPO.out).2
  have HP1 := Lib.hid (put_is w3 _ _ (HR1.out.below bel3) HSP1.out HM1.out)
  replace HR2 := Lib.hid (HR2.out.below bel3)
  clear HP HB bel3 HPO
  go_wp2_with fail
  refine HP1.out.mono ?_
  rintro e w4 ⟨qa, qn, qc, rfl, HQN, HQO, bel4⟩
  have HB4 := Lib.hid (Below.trans HB3.out (bel4.mono HB3.out.size))
  have HQR4 := Lib.hid (rd_of_own HQO.out).2
  replace HPR3 := Lib.hid (HPR3.out.below bel4)
  have HP2 := Lib.hid (put_is w4 _ _ (HR2.out.below bel4) HSP2.out HM2.out)
  clear HP1 HR1 HR2 bel4 HB3 HQO
  go_wp2_with fail
  refine HP2.out.mono ?_
  rintro e w5 ⟨ra, rn, rc, rfl, HRN, HRO, bel5⟩
  have HB5 := Lib.hid (Below.trans HB4.out (bel5.mono HB4.out.size))
  have HRR := Lib.hid (rd_of_own HRO.out).2
  have HQR := Lib.hid (HQR4.out.below bel5)
  have HPR := Lib.hid (HPR3.out.below bel5)
  clear HP2 bel5 HB4 HRO HQR4 HPR3 hcut1 hcut2
  -- the lengths
  obtain ⟨A, hA⟩ : ∃ A, A = (bodyN (entsOf (l.take k)) (entsOf (l.take k)).length).length := ⟨_, rfl⟩
  obtain ⟨B, hBB⟩ : ∃ A, A = (bodyN (entsOf (l.drop k)) (entsOf (l.drop k)).length).length := ⟨_, rfl⟩
  have hbody : bodyN (entsOf l) (entsOf l).length = bodyN (entsOf (l.take k)) (entsOf (l.take k)).length ++ bodyN (entsOf (l.drop k)) (entsOf (l.drop k)).length := by
    rw [HT1.out, HT2.out]; exact body_parts (entsOf l) k HKM.out.1 (by rw [HEV.out]; exact hkv)
  have HBODY := Lib.hid hbody
  obtain ⟨x, hx⟩ : ∃ x, x = (vn + 3) / 4 := ⟨_, rfl⟩
  obtain ⟨y, hy⟩ : ∃ y, y = k / 4 := ⟨_, rfl⟩
  obtain ⟨zz, hzz⟩ : ∃ z, z = x - y := ⟨_, rfl⟩
  have hk4 := HKM.out
  have hpn : pn = A + B + 2 * x + 2 := by
    rw [HPN.out, blkPut_length, hbody, List.length_append, ← hA, ← hBB, HEV.out, hx]
  have hqn : qn = A + 2 * y + 2 := by
    rw [HQN.out, blkPut_length, ← hA, entsOf_length, List.length_take, ← HVN.out, Nat.min_eq_left hkv]; omega
  have hrn : rn = B + 2 * zz + 2 := by
    rw [HRN.out, blkPut_length, ← hBB, entsOf_length, List.length_drop, ← HVN.out]; omega
  have hpb : pn ≤ 40000 := by rw [HPN.out]; exact blk_small HMM.out
  have hyx : y ≤ x := by omega
  have hxq : ((vn : Int) + 3) / 4 = (x : Int) := by omega
  have hyq : (k : Int) / 4 = (y : Int) := by omega
  have hzq : (x : Int) - (y : Int) = (zz : Int) := by omega
  have HA := Lib.hid hA
  have HBQ := Lib.hid hBB
  clear hbody hx hy hzz hk4 hA hBB HPN HQN HRN
  obtain ⟨s2, hs2⟩ : ∃ s, s = pn + 2 := ⟨_, rfl⟩
  obtain ⟨yy, hyy⟩ : ∃ s, s = 2 * y := ⟨_, rfl⟩
  obtain ⟨y3, hy3⟩ : ∃ s, s = 2 + yy := ⟨_, rfl⟩
  obtain ⟨z2, hz2⟩ : ∃ s, s = 2 * zz := ⟨_, rfl⟩
  obtain ⟨z3, hz3⟩ : ∃ s, s = 2 + z2 := ⟨_, rfl⟩
  obtain ⟨xx, hxx⟩ : ∃ s, s = 2 * x := ⟨_, rfl⟩
  obtain ⟨q2, hq2⟩ : ∃ s, s = qn - 2 := ⟨_, rfl⟩
  obtain ⟨r2, hr2⟩ : ∃ s, s = rn - 2 := ⟨_, rfl⟩
  obtain ⟨p2, hp2⟩ : ∃ s, s = pn - 2 := ⟨_, rfl⟩
  obtain ⟨AB, hAB⟩ : ∃ s, s = A + B := ⟨_, rfl⟩
  have f1 : (pn : Int) + 2 = (s2 : Int) := by omega
  have f2 : (qn : Int) + (rn : Int) = (s2 : Int) := by omega
  have f3 : (2 : Int) * (y : Int) = (yy : Int) := by omega
  have f4 : (2 : Int) + (yy : Int) = (y3 : Int) := by omega
  have f5 : (2 : Int) * (zz : Int) = (z2 : Int) := by omega
  have f6 : (2 : Int) + (z2 : Int) = (z3 : Int) := by omega
  have f7 : (2 : Int) * (x : Int) = (xx : Int) := by omega
  have f8 : (qn : Int) - 2 = (q2 : Int) := by omega
  have f9 : (q2 : Int) - (yy : Int) = (A : Int) := by omega
  have fa : (rn : Int) - 2 = (r2 : Int) := by omega
  have fb : (r2 : Int) - (z2 : Int) = (B : Int) := by omega
  have fc : (pn : Int) - 2 = (p2 : Int) := by omega
  have fd : (p2 : Int) - (xx : Int) = (AB : Int) := by omega
  have d1 : decide ((qn : Int) < (y3 : Int)) = false := by simp; omega
  have d2 : decide (qn < y3) = false := by simp; omega
  have d3 : decide ((rn : Int) < (z3 : Int)) = false := by simp; omega
  have d4 : decide (rn < z3) = false := by simp; omega
  have d5 : ((s2 : Int) != (s2 : Int)) = false := by simp
  have bq : qn ≤ 40000 := by omega
  have br : rn ≤ 40000 := by omega
  have bx : x ≤ 40000 := by omega
  have by_ : y ≤ 40000 := by omega
  have bz : zz ≤ 40000 := by omega
  have byy : yy ≤ 40000 := by omega
  have bz2 : z2 ≤ 40000 := by omega
  have bxx : xx ≤ 40000 := by omega
  have bq2 : q2 ≤ 40000 := by omega
  have br2 : r2 ≤ 40000 := by omega
  have bp2 : p2 ≤ 40000 := by omega
  have bA : A ≤ qn := by omega
  have bB : B ≤ rn := by omega
  have bAB : AB ≤ pn := by omega
  have HABQ := Lib.hid hAB
  have HPQ : Hid (AB ≤ (blkPut (entsOf l)).length) := by
    show _ ≤ _
    rw [blkPut_length, HBODY.out, List.length_append, ← HA.out, ← HBQ.out]; omega
  clear hs2 hyy hy3 hz2 hz3 hxx hq2 hr2 hp2 hAB hpn hqn hrn hyx
  go_upto_region 12 with (fail)
  try rw [hxq]
  go_upto_region 14 with (fail)
  have lenE : ∀ E : List Ent, (bodyN E E.length).length ≤ (blkPut E).length := fun E => by rw [blkPut_length]; omega
  obtain ⟨u1, t1, hc1, hd1⟩ := cut_to HQR.out A (by rw [HA.out]; exact lenE _)
  obtain ⟨u2, t2, hc2, hd2⟩ := cut_to HRR.out B (by rw [HBQ.out]; exact lenE _)
  obtain ⟨u3, t3, hc3, hd3⟩ := cut_to HPR.out AB HPQ.out
  have takeE : ∀ E : List Ent, (blkPut E).take (bodyN E E.length).length = bodyN E E.length := fun E => by
    unfold blkPut; rw [List.append_assoc]; exact List.take_left
  rw [HA.out, takeE, ← HA.out] at hd1
  rw [HBQ.out, takeE, ← HBQ.out] at hd2
  have hab : AB = (bodyN (entsOf l) (entsOf l).length).length := by rw [HBODY.out, List.length_append, ← HA.out, ← HBQ.out]; exact HABQ.out
  rw [hab, takeE, ← hab, HBODY.out] at hd3
  have s1 := fun w' => hc1 w' .i64
  have s2' := fun w' => hc2 w' .i64
  have s3 := fun w' => hc3 w' .i64
  obtain ⟨XA, hXA⟩ : ∃ X, X = bodyN (entsOf (l.take k)) (entsOf (l.take k)).length := ⟨_, rfl⟩
  obtain ⟨XB, hXB⟩ : ∃ X, X = bodyN (entsOf (l.drop k)) (entsOf (l.drop k)).length := ⟨_, rfl⟩
  rw [← hXA] at hd1 hd3
  rw [← hXB] at hd2 hd3
  have hla : XA.length ≤ 40000 := by have := HA.out; rw [← hXA] at this; omega
  have hlb : XB.length ≤ 40000 := by have := HBQ.out; rw [← hXB] at this; omega
  have HD1 := Lib.hid hd1
  have HD2 := Lib.hid hd2
  have HD3 := Lib.hid hd3
  have wq2 : IntKind.i64.wrap (q2 : Int) = (q2 : Int) := IntWalk.i64_in _ (by omega)
  have wyy : IntKind.i64.wrap (yy : Int) = (yy : Int) := IntWalk.i64_in _ (by omega)
  have wA : IntKind.i64.wrap (A : Int) = (A : Int) := IntWalk.i64_in _ (by omega)
  have wr2 : IntKind.i64.wrap (r2 : Int) = (r2 : Int) := IntWalk.i64_in _ (by omega)
  have wz2 : IntKind.i64.wrap (z2 : Int) = (z2 : Int) := IntWalk.i64_in _ (by omega)
  have wB : IntKind.i64.wrap (B : Int) = (B : Int) := IntWalk.i64_in _ (by omega)
  have wp2 : IntKind.i64.wrap (p2 : Int) = (p2 : Int) := IntWalk.i64_in _ (by omega)
  have wxx : IntKind.i64.wrap (xx : Int) = (xx : Int) := IntWalk.i64_in _ (by omega)
  have wAB : IntKind.i64.wrap (AB : Int) = (AB : Int) := IntWalk.i64_in _ (by omega)
  have h55 : Below w5.heap.size w5 w5 := Below.refl _ _
  clear hc1 hc2 hc3 hd1 hd2 hd3 hab hXA hXB lenE takeE d1 d2 d3 d4 d5 f1 f2 f4 f6
  go_region_held3 (fun w' => Below w5.heap.size w5 w')
    ((first | assumption | exact Below.drew h55 | exact Below.trans (by assumption) (hb9.mono (Below.size (by assumption))) | exact Below.trans (by assumption) hb8))
    ((first
      | (go_at_call 27; refine (twin_my _ XA _ (HD1.out.below (by assumption)) (by omega)).mono ?_; rintro e w7 ⟨ta, tn, tc, rfl, HTN, HT, hb9⟩; replace HT := Lib.hid (own_mono HT.out (Below.size (w := w5) (by assumption))))
      | (refine step_app rfl _ _ rfl _ _ _ _ XA XB rfl rfl HT.out (HD2.out.below (by assumption)) (by omega) (Below.size (w := w5) (by assumption)) ?_; intro ua un uc w8 HUN HU hb8)))
  rename_i hH
  have HB8 := Lib.hid (HB5.out.trans (hH.mono HB5.out.size))
  have HSB := Lib.hid (same_bt w8 _ _ (XA ++ XB) (HD3.out.below hH) (rd_of_own HU.out).2)
  clear hH HU HUN HT HTN f3 f5 f8 f9 fa fb
  go_wp2_with fail
  refine HSB.out.mono ?_
  rintro e w9 ⟨rfl, bel9⟩
  have bel := HB8.out.trans (bel9.mono HB8.out.size)
  go_wp2
  go_ret
  exact ⟨rfl, bel⟩
end Go.Proofs.Ytafgioidneohhaa

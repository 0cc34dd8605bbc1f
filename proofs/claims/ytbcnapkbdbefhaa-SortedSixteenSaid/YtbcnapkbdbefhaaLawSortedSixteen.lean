/- The law SortedSixteen answers true for any entries, any mark, wherever they are parted. No condition. -/
import Derived.Test.YtbcnapkbdbefhaaSGreat
import Derived.Test.YtbcnapkbdbefhaaSameE
import Derived.Test.YtbcnapkbdbefhaaSLook
import Derived.Test.YtbcnapkbdbefhaaSSplit
namespace Go.Proofs.Ytbcnapkbdbefhaa
open Go.RowKit

/-- the first of a file's three numbers -/
theorem foot_first {E : List Ent} (h : IsS (fileS E) E) : (fget ((fileS E).drop ((fileS E).length - 12)) = ((framesN E (nBlk E)).length, 0)) ∧ (framesN E (nBlk E)).length ≤ (fileS E).length := by
  have h1 := framesN_small h.1 (nBlk E) (Nat.le_refl _)
  have h2 := nBlk_le h.2.2.1
  refine ⟨?_, ?_⟩
  · rw [fileS_foot]
    unfold fget
    rw [if_neg (by simp [four_len])]
    have e : ∀ (n : Nat) (r : List UInt8), (four n ++ r).take 4 = four n := fun n r => rfl
    rw [e, fval_four' _ (by omega)]
  · obtain ⟨r, hr⟩ := fileS_end E
    rw [hr, List.length_append]
    omega
set_option maxRecDepth 100000 in
set_option maxHeartbeats 3000000 in
theorem sortedSixteen_walk (w : World) (v : Value) (l : List PE) (a1 : Int) (hv : RdE w v l) (hl : l.length ≤ 2932031007402 ∧ ∀ x ∈ l, x.ok) (wa : (Lit.int .u8 a1).wf = true) :
    Calls Try.prog 9 #[v, .int .u8 a1] w (RetTrue w) := by
  obtain ⟨c, rfl, hc⟩ := nat_u8 wa
  have hend : ∀ (w5 : World), Hid (Calls Try.prog 10 #[] w5 (RetTrue w5)) := fun w5 => alive10_any w5
  obtain ⟨hln, hlo⟩ := hl
  have HS := Lib.hid hlo
  have HV := Lib.hid hv
  have HGR := Lib.hid (fun w' (hb : Below w.heap.size w w') => great10_any w' v l (hv.below hb) hln hlo)
  obtain ⟨va, vc, rfl, h1, h2, h3⟩ := hv
  clear h3 hlo
  obtain ⟨vn, hvn⟩ : ∃ n, n = l.length := ⟨_, rfl⟩
  have HVN := Lib.hid hvn
  rw [← hvn] at h1 HV hln HGR ⊢
  clear hvn
  go_enter Try.func9, Try.ntmps9
  go_upto_region 1 with (fail)
  go_wp2_with fail
  refine (hend _).out.mono ?_
  rintro e w1 ⟨rfl, bel1⟩
  go_wp2_with fail
  refine (HGR.out _ bel1).mono ?_
  rintro e w2 ⟨gr, rfl, hgr, bel2⟩
  have HB2 := Lib.hid (bel1.trans (bel2.mono bel1.size))
  clear bel1 bel2 HGR
  cases gr
  case true =>
    go_wp2_with (go_at_call 10; refine (hend _).out.mono ?_; rintro e w3 ⟨rfl, bel3⟩)
    have hb := HB2.out.trans (bel3.mono HB2.out.size)
    go_ret
    exact ⟨rfl, hb⟩
  have hvs : vn ≤ 300 := hgr rfl
  clear hgr hln
  by_cases h2v : vn < 17
  · go_wp2_with (go_at_call 10; refine (hend _).out.mono ?_; rintro e w3 ⟨rfl, bel3⟩)
    have hb := HB2.out.trans (bel3.mono HB2.out.size)
    go_ret
    exact ⟨rfl, hb⟩
  obtain ⟨v1, hv1⟩ : ∃ d, d = vn - 1 := ⟨_, rfl⟩
  have hsub : (vn : Int) - 1 = (v1 : Int) := by omega
  have hwv : IntKind.i64.wrap (v1 : Int) = (v1 : Int) := IntWalk.i64_in _ (by omega)
  obtain ⟨d, hd⟩ : ∃ d, d = v1 / 16 := ⟨_, rfl⟩
  have hquo : Int.tdiv (v1 : Int) 16 = (d : Int) := by rw [hd]; rfl
  have hwd : IntKind.i64.wrap (d : Int) = (d : Int) := IntWalk.i64_in _ (by omega)
  have hd0 : ¬ d = 0 := by omega
  obtain ⟨q, hq⟩ : ∃ q, q = c % d := ⟨_, rfl⟩
  have hqd : q < d := by rw [hq]; exact Nat.mod_lt _ (by omega)
  have hrem : Int.tmod (c : Int) (d : Int) = (q : Int) := by rw [hq]; rfl
  have hwq : IntKind.i64.wrap (q : Int) = (q : Int) := IntWalk.i64_in _ (by omega)
  have hwc : IntKind.i64.wrap (c : Int) = (c : Int) := IntWalk.i64_in _ (by omega)
  obtain ⟨jj, hjj⟩ : ∃ k, k = q + 1 := ⟨_, rfl⟩
  have hj1 : (1 : Int) + (q : Int) = (jj : Int) := by omega
  have hwj : IntKind.i64.wrap (jj : Int) = (jj : Int) := IntWalk.i64_in _ (by omega)
  obtain ⟨k, hkj⟩ : ∃ k, k = 16 * jj := ⟨_, rfl⟩
  have hk1 : (16 : Int) * (jj : Int) = (k : Int) := by omega
  have hwk : IntKind.i64.wrap (k : Int) = (k : Int) := IntWalk.i64_in _ (by omega)
  have hkn : k < vn := by omega
  have hkp : 0 < k := by omega
  clear hv1 hd hq hjj
  have HKJ := Lib.hid hkj
  clear hkj
  go_upto_region 4 with (fail)
  clear hsub hwv hquo hwd hd0 hrem hwq hwc hj1 hwj hk1 hwk hqd
  obtain ⟨hs1, hs2⟩ := seqs_ok HS.out
  have hoA : ∀ x ∈ l.take k, x.ok := fun x hx => HS.out x (List.mem_of_mem_take hx)
  have hoB : ∀ x ∈ l.drop k, x.ok := fun x hx => HS.out x (List.mem_of_mem_drop hx)
  have hlA : (l.take k).length ≤ 1000000 := by rw [List.length_take]; have := HVN.out; omega
  have hlB : (l.drop k).length ≤ 1000000 := by rw [List.length_drop]; have := HVN.out; omega
  have HOA := Lib.hid (And.intro hoA hlA)
  have HOB := Lib.hid (And.intro hoB hlB)
  have HCA : Hid (∀ w', Below w.heap.size w w' → ∃ a c, (∀ w'', (Instr.slice 22 (.slice va vn vc) none (some (.int .i64 k)) none).run Try.prog w'' = .ok (.slice a k c) w'') ∧ RdE w' (.slice a k c) (l.take k)) := fun w' hb => by
    obtain ⟨a, c, h1, h2⟩ := cutE_to (HV.out.below hb) k (by rw [← HVN.out]; omega)
    exact ⟨a, c, fun w'' => h1 w'' .i64, h2⟩
  obtain ⟨dn, hdn⟩ : ∃ z, z = vn - k := ⟨_, rfl⟩
  have HCB : Hid (∀ w', Below w.heap.size w w' → ∃ a c, (∀ w'', (Instr.slice 22 (.slice va vn vc) (some (.int .i64 k)) none none).run Try.prog w'' = .ok (.slice a dn c) w'') ∧ RdE w' (.slice a dn c) (l.drop k)) := fun w' hb => by
    obtain ⟨a, c, h1, h2⟩ := cutE_rest (HV.out.below hb) k dn (by rw [← HVN.out]; omega)
    exact ⟨a, c, fun w'' => h1 w'' .i64, h2⟩
  clear hoA hoB hlA hlB hdn
  cases hm : mayS (entsOf l)
  · have HP := Lib.hid (sput_no w2 _ l 1 (HV.out.below HB2.out) hs1 (by rw [← HVN.out]; omega) (errS_arg hm) (by decide))
    clear hs1 hs2 hm
    go_upto_region 5 with (go_at_call 12; refine HP.out.mono ?_; rintro e w3 ⟨⟨pa, pc, rfl⟩, bel3⟩)
    have HB3 := Lib.hid (HB2.out.trans (bel3.mono HB2.out.size))
    obtain ⟨aA, cA, hA1, hA2⟩ := HCA.out _ HB3.out
    have HPA := Lib.hid (sortedPut_any w3 _ _ hA2 (seqs_ok HOA.out.1).1 HOA.out.2)
    clear hA2 bel3 HP
    go_upto_region 6 with (go_at_call 12; refine HPA.out.mono ?_; rintro e w4 ⟨pa2, pn2, pc2, rfl, -, -, bel4⟩)
    have HB4 := Lib.hid (HB3.out.trans (bel4.mono HB3.out.size))
    obtain ⟨aB, cB, hB1, hB2⟩ := HCB.out _ HB4.out
    have HPB := Lib.hid (sortedPut_any w4 _ _ hB2 (seqs_ok HOB.out.1).1 HOB.out.2)
    clear hB2 bel4 HPA hA1
    go_wp2_with (go_at_call 12; refine HPB.out.mono ?_; rintro e w5 ⟨pa3, pn3, pc3, rfl, -, -, bel5⟩)
    have hb := HB4.out.trans (bel5.mono HB4.out.size)
    go_ret
    exact ⟨rfl, hb⟩
  have he := errS_ok hm (by rw [entsOf_length, ← HVN.out]; omega)
  have hEk : k < (entsOf l).length := by rw [entsOf_length, ← HVN.out]; exact hkn
  have hmA : mayS (entsOf (l.take k)) = true := by rw [entsOf_take]; exact mayS_take hm k hkp
  have hmB : mayS (entsOf (l.drop k)) = true := by rw [entsOf_drop]; exact mayS_drop hm k hEk
  have heA := errS_ok hmA (by rw [entsOf_length, List.length_take, ← HVN.out]; omega)
  have heB := errS_ok hmB (by rw [entsOf_length, List.length_drop, ← HVN.out]; omega)
  have HP := Lib.hid (sput_is w2 _ l (HV.out.below HB2.out) hs1 (by rw [← HVN.out]; omega) he)
  have HFE := Lib.hid (file_of HS.out he)
  have HFA := Lib.hid (file_of HOA.out.1 heA)
  have HFB := Lib.hid (file_of HOB.out.1 heB)
  have HPA := Lib.hid (fun w' v' hr => sput_is w' v' (l.take k) hr (seqs_ok HOA.out.1).1 HOA.out.2 heA)
  have HPB := Lib.hid (fun w' v' hr => sput_is w' v' (l.drop k) hr (seqs_ok HOB.out.1).1 HOB.out.2 heB)
  have hrE := ((mayS_iff _).1 hm).2
  have hrA := ((mayS_iff _).1 hmA).2
  have hrB := ((mayS_iff _).1 hmB).2
  have hkj := HKJ.out
  have HFO := Lib.hid (framesN_parts (E := entsOf l) jj (by rw [← hkj]; exact hEk))
  rw [← hkj] at HFO
  clear hs1 hs2 hm he hmA hmB heA heB hrE hrA hrB hEk hkj
  go_upto_region 5 with (go_at_call 12; refine HP.out.mono ?_; rintro e w3 ⟨pa, pn, pc, rfl, HPN, HPO, bel3⟩)
  have HB3 := Lib.hid (HB2.out.trans (bel3.mono HB2.out.size))
  have HRE3 := Lib.hid (rd_of_own HPO.out).2
  obtain ⟨aA, cA, hA1, hA2⟩ := HCA.out _ HB3.out
  replace HPA := Lib.hid (HPA.out _ _ hA2)
  clear hA2 bel3 HP HB2 HPO
  go_upto_region 6 with (go_at_call 12; refine HPA.out.mono ?_; rintro e w4 ⟨fa, fn, fc, rfl, HFN, HPO, bel4⟩)
  have HB4 := Lib.hid (HB3.out.trans (bel4.mono HB3.out.size))
  have HRE4 := Lib.hid (HRE3.out.below bel4)
  have HRA4 := Lib.hid (rd_of_own HPO.out).2
  obtain ⟨aB, cB, hB1, hB2⟩ := HCB.out _ HB4.out
  replace HPB := Lib.hid (HPB.out _ _ hB2)
  clear hB2 bel4 HPA hA1 HPO HRE3 HB3
  go_upto_region 7 with (go_at_call 12; refine HPB.out.mono ?_; rintro e w5 ⟨ha, hn, hc2, rfl, HHN, HPO, bel5⟩)
  have HB5 := Lib.hid (HB4.out.trans (bel5.mono HB4.out.size))
  have HRE5 := Lib.hid (HRE4.out.below bel5)
  have HRA5 := Lib.hid (HRA4.out.below bel5)
  have HRB5 := Lib.hid (rd_of_own HPO.out).2
  clear bel5 HPB hB1 HPO HRE4 HRA4 HB4
  have hp12 : 12 ≤ pn := by rw [HPN.out]; exact HFE.out.2.1
  have hf12 : 12 ≤ fn := by rw [HFN.out]; exact HFA.out.2.1
  have hh12 : 12 ≤ hn := by rw [HHN.out]; exact HFB.out.2.1
  have hpb : pn ≤ 17000000 := by rw [HPN.out]; exact HFE.out.2.2.1
  have hfb : fn ≤ 17000000 := by rw [HFN.out]; exact HFA.out.2.2.1
  have hhb : hn ≤ 17000000 := by rw [HHN.out]; exact HFB.out.2.2.1
  go_upto_region 11 with (fail)
  obtain ⟨q1, hq1⟩ : ∃ q, q = pn - 12 := ⟨_, rfl⟩
  have hs1 : (pn : Int) - 12 = (q1 : Int) := by omega
  have hw1 : IntKind.i64.wrap (q1 : Int) = (q1 : Int) := IntWalk.i64_in _ (by omega)
  obtain ⟨ca1, cc1, hcut1, hcr1⟩ := cut_rest HRE5.out q1 12 (by have := HPN.out; omega)
  have hcu1 := fun w' => hcut1 w' .i64
  obtain ⟨x1, hx1⟩ : ∃ x, x = (framesN (entsOf l) (nBlk (entsOf l))).length := ⟨_, rfl⟩
  have HX1 := Lib.hid hx1
  have hfo1 := foot_first HFE.out.1
  rw [← HPN.out, ← hq1, ← hx1] at hfo1
  have HG1 : Hid (Calls Try.prog 26 #[.slice ca1 12 cc1] w5 fun e w' => e = .returned (.tuple #[.int .u32 x1, .int .i64 0]) ∧ w5 = w') := by
    refine (intsGetFour_any _ _ w5 hcr1).mono ?_
    rintro e w' ⟨rfl, rfl⟩
    rw [hfo1.1]
    exact ⟨rfl, rfl⟩
  have hxn1 : x1 ≤ pn := hfo1.2
  have hwx1 : IntKind.i64.wrap (x1 : Int) = (x1 : Int) := IntWalk.i64_in _ (by omega)
  clear hq1 hx1 hfo1 hcut1 hcr1
  go_upto_region 12 with (go_at_call 26; refine HG1.out.mono ?_; rintro e w6 ⟨rfl, rfl⟩)
  clear hs1 hw1 hcu1 HG1
  obtain ⟨q2, hq2⟩ : ∃ q, q = fn - 12 := ⟨_, rfl⟩
  have hs2 : (fn : Int) - 12 = (q2 : Int) := by omega
  have hw2 : IntKind.i64.wrap (q2 : Int) = (q2 : Int) := IntWalk.i64_in _ (by omega)
  obtain ⟨ca2, cc2, hcut2, hcr2⟩ := cut_rest HRA5.out q2 12 (by have := HFN.out; omega)
  have hcu2 := fun w' => hcut2 w' .i64
  obtain ⟨x2, hx2⟩ : ∃ x, x = (framesN (entsOf (l.take k)) (nBlk (entsOf (l.take k)))).length := ⟨_, rfl⟩
  have HX2 := Lib.hid hx2
  have hfo2 := foot_first HFA.out.1
  rw [← HFN.out, ← hq2, ← hx2] at hfo2
  have HG2 : Hid (Calls Try.prog 26 #[.slice ca2 12 cc2] w5 fun e w' => e = .returned (.tuple #[.int .u32 x2, .int .i64 0]) ∧ w5 = w') := by
    refine (intsGetFour_any _ _ w5 hcr2).mono ?_
    rintro e w' ⟨rfl, rfl⟩
    rw [hfo2.1]
    exact ⟨rfl, rfl⟩
  have hxn2 : x2 ≤ fn := hfo2.2
  have hwx2 : IntKind.i64.wrap (x2 : Int) = (x2 : Int) := IntWalk.i64_in _ (by omega)
  clear hq2 hx2 hfo2 hcut2 hcr2
  go_upto_region 13 with (go_at_call 26; refine HG2.out.mono ?_; rintro e w6 ⟨rfl, rfl⟩)
  clear hs2 hw2 hcu2 HG2
  obtain ⟨q3, hq3⟩ : ∃ q, q = hn - 12 := ⟨_, rfl⟩
  have hs3 : (hn : Int) - 12 = (q3 : Int) := by omega
  have hw3 : IntKind.i64.wrap (q3 : Int) = (q3 : Int) := IntWalk.i64_in _ (by omega)
  obtain ⟨ca3, cc3, hcut3, hcr3⟩ := cut_rest HRB5.out q3 12 (by have := HHN.out; omega)
  have hcu3 := fun w' => hcut3 w' .i64
  obtain ⟨x3, hx3⟩ : ∃ x, x = (framesN (entsOf (l.drop k)) (nBlk (entsOf (l.drop k)))).length := ⟨_, rfl⟩
  have HX3 := Lib.hid hx3
  have hfo3 := foot_first HFB.out.1
  rw [← HHN.out, ← hq3, ← hx3] at hfo3
  have HG3 : Hid (Calls Try.prog 26 #[.slice ca3 12 cc3] w5 fun e w' => e = .returned (.tuple #[.int .u32 x3, .int .i64 0]) ∧ w5 = w') := by
    refine (intsGetFour_any _ _ w5 hcr3).mono ?_
    rintro e w' ⟨rfl, rfl⟩
    rw [hfo3.1]
    exact ⟨rfl, rfl⟩
  have hxn3 : x3 ≤ hn := hfo3.2
  have hwx3 : IntKind.i64.wrap (x3 : Int) = (x3 : Int) := IntWalk.i64_in _ (by omega)
  clear hq3 hx3 hfo3 hcut3 hcr3
  go_upto_region 14 with (go_at_call 26; refine HG3.out.mono ?_; rintro e w6 ⟨rfl, rfl⟩)
  clear hs3 hw3 hcu3 HG3
  go_upto_region 16 with (fail)
  clear hwx1 hwx2 hwx3
  have hparts := HFO.out
  rw [← entsOf_take, ← entsOf_drop] at hparts
  obtain ⟨La, hLa⟩ : ∃ L, L = framesN (entsOf (l.take k)) (nBlk (entsOf (l.take k))) := ⟨_, rfl⟩
  obtain ⟨Lb, hLb⟩ : ∃ L, L = framesN (entsOf (l.drop k)) (nBlk (entsOf (l.drop k))) := ⟨_, rfl⟩
  rw [← hLa, ← hLb] at hparts
  obtain ⟨ta, tc, ht1, ht2⟩ := cut_to HRE5.out x1 (by rw [← HPN.out]; exact hxn1)
  obtain ⟨ua, uc, hu1, hu2⟩ := cut_to HRA5.out x2 (by rw [← HFN.out]; exact hxn2)
  obtain ⟨va2, vc2, hv1, hv2⟩ := cut_to HRB5.out x3 (by rw [← HHN.out]; exact hxn3)
  have htt : (fileS (entsOf l)).take x1 = La ++ Lb := by rw [HX1.out, fileS_head, hparts]
  have huu : (fileS (entsOf (l.take k))).take x2 = La := by rw [HX2.out, fileS_head, hLa]
  have hvv : (fileS (entsOf (l.drop k))).take x3 = Lb := by rw [HX3.out, fileS_head, hLb]
  rw [htt] at ht2
  rw [huu] at hu2
  rw [hvv] at hv2
  have hla : La.length ≤ 17000000 := by rw [hLa, ← HX2.out]; omega
  have hlb : Lb.length ≤ 17000000 := by rw [hLb, ← HX3.out]; omega
  have HT2 := Lib.hid ht2
  have HU2 := Lib.hid hu2
  have HV2 := Lib.hid hv2
  have ht3 := fun w' => ht1 w' .u32
  have hu3 := fun w' => hu1 w' .u32
  have hv3 := fun w' => hv1 w' .u32
  clear hparts hLa hLb htt huu hvv ht2 hu2 hv2 ht1 hu1 hv1
  refine wp_region_held_drew (S := fun w' => Below w5.heap.size w5 w') (by kernel_rfl) ((Below.refl _ _).drew) (fun hHeld => ?_)
  have BD : Below w5.heap.size w5 w5.drew := (Below.refl _ _).drew
  refine wpAnyH_take (i := 0) (v := ?vq1) (by simp only [List.getElem?_toArray]; rfl) (by kernel_rfl) (by kernel_rfl) (by kernel_rfl) (by exact fun _ _ _ h => h) (Or.inl ⟨by rfl, ?yq1⟩) (by assumption) ?rq1
  case yq1 => (intro w hSw; (try dsimp only at hSw); go_simp; try with_reducible rfl)
  try simp only [Act.put, List.setIfInBounds_toArray, List.set_cons_zero, List.set_cons_succ]
  refine wpAnyH_take (i := 1) (v := ?vq2) (by simp only [List.getElem?_toArray]; rfl) (by kernel_rfl) (by kernel_rfl) (by kernel_rfl) (by exact fun _ _ _ h => h) (Or.inl ⟨by rfl, ?yq2⟩) (by assumption) ?rq2
  case yq2 => (intro w hSw; (try dsimp only at hSw); go_simp; try with_reducible rfl)
  try simp only [Act.put, List.setIfInBounds_toArray, List.set_cons_zero, List.set_cons_succ]
  refine wpAnyH_take (i := 2) (v := ?vq3) (by simp only [List.getElem?_toArray]; rfl) (by kernel_rfl) (by kernel_rfl) (by kernel_rfl) (by exact fun _ _ _ h => h) (Or.inl ⟨by rfl, ?yq3⟩) (by assumption) ?rq3
  case yq3 => (intro w hSw; (try dsimp only at hSw); go_simp; try with_reducible rfl)
  try simp only [Act.put, List.setIfInBounds_toArray, List.set_cons_zero, List.set_cons_succ]
  refine wpAnyH_take (i := 3) (v := ?vq4) (by simp only [List.getElem?_toArray]; rfl) (by kernel_rfl) (by kernel_rfl) (by kernel_rfl) (by exact fun _ _ _ h => h) (Or.inl ⟨by rfl, ?yq4⟩) (by assumption) ?rq4
  case yq4 => (intro w hSw; (try dsimp only at hSw); go_simp; try with_reducible rfl)
  try simp only [Act.put, List.setIfInBounds_toArray, List.set_cons_zero, List.set_cons_succ]
  refine wpAnyH_take (i := 4) (v := ?vq5) (by simp only [List.getElem?_toArray]; rfl) (by kernel_rfl) (by kernel_rfl) (by kernel_rfl) (by exact fun _ _ _ h => h) (Or.inl ⟨by rfl, ?yq5⟩) (by assumption) ?rq5
  case yq5 => (intro w hSw; (try dsimp only at hSw); go_simp; try with_reducible rfl)
  try simp only [Act.put, List.setIfInBounds_toArray, List.set_cons_zero, List.set_cons_succ]
  refine wpAnyH_take (i := 5) (v := ?vq6) (by simp only [List.getElem?_toArray]; rfl) (by kernel_rfl) (by kernel_rfl) (by kernel_rfl) (by exact fun _ _ _ h => h) (Or.inl ⟨by rfl, ?yq6⟩) (by assumption) ?rq6
  case yq6 => (intro w hSw; (try dsimp only at hSw); go_simp; try with_reducible rfl)
  try simp only [Act.put, List.setIfInBounds_toArray, List.set_cons_zero, List.set_cons_succ]
  refine wpAnyH_take (i := 7) (v := ?vq7) (by simp only [List.getElem?_toArray]; rfl) (by kernel_rfl) (by kernel_rfl) (by kernel_rfl) (by exact fun _ _ _ h => h) (Or.inl ⟨by rfl, ?yq7⟩) (by assumption) ?rq7
  case yq7 => (intro w hSw; (try dsimp only at hSw); go_simp; try with_reducible rfl)
  try simp only [Act.put, List.setIfInBounds_toArray, List.set_cons_zero, List.set_cons_succ]
  refine wpAnyH_take (i := 8) (v := ?vq8) (by simp only [List.getElem?_toArray]; rfl) (by kernel_rfl) (by kernel_rfl) (by kernel_rfl) (by exact fun _ _ _ h => h) (Or.inl ⟨by rfl, ?yq8⟩) (by assumption) ?rq8
  case yq8 => (intro w hSw; (try dsimp only at hSw); go_simp; try with_reducible rfl)
  try simp only [Act.put, List.setIfInBounds_toArray, List.set_cons_zero, List.set_cons_succ]
  refine wpAnyH_take (i := 9) (v := ?vq9) (by simp only [List.getElem?_toArray]; rfl) (by kernel_rfl) (by kernel_rfl) (by kernel_rfl) (by exact fun _ _ _ h => h) (Or.inl ⟨by rfl, ?yq9⟩) (by assumption) ?rq9
  case yq9 => (intro w hSw; (try dsimp only at hSw); go_simp; try with_reducible rfl)
  try simp only [Act.put, List.setIfInBounds_toArray, List.set_cons_zero, List.set_cons_succ]
  refine wpAnyH_ready (rs := [6]) (by kernel_rfl) (by simp) ?_
  refine AllReadyH.cons (by simp only [List.getElem?_toArray]; rfl) (fun K hK => ?_) AllReadyH.nil
  go_simp
  refine (twin_my _ La _ (HU2.out.below BD) (by omega)).mono ?_
  rintro e w6 ⟨ra, rn, rc, rfl, HRN, HRO, hb6⟩
  have B6 := BD.trans (hb6.mono BD.size)
  refine hK.out _ _ B6 (fun hHeld => ?_)
  clear hK K
  try simp only [Act.put, List.setIfInBounds_toArray, List.set_cons_zero, List.set_cons_succ]
  refine wpAnyH_ready (rs := [10]) (by kernel_rfl) (by simp) ?_
  refine AllReadyH.cons (by simp only [List.getElem?_toArray]; rfl) (fun K hK => ?_) AllReadyH.nil
  refine step_app rfl _ _ rfl w5.heap.size _ _ _ La Lb rfl rfl HRO.out (HV2.out.below B6) (by omega) B6.size ?_
  intro za zn zc w7 HZN HZ bel7
  have B7 : Below w5.heap.size w5 w7 := B6.trans bel7
  refine hK.out _ _ B7 (fun hHeld => ?_)
  clear hK K
  try simp only [Act.put, List.setIfInBounds_toArray, List.set_cons_zero, List.set_cons_succ]
  refine wpAnyH_ready (rs := [11]) (by kernel_rfl) (by simp) ?_
  refine AllReadyH.cons (by simp only [List.getElem?_toArray]; rfl) (fun K hK => ?_) AllReadyH.nil
  go_simp
  refine (same_bt w7 _ _ (La ++ Lb) (HT2.out.below B7) (rd_of_own HZ.out).2).mono ?_
  rintro e w8 ⟨rfl, hb8⟩
  have B8 := B7.trans (hb8.mono B7.size)
  refine hK.out _ _ B8 (fun hHeld => ?_)
  clear hK K
  try simp only [Act.put, List.setIfInBounds_toArray, List.set_cons_zero, List.set_cons_succ]
  refine wpAnyH_take (i := 12) (v := ?vq10) (by simp only [List.getElem?_toArray]; rfl) (by kernel_rfl) (by kernel_rfl) (by kernel_rfl) (by exact fun _ _ _ h => h) (Or.inl ⟨by rfl, ?yq10⟩) (by assumption) ?rq10
  case yq10 => (intro w hSw; (try dsimp only at hSw); go_simp; try with_reducible rfl)
  try simp only [Act.put, List.setIfInBounds_toArray, List.set_cons_zero, List.set_cons_succ]
  refine wpAnyH_done (by kernel_rfl) ?_ _
  have hbf := HB5.out.trans (B8.mono HB5.out.size)
  go_wp2_with fail
  go_ret
  exact ⟨rfl, hbf⟩
end Go.Proofs.Ytbcnapkbdbefhaa

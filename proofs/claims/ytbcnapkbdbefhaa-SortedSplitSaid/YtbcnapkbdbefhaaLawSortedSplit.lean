/- The law SortedSplit answers true for any entries, any mark, wherever they are parted. No condition. -/
import Derived.Test.YtbcnapkbdbefhaaSGreat
import Derived.Test.YtbcnapkbdbefhaaSameE
import Derived.Test.YtbcnapkbdbefhaaSLook
import Derived.Test.YtbcnapkbdbefhaaSSplit
namespace Go.Proofs.Ytbcnapkbdbefhaa
open Go.RowKit

set_option maxRecDepth 100000 in
set_option maxHeartbeats 3000000 in
theorem sortedSplit_walk (w : World) (v : Value) (l : List PE) (a1 : Int) (mk : ByteArray) (ms : Nat) (mg : Bool) (most : Int) (hv : RdE w v l) (hl : l.length ≤ 2932031007402 ∧ ∀ x ∈ l, x.ok) (wa : (Lit.int .u16 a1).wf = true) (_ : mk.size ≤ 140737488351232) (_ : ms < 18446744073709551616) (hmost : -9223372036854775808 ≤ most ∧ most ≤ 9223372036854775807) :
    Calls Try.prog 8 #[v, .int .u16 a1, .agg #[.string mk, .int .u64 ms, .bool mg, .int .i64 most]] w (RetTrue w) := by
  obtain ⟨c, rfl, hc⟩ := nat_u16 wa
  have hend : ∀ (w5 : World), Hid (Calls Try.prog 10 #[] w5 (RetTrue w5)) := fun w5 => alive10_any w5
  obtain ⟨hln, hlo⟩ := hl
  obtain ⟨hm1, hm2⟩ := hmost
  have HM1 := Lib.hid hm1
  have HM2 := Lib.hid hm2
  have HS := Lib.hid hlo
  have HV := Lib.hid hv
  have HGR := Lib.hid (fun w' (hb : Below w.heap.size w w') => great10_any w' v l (hv.below hb) hln hlo)
  obtain ⟨va, vc, rfl, h1, h2, h3⟩ := hv
  clear h3 hlo hm1 hm2
  obtain ⟨vn, hvn⟩ : ∃ n, n = l.length := ⟨_, rfl⟩
  have HVN := Lib.hid hvn
  rw [← hvn] at h1 HV hln HGR ⊢
  obtain ⟨gX, hgX⟩ : ∃ g, g = w.heap.size := ⟨_, rfl⟩
  obtain ⟨W, hW⟩ : ∃ W, W = w.alloc (.cells #[.string mk, .int .u64 ms, .bool mg, .int .i64 most] 45) := ⟨_, rfl⟩
  have HX : Hid (Blk W gX #[.string mk, .int .u64 ms, .bool mg, .int .i64 most] 45) := Lib.hid (by rw [hW]; exact Blk.new_at _ _ _ _ hgX)
  have HBW : Hid (Below w.heap.size w W) := Lib.hid (by rw [hW]; exact (Below.refl _ _).alloc (Nat.le_refl _) _)
  have HW := Lib.hid hW
  have HGX := Lib.hid hgX
  clear hvn hW hgX
  go_enter Try.func8, Try.ntmps8
  go_upto_region 1 with (fail)
  rw [← HGX.out, ← HW.out]
  go_wp2_with fail
  refine (hend _).out.mono ?_
  rintro e w1 ⟨rfl, bel1⟩
  go_wp2_with fail
  refine (HGR.out _ (HBW.out.trans (bel1.mono HBW.out.size))).mono ?_
  rintro e w2 ⟨gr, rfl, hgr, bel2⟩
  have HB2 := Lib.hid ((HBW.out.trans (bel1.mono HBW.out.size)).trans (bel2.mono (HBW.out.trans (bel1.mono HBW.out.size)).size))
  have HX2 := Lib.hid ((HX.out.below bel1).below bel2)
  have x0 := HX2.out.cellv 0 (.string mk) rfl
  clear bel1 bel2 HGR HX HBW
  cases gr
  case true =>
    go_wp2_with (go_at_call 10; refine (hend _).out.mono ?_; rintro e w3 ⟨rfl, bel3⟩)
    have hb := HB2.out.trans (bel3.mono HB2.out.size)
    go_ret
    exact ⟨rfl, hb⟩
  have hvs : vn ≤ 300 := hgr rfl
  clear hgr hln
  by_cases hk : 1000 < mk.size
  · go_wp2_with (go_at_call 10; refine (hend _).out.mono ?_; rintro e w3 ⟨rfl, bel3⟩)
    have hb := HB2.out.trans (bel3.mono HB2.out.size)
    go_ret
    exact ⟨rfl, hb⟩
  by_cases h2v : vn < 2
  · go_wp2_with (go_at_call 10; refine (hend _).out.mono ?_; rintro e w3 ⟨rfl, bel3⟩)
    have hb := HB2.out.trans (bel3.mono HB2.out.size)
    go_ret
    exact ⟨rfl, hb⟩
  obtain ⟨d, hd⟩ : ∃ d, d = vn - 1 := ⟨_, rfl⟩
  have hsub : (vn : Int) - 1 = (d : Int) := by omega
  have hwd : IntKind.i64.wrap (d : Int) = (d : Int) := IntWalk.i64_in _ (by omega)
  have hd0 : ¬ d = 0 := by omega
  obtain ⟨q, hq⟩ : ∃ q, q = c % d := ⟨_, rfl⟩
  have hqd : q < d := by rw [hq]; exact Nat.mod_lt _ (by omega)
  have hrem : Int.tmod (c : Int) (d : Int) = (q : Int) := by rw [hq]; rfl
  have hwq : IntKind.i64.wrap (q : Int) = (q : Int) := IntWalk.i64_in _ (by omega)
  have hwc : IntKind.i64.wrap (c : Int) = (c : Int) := IntWalk.i64_in _ (by omega)
  obtain ⟨k, hk2⟩ : ∃ k, k = q + 1 := ⟨_, rfl⟩
  have hk1 : (1 : Int) + (q : Int) = (k : Int) := by omega
  have hwk : IntKind.i64.wrap (k : Int) = (k : Int) := IntWalk.i64_in _ (by omega)
  have hkn : k < vn := by omega
  have hkp : 0 < k := by omega
  clear hd hq hk2
  go_upto_region 4 with (fail)
  clear hk x0 hsub hwd hd0 hrem hwq hwc hk1 hqd
  obtain ⟨hs1, hs2⟩ := seqs_ok HS.out
  have hoA : ∀ x ∈ l.take k, x.ok := fun x hx => HS.out x (List.mem_of_mem_take hx)
  have hoB : ∀ x ∈ l.drop k, x.ok := fun x hx => HS.out x (List.mem_of_mem_drop hx)
  have hlA : (l.take k).length ≤ 1000000 := by rw [List.length_take]; have := HVN.out; omega
  have hlB : (l.drop k).length ≤ 1000000 := by rw [List.length_drop]; have := HVN.out; omega
  have HOA := Lib.hid (And.intro hoA hlA)
  have HOB := Lib.hid (And.intro hoB hlB)
  have HCA : Hid (∀ w', Below w.heap.size w w' → ∃ a c, (∀ w'', (Instr.slice 22 (.slice va vn vc) none (some (.int .i64 k)) none).run Try.prog w'' = .ok (.slice a k c) w'') ∧ RdE w' (.slice a k c) (l.take k)) := fun w' hb => by
    obtain ⟨a, c, h1, h2⟩ := cutE_to (HV.out.below hb) k (by rw [← HVN.out]; omega)
    exact ⟨a, c, fun w'' => h1 w'' .i64, h2⟩
  obtain ⟨dn, hdn⟩ : ∃ z, z = vn - k := ⟨_, rfl⟩
  have HCB : Hid (∀ w', Below w.heap.size w w' → ∃ a c, (∀ w'', (Instr.slice 22 (.slice va vn vc) (some (.int .i64 k)) none none).run Try.prog w'' = .ok (.slice a dn c) w'') ∧ RdE w' (.slice a dn c) (l.drop k)) := fun w' hb => by
    obtain ⟨a, c, h1, h2⟩ := cutE_rest (HV.out.below hb) k dn (by rw [← HVN.out]; omega)
    exact ⟨a, c, fun w'' => h1 w'' .i64, h2⟩
  clear hoA hoB hlA hlB hdn
  cases hm : mayS (entsOf l)
  · have HP := Lib.hid (sput_no w2 _ l 1 (HV.out.below HB2.out) hs1 (by rw [← HVN.out]; omega) (errS_arg hm) (by decide))
    clear hs1 hs2 hm
    go_upto_region 5 with (go_at_call 12; refine HP.out.mono ?_; rintro e w3 ⟨⟨pa, pc, rfl⟩, bel3⟩)
    have HB3 := Lib.hid (HB2.out.trans (bel3.mono HB2.out.size))
    obtain ⟨aA, cA, hA1, hA2⟩ := HCA.out _ HB3.out
    have HPA := Lib.hid (sortedPut_any w3 _ _ hA2 (seqs_ok HOA.out.1).1 HOA.out.2)
    clear hA2 bel3 HP
    go_upto_region 6 with (go_at_call 12; refine HPA.out.mono ?_; rintro e w4 ⟨pa2, pn2, pc2, rfl, -, -, bel4⟩)
    have HB4 := Lib.hid (HB3.out.trans (bel4.mono HB3.out.size))
    obtain ⟨aB, cB, hB1, hB2⟩ := HCB.out _ HB4.out
    have HPB := Lib.hid (sortedPut_any w4 _ _ hB2 (seqs_ok HOB.out.1).1 HOB.out.2)
    clear hB2 bel4 HPA hA1
    go_wp2_with (go_at_call 12; refine HPB.out.mono ?_; rintro e w5 ⟨pa3, pn3, pc3, rfl, -, -, bel5⟩)
    have hb := HB4.out.trans (bel5.mono HB4.out.size)
    go_ret
    exact ⟨rfl, hb⟩
  have he := errS_ok hm (by rw [entsOf_length, ← HVN.out]; omega)
  have hEk : k < (entsOf l).length := by rw [entsOf_length, ← HVN.out]; exact hkn
  have hmA : mayS (entsOf (l.take k)) = true := by rw [entsOf_take]; exact mayS_take hm k hkp
  have hmB : mayS (entsOf (l.drop k)) = true := by rw [entsOf_drop]; exact mayS_drop hm k hEk
  have heA := errS_ok hmA (by rw [entsOf_length, List.length_take, ← HVN.out]; omega)
  have heB := errS_ok hmB (by rw [entsOf_length, List.length_drop, ← HVN.out]; omega)
  have HP := Lib.hid (sput_is w2 _ l (HV.out.below HB2.out) hs1 (by rw [← HVN.out]; omega) he)
  have HFE := Lib.hid (file_of HS.out he)
  have HFA := Lib.hid (file_of HOA.out.1 heA)
  have HFB := Lib.hid (file_of HOB.out.1 heB)
  have HPA := Lib.hid (fun w' v' hr => sput_is w' v' (l.take k) hr (seqs_ok HOA.out.1).1 HOA.out.2 heA)
  have HPB := Lib.hid (fun w' v' hr => sput_is w' v' (l.drop k) hr (seqs_ok HOB.out.1).1 HOB.out.2 heB)
  have hrE := ((mayS_iff _).1 hm).2
  have hrA := ((mayS_iff _).1 hmA).2
  have hrB := ((mayS_iff _).1 hmB).2
  have HGO : Hid (getS mk.data.toList ms (entsOf l) = (getS mk.data.toList ms (entsOf (l.take k))).or (getS mk.data.toList ms (entsOf (l.drop k)))) := by
    show _ = _
    rw [getS_find hrE, getS_find hrA, getS_find hrB, entsOf_take, entsOf_drop, ← List.find?_append, List.take_append_drop]
  have HFO : Hid ((entsOf l).filter (fromE mk.data.toList ms mg) = (entsOf (l.take k)).filter (fromE mk.data.toList ms mg) ++ (entsOf (l.drop k)).filter (fromE mk.data.toList ms mg)) := by
    show _ = _
    rw [entsOf_take, entsOf_drop, ← List.filter_append, List.take_append_drop]
  have HRS := Lib.hid (And.intro hrE (And.intro hrA hrB))
  clear hs1 hs2 hm he hmA hmB heA heB hrE hrA hrB hEk
  go_upto_region 5 with (go_at_call 12; refine HP.out.mono ?_; rintro e w3 ⟨pa, pn, pc, rfl, HPN, HPO, bel3⟩)
  have HB3 := Lib.hid (HB2.out.trans (bel3.mono HB2.out.size))
  have HRE3 := Lib.hid (rd_of_own HPO.out).2
  have HX3 := Lib.hid (HX2.out.below bel3)
  obtain ⟨aA, cA, hA1, hA2⟩ := HCA.out _ HB3.out
  replace HPA := Lib.hid (HPA.out _ _ hA2)
  clear hA2 bel3 HP HB2 HPO HX2
  go_upto_region 6 with (go_at_call 12; refine HPA.out.mono ?_; rintro e w4 ⟨fa, fn, fc, rfl, HFN, HPO, bel4⟩)
  have HB4 := Lib.hid (HB3.out.trans (bel4.mono HB3.out.size))
  have HRE4 := Lib.hid (HRE3.out.below bel4)
  have HRA4 := Lib.hid (rd_of_own HPO.out).2
  have HX4 := Lib.hid (HX3.out.below bel4)
  obtain ⟨aB, cB, hB1, hB2⟩ := HCB.out _ HB4.out
  replace HPB := Lib.hid (HPB.out _ _ hB2)
  clear hB2 bel4 HPA hA1 HPO HRE3 HX3 HB3
  go_upto_region 9 with (go_at_call 12; refine HPB.out.mono ?_; rintro e w5 ⟨ha, hn, hc2, rfl, HHN, HPO, bel5⟩)
  have HB5 := Lib.hid (HB4.out.trans (bel5.mono HB4.out.size))
  have HRE5 := Lib.hid (HRE4.out.below bel5)
  have HRA5 := Lib.hid (HRA4.out.below bel5)
  have HRB5 := Lib.hid (rd_of_own HPO.out).2
  have HX5 := Lib.hid (HX4.out.below bel5)
  clear bel5 HPB hB1 HPO HRE4 HRA4 HX4 HB4
  obtain ⟨y, hy⟩ : ∃ y, y = (getS mk.data.toList ms (entsOf l)).getD Ent.none := ⟨_, rfl⟩
  obtain ⟨wk, ws, wg, wu, hyc⟩ : ∃ (wk : ByteArray) (ws : Nat) (wg : Bool) (wu : ByteArray), entCs y = #[.string wk, .int .u64 ws, .bool wg, .string wu] := ⟨_, _, _, _, rfl⟩
  obtain ⟨tb, htb⟩ : ∃ tb, tb = (getS mk.data.toList ms (entsOf l)).isSome := ⟨_, rfl⟩
  have HY := Lib.hid hy
  have HYC := Lib.hid hyc
  have HTB := Lib.hid htb
  have HGE := Lib.hid (sget_gen w5 (.slice pa pn pc) _ _ 0 mk ms _ tb wk ws wg wu HRE5.out (by have := HFE.out.2.2.1; omega) (.inl ⟨rfl, HFE.out.1⟩) rfl (by rw [← hy]; exact hyc) htb)
  have x0 := HX5.out.cellv 0 (.string mk) rfl
  have x1 := HX5.out.cellv 1 (.int .u64 ms) rfl
  clear hy hyc htb
  go_upto_region 10 with (go_at_call 16; refine HGE.out.mono ?_; rintro e w6 ⟨rfl, hb6⟩)
  clear x0 x1 HGE
  obtain ⟨gA, hgA⟩ : ∃ g, g = w6.heap.size := ⟨_, rfl⟩
  obtain ⟨w7, hw7⟩ : ∃ z, z = w6.alloc (.cells #[.string wk, .int .u64 ws, .bool wg, .string wu] 37) := ⟨_, rfl⟩
  have hb7 : Below w5.heap.size w5 w7 := by rw [hw7]; exact hb6.trans (((Below.refl _ _).alloc (Nat.le_refl _) _).mono hb6.size)
  have HA7 : Hid (Blk w7 gA #[.string wk, .int .u64 ws, .bool wg, .string wu] 37) := Lib.hid (by rw [hw7]; exact Blk.new_at _ _ _ _ hgA)
  rw [← hgA, ← hw7]
  have HB7 := Lib.hid (HB5.out.trans (hb7.mono HB5.out.size))
  have HRE7 := Lib.hid (HRE5.out.below hb7)
  have HRA7 := Lib.hid (HRA5.out.below hb7)
  have HRB7 := Lib.hid (HRB5.out.below hb7)
  have HX7 := Lib.hid (HX5.out.below hb7)
  have x0 := HX7.out.cellv 0 (.string mk) rfl
  have x1 := HX7.out.cellv 1 (.int .u64 ms) rfl
  clear hgA hw7 hb6 hb7 HB5 HRE5 HRA5 HRB5 HX5
  obtain ⟨o1, ho1⟩ : ∃ o, o = getS mk.data.toList ms (entsOf (l.take k)) := ⟨_, rfl⟩
  have HO1 := Lib.hid ho1
  clear ho1
  cases o1 with
  | some x =>
    have hE : getS mk.data.toList ms (entsOf l) = some x := by rw [HGO.out, ← HO1.out]; rfl
    have HGA := Lib.hid (sget_gen w7 (.slice fa fn fc) _ _ 0 mk ms (some x) tb wk ws wg wu HRA7.out (by have := HFA.out.2.2.1; omega) (.inl ⟨rfl, HFA.out.1⟩) HO1.out.symm (by have := HYC.out; rw [HY.out, hE] at this; exact this) (by rw [HTB.out, hE]))
    have htb : tb = true := by rw [HTB.out, hE]; rfl
    subst htb
    clear hE
    go_upto_region 11 with (go_at_call 16; refine HGA.out.mono ?_; rintro e w8 ⟨rfl, hb8⟩)
    obtain ⟨gB, hgB⟩ : ∃ g, g = w8.heap.size := ⟨_, rfl⟩
    obtain ⟨wz, hwz⟩ : ∃ z, z = w8.alloc (.cells #[.string wk, .int .u64 ws, .bool wg, .string wu] 37) := ⟨_, rfl⟩
    have hbz : Below w7.heap.size w7 wz := by rw [hwz]; exact hb8.trans (((Below.refl _ _).alloc (Nat.le_refl _) _).mono hb8.size)
    have HBZ : Hid (Blk wz gB #[.string wk, .int .u64 ws, .bool wg, .string wu] 37) := Lib.hid (by rw [hwz]; exact Blk.new_at _ _ _ _ hgB)
    rw [← hgB, ← hwz]
    clear hgB hwz hb8 x0 x1 HGA
    have HBz := Lib.hid (HB7.out.trans (hbz.mono HB7.out.size))
    have HAz := Lib.hid (HA7.out.below hbz)
    have HREz := Lib.hid (HRE7.out.below hbz)
    have HRAz := Lib.hid (HRA7.out.below hbz)
    have HRBz := Lib.hid (HRB7.out.below hbz)
    have HXz := Lib.hid (HX7.out.below hbz)
    clear hbz HA7 HRE7 HRA7 HRB7 HX7 HB7
    have x0 := HXz.out.cellv 0 (.string mk) rfl
    have x1 := HXz.out.cellv 1 (.int .u64 ms) rfl
    have x2 := HXz.out.cellv 2 (.bool mg) rfl
    have HF1 := Lib.hid (sfrom_all wz (.slice fa fn fc) _ _ 0 mk ms mg 1000 HRAz.out (by have := HFA.out.2.2.1; omega) (.inl ⟨rfl, HFA.out.1⟩) (by rw [entsOf_length, List.length_take]; have := HVN.out; omega) (by decide))
    go_upto_region 14 with (go_at_call 17; refine HF1.out.mono ?_; rintro e w11 ⟨p1a, p1n, p1c, rfl, HN1, HO1x, hb11⟩)
    clear x0 x1 x2 HF1
    have q := HXz.out.below hb11
    have x0 := q.cellv 0 (.string mk) rfl
    have x1 := q.cellv 1 (.int .u64 ms) rfl
    have x2 := q.cellv 2 (.bool mg) rfl
    have HF2 := Lib.hid (sfrom_all w11 (.slice ha hn hc2) _ _ 0 mk ms mg 1000 (HRBz.out.below hb11) (by have := HFB.out.2.2.1; omega) (.inl ⟨rfl, HFB.out.1⟩) (by rw [entsOf_length, List.length_drop]; have := HVN.out; omega) (by decide))
    have HB11 := Lib.hid hb11
    clear q hb11
    go_upto_region 15 with (go_at_call 17; refine HF2.out.mono ?_; rintro e w12 ⟨p2a, p2n, p2c, rfl, HN2, HO2x, hb12⟩)
    clear x0 x1 x2 HF2
    have HB12 := Lib.hid (HB11.out.trans (hb12.mono HB11.out.size))
    have q := HXz.out.below HB12.out
    have x0 := q.cellv 0 (.string mk) rfl
    have x1 := q.cellv 1 (.int .u64 ms) rfl
    have x2 := q.cellv 2 (.bool mg) rfl
    have HOP := Lib.hid (own_below HO1x.out hb12)
    have HF3 := Lib.hid (sfrom_all w12 (.slice pa pn pc) _ _ 0 mk ms mg 1000 (HREz.out.below HB12.out) (by have := HFE.out.2.2.1; omega) (.inl ⟨rfl, HFE.out.1⟩) (by rw [entsOf_length]; have := HVN.out; omega) (by decide))
    clear q HO1x hb12
    go_upto_region 16 with (go_at_call 17; refine HF3.out.mono ?_; rintro e w13 ⟨p3a, p3n, p3c, rfl, HN3, HO3x, hb13⟩)
    clear x0 x1 x2 HF3
    have HB13 := Lib.hid (HB12.out.trans (hb13.mono HB12.out.size))
    have HP13 := Lib.hid (own_below HOP.out hb13)
    have HQ13 := Lib.hid (reads_of_own (own_below HO2x.out hb13))
    have hap : ApartR w13 (.slice p3a p3n p3c) (.slice p1a p1n p1c) := fun j hj => ⟨(own_ltR HO3x.out j hj).2, fun e => by
      have h1 := (own_ltR HO3x.out j hj).1
      have h2 := (own_ltR HOP.out j e).2
      omega⟩
    have HAP := Lib.hid hap
    have hA13 := HAz.out.below HB13.out
    have hB13 := HBZ.out.below HB13.out
    have y0 := hA13.cellv 0 (.string wk) rfl
    have y1 := hA13.cellv 1 (.int .u64 ws) rfl
    have y2 := hA13.cellv 2 (.bool wg) rfl
    have y3 := hA13.cellv 3 (.string wu) rfl
    have z0 := hB13.cellv 0 (.string wk) rfl
    have z1 := hB13.cellv 1 (.int .u64 ws) rfl
    have z2 := hB13.cellv 2 (.bool wg) rfl
    have z3 := hB13.cellv 3 (.string wu) rfl
    have hp1 : p1n ≤ 300 := by rw [HN1.out]; exact Nat.le_trans (List.length_filter_le _ _) (by rw [entsOf_length, List.length_take]; have := HVN.out; omega)
    have hp2 : p2n ≤ 300 := by rw [HN2.out]; exact Nat.le_trans (List.length_filter_le _ _) (by rw [entsOf_length, List.length_drop]; have := HVN.out; omega)
    have hz13 : wz.heap.size ≤ w13.heap.size := HB13.out.size
    obtain ⟨i0, hi0, hz, hz1, hz2⟩ := info_parts info_ent
    clear hb13 hap hA13 hB13 HO2x HOP HB11 HB12 HN1 HN2 HN3
    go_wp2_with (at_builtin; go_loud (refine wp_app_elR rfl _ _ rfl Try.underlying22 hi0 hz hz1 hz2 rfl (by omega) wz.heap.size p1n p2n (.slice p1a p1n p1c) (.slice p2a p2n p2c) _ _ _ (p1n + p2n) rfl rfl HP13.out HQ13.out (one_pcells _) rfl rfl (by omega) (by omega) hz13 ?_); intro ra rc w14 HO14 HG14)
    have h14 := HO14.out
    rw [← pcells_app, ← List.map_append, ← HFO.out] at h14
    have hse := sameE_any w14 _ _ _ (rdE_of (reads_of_own (HG14.out.keep _ _ _ _ _ _ HO3x.out HAP.out))).2 (rdE_of (reads_of_own h14)).2
    refine hse.mono ?_
    rintro e w15 ⟨rfl, hb15⟩
    have hb14 := HB13.out.trans HG14.out.below
    have hbf := HBz.out.trans ((hb14.trans (hb15.mono hb14.size)).mono HBz.out.size)
    clear hse h14
    go_wp2_with fail
    go_ret
    exact ⟨rfl, hbf⟩
  | none =>
    have hE : getS mk.data.toList ms (entsOf l) = getS mk.data.toList ms (entsOf (l.drop k)) := by rw [HGO.out, ← HO1.out]; rfl
    have HGA := Lib.hid (sget_none w7 (.slice fa fn fc) _ _ 0 mk ms HRA7.out (by have := HFA.out.2.2.1; omega) (.inl ⟨rfl, HFA.out.1⟩) HO1.out.symm)
    have HEE := Lib.hid hE
    clear hE
    go_upto_region 11 with (go_at_call 16; refine HGA.out.mono ?_; rintro e w8 ⟨rfl, hb8⟩)
    obtain ⟨gB, hgB⟩ : ∃ g, g = w8.heap.size := ⟨_, rfl⟩
    obtain ⟨w9, hw9⟩ : ∃ z, z = w8.alloc (.cells #[.string ⟨#[]⟩, .int .u64 0, .bool false, .string ⟨#[]⟩] 37) := ⟨_, rfl⟩
    have hb9 : Below w7.heap.size w7 w9 := by rw [hw9]; exact hb8.trans (((Below.refl _ _).alloc (Nat.le_refl _) _).mono hb8.size)
    have HB9 : Hid (Blk w9 gB #[.string ⟨#[]⟩, .int .u64 0, .bool false, .string ⟨#[]⟩] 37) := Lib.hid (by rw [hw9]; exact Blk.new_at _ _ _ _ hgB)
    have hgB7 : w7.heap.size ≤ gB := by rw [hgB]; exact hb8.size
    rw [← hgB, ← hw9]
    clear hgB hw9 hb8 x0 x1 HGA
    have HGB := Lib.hid (sget_gen w9 (.slice ha hn hc2) _ _ 0 mk ms _ tb wk ws wg wu (HRB7.out.below hb9) (by have := HFB.out.2.2.1; omega) (.inl ⟨rfl, HFB.out.1⟩) rfl (by rw [← HEE.out, ← HY.out]; exact HYC.out) (by rw [← HEE.out]; exact HTB.out))
    have q := HX7.out.below hb9
    have x0 := q.cellv 0 (.string mk) rfl
    have x1 := q.cellv 1 (.int .u64 ms) rfl
    have HB97 := Lib.hid hb9
    clear q hb9
    go_upto_region 12 with (fail)
    go_upto_region 13 with (go_at_call 16; refine HGB.out.mono ?_; rintro e w10 ⟨rfl, hb10⟩; have hB10 := HB9.out.below hb10; have y0 := hB10.cellv 0 (.string ⟨#[]⟩) rfl; have y1 := hB10.cellv 1 (.int .u64 0) rfl; have y2 := hB10.cellv 2 (.bool false) rfl; have y3 := hB10.cellv 3 (.string ⟨#[]⟩) rfl; have f0 := hB10.free 0; have f1 := hB10.free 1; have f2 := hB10.free 2; have f3 := hB10.free 3)
    obtain ⟨wz, hwz⟩ : ∃ z, z = (((w10.setCell ⟨gB, 0, none⟩ (.string wk)).setCell ⟨gB, 1, none⟩ (.int .u64 ws)).setCell ⟨gB, 2, none⟩ (.bool wg)).setCell ⟨gB, 3, none⟩ (.string wu) := ⟨_, rfl⟩
    have hb97 := HB97.out.trans (hb10.mono HB97.out.size)
    have hbz : Below w7.heap.size w7 wz := by
      rw [hwz]
      exact (((hb97.setCell (p := ⟨gB, 0, none⟩) hgB7 _).setCell (p := ⟨gB, 1, none⟩) hgB7 _).setCell (p := ⟨gB, 2, none⟩) hgB7 _).setCell (p := ⟨gB, 3, none⟩) hgB7 _
    have HBZ : Hid (Blk wz gB #[.string wk, .int .u64 ws, .bool wg, .string wu] 37) := Lib.hid (by rw [hwz]; exact (((hB10.set 0 _).set 1 _).set 2 _).set 3 _)
    rw [← hwz]
    clear hwz y0 y1 y2 y3 f0 f1 f2 f3 x0 x1 hb97 hB10 hb10 HGB
    have HBz := Lib.hid (HB7.out.trans (hbz.mono HB7.out.size))
    have HAz := Lib.hid (HA7.out.below hbz)
    have HREz := Lib.hid (HRE7.out.below hbz)
    have HRAz := Lib.hid (HRA7.out.below hbz)
    have HRBz := Lib.hid (HRB7.out.below hbz)
    have HXz := Lib.hid (HX7.out.below hbz)
    clear hbz HA7 HRE7 HRA7 HRB7 HX7 HB7
    have x0 := HXz.out.cellv 0 (.string mk) rfl
    have x1 := HXz.out.cellv 1 (.int .u64 ms) rfl
    have x2 := HXz.out.cellv 2 (.bool mg) rfl
    have HF1 := Lib.hid (sfrom_all wz (.slice fa fn fc) _ _ 0 mk ms mg 1000 HRAz.out (by have := HFA.out.2.2.1; omega) (.inl ⟨rfl, HFA.out.1⟩) (by rw [entsOf_length, List.length_take]; have := HVN.out; omega) (by decide))
    go_upto_region 14 with (go_at_call 17; refine HF1.out.mono ?_; rintro e w11 ⟨p1a, p1n, p1c, rfl, HN1, HO1x, hb11⟩)
    clear x0 x1 x2 HF1
    have q := HXz.out.below hb11
    have x0 := q.cellv 0 (.string mk) rfl
    have x1 := q.cellv 1 (.int .u64 ms) rfl
    have x2 := q.cellv 2 (.bool mg) rfl
    have HF2 := Lib.hid (sfrom_all w11 (.slice ha hn hc2) _ _ 0 mk ms mg 1000 (HRBz.out.below hb11) (by have := HFB.out.2.2.1; omega) (.inl ⟨rfl, HFB.out.1⟩) (by rw [entsOf_length, List.length_drop]; have := HVN.out; omega) (by decide))
    have HB11 := Lib.hid hb11
    clear q hb11
    go_upto_region 15 with (go_at_call 17; refine HF2.out.mono ?_; rintro e w12 ⟨p2a, p2n, p2c, rfl, HN2, HO2x, hb12⟩)
    clear x0 x1 x2 HF2
    have HB12 := Lib.hid (HB11.out.trans (hb12.mono HB11.out.size))
    have q := HXz.out.below HB12.out
    have x0 := q.cellv 0 (.string mk) rfl
    have x1 := q.cellv 1 (.int .u64 ms) rfl
    have x2 := q.cellv 2 (.bool mg) rfl
    have HOP := Lib.hid (own_below HO1x.out hb12)
    have HF3 := Lib.hid (sfrom_all w12 (.slice pa pn pc) _ _ 0 mk ms mg 1000 (HREz.out.below HB12.out) (by have := HFE.out.2.2.1; omega) (.inl ⟨rfl, HFE.out.1⟩) (by rw [entsOf_length]; have := HVN.out; omega) (by decide))
    clear q HO1x hb12
    go_upto_region 16 with (go_at_call 17; refine HF3.out.mono ?_; rintro e w13 ⟨p3a, p3n, p3c, rfl, HN3, HO3x, hb13⟩)
    clear x0 x1 x2 HF3
    have HB13 := Lib.hid (HB12.out.trans (hb13.mono HB12.out.size))
    have HP13 := Lib.hid (own_below HOP.out hb13)
    have HQ13 := Lib.hid (reads_of_own (own_below HO2x.out hb13))
    have hap : ApartR w13 (.slice p3a p3n p3c) (.slice p1a p1n p1c) := fun j hj => ⟨(own_ltR HO3x.out j hj).2, fun e => by
      have h1 := (own_ltR HO3x.out j hj).1
      have h2 := (own_ltR HOP.out j e).2
      omega⟩
    have HAP := Lib.hid hap
    have hA13 := HAz.out.below HB13.out
    have hB13 := HBZ.out.below HB13.out
    have y0 := hA13.cellv 0 (.string wk) rfl
    have y1 := hA13.cellv 1 (.int .u64 ws) rfl
    have y2 := hA13.cellv 2 (.bool wg) rfl
    have y3 := hA13.cellv 3 (.string wu) rfl
    have z0 := hB13.cellv 0 (.string wk) rfl
    have z1 := hB13.cellv 1 (.int .u64 ws) rfl
    have z2 := hB13.cellv 2 (.bool wg) rfl
    have z3 := hB13.cellv 3 (.string wu) rfl
    have hp1 : p1n ≤ 300 := by rw [HN1.out]; exact Nat.le_trans (List.length_filter_le _ _) (by rw [entsOf_length, List.length_take]; have := HVN.out; omega)
    have hp2 : p2n ≤ 300 := by rw [HN2.out]; exact Nat.le_trans (List.length_filter_le _ _) (by rw [entsOf_length, List.length_drop]; have := HVN.out; omega)
    have hz13 : wz.heap.size ≤ w13.heap.size := HB13.out.size
    obtain ⟨i0, hi0, hz, hz1, hz2⟩ := info_parts info_ent
    clear hb13 hap hA13 hB13 HO2x HOP HB11 HB12 HN1 HN2 HN3
    go_wp2_with (at_builtin; go_loud (refine wp_app_elR rfl _ _ rfl Try.underlying22 hi0 hz hz1 hz2 rfl (by omega) wz.heap.size p1n p2n (.slice p1a p1n p1c) (.slice p2a p2n p2c) _ _ _ (p1n + p2n) rfl rfl HP13.out HQ13.out (one_pcells _) rfl rfl (by omega) (by omega) hz13 ?_); intro ra rc w14 HO14 HG14)
    have h14 := HO14.out
    rw [← pcells_app, ← List.map_append, ← HFO.out] at h14
    have hse := sameE_any w14 _ _ _ (rdE_of (reads_of_own (HG14.out.keep _ _ _ _ _ _ HO3x.out HAP.out))).2 (rdE_of (reads_of_own h14)).2
    refine hse.mono ?_
    rintro e w15 ⟨rfl, hb15⟩
    have hb14 := HB13.out.trans HG14.out.below
    have hbf := HBz.out.trans ((hb14.trans (hb15.mono hb14.size)).mono HBz.out.size)
    clear hse h14
    go_wp2_with fail
    go_ret
    exact ⟨rfl, hbf⟩
end Go.Proofs.Ytbcnapkbdbefhaa

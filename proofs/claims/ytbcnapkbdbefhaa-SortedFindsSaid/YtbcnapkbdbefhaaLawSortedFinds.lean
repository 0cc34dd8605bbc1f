/- The law SortedFinds answers true for any entries and any mark. No condition. -/
import Derived.Test.YtbcnapkbdbefhaaSGreat
import Derived.Test.YtbcnapkbdbefhaaSameE
import Derived.Test.YtbcnapkbdbefhaaSLook
namespace Go.Proofs.Ytbcnapkbdbefhaa
open Go.RowKit

/-- what the loop from the back has found -/
def FindSt (E : List Ent) (k : List UInt8) (s : Nat) (g : Bool) (gW : Nat) (w : World) (tb : Bool) (fq j : Nat) (wr : World) : Prop :=
  tb = (wantD E k s j).isSome ∧ fq = fromD E k s g j ∧ (∃ (wk : ByteArray) (ws : Nat) (wg : Bool) (wu : ByteArray), Blk wr gW #[.string wk, .int .u64 ws, .bool wg, .string wu] 37 ∧ entCs ((wantD E k s j).getD Ent.none) = #[.string wk, .int .u64 ws, .bool wg, .string wu]) ∧ Below w.heap.size w wr
set_option maxRecDepth 100000 in
set_option maxHeartbeats 3000000 in
theorem sortedFinds_walk (w : World) (v : Value) (l : List PE) (mk : ByteArray) (ms : Nat) (mg : Bool) (most : Int) (hv : RdE w v l) (hl : l.length ≤ 2932031007402 ∧ ∀ x ∈ l, x.ok) (_ : mk.size ≤ 140737488351232) (_ : ms < 18446744073709551616) (hmost : -9223372036854775808 ≤ most ∧ most ≤ 9223372036854775807) :
    Calls Try.prog 5 #[v, .agg #[.string mk, .int .u64 ms, .bool mg, .int .i64 most]] w (RetTrue w) := by
  have hend : ∀ (w5 : World), Hid (Calls Try.prog 10 #[] w5 (RetTrue w5)) := fun w5 => alive10_any w5
  obtain ⟨hln, hlo⟩ := hl
  obtain ⟨hm1, hm2⟩ := hmost
  have HM1 := Lib.hid hm1
  have HM2 := Lib.hid hm2
  have HS := Lib.hid hlo
  have HV := Lib.hid hv
  have HGR := Lib.hid (fun w' (hb : Below w.heap.size w w') => great10_any w' v l (hv.below hb) hln hlo)
  obtain ⟨va, vc, rfl, h1, h2, h3⟩ := hv
  clear h3 hlo hm1 hm2
  obtain ⟨vn, hvn⟩ : ∃ n, n = l.length := ⟨_, rfl⟩
  have HVN := Lib.hid hvn
  rw [← hvn] at h1 HV hln HGR ⊢
  obtain ⟨gX, hgX⟩ : ∃ g, g = w.heap.size := ⟨_, rfl⟩
  obtain ⟨W, hW⟩ : ∃ W, W = w.alloc (.cells #[.string mk, .int .u64 ms, .bool mg, .int .i64 most] 45) := ⟨_, rfl⟩
  have HX : Hid (Blk W gX #[.string mk, .int .u64 ms, .bool mg, .int .i64 most] 45) := Lib.hid (by rw [hW]; exact Blk.new_at _ _ _ _ hgX)
  have HBW : Hid (Below w.heap.size w W) := Lib.hid (by rw [hW]; exact (Below.refl _ _).alloc (Nat.le_refl _) _)
  have HW := Lib.hid hW
  have HGX := Lib.hid hgX
  clear hvn hW hgX
  go_enter Try.func5, Try.ntmps5
  go_upto_region 1 with (fail)
  rw [← HGX.out, ← HW.out]
  go_wp2_with fail
  refine (hend _).out.mono ?_
  rintro e w1 ⟨rfl, bel1⟩
  go_wp2_with fail
  refine (HGR.out _ (HBW.out.trans (bel1.mono HBW.out.size))).mono ?_
  rintro e w2 ⟨gr, rfl, hgr, bel2⟩
  have HB2 := Lib.hid ((HBW.out.trans (bel1.mono HBW.out.size)).trans (bel2.mono (HBW.out.trans (bel1.mono HBW.out.size)).size))
  have HX2 := Lib.hid ((HX.out.below bel1).below bel2)
  have x0 := HX2.out.cellv 0 (.string mk) rfl
  clear bel1 bel2 HGR HX HBW
  cases gr
  case true =>
    go_wp2_with (go_at_call 10; refine (hend _).out.mono ?_; rintro e w3 ⟨rfl, bel3⟩)
    have hb := HB2.out.trans (bel3.mono HB2.out.size)
    go_ret
    exact ⟨rfl, hb⟩
  have hvs : vn ≤ 300 := hgr rfl
  clear hgr hln
  by_cases hk : 1000 < mk.size
  · go_wp2_with (go_at_call 10; refine (hend _).out.mono ?_; rintro e w3 ⟨rfl, bel3⟩)
    have hb := HB2.out.trans (bel3.mono HB2.out.size)
    go_ret
    exact ⟨rfl, hb⟩
  go_upto_region 3 with (fail)
  clear hk x0
  obtain ⟨hs1, hs2⟩ := seqs_ok HS.out
  cases hm : mayS (entsOf l)
  · have HP := Lib.hid (sput_no w2 _ l 1 (HV.out.below HB2.out) hs1 (by rw [← HVN.out]; omega) (errS_arg hm) (by decide))
    clear hs1 hs2 hm
    go_wp2_with (go_at_call 12; refine HP.out.mono ?_; rintro e w3 ⟨⟨pa, pc, rfl⟩, bel3⟩)
    have hb := HB2.out.trans (bel3.mono HB2.out.size)
    go_ret
    exact ⟨rfl, hb⟩
  have he := errS_ok hm (by rw [entsOf_length, ← HVN.out]; omega)
  have HP := Lib.hid (sput_is w2 _ l (HV.out.below HB2.out) hs1 (by rw [← HVN.out]; omega) he)
  obtain ⟨f1, f2, f3, f4, f5⟩ := file_of HS.out he
  have HF := Lib.hid f1
  have HRI := Lib.hid ((mayS_iff _).1 hm).2
  clear hs1 hs2 hm he f1
  go_upto_region 6 with (go_at_call 12; refine HP.out.mono ?_; rintro e w3 ⟨pa, pn, pc, rfl, HPN, HPO, bel3⟩)
  have HB3 := Lib.hid (HB2.out.trans (bel3.mono HB2.out.size))
  have HRD3 := Lib.hid (rd_of_own HPO.out).2
  have hpn2 : pn ≤ 17000000 := by rw [HPN.out]; exact f3
  have HX3 := Lib.hid (HX2.out.below bel3)
  clear bel3 HP HB2 HPO HX2 f2 f3 f4 f5
  go_upto_region 10 with (fail)
  obtain ⟨gW, hgW⟩ : ∃ g, g = w3.heap.size := ⟨_, rfl⟩
  obtain ⟨w4, hw4⟩ : ∃ z, z = w3.alloc (.cells #[.string ⟨#[]⟩, .int .u64 0, .bool false, .string ⟨#[]⟩] 37) := ⟨_, rfl⟩
  have hb4 : Below w3.heap.size w3 w4 := by rw [hw4]; exact (Below.refl _ _).alloc (Nat.le_refl _) _
  have hgx : gX < gW := by rw [hgW]; exact HX3.out.lt
  have hEn : vn = (entsOf l).length := by rw [entsOf_length]; exact HVN.out
  have HFS : Hid (FindSt (entsOf l) mk.data.toList ms mg gW w3 false vn vn w4) := by
    refine ⟨by rw [hEn, wantD_end]; rfl, by rw [hEn]; exact (fromD_end _ _ _ _).symm, ⟨⟨#[]⟩, 0, false, ⟨#[]⟩, by rw [hw4]; exact Blk.new_at _ _ _ _ hgW, by rw [hEn, wantD_end]; rfl⟩, hb4⟩
  have HEN := Lib.hid hEn
  have hgw3 : w3.heap.size ≤ gW := Nat.le_of_eq hgW.symm
  rw [← hgW, ← hw4]
  clear hgW hw4 hb4 hEn
  try show Code.wp _ _ _ _ _
  go_loopw [8, 9, 10] (fun th fr i wr => ∃ (j : Nat) (tb : Bool) (fq : Nat), j ≤ vn ∧ i = .int .i64 ((j : Int) - 1) ∧ th = .bool tb ∧ fr = .int .i64 fq ∧ Hid (FindSt (entsOf l) mk.data.toList ms mg gW w3 tb fq j wr)) (fun _ _ i _ => (intOf i + 1).toNat)
  case atStart => exact ⟨vn, false, vn, Nat.le_refl _, by first | rfl | simp, rfl, rfl, HFS⟩
  case round =>
    obtain ⟨j, tb, fq, hj, rfl, rfl, rfl, HR⟩ := hrel
    clear HFS
    rcases j with _ | m
    case succ =>
      have hsub : (((m + 1 : Nat) : Int) - 1) = (m : Int) := by omega
      rw [hsub]
      clear hsub
      obtain ⟨hT, hFQ, ⟨wk, ws, wg, wu, hWB, hWE⟩, hBR⟩ := HR.out
      have HT := Lib.hid hT
      have HFQ := Lib.hid hFQ
      have HWB := Lib.hid hWB
      have HWE := Lib.hid hWE
      have HBR := Lib.hid hBR
      clear hT hFQ hWB hWE hBR
      have hml : m < l.length := by rw [← HVN.out]; omega
      have hmv : m < vn := by omega
      have hr := HV.out.below HB3.out
      have hae := entsOf_at l m hml
      obtain ⟨a', c', hve, _, _, hcell⟩ := hr
      obtain ⟨b3, off3, hae2, c0, c1, c2, c3⟩ := hcell m hml
      simp only [Value.slice.injEq] at hve
      obtain ⟨e1, el, ec⟩ := hve
      rw [hae2] at e1
      subst e1
      clear el ec hcell hae2
      obtain ⟨x, hx⟩ : ∃ x, x = l[m] := ⟨_, rfl⟩
      rw [← hx] at c0 c1 c2 c3 hae
      clear hx
      obtain ⟨xk, xs, xg, xu⟩ := x
      simp only at c0 c1 c2 c3
      have HAE := Lib.hid hae
      have HWS := Lib.hid (wantD_step (entsOf l) mk.data.toList ms m (by rw [entsOf_length]; exact hml))
      have hfs := fromD_step (entsOf l) mk.data.toList ms mg m (by rw [entsOf_length]; exact hml)
      rw [hae] at hfs
      obtain ⟨n, hn⟩ : ∃ n, n = cmpM xk.data.toList xs xg mk.data.toList ms mg := ⟨_, rfl⟩
      have HFN : Hid (fromD (entsOf l) mk.data.toList ms mg m = if n ≥ 0 then m else fromD (entsOf l) mk.data.toList ms mg (m + 1)) := by rw [hn]; exact hfs
      have HCM : Hid (∀ w', Calls Try.prog 19 #[.agg #[.string xk, .int .u64 xs, .bool xg], .agg #[.string mk, .int .u64 ms, .bool mg]] w' fun e w'' => e = .returned (.int .i64 n) ∧ Below w'.heap.size w' w'') := fun w' => by rw [hn]; exact orderCmp_any _ _ _ _ _ _ w'
      have q0 := HX3.out.cellv 0 (.string mk) rfl
      have q1 := HX3.out.cellv 1 (.int .u64 ms) rfl
      have q2 := HX3.out.cellv 2 (.bool mg) rfl
      have HSS : Hid (∀ w', Below w3.heap.size w3 w' → (fun w' => Below w3.heap.size w3 w' ∧ w'.cell? ⟨b3, off3 + m * 4, none⟩ = some (.string xk) ∧ w'.cell? ⟨b3, off3 + m * 4 + 1, none⟩ = some (.int .u64 xs) ∧ w'.cell? ⟨b3, off3 + m * 4 + 2, none⟩ = some (.bool xg) ∧ w'.cell? ⟨b3, off3 + m * 4 + 3, none⟩ = some (.string xu) ∧ w'.cell? ⟨gX, 0, none⟩ = some (.string mk) ∧ w'.cell? ⟨gX, 1, none⟩ = some (.int .u64 ms) ∧ w'.cell? ⟨gX, 2, none⟩ = some (.bool mg)) w') := fun w' hb => ⟨hb, Below.keeps hb _ _ _ c0, Below.keeps hb _ _ _ c1, Below.keeps hb _ _ _ c2, Below.keeps hb _ _ _ c3, Below.keeps hb _ _ _ q0, Below.keeps hb _ _ _ q1, Below.keeps hb _ _ _ q2⟩
      clear c0 c1 c2 c3 q0 q1 q2
      obtain ⟨-, c0, c1, c2, c3, x0, x1, x2⟩ := HSS.out _ HBR.out
      have hm0 : (0 : Int) ≤ (m : Int) := by omega
      have hwm : IntKind.i64.wrap ((m : Int) - 1) = (m : Int) - 1 := IntWalk.i64_in _ (by omega)
      clear hae hfs hn HR hj
      go_upto_region 12 with (fail)
      by_cases hke : xk = mk
      · by_cases hse : xs ≤ ms
        · have HWN : Hid (wantD (entsOf l) mk.data.toList ms m = some ⟨xk.data.toList, xs, xg, xu.data.toList⟩) := by
            show _ = _
            rw [HWS.out, HAE.out, if_pos (by unfold ofK; simp [PE.ent, entOf, hse, hke])]
            rfl
          have hkb : (xk.toList == mk.toList) = true := by rw [hke]; simp
          clear hke
          have y0 := HWB.out.cellv 0 (.string wk) rfl
          have y1 := HWB.out.cellv 1 (.int .u64 ws) rfl
          have y2 := HWB.out.cellv 2 (.bool wg) rfl
          have y3 := HWB.out.cellv 3 (.string wu) rfl
          have g0 := HWB.out.free 0
          have g1 := HWB.out.free 1
          have g2 := HWB.out.free 2
          have g3 := HWB.out.free 3
          have hd1 : decide ((xs : Int) ≤ (ms : Int)) = true := by simp; omega
          go_quiet (fail)
          go_upto_region 15 with (fail)
          obtain ⟨w6, hw6⟩ : ∃ z, z = ((((wr.drewN nq).setCell ⟨gW, 0, none⟩ (.string xk)).setCell ⟨gW, 1, none⟩ (.int .u64 xs)).setCell ⟨gW, 2, none⟩ (.bool xg)).setCell ⟨gW, 3, none⟩ (.string xu) := ⟨_, rfl⟩
          have HB6 : Hid (Below w3.heap.size w3 w6) := by
            rw [hw6]
            exact ((((HBR.out.trans ((drewN_below wr nq).mono HBR.out.size)).setCell (p := ⟨gW, 0, none⟩) hgw3 _).setCell (p := ⟨gW, 1, none⟩) hgw3 _).setCell (p := ⟨gW, 2, none⟩) hgw3 _).setCell (p := ⟨gW, 3, none⟩) hgw3 _
          have HW6 : Hid (Blk w6 gW #[.string xk, .int .u64 xs, .bool xg, .string xu] 37) := by rw [hw6]; exact ((((HWB.out.drewN nq).set 0 _).set 1 _).set 2 _).set 3 _
          have HE6 : Hid (entCs ((wantD (entsOf l) mk.data.toList ms m).getD Ent.none) = #[.string xk, .int .u64 xs, .bool xg, .string xu]) := by rw [HWN.out]; show entCs _ = _; simp only [entCs, Option.getD_some, bs_of]
          have HT6 : Hid (true = (wantD (entsOf l) mk.data.toList ms m).isSome) := by rw [HWN.out]; rfl
          rw [← hw6]
          clear hw6 y0 y1 y2 y3 g0 g1 g2 g3 hd1
          clear c0 c1 c2 c3 x0 x1 x2
          go_upto_region 15 with (fail)
          refine wp_region_held_drew (S := fun w' => Below w3.heap.size w3 w' ∧ w'.cell? ⟨b3, off3 + m * 4, none⟩ = some (.string xk) ∧ w'.cell? ⟨b3, off3 + m * 4 + 1, none⟩ = some (.int .u64 xs) ∧ w'.cell? ⟨b3, off3 + m * 4 + 2, none⟩ = some (.bool xg) ∧ w'.cell? ⟨b3, off3 + m * 4 + 3, none⟩ = some (.string xu) ∧ w'.cell? ⟨gX, 0, none⟩ = some (.string mk) ∧ w'.cell? ⟨gX, 1, none⟩ = some (.int .u64 ms) ∧ w'.cell? ⟨gX, 2, none⟩ = some (.bool mg)) (by kernel_rfl) (HSS.out _ (HB6.out.drew)) (fun hHeld => ?_)
          have BD : Below w6.heap.size w6 w6.drew := (Below.refl _ _).drew
          refine wpAnyH_take (i := 0) (v := ?vq1) (by simp only [List.getElem?_toArray]; rfl) (by kernel_rfl) (by kernel_rfl) (by kernel_rfl) (by exact fun _ _ _ h => h) (Or.inl ⟨by rfl, ?yq1⟩) (by assumption) ?rq1
          case yq1 => (intro w hSw; (try dsimp only at hSw); go_simp; try with_reducible rfl)
          try simp only [Act.put, List.setIfInBounds_toArray, List.set_cons_zero, List.set_cons_succ]
          refine wpAnyH_take (i := 1) (v := ?vq2) (by simp only [List.getElem?_toArray]; rfl) (by kernel_rfl) (by kernel_rfl) (by kernel_rfl) (by exact fun _ _ _ h => h) (Or.inl ⟨by rfl, ?yq2⟩) (by assumption) ?rq2
          case yq2 => (intro w hSw; (try dsimp only at hSw); go_simp; try with_reducible rfl)
          try simp only [Act.put, List.setIfInBounds_toArray, List.set_cons_zero, List.set_cons_succ]
          refine wpAnyH_take (i := 2) (v := ?vq3) (by simp only [List.getElem?_toArray]; rfl) (by kernel_rfl) (by kernel_rfl) (by kernel_rfl) (by exact fun _ _ _ h => h) (Or.inl ⟨by rfl, ?yq3⟩) (by assumption) ?rq3
          case yq3 => (intro w hSw; (try dsimp only at hSw); go_simp; try with_reducible rfl)
          try simp only [Act.put, List.setIfInBounds_toArray, List.set_cons_zero, List.set_cons_succ]
          refine wpAnyH_take (i := 3) (v := ?vq4) (by simp only [List.getElem?_toArray]; rfl) (by kernel_rfl) (by kernel_rfl) (by kernel_rfl) (by exact fun _ _ _ h => h) (Or.inl ⟨by rfl, ?yq4⟩) (by assumption) ?rq4
          case yq4 => (intro w hSw; (try dsimp only at hSw); go_simp; try with_reducible rfl)
          try simp only [Act.put, List.setIfInBounds_toArray, List.set_cons_zero, List.set_cons_succ]
          refine wpAnyH_take (i := 4) (v := ?vq5) (by simp only [List.getElem?_toArray]; rfl) (by kernel_rfl) (by kernel_rfl) (by kernel_rfl) (by exact fun _ _ _ h => h) (Or.inl ⟨by rfl, ?yq5⟩) (by assumption) ?rq5
          case yq5 => (intro w hSw; (try dsimp only at hSw); go_simp; try with_reducible rfl)
          try simp only [Act.put, List.setIfInBounds_toArray, List.set_cons_zero, List.set_cons_succ]
          refine wpAnyH_take (i := 5) (v := ?vq6) (by simp only [List.getElem?_toArray]; rfl) (by kernel_rfl) (by kernel_rfl) (by kernel_rfl) (by exact fun _ _ _ h => h) (Or.inl ⟨by rfl, ?yq6⟩) (by assumption) ?rq6
          case yq6 => (intro w hSw; (try dsimp only at hSw); go_simp; try with_reducible rfl)
          try simp only [Act.put, List.setIfInBounds_toArray, List.set_cons_zero, List.set_cons_succ]
          refine wpAnyH_take (i := 6) (v := ?vq7) (by simp only [List.getElem?_toArray]; rfl) (by kernel_rfl) (by kernel_rfl) (by kernel_rfl) (by exact fun _ _ _ h => h) (Or.inl ⟨by rfl, ?yq7⟩) (by assumption) ?rq7
          case yq7 => (intro w hSw; (try dsimp only at hSw); go_simp; try with_reducible rfl)
          try simp only [Act.put, List.setIfInBounds_toArray, List.set_cons_zero, List.set_cons_succ]
          refine wpAnyH_ready (rs := [7]) (by kernel_rfl) (by simp) ?_
          refine AllReadyH.cons (by simp only [List.getElem?_toArray]; rfl) (fun K hK => ?_) AllReadyH.nil
          go_simp
          refine (HCM.out _).mono ?_
          rintro e w7 ⟨rfl, hb⟩
          have BC := BD.trans (hb.mono BD.size)
          have B3 := Lib.hid (HB6.out.trans (BC.mono HB6.out.size))
          refine hK.out _ _ (HSS.out _ B3.out) (fun hHeld => ?_)
          clear hK K hb
          try simp only [Act.put, List.setIfInBounds_toArray, List.set_cons_zero, List.set_cons_succ]
          refine wpAnyH_take (i := 8) (v := ?vq8) (by simp only [List.getElem?_toArray]; rfl) (by kernel_rfl) (by kernel_rfl) (by kernel_rfl) (by exact fun _ _ _ h => h) (Or.inl ⟨by rfl, ?yq8⟩) (by assumption) ?rq8
          case yq8 => (intro w hSw; (try dsimp only at hSw); go_simp; try with_reducible rfl)
          try simp only [Act.put, List.setIfInBounds_toArray, List.set_cons_zero, List.set_cons_succ]
          refine wpAnyH_done (by kernel_rfl) ?_ _
          by_cases hn0 : n ≥ 0
          · have hd : decide (n ≥ 0) = true := by simp; omega
            have hd2 : 0 ≤ n := hn0
            have HF8 : Hid (FindSt (entsOf l) mk.data.toList ms mg gW w3 true m m w7) := ⟨HT6.out, by rw [HFN.out, if_pos hn0], ⟨_, _, _, _, HW6.out.below BC, HE6.out⟩, B3.out⟩
            clear BC hHeld BD
            go_wp2_with fail
            go_roundw
            case rel => exact ⟨m, true, m, by omega, by go_num, rfl, rfl, HF8⟩
            case measure => first | (simp [intOf]; done) | (simp [intOf]; omega)
          · have hd : decide (n ≥ 0) = false := by simp; omega
            have hd2 : n < 0 := by omega
            have HF8 : Hid (FindSt (entsOf l) mk.data.toList ms mg gW w3 true fq m w7) := ⟨HT6.out, by rw [HFN.out, if_neg hn0]; exact HFQ.out, ⟨_, _, _, _, HW6.out.below BC, HE6.out⟩, B3.out⟩
            clear BC hHeld BD
            go_wp2_with fail
            go_roundw
            case rel => exact ⟨m, true, fq, by omega, by go_num, rfl, rfl, HF8⟩
            case measure => first | (simp [intOf]; done) | (simp [intOf]; omega)
        · have HWN : Hid (wantD (entsOf l) mk.data.toList ms m = wantD (entsOf l) mk.data.toList ms (m + 1)) := by
            show _ = _
            rw [HWS.out, HAE.out, if_neg (by unfold ofK; simp [PE.ent, entOf, hse])]
          have hkb : (xk.toList == mk.toList) = true := by rw [hke]; simp
          clear hke
          have hd1 : decide ((xs : Int) ≤ (ms : Int)) = false := by simp; omega
          have hd2 : ¬ (xs : Int) ≤ (ms : Int) := by omega
          go_quiet (fail)
          obtain ⟨w6, hw6⟩ : ∃ z, z = wr.drewN nq := ⟨_, rfl⟩
          have hb6 : Below wr.heap.size wr w6 := by rw [hw6]; exact drewN_below _ _
          have HB6 := Lib.hid (HBR.out.trans (hb6.mono HBR.out.size))
          have HW6 := Lib.hid (HWB.out.below hb6)
          have HE6 : Hid (entCs ((wantD (entsOf l) mk.data.toList ms m).getD Ent.none) = #[.string wk, .int .u64 ws, .bool wg, .string wu]) := by rw [HWN.out]; exact HWE.out
          have HT6 : Hid (tb = (wantD (entsOf l) mk.data.toList ms m).isSome) := by rw [HWN.out]; exact HT.out
          go_upto_region 15 with (fail)
          rw [← hw6]
          clear hw6 hb6
          clear c0 c1 c2 c3 x0 x1 x2
          go_upto_region 15 with (fail)
          refine wp_region_held_drew (S := fun w' => Below w3.heap.size w3 w' ∧ w'.cell? ⟨b3, off3 + m * 4, none⟩ = some (.string xk) ∧ w'.cell? ⟨b3, off3 + m * 4 + 1, none⟩ = some (.int .u64 xs) ∧ w'.cell? ⟨b3, off3 + m * 4 + 2, none⟩ = some (.bool xg) ∧ w'.cell? ⟨b3, off3 + m * 4 + 3, none⟩ = some (.string xu) ∧ w'.cell? ⟨gX, 0, none⟩ = some (.string mk) ∧ w'.cell? ⟨gX, 1, none⟩ = some (.int .u64 ms) ∧ w'.cell? ⟨gX, 2, none⟩ = some (.bool mg)) (by kernel_rfl) (HSS.out _ (HB6.out.drew)) (fun hHeld => ?_)
          have BD : Below w6.heap.size w6 w6.drew := (Below.refl _ _).drew
          refine wpAnyH_take (i := 0) (v := ?vq9) (by simp only [List.getElem?_toArray]; rfl) (by kernel_rfl) (by kernel_rfl) (by kernel_rfl) (by exact fun _ _ _ h => h) (Or.inl ⟨by rfl, ?yq9⟩) (by assumption) ?rq9
          case yq9 => (intro w hSw; (try dsimp only at hSw); go_simp; try with_reducible rfl)
          try simp only [Act.put, List.setIfInBounds_toArray, List.set_cons_zero, List.set_cons_succ]
          refine wpAnyH_take (i := 1) (v := ?vq10) (by simp only [List.getElem?_toArray]; rfl) (by kernel_rfl) (by kernel_rfl) (by kernel_rfl) (by exact fun _ _ _ h => h) (Or.inl ⟨by rfl, ?yq10⟩) (by assumption) ?rq10
          case yq10 => (intro w hSw; (try dsimp only at hSw); go_simp; try with_reducible rfl)
          try simp only [Act.put, List.setIfInBounds_toArray, List.set_cons_zero, List.set_cons_succ]
          refine wpAnyH_take (i := 2) (v := ?vq11) (by simp only [List.getElem?_toArray]; rfl) (by kernel_rfl) (by kernel_rfl) (by kernel_rfl) (by exact fun _ _ _ h => h) (Or.inl ⟨by rfl, ?yq11⟩) (by assumption) ?rq11
          case yq11 => (intro w hSw; (try dsimp only at hSw); go_simp; try with_reducible rfl)
          try simp only [Act.put, List.setIfInBounds_toArray, List.set_cons_zero, List.set_cons_succ]
          refine wpAnyH_take (i := 3) (v := ?vq12) (by simp only [List.getElem?_toArray]; rfl) (by kernel_rfl) (by kernel_rfl) (by kernel_rfl) (by exact fun _ _ _ h => h) (Or.inl ⟨by rfl, ?yq12⟩) (by assumption) ?rq12
          case yq12 => (intro w hSw; (try dsimp only at hSw); go_simp; try with_reducible rfl)
          try simp only [Act.put, List.setIfInBounds_toArray, List.set_cons_zero, List.set_cons_succ]
          refine wpAnyH_take (i := 4) (v := ?vq13) (by simp only [List.getElem?_toArray]; rfl) (by kernel_rfl) (by kernel_rfl) (by kernel_rfl) (by exact fun _ _ _ h => h) (Or.inl ⟨by rfl, ?yq13⟩) (by assumption) ?rq13
          case yq13 => (intro w hSw; (try dsimp only at hSw); go_simp; try with_reducible rfl)
          try simp only [Act.put, List.setIfInBounds_toArray, List.set_cons_zero, List.set_cons_succ]
          refine wpAnyH_take (i := 5) (v := ?vq14) (by simp only [List.getElem?_toArray]; rfl) (by kernel_rfl) (by kernel_rfl) (by kernel_rfl) (by exact fun _ _ _ h => h) (Or.inl ⟨by rfl, ?yq14⟩) (by assumption) ?rq14
          case yq14 => (intro w hSw; (try dsimp only at hSw); go_simp; try with_reducible rfl)
          try simp only [Act.put, List.setIfInBounds_toArray, List.set_cons_zero, List.set_cons_succ]
          refine wpAnyH_take (i := 6) (v := ?vq15) (by simp only [List.getElem?_toArray]; rfl) (by kernel_rfl) (by kernel_rfl) (by kernel_rfl) (by exact fun _ _ _ h => h) (Or.inl ⟨by rfl, ?yq15⟩) (by assumption) ?rq15
          case yq15 => (intro w hSw; (try dsimp only at hSw); go_simp; try with_reducible rfl)
          try simp only [Act.put, List.setIfInBounds_toArray, List.set_cons_zero, List.set_cons_succ]
          refine wpAnyH_ready (rs := [7]) (by kernel_rfl) (by simp) ?_
          refine AllReadyH.cons (by simp only [List.getElem?_toArray]; rfl) (fun K hK => ?_) AllReadyH.nil
          go_simp
          refine (HCM.out _).mono ?_
          rintro e w7 ⟨rfl, hb⟩
          have BC := BD.trans (hb.mono BD.size)
          have B3 := Lib.hid (HB6.out.trans (BC.mono HB6.out.size))
          refine hK.out _ _ (HSS.out _ B3.out) (fun hHeld => ?_)
          clear hK K hb
          try simp only [Act.put, List.setIfInBounds_toArray, List.set_cons_zero, List.set_cons_succ]
          refine wpAnyH_take (i := 8) (v := ?vq16) (by simp only [List.getElem?_toArray]; rfl) (by kernel_rfl) (by kernel_rfl) (by kernel_rfl) (by exact fun _ _ _ h => h) (Or.inl ⟨by rfl, ?yq16⟩) (by assumption) ?rq16
          case yq16 => (intro w hSw; (try dsimp only at hSw); go_simp; try with_reducible rfl)
          try simp only [Act.put, List.setIfInBounds_toArray, List.set_cons_zero, List.set_cons_succ]
          refine wpAnyH_done (by kernel_rfl) ?_ _
          by_cases hn0 : n ≥ 0
          · have hd : decide (n ≥ 0) = true := by simp; omega
            have hd2 : 0 ≤ n := hn0
            have HF8 : Hid (FindSt (entsOf l) mk.data.toList ms mg gW w3 tb m m w7) := ⟨HT6.out, by rw [HFN.out, if_pos hn0], ⟨_, _, _, _, HW6.out.below BC, HE6.out⟩, B3.out⟩
            clear BC hHeld BD
            go_wp2_with fail
            go_roundw
            case rel => exact ⟨m, tb, m, by omega, by go_num, rfl, rfl, HF8⟩
            case measure => first | (simp [intOf]; done) | (simp [intOf]; omega)
          · have hd : decide (n ≥ 0) = false := by simp; omega
            have hd2 : n < 0 := by omega
            have HF8 : Hid (FindSt (entsOf l) mk.data.toList ms mg gW w3 tb fq m w7) := ⟨HT6.out, by rw [HFN.out, if_neg hn0]; exact HFQ.out, ⟨_, _, _, _, HW6.out.below BC, HE6.out⟩, B3.out⟩
            clear BC hHeld BD
            go_wp2_with fail
            go_roundw
            case rel => exact ⟨m, tb, fq, by omega, by go_num, rfl, rfl, HF8⟩
            case measure => first | (simp [intOf]; done) | (simp [intOf]; omega)
      · have HWN : Hid (wantD (entsOf l) mk.data.toList ms m = wantD (entsOf l) mk.data.toList ms (m + 1)) := by
          show _ = _
          rw [HWS.out, HAE.out, if_neg (by unfold ofK; simp only [PE.ent, entOf, Bool.and_eq_true]; exact fun h => hke (bs_inj2 (of_decide_eq_true h.1)))]
        have hkl : ¬ xk.toList = mk.toList := fun h => hke (ba_ext h)
        have hkb : (xk.toList == mk.toList) = false := by simp [hkl]
        go_quiet (fail)
        obtain ⟨w6, hw6⟩ : ∃ z, z = wr.drewN nq := ⟨_, rfl⟩
        have hb6 : Below wr.heap.size wr w6 := by rw [hw6]; exact drewN_below _ _
        have HB6 := Lib.hid (HBR.out.trans (hb6.mono HBR.out.size))
        have HW6 := Lib.hid (HWB.out.below hb6)
        have HE6 : Hid (entCs ((wantD (entsOf l) mk.data.toList ms m).getD Ent.none) = #[.string wk, .int .u64 ws, .bool wg, .string wu]) := by rw [HWN.out]; exact HWE.out
        have HT6 : Hid (tb = (wantD (entsOf l) mk.data.toList ms m).isSome) := by rw [HWN.out]; exact HT.out
        go_upto_region 15 with (fail)
        rw [← hw6]
        clear hw6 hb6
        clear c0 c1 c2 c3 x0 x1 x2
        go_upto_region 15 with (fail)
        refine wp_region_held_drew (S := fun w' => Below w3.heap.size w3 w' ∧ w'.cell? ⟨b3, off3 + m * 4, none⟩ = some (.string xk) ∧ w'.cell? ⟨b3, off3 + m * 4 + 1, none⟩ = some (.int .u64 xs) ∧ w'.cell? ⟨b3, off3 + m * 4 + 2, none⟩ = some (.bool xg) ∧ w'.cell? ⟨b3, off3 + m * 4 + 3, none⟩ = some (.string xu) ∧ w'.cell? ⟨gX, 0, none⟩ = some (.string mk) ∧ w'.cell? ⟨gX, 1, none⟩ = some (.int .u64 ms) ∧ w'.cell? ⟨gX, 2, none⟩ = some (.bool mg)) (by kernel_rfl) (HSS.out _ (HB6.out.drew)) (fun hHeld => ?_)
        have BD : Below w6.heap.size w6 w6.drew := (Below.refl _ _).drew
        refine wpAnyH_take (i := 0) (v := ?vq17) (by simp only [List.getElem?_toArray]; rfl) (by kernel_rfl) (by kernel_rfl) (by kernel_rfl) (by exact fun _ _ _ h => h) (Or.inl ⟨by rfl, ?yq17⟩) (by assumption) ?rq17
        case yq17 => (intro w hSw; (try dsimp only at hSw); go_simp; try with_reducible rfl)
        try simp only [Act.put, List.setIfInBounds_toArray, List.set_cons_zero, List.set_cons_succ]
        refine wpAnyH_take (i := 1) (v := ?vq18) (by simp only [List.getElem?_toArray]; rfl) (by kernel_rfl) (by kernel_rfl) (by kernel_rfl) (by exact fun _ _ _ h => h) (Or.inl ⟨by rfl, ?yq18⟩) (by assumption) ?rq18
        case yq18 => (intro w hSw; (try dsimp only at hSw); go_simp; try with_reducible rfl)
        try simp only [Act.put, List.setIfInBounds_toArray, List.set_cons_zero, List.set_cons_succ]
        refine wpAnyH_take (i := 2) (v := ?vq19) (by simp only [List.getElem?_toArray]; rfl) (by kernel_rfl) (by kernel_rfl) (by kernel_rfl) (by exact fun _ _ _ h => h) (Or.inl ⟨by rfl, ?yq19⟩) (by assumption) ?rq19
        case yq19 => (intro w hSw; (try dsimp only at hSw); go_simp; try with_reducible rfl)
        try simp only [Act.put, List.setIfInBounds_toArray, List.set_cons_zero, List.set_cons_succ]
        refine wpAnyH_take (i := 3) (v := ?vq20) (by simp only [List.getElem?_toArray]; rfl) (by kernel_rfl) (by kernel_rfl) (by kernel_rfl) (by exact fun _ _ _ h => h) (Or.inl ⟨by rfl, ?yq20⟩) (by assumption) ?rq20
        case yq20 => (intro w hSw; (try dsimp only at hSw); go_simp; try with_reducible rfl)
        try simp only [Act.put, List.setIfInBounds_toArray, List.set_cons_zero, List.set_cons_succ]
        refine wpAnyH_take (i := 4) (v := ?vq21) (by simp only [List.getElem?_toArray]; rfl) (by kernel_rfl) (by kernel_rfl) (by kernel_rfl) (by exact fun _ _ _ h => h) (Or.inl ⟨by rfl, ?yq21⟩) (by assumption) ?rq21
        case yq21 => (intro w hSw; (try dsimp only at hSw); go_simp; try with_reducible rfl)
        try simp only [Act.put, List.setIfInBounds_toArray, List.set_cons_zero, List.set_cons_succ]
        refine wpAnyH_take (i := 5) (v := ?vq22) (by simp only [List.getElem?_toArray]; rfl) (by kernel_rfl) (by kernel_rfl) (by kernel_rfl) (by exact fun _ _ _ h => h) (Or.inl ⟨by rfl, ?yq22⟩) (by assumption) ?rq22
        case yq22 => (intro w hSw; (try dsimp only at hSw); go_simp; try with_reducible rfl)
        try simp only [Act.put, List.setIfInBounds_toArray, List.set_cons_zero, List.set_cons_succ]
        refine wpAnyH_take (i := 6) (v := ?vq23) (by simp only [List.getElem?_toArray]; rfl) (by kernel_rfl) (by kernel_rfl) (by kernel_rfl) (by exact fun _ _ _ h => h) (Or.inl ⟨by rfl, ?yq23⟩) (by assumption) ?rq23
        case yq23 => (intro w hSw; (try dsimp only at hSw); go_simp; try with_reducible rfl)
        try simp only [Act.put, List.setIfInBounds_toArray, List.set_cons_zero, List.set_cons_succ]
        refine wpAnyH_ready (rs := [7]) (by kernel_rfl) (by simp) ?_
        refine AllReadyH.cons (by simp only [List.getElem?_toArray]; rfl) (fun K hK => ?_) AllReadyH.nil
        go_simp
        refine (HCM.out _).mono ?_
        rintro e w7 ⟨rfl, hb⟩
        have BC := BD.trans (hb.mono BD.size)
        have B3 := Lib.hid (HB6.out.trans (BC.mono HB6.out.size))
        refine hK.out _ _ (HSS.out _ B3.out) (fun hHeld => ?_)
        clear hK K hb
        try simp only [Act.put, List.setIfInBounds_toArray, List.set_cons_zero, List.set_cons_succ]
        refine wpAnyH_take (i := 8) (v := ?vq24) (by simp only [List.getElem?_toArray]; rfl) (by kernel_rfl) (by kernel_rfl) (by kernel_rfl) (by exact fun _ _ _ h => h) (Or.inl ⟨by rfl, ?yq24⟩) (by assumption) ?rq24
        case yq24 => (intro w hSw; (try dsimp only at hSw); go_simp; try with_reducible rfl)
        try simp only [Act.put, List.setIfInBounds_toArray, List.set_cons_zero, List.set_cons_succ]
        refine wpAnyH_done (by kernel_rfl) ?_ _
        by_cases hn0 : n ≥ 0
        · have hd : decide (n ≥ 0) = true := by simp; omega
          have hd2 : 0 ≤ n := hn0
          have HF8 : Hid (FindSt (entsOf l) mk.data.toList ms mg gW w3 tb m m w7) := ⟨HT6.out, by rw [HFN.out, if_pos hn0], ⟨_, _, _, _, HW6.out.below BC, HE6.out⟩, B3.out⟩
          clear BC hHeld BD
          go_wp2_with fail
          go_roundw
          case rel => exact ⟨m, tb, m, by omega, by go_num, rfl, rfl, HF8⟩
          case measure => first | (simp [intOf]; done) | (simp [intOf]; omega)
        · have hd : decide (n ≥ 0) = false := by simp; omega
          have hd2 : n < 0 := by omega
          have HF8 : Hid (FindSt (entsOf l) mk.data.toList ms mg gW w3 tb fq m w7) := ⟨HT6.out, by rw [HFN.out, if_neg hn0]; exact HFQ.out, ⟨_, _, _, _, HW6.out.below BC, HE6.out⟩, B3.out⟩
          clear BC hHeld BD
          go_wp2_with fail
          go_roundw
          case rel => exact ⟨m, tb, fq, by omega, by go_num, rfl, rfl, HF8⟩
          case measure => first | (simp [intOf]; done) | (simp [intOf]; omega)

    case zero =>
      have hneg : (((0 : Nat) : Int) - 1) = -1 := rfl
      rw [hneg]
      obtain ⟨HT, HFQ, ⟨wk, ws, wg, wu, hWB, HWE⟩, hBR⟩ := HR.out
      have hE : (wantD (entsOf l) mk.data.toList ms 0) = getS mk.data.toList ms (entsOf l) := (getS_find HRI.out _ _).symm
      have hq : fq = seekAt mk.data.toList ms mg (entsOf l) := HFQ.trans (fromD_zero _ _ _ _)
      have hfqn : fq ≤ vn := by rw [hq, HEN.out]; exact seekAt_le _ _ _ _
      have hG := sortedGet_any wr (.slice pa pn pc) _ _ 0 mk ms (HRD3.out.below hBR) (by rw [← HPN.out]; omega) (.inl ⟨rfl, HF.out⟩)
      have HG : Hid (Calls Try.prog 16 #[.slice pa pn pc, .string mk, .int .u64 ms] wr fun e w' => e = .returned (.tuple #[.agg #[.string wk, .int .u64 ws, .bool wg, .string wu], .bool tb, .int .i64 0]) ∧ Below wr.heap.size wr w') := by
        refine hG.mono ?_
        rintro e w' ⟨rfl, hb⟩
        refine ⟨?_, hb⟩
        rw [← hE, ← HT]
        have h : entV ((wantD (entsOf l) mk.data.toList ms 0).getD Ent.none) = .agg (entCs ((wantD (entsOf l) mk.data.toList ms 0).getD Ent.none)) := rfl
        rw [h, HWE]
        rfl
      have HQ := Lib.hid hq
      have HBR := Lib.hid hBR
      have HWB := Lib.hid hWB
      have q := (HX3.out.below HBR.out)
      have x0 := q.cellv 0 (.string mk) rfl
      have x1 := q.cellv 1 (.int .u64 ms) rfl
      have x2 := q.cellv 2 (.bool mg) rfl
      have x3 := q.cellv 3 (.int .i64 most) rfl
      clear hG hE hq HT HFQ HWE q HR hneg hBR hWB
      go_upto_region 18 with (go_at_call 16; refine HG.out.mono ?_; rintro e w5 ⟨rfl, hb5⟩)
      have HAL : Hid (∀ o, Below wr.heap.size wr (w5.alloc o)) := fun o => hb5.trans (((Below.refl _ _).alloc (Nat.le_refl _) o).mono hb5.size)
      obtain ⟨gY, hgY⟩ : ∃ g, g = w5.heap.size := ⟨_, rfl⟩
      obtain ⟨w6, hw6⟩ : ∃ z, z = w5.alloc (.cells #[.string wk, .int .u64 ws, .bool wg, .string wu] 37) := ⟨_, rfl⟩
      have HY6 : Hid (Blk w6 gY #[.string wk, .int .u64 ws, .bool wg, .string wu] 37) := Lib.hid (by rw [hw6]; exact Blk.new_at _ _ _ _ hgY)
      have hb6 : Below wr.heap.size wr w6 := by rw [hw6]; exact HAL.out _
      rw [← hgY, ← hw6]
      have HB6 := Lib.hid (HBR.out.trans (hb6.mono HBR.out.size))
      have HW6 := Lib.hid (HWB.out.below hb6)
      have q := (HX3.out.below HB6.out)
      clear x0 x1 x2 x3
      have x0 := q.cellv 0 (.string mk) rfl
      have x1 := q.cellv 1 (.int .u64 ms) rfl
      have x2 := q.cellv 2 (.bool mg) rfl
      have x3 := q.cellv 3 (.int .i64 most) rfl
      clear q HAL hb5 hb6 hgY hw6 HG HWB HBR
      have hF := sortedFrom_any w6 (.slice pa pn pc) _ _ 0 mk ms mg most (HRD3.out.below HB6.out) (by rw [← HPN.out]; omega) (.inl ⟨rfl, HF.out⟩) HM1.out HM2.out
      rw [← HQ.out] at hF
      have HFR := Lib.hid hF
      clear hF
      obtain ⟨rr, hrr⟩ : ∃ z, z = vn - fq := ⟨_, rfl⟩
      have hrl : ((entsOf l).drop fq).length = rr := by rw [List.length_drop, ← HEN.out, hrr]
      rw [hrl] at HFR
      obtain ⟨nn, hnn⟩ : ∃ z, z = mostN most rr := ⟨_, rfl⟩
      rw [← hnn] at HFR
      have hnr : nn ≤ rr := by rw [hnn]; exact mostN_le _ _
      have hsub : (vn : Int) - (fq : Int) = (rr : Int) := by omega
      have hwr : IntKind.i64.wrap (rr : Int) = (rr : Int) := IntWalk.i64_in _ (by omega)
      obtain ⟨mi, hmi⟩ : ∃ z : Int, z = min most (rr : Int) := ⟨_, rfl⟩
      have hnn2 : (nn : Int) = max 0 mi := by rw [hmi, hnn]; unfold mostN; omega
      have z1 : (if (rr : Int) < most then (rr : Int) else most) = mi := by rw [hmi]; split <;> omega
      have z2 : (if mi < 0 then 0 else mi) = (nn : Int) := by rw [hnn2]; split <;> omega
      have z3 : (if 0 < mi then mi else 0) = (nn : Int) := by rw [hnn2]; split <;> omega
      have hwf : IntKind.i64.wrap ((fq : Int) + (nn : Int)) = (fq : Int) + (nn : Int) := IntWalk.i64_in _ (by omega)
      have hfn : fq + nn ≤ vn := by omega
      clear hrl hnn hmi hnn2 hrr
      go_upto_region 19 with (go_at_call 17; refine HFR.out.mono ?_; rintro e w7 ⟨sa, sn, sc, rfl, HSN, HSO, hb7⟩)
      have HB7 := Lib.hid (HB6.out.trans (hb7.mono HB6.out.size))
      have q := (HX3.out.below HB7.out)
      clear x0 x1 x2 x3
      have x3 := q.cellv 3 (.int .i64 most) rfl
      go_upto_region 20 with (fail)
      clear x3 z1 z2 z3 hsub hwr q
      have q1 := HY6.out.below hb7
      have y0 := q1.cellv 0 (.string wk) rfl
      have y1 := q1.cellv 1 (.int .u64 ws) rfl
      have y2 := q1.cellv 2 (.bool wg) rfl
      have y3 := q1.cellv 3 (.string wu) rfl
      have q2 := HW6.out.below hb7
      have z0 := q2.cellv 0 (.string wk) rfl
      have z1 := q2.cellv 1 (.int .u64 ws) rfl
      have z2 := q2.cellv 2 (.bool wg) rfl
      have z3 := q2.cellv 3 (.string wu) rfl
      obtain ⟨ua, uc, hcut, hcr⟩ := cutE_mid (HV.out.below (HB3.out.trans (HB7.out.mono HB3.out.size))) fq nn (by rw [← HVN.out]; omega)
      have hse := (rdE_of (reads_of_own HSO.out)).2
      rw [List.map_take, List.map_drop, toPE_entsOf] at hse
      have HSE := Lib.hid (sameE_any w7 _ _ _ hse hcr)
      clear q1 q2 HSO HSN HFR hse hcr HY6 HW6 hb7
      go_wp2_with (go_at_call 15; refine HSE.out.mono ?_; rintro e w8 ⟨rfl, hb8⟩)
      have hbf := HB3.out.trans ((HB7.out.trans (hb8.mono HB7.out.size)).mono HB3.out.size)
      go_ret
      exact ⟨rfl, hbf⟩
end Go.Proofs.Ytbcnapkbdbefhaa

/- The law SortedBack answers true for any entries, wherever the file is cut. No condition. -/
import Derived.Test.YtbcnapkbdbefhaaSGreat
import Derived.Test.YtbcnapkbdbefhaaRises
import Derived.Test.YtbcnapkbdbefhaaSameE
namespace Go.Proofs.Ytbcnapkbdbefhaa
open Go.RowKit

theorem mayS_parts (E : List Ent) : mayS E = (decide (0 < E.length) && risesN E E.length) := rfl
set_option maxRecDepth 100000 in
set_option maxHeartbeats 8000000 in
theorem sortedBack_walk (w : World) (v : Value) (l : List PE) (a1 : Int) (hv : RdE w v l) (hl : l.length ≤ 2932031007402 ∧ ∀ x ∈ l, x.ok) (wa : (Lit.int .u16 a1).wf = true) :
    Calls Try.prog 3 #[v, .int .u16 a1] w (RetTrue w) := by
  obtain ⟨c, rfl, hc⟩ := nat_u16 wa
  have hend : ∀ (w5 : World), Hid (Calls Try.prog 10 #[] w5 (RetTrue w5)) := fun w5 => alive10_any w5
  obtain ⟨hln, hlo⟩ := hl
  have HS := Lib.hid hlo
  have HV := Lib.hid hv
  have HGR := Lib.hid (fun w' (hb : Below w.heap.size w w') => great10_any w' v l (hv.below hb) hln hlo)
  obtain ⟨va, vc, rfl, h1, h2, h3⟩ := hv
  clear h3 hlo
  obtain ⟨vn, hvn⟩ : ∃ n, n = l.length := ⟨_, rfl⟩
  have HVN := Lib.hid hvn
  rw [← hvn] at h1 HV hln HGR ⊢
  clear hvn
  go_enter Try.func3, Try.ntmps3
  go_upto_region 1 with (fail)
  go_wp2_with fail
  refine (hend _).out.mono ?_
  rintro e w1 ⟨rfl, bel1⟩
  go_wp2_with fail
  refine (HGR.out _ bel1).mono ?_
  rintro e w2 ⟨gr, rfl, hgr, bel2⟩
  have HB2 := Lib.hid (bel1.trans (bel2.mono bel1.size))
  clear bel1 bel2 HGR
  cases gr
  case true =>
    go_wp2_with (go_at_call 10; refine (hend _).out.mono ?_; rintro e w3 ⟨rfl, bel3⟩)
    have hb := HB2.out.trans (bel3.mono HB2.out.size)
    go_ret
    exact ⟨rfl, hb⟩
  have hvs : vn ≤ 300 := hgr rfl
  clear hgr hln
  go_upto_region 3 with (fail)
  obtain ⟨hs1, hs2⟩ := seqs_ok HS.out
  have HR3 := Lib.hid (fun w' (hb : Below w.heap.size w w') => rises_any w' (.slice va vn vc) l (HV.out.below hb) (by rw [← HVN.out]; omega))
  cases hm : mayS (entsOf l)
  · have HP := Lib.hid (sput_no w2 _ l 1 (HV.out.below HB2.out) hs1 (by rw [← HVN.out]; omega) (errS_arg hm) (by decide))
    have HM := Lib.hid hm
    clear hs1 hs2 hm
    go_upto_region 4 with (go_at_call 12; refine HP.out.mono ?_; rintro e w3 ⟨⟨pa, pc, rfl⟩, bel3⟩)
    have HB3 := Lib.hid (HB2.out.trans (bel3.mono HB2.out.size))
    clear bel3 HP HB2
    by_cases h0 : vn = 0
    · subst h0
      go_wp2_with fail
      go_ret
      exact ⟨rfl, HB3.out⟩
    · have hr : risesN (entsOf l) l.length = false := by
        have := HM.out
        rw [mayS_parts, entsOf_length, decide_eq_true (by have := HVN.out; omega), Bool.true_and] at this
        exact this
      have g3 : (0 : Int) < (vn : Int) := by omega
      rw [hr] at HR3
      clear hr
      go_upto_region 5 with (go_at_call 13; refine (HR3.out _ HB3.out).mono ?_; rintro e w4 ⟨rfl, bel4⟩; have HB4 := Lib.hid (HB3.out.trans (bel4.mono HB3.out.size)))
      go_wp2_with (go_at_call 13; refine (HR3.out _ HB4.out).mono ?_; rintro e w5 ⟨rfl, bel5⟩; have HB5 := Lib.hid (HB4.out.trans (bel5.mono HB4.out.size)))
      go_ret
      exact ⟨rfl, HB5.out⟩
  · have he := errS_ok hm (by rw [entsOf_length, ← HVN.out]; omega)
    have HP := Lib.hid (sput_is w2 _ l (HV.out.below HB2.out) hs1 (by rw [← HVN.out]; omega) he)
    obtain ⟨f1, f2, f3, f4, f5⟩ := file_of HS.out he
    have hr : risesN (entsOf l) l.length = true := by
      have := hm
      rw [mayS_parts, entsOf_length, Bool.and_eq_true] at this
      exact this.2
    have g3 : (0 : Int) < (vn : Int) := by have := HVN.out; omega
    rw [hr] at HR3
    have HF := Lib.hid f1
    clear hs1 hs2 hm he hr f1
    go_upto_region 4 with (go_at_call 12; refine HP.out.mono ?_; rintro e w3 ⟨pa, pn, pc, rfl, HPN, HPO, bel3⟩)
    have HB3 := Lib.hid (HB2.out.trans (bel3.mono HB2.out.size))
    have HRD := Lib.hid (rd_of_own HPO.out).2
    have hpn1 : 12 ≤ pn := by rw [HPN.out]; exact f2
    have hpn2 : pn ≤ 17000000 := by rw [HPN.out]; exact f3
    clear bel3 HP HB2 HPO f2 f3 f4 f5
    go_upto_region 6 with (go_at_call 13; refine (HR3.out _ HB3.out).mono ?_; rintro e w4 ⟨rfl, bel4⟩; have HB4 := Lib.hid (HB3.out.trans (bel4.mono HB3.out.size)); have HRD4 := Lib.hid (HRD.out.below bel4))
    have HA := Lib.hid (sortedAll_any w4 _ _ _ 0 HRD4.out (by rw [← HPN.out]; omega) (.inl ⟨rfl, HF.out⟩))
    clear HRD HB3 bel4 HR3
    go_upto_region 7 with (go_at_call 14; refine HA.out.mono ?_; rintro e w5 ⟨ma, mn, mc, rfl, HMN, HMO, bel5⟩)
    have HB5 := Lib.hid (HB4.out.trans (bel5.mono HB4.out.size))
    have HRD5 := Lib.hid (HRD4.out.below bel5)
    have hme := (rdE_of (reads_of_own HMO.out)).2
    rw [toPE_entsOf] at hme
    have HSE := Lib.hid (sameE_any w5 _ _ l hme (HV.out.below HB5.out))
    clear HA bel5 hme HMO HMN HB4 HRD4
    go_upto_region 9 with (go_at_call 15; refine HSE.out.mono ?_; rintro e w6 ⟨rfl, bel6⟩)
    have HB6 := Lib.hid (HB5.out.trans (bel6.mono HB5.out.size))
    have HRD6 := Lib.hid (HRD5.out.below bel6)
    obtain ⟨a', c', hve, _, _, hcell⟩ := HV.out
    obtain ⟨b3, off3, hae2, c0, c1, c2, c3⟩ := hcell 0 (by have := HVN.out; omega)
    simp only [Value.slice.injEq] at hve
    obtain ⟨e1, el, ec⟩ := hve
    rw [hae2] at e1
    subst e1
    clear el ec hcell hae2 c2 c3
    obtain ⟨x, hx⟩ : ∃ x, x = l[0]'(by have := HVN.out; omega) := ⟨_, rfl⟩
    rw [← hx] at c0 c1
    clear hx
    obtain ⟨xk, xs, xg, xu⟩ := x
    simp only [Nat.zero_mul, Nat.add_zero] at c0 c1
    obtain ⟨q, hq⟩ : ∃ q, q = c % pn := ⟨_, rfl⟩
    have hqp : q < pn := by rw [hq]; exact Nat.mod_lt _ (by omega)
    have hrem : Int.tmod (c : Int) (pn : Int) = (q : Int) := by rw [hq]; rfl
    have hpn0 : ¬ pn = 0 := by omega
    have hwc : IntKind.i64.wrap (c : Int) = (c : Int) := IntWalk.i64_in _ (by omega)
    have hwq : IntKind.i64.wrap (q : Int) = (q : Int) := IntWalk.i64_in _ (by omega)
    obtain ⟨ta, tc, hcut, hcr⟩ := cut_to HRD6.out q (by rw [← HPN.out]; omega)
    have hcut2 := fun w' => hcut w' .i64
    have HNO : Hid (∀ E, ¬ IsS ((fileS (entsOf l)).take q) E) := fun E hE => isS_cut HF.out (by rw [← HPN.out]; exact hqp) hE
    have HBAD := Lib.hid (sall_bad w6 _ _ hcr (by rw [List.length_take]; have := HPN.out; omega) HNO.out)
    have HCR := Lib.hid hcr
    clear HSE HB5 HRD5 bel6 hq hcut hcr
    go_upto_region 10 with (go_at_call 14; refine HBAD.out.mono ?_; rintro e w7 ⟨⟨ua, uc, rfl⟩, bel7⟩)
    have HB7 := Lib.hid (HB6.out.trans (bel7.mono HB6.out.size))
    have HG := Lib.hid (fun w' hb => sget_none w' (.slice ta q tc) _ [] 4 xk xs (HCR.out.below (bel7.trans ((show Below w7.heap.size w7 w' from hb).mono bel7.size))) (by rw [List.length_take]; have := HPN.out; omega) (.inr ⟨rfl, rfl, HNO.out⟩) rfl)
    have x0 := Below.keeps HB7.out _ _ _ c0
    have x1 := Below.keeps HB7.out _ _ _ c1
    have HSS : Hid (∀ w', Below w7.heap.size w7 w' → Below w7.heap.size w7 w' ∧ w'.cell? ⟨b3, off3, none⟩ = some (.string xk) ∧ w'.cell? ⟨b3, off3 + 1, none⟩ = some (.int .u64 xs)) := fun w' hb => ⟨hb, Below.keeps hb _ _ _ x0, Below.keeps hb _ _ _ x1⟩
    have hv0 : (0 : Int) < (vn : Int) := g3
    clear c0 c1 x0 x1 bel7 HBAD
    refine wp_region_held_drew (S := fun w' => Below w7.heap.size w7 w' ∧ w'.cell? ⟨b3, off3, none⟩ = some (.string xk) ∧ w'.cell? ⟨b3, off3 + 1, none⟩ = some (.int .u64 xs)) (by kernel_rfl) (HSS.out _ (Below.refl _ _).drew) (fun hHeld => ?_)
    refine wpAnyH_take (i := 0) (v := ?vq1) (by simp only [List.getElem?_toArray]; rfl) (by kernel_rfl) (by kernel_rfl) (by kernel_rfl) (by exact fun _ _ _ h => h) (Or.inl ⟨by rfl, ?yq1⟩) (by assumption) ?rq1
    case yq1 => (intro w hSw; (try dsimp only at hSw); go_simp; try with_reducible rfl)
    try simp only [Act.put, List.setIfInBounds_toArray, List.set_cons_zero, List.set_cons_succ]
    refine wpAnyH_take (i := 1) (v := ?vq2) (by simp only [List.getElem?_toArray]; rfl) (by kernel_rfl) (by kernel_rfl) (by kernel_rfl) (by exact fun _ _ _ h => h) (Or.inl ⟨by rfl, ?yq2⟩) (by assumption) ?rq2
    case yq2 => (intro w hSw; (try dsimp only at hSw); go_simp; try with_reducible rfl)
    try simp only [Act.put, List.setIfInBounds_toArray, List.set_cons_zero, List.set_cons_succ]
    refine wpAnyH_take (i := 2) (v := ?vq3) (by simp only [List.getElem?_toArray]; rfl) (by kernel_rfl) (by kernel_rfl) (by kernel_rfl) (by exact fun _ _ _ h => h) (Or.inl ⟨by rfl, ?yq3⟩) (by assumption) ?rq3
    case yq3 => (intro w hSw; (try dsimp only at hSw); go_simp; try with_reducible rfl)
    try simp only [Act.put, List.setIfInBounds_toArray, List.set_cons_zero, List.set_cons_succ]
    refine wpAnyH_take (i := 3) (v := ?vq4) (by simp only [List.getElem?_toArray]; rfl) (by kernel_rfl) (by kernel_rfl) (by kernel_rfl) (by exact fun _ _ _ h => h) (Or.inl ⟨by rfl, ?yq4⟩) (by assumption) ?rq4
    case yq4 => (intro w hSw; (try dsimp only at hSw); go_simp; try with_reducible rfl)
    try simp only [Act.put, List.setIfInBounds_toArray, List.set_cons_zero, List.set_cons_succ]
    refine wpAnyH_take (i := 4) (v := ?vq5) (by simp only [List.getElem?_toArray]; rfl) (by kernel_rfl) (by kernel_rfl) (by kernel_rfl) (by exact fun _ _ _ h => h) (Or.inl ⟨by rfl, ?yq5⟩) (by assumption) ?rq5
    case yq5 => (intro w hSw; (try dsimp only at hSw); go_simp; try with_reducible rfl)
    try simp only [Act.put, List.setIfInBounds_toArray, List.set_cons_zero, List.set_cons_succ]
    refine wpAnyH_take (i := 5) (v := ?vq6) (by simp only [List.getElem?_toArray]; rfl) (by kernel_rfl) (by kernel_rfl) (by kernel_rfl) (by exact fun _ _ _ h => h) (Or.inl ⟨by rfl, ?yq6⟩) (by assumption) ?rq6
    case yq6 => (intro w hSw; (try dsimp only at hSw); go_simp; try with_reducible rfl)
    try simp only [Act.put, List.setIfInBounds_toArray, List.set_cons_zero, List.set_cons_succ]
    refine wpAnyH_take (i := 6) (v := ?vq7) (by simp only [List.getElem?_toArray]; rfl) (by kernel_rfl) (by kernel_rfl) (by kernel_rfl) (by exact fun _ _ _ h => h) (Or.inl ⟨by rfl, ?yq7⟩) (by assumption) ?rq7
    case yq7 => (intro w hSw; (try dsimp only at hSw); go_simp; try with_reducible rfl)
    try simp only [Act.put, List.setIfInBounds_toArray, List.set_cons_zero, List.set_cons_succ]
    refine wpAnyH_take (i := 7) (v := ?vq8) (by simp only [List.getElem?_toArray]; rfl) (by kernel_rfl) (by kernel_rfl) (by kernel_rfl) (by exact fun _ _ _ h => h) (Or.inl ⟨by rfl, ?yq8⟩) (by assumption) ?rq8
    case yq8 => (intro w hSw; (try dsimp only at hSw); go_simp; try with_reducible rfl)
    try simp only [Act.put, List.setIfInBounds_toArray, List.set_cons_zero, List.set_cons_succ]
    refine wpAnyH_take (i := 8) (v := ?vq9) (by simp only [List.getElem?_toArray]; rfl) (by kernel_rfl) (by kernel_rfl) (by kernel_rfl) (by exact fun _ _ _ h => h) (Or.inl ⟨by rfl, ?yq9⟩) (by assumption) ?rq9
    case yq9 => (intro w hSw; (try dsimp only at hSw); go_simp; try with_reducible rfl)
    try simp only [Act.put, List.setIfInBounds_toArray, List.set_cons_zero, List.set_cons_succ]
    refine wpAnyH_take (i := 9) (v := ?vq10) (by simp only [List.getElem?_toArray]; rfl) (by kernel_rfl) (by kernel_rfl) (by kernel_rfl) (by exact fun _ _ _ h => h) (Or.inl ⟨by rfl, ?yq10⟩) (by assumption) ?rq10
    case yq10 => (intro w hSw; (try dsimp only at hSw); go_simp; try with_reducible rfl)
    try simp only [Act.put, List.setIfInBounds_toArray, List.set_cons_zero, List.set_cons_succ]
    refine wpAnyH_take (i := 10) (v := ?vq11) (by simp only [List.getElem?_toArray]; rfl) (by kernel_rfl) (by kernel_rfl) (by kernel_rfl) (by exact fun _ _ _ h => h) (Or.inl ⟨by rfl, ?yq11⟩) (by assumption) ?rq11
    case yq11 => (intro w hSw; (try dsimp only at hSw); go_simp; try with_reducible rfl)
    try simp only [Act.put, List.setIfInBounds_toArray, List.set_cons_zero, List.set_cons_succ]
    refine wpAnyH_take (i := 11) (v := ?vq12) (by simp only [List.getElem?_toArray]; rfl) (by kernel_rfl) (by kernel_rfl) (by kernel_rfl) (by exact fun _ _ _ h => h) (Or.inl ⟨by rfl, ?yq12⟩) (by assumption) ?rq12
    case yq12 => (intro w hSw; (try dsimp only at hSw); go_simp; try with_reducible rfl)
    try simp only [Act.put, List.setIfInBounds_toArray, List.set_cons_zero, List.set_cons_succ]
    refine wpAnyH_take (i := 12) (v := ?vq13) (by simp only [List.getElem?_toArray]; rfl) (by kernel_rfl) (by kernel_rfl) (by kernel_rfl) (by exact fun _ _ _ h => h) (Or.inl ⟨by rfl, ?yq13⟩) (by assumption) ?rq13
    case yq13 => (intro w hSw; (try dsimp only at hSw); go_simp; try with_reducible rfl)
    try simp only [Act.put, List.setIfInBounds_toArray, List.set_cons_zero, List.set_cons_succ]
    refine wpAnyH_take (i := 13) (v := ?vq14) (by simp only [List.getElem?_toArray]; rfl) (by kernel_rfl) (by kernel_rfl) (by kernel_rfl) (by exact fun _ _ _ h => h) (Or.inl ⟨by rfl, ?yq14⟩) (by assumption) ?rq14
    case yq14 => (intro w hSw; (try dsimp only at hSw); go_simp; try with_reducible rfl)
    try simp only [Act.put, List.setIfInBounds_toArray, List.set_cons_zero, List.set_cons_succ]
    refine wpAnyH_take (i := 14) (v := ?vq15) (by simp only [List.getElem?_toArray]; rfl) (by kernel_rfl) (by kernel_rfl) (by kernel_rfl) (by exact fun _ _ _ h => h) (Or.inl ⟨by rfl, ?yq15⟩) (by assumption) ?rq15
    case yq15 => (intro w hSw; (try dsimp only at hSw); go_simp; try with_reducible rfl)
    try simp only [Act.put, List.setIfInBounds_toArray, List.set_cons_zero, List.set_cons_succ]
    refine wpAnyH_take (i := 15) (v := ?vq16) (by simp only [List.getElem?_toArray]; rfl) (by kernel_rfl) (by kernel_rfl) (by kernel_rfl) (by exact fun _ _ _ h => h) (Or.inl ⟨by rfl, ?yq16⟩) (by assumption) ?rq16
    case yq16 => (intro w hSw; (try dsimp only at hSw); go_simp; try with_reducible rfl)
    try simp only [Act.put, List.setIfInBounds_toArray, List.set_cons_zero, List.set_cons_succ]
    refine wpAnyH_take (i := 16) (v := ?vq17) (by simp only [List.getElem?_toArray]; rfl) (by kernel_rfl) (by kernel_rfl) (by kernel_rfl) (by exact fun _ _ _ h => h) (Or.inl ⟨by rfl, ?yq17⟩) (by assumption) ?rq17
    case yq17 => (intro w hSw; (try dsimp only at hSw); go_simp; try with_reducible rfl)
    try simp only [Act.put, List.setIfInBounds_toArray, List.set_cons_zero, List.set_cons_succ]
    have BD : Below w7.heap.size w7 w7.drew := (Below.refl _ _).drew
    refine wpAnyH_ready (rs := [17, 22]) (by kernel_rfl) (by simp) ?_
    refine AllReadyH.cons (by simp only [List.getElem?_toArray]; rfl) (fun K hK => ?wq18) (AllReadyH.cons (by simp only [List.getElem?_toArray]; rfl) (fun K hK => ?wq19) AllReadyH.nil)
    case wq18 =>
      go_simp
      refine (HG.out _ BD).mono ?_
      rintro e w8 ⟨rfl, hb⟩
      have B8 := BD.trans (hb.mono BD.size)
      refine hK.out _ _ (HSS.out _ B8) (fun hHeld => ?_)
      clear hK K
      try simp only [Act.put, List.setIfInBounds_toArray, List.set_cons_zero, List.set_cons_succ]
      clear hb
      refine wpAnyH_take (i := 18) (v := ?vq20) (by simp only [List.getElem?_toArray]; rfl) (by kernel_rfl) (by kernel_rfl) (by kernel_rfl) (by exact fun _ _ _ h => h) (Or.inl ⟨by rfl, ?yq20⟩) (by assumption) ?rq20
      case yq20 => (intro w hSw; (try dsimp only at hSw); go_simp; try with_reducible rfl)
      try simp only [Act.put, List.setIfInBounds_toArray, List.set_cons_zero, List.set_cons_succ]
      refine wpAnyH_take (i := 19) (v := ?vq21) (by simp only [List.getElem?_toArray]; rfl) (by kernel_rfl) (by kernel_rfl) (by kernel_rfl) (by exact fun _ _ _ h => h) (Or.inl ⟨by rfl, ?yq21⟩) (by assumption) ?rq21
      case yq21 => (intro w hSw; (try dsimp only at hSw); go_simp; try with_reducible rfl)
      try simp only [Act.put, List.setIfInBounds_toArray, List.set_cons_zero, List.set_cons_succ]
      refine wpAnyH_take (i := 20) (v := ?vq22) (by simp only [List.getElem?_toArray]; rfl) (by kernel_rfl) (by kernel_rfl) (by kernel_rfl) (by exact fun _ _ _ h => h) (Or.inl ⟨by rfl, ?yq22⟩) (by assumption) ?rq22
      case yq22 => (intro w hSw; (try dsimp only at hSw); go_simp; try with_reducible rfl)
      try simp only [Act.put, List.setIfInBounds_toArray, List.set_cons_zero, List.set_cons_succ]
      refine wpAnyH_take (i := 21) (v := ?vq23) (by simp only [List.getElem?_toArray]; rfl) (by kernel_rfl) (by kernel_rfl) (by kernel_rfl) (by exact fun _ _ _ h => h) (Or.inl ⟨by rfl, ?yq23⟩) (by assumption) ?rq23
      case yq23 => (intro w hSw; (try dsimp only at hSw); go_simp; try with_reducible rfl)
      try simp only [Act.put, List.setIfInBounds_toArray, List.set_cons_zero, List.set_cons_succ]
      refine wpAnyH_ready (rs := [22]) (by kernel_rfl) (by simp) ?_
      refine AllReadyH.cons (by simp only [List.getElem?_toArray]; rfl) (fun K hK => ?_) AllReadyH.nil
      go_simp
      have B9 := fun o => B8.alloc B8.size o
      refine hK.out _ _ (HSS.out _ (B9 _)) (fun hHeld => ?_)
      clear hK K
      try simp only [Act.put, List.setIfInBounds_toArray, List.set_cons_zero, List.set_cons_succ]
      refine wpAnyH_ready (rs := [23]) (by kernel_rfl) (by simp) ?_
      refine AllReadyH.cons (by simp only [List.getElem?_toArray]; rfl) (fun K hK => ?_) AllReadyH.nil
      go_simp
      refine hK.out _ _ (HSS.out _ hHeld.1) (fun hHeld => ?_)
      clear hK K
      try simp only [Act.put, List.setIfInBounds_toArray, List.set_cons_zero, List.set_cons_succ]
      refine wpAnyH_take (i := 24) (v := ?vq24) (by simp only [List.getElem?_toArray]; rfl) (by kernel_rfl) (by kernel_rfl) (by kernel_rfl) (by exact fun _ _ _ h => h) (Or.inl ⟨by rfl, ?yq24⟩) (by assumption) ?rq24
      case yq24 => (intro w hSw; (try dsimp only at hSw); go_simp; try with_reducible rfl)
      try simp only [Act.put, List.setIfInBounds_toArray, List.set_cons_zero, List.set_cons_succ]
      refine wpAnyH_take (i := 25) (v := ?vq25) (by simp only [List.getElem?_toArray]; rfl) (by kernel_rfl) (by kernel_rfl) (by kernel_rfl) (by exact fun _ _ _ h => h) (Or.inl ⟨by rfl, ?yq25⟩) (by assumption) ?rq25
      case yq25 => (intro w hSw; (try dsimp only at hSw); go_simp; try with_reducible rfl)
      try simp only [Act.put, List.setIfInBounds_toArray, List.set_cons_zero, List.set_cons_succ]
      refine wpAnyH_done (by kernel_rfl) ?_ _
      have hbf := HB7.out.trans (hHeld.1.mono HB7.out.size)
      go_wp2_with fail
      go_ret
      exact ⟨rfl, hbf⟩
    case wq19 =>
      go_simp
      have B9 : Below w7.heap.size w7 ((w7.alloc (.cells #[.string ⟨#[]⟩, .int .u64 0, .bool false, .string ⟨#[]⟩] 37)).drew) := ((Below.refl _ _).alloc (Nat.le_refl _) _).drew
      have HQ9 := Lib.hid ((Blk.new w7 #[.string ⟨#[]⟩, .int .u64 0, .bool false, .string ⟨#[]⟩] 37).drew)
      refine hK.out _ _ (HSS.out _ B9) (fun hHeld => ?_)
      clear hK K
      try simp only [Act.put, List.setIfInBounds_toArray, List.set_cons_zero, List.set_cons_succ]
      refine wpAnyH_ready (rs := [17]) (by kernel_rfl) (by simp) ?_
      refine AllReadyH.cons (by simp only [List.getElem?_toArray]; rfl) (fun K hK => ?_) AllReadyH.nil
      go_simp
      refine (HG.out _ B9).mono ?_
      rintro e w8 ⟨rfl, hb⟩
      have B8 := B9.trans (hb.mono B9.size)
      have HQ8 := HQ9.out.below hb
      have y0 := HQ8.cellv 0 (.string ⟨#[]⟩) rfl
      have y1 := HQ8.cellv 1 (.int .u64 0) rfl
      have y2 := HQ8.cellv 2 (.bool false) rfl
      have y3 := HQ8.cellv 3 (.string ⟨#[]⟩) rfl
      have f0 := HQ8.free 0
      have f1 := HQ8.free 1
      have f2 := HQ8.free 2
      have f3 := HQ8.free 3
      refine hK.out _ _ (HSS.out _ B8) (fun hHeld => ?_)
      clear hK K
      try simp only [Act.put, List.setIfInBounds_toArray, List.set_cons_zero, List.set_cons_succ]
      refine wpAnyH_take (i := 18) (v := ?vq26) (by simp only [List.getElem?_toArray]; rfl) (by kernel_rfl) (by kernel_rfl) (by kernel_rfl) (by exact fun _ _ _ h => h) (Or.inl ⟨by rfl, ?yq26⟩) (by assumption) ?rq26
      case yq26 => (intro w hSw; (try dsimp only at hSw); go_simp; try with_reducible rfl)
      try simp only [Act.put, List.setIfInBounds_toArray, List.set_cons_zero, List.set_cons_succ]
      refine wpAnyH_take (i := 19) (v := ?vq27) (by simp only [List.getElem?_toArray]; rfl) (by kernel_rfl) (by kernel_rfl) (by kernel_rfl) (by exact fun _ _ _ h => h) (Or.inl ⟨by rfl, ?yq27⟩) (by assumption) ?rq27
      case yq27 => (intro w hSw; (try dsimp only at hSw); go_simp; try with_reducible rfl)
      try simp only [Act.put, List.setIfInBounds_toArray, List.set_cons_zero, List.set_cons_succ]
      refine wpAnyH_take (i := 20) (v := ?vq28) (by simp only [List.getElem?_toArray]; rfl) (by kernel_rfl) (by kernel_rfl) (by kernel_rfl) (by exact fun _ _ _ h => h) (Or.inl ⟨by rfl, ?yq28⟩) (by assumption) ?rq28
      case yq28 => (intro w hSw; (try dsimp only at hSw); go_simp; try with_reducible rfl)
      try simp only [Act.put, List.setIfInBounds_toArray, List.set_cons_zero, List.set_cons_succ]
      refine wpAnyH_take (i := 21) (v := ?vq29) (by simp only [List.getElem?_toArray]; rfl) (by kernel_rfl) (by kernel_rfl) (by kernel_rfl) (by exact fun _ _ _ h => h) (Or.inl ⟨by rfl, ?yq29⟩) (by assumption) ?rq29
      case yq29 => (intro w hSw; (try dsimp only at hSw); go_simp; try with_reducible rfl)
      try simp only [Act.put, List.setIfInBounds_toArray, List.set_cons_zero, List.set_cons_succ]
      refine wpAnyH_ready (rs := [23]) (by kernel_rfl) (by simp) ?_
      refine AllReadyH.cons (by simp only [List.getElem?_toArray]; rfl) (fun K hK => ?_) AllReadyH.nil
      go_simp
      have BS := (((B8.setCell (p := ⟨w7.heap.size, 0, none⟩) (Nat.le_refl _) (.string ⟨#[]⟩)).setCell (p := ⟨w7.heap.size, 1, none⟩) (Nat.le_refl _) (.int .u64 0)).setCell (p := ⟨w7.heap.size, 2, none⟩) (Nat.le_refl _) (.bool false)).setCell (p := ⟨w7.heap.size, 3, none⟩) (Nat.le_refl _) (.string ⟨#[]⟩)
      refine hK.out _ _ (HSS.out _ BS) (fun hHeld => ?_)
      clear hK K
      try simp only [Act.put, List.setIfInBounds_toArray, List.set_cons_zero, List.set_cons_succ]
      refine wpAnyH_take (i := 24) (v := ?vq30) (by simp only [List.getElem?_toArray]; rfl) (by kernel_rfl) (by kernel_rfl) (by kernel_rfl) (by exact fun _ _ _ h => h) (Or.inl ⟨by rfl, ?yq30⟩) (by assumption) ?rq30
      case yq30 => (intro w hSw; (try dsimp only at hSw); go_simp; try with_reducible rfl)
      try simp only [Act.put, List.setIfInBounds_toArray, List.set_cons_zero, List.set_cons_succ]
      refine wpAnyH_take (i := 25) (v := ?vq31) (by simp only [List.getElem?_toArray]; rfl) (by kernel_rfl) (by kernel_rfl) (by kernel_rfl) (by exact fun _ _ _ h => h) (Or.inl ⟨by rfl, ?yq31⟩) (by assumption) ?rq31
      case yq31 => (intro w hSw; (try dsimp only at hSw); go_simp; try with_reducible rfl)
      try simp only [Act.put, List.setIfInBounds_toArray, List.set_cons_zero, List.set_cons_succ]
      refine wpAnyH_done (by kernel_rfl) ?_ _
      have hbf := HB7.out.trans (hHeld.1.mono HB7.out.size)
      go_wp2_with fail
      go_ret
      exact ⟨rfl, hbf⟩
end Go.Proofs.Ytbcnapkbdbefhaa

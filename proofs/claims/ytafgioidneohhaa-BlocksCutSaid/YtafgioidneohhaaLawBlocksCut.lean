/- The law BlocksCut answers true for any entries, any number and any three bytes. No condition. -/
import Derived.Test.YtafgioidneohhaaBlkL
import Derived.Test.YtafgioidneohhaaBlkC
import Derived.Deep.RegionHeld3
namespace Go.Proofs.Ytafgioidneohhaa
open Go.RowKit

set_option maxRecDepth 100000 in
set_option maxHeartbeats 8000000 in
theorem blocksCut_walk (w : World) (v : Value) (l : List PE) (a1 : Int) (cc : UInt8 × UInt8 × UInt8) (hv : RdE w v l) (hl : l.length ≤ 2932031007402 ∧ ∀ x ∈ l, x.ok) (wa : (Lit.int .u16 a1).wf = true) (_ : True) :
    Calls Try.prog 7 #[v, .int .u16 a1, .agg #[.int .u8 cc.1.toNat, .int .u8 cc.2.1.toNat, .int .u8 cc.2.2.toNat]] w (RetTrue w) := by
  obtain ⟨c, rfl, hc⟩ := nat_u16 wa
  obtain ⟨e0, e1, e2⟩ := cc
  simp only
  clear wa
  have hend : ∀ (w5 : World), Hid (Calls Try.prog 20 #[] w5 (RetTrue w5)) := fun w5 => alive08_any w5
  obtain ⟨hln, hlo⟩ := hl
  have HS := Lib.hid hlo
  have HV0 := Lib.hid hv
  obtain ⟨va, vc, rfl, h1, h2, h3⟩ := hv
  clear h3 hlo
  obtain ⟨vn, hvn⟩ : ∃ n, n = l.length := ⟨_, rfl⟩
  have HVN := Lib.hid hvn
  rw [← hvn] at h1 HV0 hln ⊢
  clear hvn
  obtain ⟨k0, hk0⟩ : ∃ n, n = e0.toNat := ⟨_, rfl⟩
  obtain ⟨k1, hk1⟩ : ∃ n, n = e1.toNat := ⟨_, rfl⟩
  obtain ⟨k2, hk2⟩ : ∃ n, n = e2.toNat := ⟨_, rfl⟩
  rw [← hk0, ← hk1, ← hk2]
  have HK0 := Lib.hid hk0
  have HK1 := Lib.hid hk1
  have HK2 := Lib.hid hk2
  have hb0 : k0 < 256 := by rw [hk0]; exact UInt8.toNat_lt _
  have hb1 : k1 < 256 := by rw [hk1]; exact UInt8.toNat_lt _
  have hb2 : k2 < 256 := by rw [hk2]; exact UInt8.toNat_lt _
  clear hk0 hk1 hk2
  obtain ⟨W, hW⟩ : ∃ W, W = w.alloc (.cells #[.int .u8 (k0 : Int), .int .u8 (k1 : Int), .int .u8 (k2 : Int)] 54) := ⟨_, rfl⟩
  have hM : Blk W w.heap.size #[.int .u8 (k0 : Int), .int .u8 (k1 : Int), .int .u8 (k2 : Int)] 54 := by rw [hW]; exact Blk.new _ _ _
  have hbW : Below w.heap.size w W := by rw [hW]; exact (Below.refl _ _).alloc (Nat.le_refl _) _
  have HW := Lib.hid hW
  have HM := Lib.hid hM
  have HBW := Lib.hid hbW
  clear hW hM hbW
  obtain ⟨g, hg⟩ : ∃ g, g = w.heap.size := ⟨_, rfl⟩
  rw [← hg] at HM
  have HGW := Lib.hid hg
  go_enter Try.func7, Try.ntmps7
  go_upto_region 1 with (fail)
  rw [← HW.out]
  rw [← hg]
  clear hg HW
  go_wp2_with fail
  refine (hend _).out.mono ?_
  rintro e w1 ⟨rfl, bel1⟩
  have bel := HBW.out.trans (bel1.mono HBW.out.size)
  have hM := HM.out.below bel1
  have hv1 := HV0.out.below bel
  have hz := entriesSize_any w1 _ l hv1 (by rw [← HVN.out]; omega) HS.out
  rw [← HVN.out] at hz
  have HZ := Lib.hid hz
  clear hz HM HBW
  go_wp2_with fail
  refine HZ.out.mono ?_
  rintro e w2 ⟨z, rfl, hz, bel2⟩
  replace bel := Below.trans bel (bel2.mono bel.size)
  have HB := Lib.hid bel
  have HM := Lib.hid (hM.below bel2)
  clear HZ bel2 hM hv1 bel1 bel
  by_cases hb3 : 40000 < z
  · clear hz
    go_wp2_with fail
    refine (hend _).out.mono ?_
    rintro e w3 ⟨rfl, bel3⟩
    have bel := Below.trans HB.out (bel3.mono HB.out.size)
    clear bel3
    go_wp2
    go_ret
    exact ⟨rfl, bel⟩
  have hzz := hz (by omega)
  have hvs : vn ≤ 40000 := by omega
  clear hz hzz
  have hz1 : decide (40000 < (z : Int)) = false := by simp; omega
  have hz2 : decide (40000 < z) = false := by simp; omega
  clear hb3
  go_upto_region 3 with (fail)
  clear hz1 hz2
  have hsq := seqs_of HS.out
  have HSQ := Lib.hid hsq.2
  cases hm : mayL (entsOf l)
  · have HP := Lib.hid (put_no w2 _ l (HV0.out.below HB.out) hsq.1 hm)
    clear hsq hm
    go_wp2_with fail
    refine HP.out.mono ?_
    rintro e w3 ⟨rfl, bel3⟩
    have bel := Below.trans HB.out (bel3.mono HB.out.size)
    go_wp2
    go_ret
    exact ⟨rfl, bel⟩
  have HP := Lib.hid (put_is w2 _ l (HV0.out.below HB.out) hsq.1 hm)
  have HMM := Lib.hid hm
  clear hsq hm
  go_wp2_with fail
  refine HP.out.mono ?_
  rintro e w3 ⟨pa, pn, pc, rfl, HN, HO, bel3⟩
  have HB3 := Lib.hid (Below.trans HB.out (bel3.mono HB.out.size))
  have HM3 := Lib.hid (HM.out.below bel3)
  obtain ⟨L, hL⟩ : ∃ L, L = blkPut (entsOf l) := ⟨_, rfl⟩
  have HPR := Lib.hid (rd_of_own HO.out).2
  rw [← hL] at HPR
  have hpn : pn = L.length := by rw [HN.out, hL]
  have HPN := Lib.hid hpn
  have hp9 : 9 ≤ pn := by rw [HN.out]; exact blk_nine HMM.out
  have hp4 : pn ≤ 40000 := by rw [HN.out]; exact blk_small HMM.out
  have HIS : Hid (∀ (w' : World) (v' : Value), Rd w' v' L → Calls Try.prog 24 #[v'] w' fun e w'' => ∃ a n c, e = .returned (.tuple #[.slice a n c, .int .i64 0]) ∧ Below w'.heap.size w' w'') := fun w' v' hr =>
    (get_is w' v' L (entsOf l) hr (by rw [← hpn]; omega) HMM.out HSQ.out hL.symm).mono fun e w'' ⟨a, n, c, h1, _, _, h2⟩ => ⟨a, n, c, h1, h2⟩
  have HMORE : Hid (NoBlk (L ++ [e0])) := fun F h1 h2 => by rw [hL]; exact no_more HMM.out HSQ.out e0 F h1 h2
  have HLESS : Hid (∀ j, j < pn → NoBlk (L.take j)) := fun j hj F h1 h2 => by rw [hL]; exact no_less HMM.out HSQ.out j (by rw [← hL, ← hpn]; exact hj) F h1 h2
  have HOTH : Hid (¬ ((L.set (pn - 4) e1).set (pn - 3) e2 = L) → NoBlk ((L.set (pn - 4) e1).set (pn - 3) e2)) := fun hne F h1 h2 h3 => by
    have := no_other HMM.out HSQ.out pn (by rw [← hL]; exact hpn) e1 e2 F h1 h2 (by rw [h3, hL])
    rw [h3, ← hL] at this
    exact hne this
  clear HP HN HO bel3 HB HM hL hpn
  have d1 : decide ((pn : Int) < 8) = false := by simp; omega
  have d2 : decide (pn < 8) = false := by simp; omega
  go_upto_region 6 with (fail)
  clear d1 d2
  have HS0 : Hid (∀ w', Below w3.heap.size w3 w' → w'.cell? ⟨g, 0, none⟩ = some (.int .u8 k0)) := fun w' h => (HM3.out.below h).cellv 0 _ rfl
  have m0 := HM3.out.cellv 0 _ rfl
  have h33 : Below w3.heap.size w3 w3 := Below.refl _ _
  have hpl : L.length ≤ 40000 := by rw [← HPN.out]; exact hp4
  go_region_held3 (fun w' => w'.cell? ⟨g, 0, none⟩ = some (.int .u8 k0) ∧ Below w3.heap.size w3 w')
    ((go_split_ands; (refine ⟨HS0.out _ ?_, ?_⟩ <;> first | assumption | exact Below.drew h33 | exact Below.trans (by assumption) (hb9.mono (Below.size (by assumption))) | exact Below.trans (by assumption) hb8 | exact Below.alloc (by assumption) (Below.size (by assumption)) _)))
    ((first
      | (go_at_call 27; refine (twin_my _ L _ (HPR.out.below (by go_split_ands; assumption)) (by omega)).mono ?_; rintro e w7 ⟨ta, tn, tc, rfl, HTN, HT, hb9⟩; replace HT := Lib.hid (own_mono HT.out (Below.size (w := w3) (by go_split_ands; assumption))))
      | (refine step_app rfl _ _ rfl _ _ _ _ L [e0] rfl rfl (by first | exact HT.out | exact own_below HT.out (((Below.refl _ _).drew).alloc (Nat.le_refl _) _) | exact own_below HT.out ((Below.refl _ _).alloc (Nat.le_refl _) _)) (by first | exact rd_one _ e0 _ (by rw [HK0.out]) _ | exact (rd_one _ e0 _ (by rw [HK0.out]) _).below hb9 | exact ((rd_one _ e0 _ (by rw [HK0.out]) _).below ((Below.refl _ _).drew)).below hb9) (by simp; omega) (Below.size (w := w3) (by go_split_ands; assumption)) ?_; intro ua un uc w8 HUN HU hb8)
      | (go_at_call 24; refine (get_no _ _ _ (rd_of_own HU.out).2 (by simp; omega) HMORE.out).mono ?_; rintro e w10 ⟨rfl, hb9⟩)))
  all_goals
    rename_i hH
    have HBa := Lib.hid (HB3.out.trans (hH.2.mono HB3.out.size))
    have HMa := Lib.hid (HM3.out.below hH.2)
    have HPa := Lib.hid (HPR.out.below hH.2)
    clear hH HTN HT HUN HU hb8 hb9 HS0 m0 h33
    go_upto_region 7 with (fail)
    go_wp2_with fail
    refine (twin_my _ L w10 HPa.out (by omega)).mono ?_
    rintro e wb ⟨da, dn, dc, rfl, HDN, HDO, belb⟩
    obtain rfl : dn = pn := by rw [HDN.out, HPN.out]
    obtain ⟨gd, gdc, e1', hg1, hg2, hgf⟩ := own_block HDO.out (by omega)
    cases e1'
    obtain ⟨i4, hi4⟩ : ∃ n, n = dn - 4 := ⟨_, rfl⟩
    obtain ⟨i3, hi3⟩ : ∃ n, n = dn - 3 := ⟨_, rfl⟩
    rw [← hi4, ← hi3] at HOTH
    have he4 : (dn : Int) - 4 = (i4 : Int) := by omega
    have he3 : (dn : Int) - 3 = (i3 : Int) := by omega
    have hlt4 : i4 < dn := by omega
    have hlt3 : i3 < dn := by omega
    have hne : i4 ≠ i3 := by omega
    have hi4L : i4 < L.length := by rw [← HPN.out]; exact hlt4
    have hi3L : i3 < L.length := by rw [← HPN.out]; exact hlt3
    have HI4 := Lib.hid hi4L
    have HI3 := Lib.hid hi3L
    have hb4i : (i4 : Int) < (dn : Int) := by omega
    have hb3i : (i3 : Int) < (dn : Int) := by omega
    have w4i : IntKind.i64.wrap (i4 : Int) = (i4 : Int) := IntWalk.i64_in _ (by omega)
    have w3i : IntKind.i64.wrap (i3 : Int) = (i3 : Int) := IntWalk.i64_in _ (by omega)
    clear hi4 hi3 HDN hi4L hi3L
    -- the first store
    have cellD : ∀ (wx : World) (M : List UInt8) (i : Nat) (hM : M.length = L.length) (hi : i < L.length), Own wx w10.heap.size 5 1 (.slice (some ⟨gd, 0, none⟩) dn dc) dn (u8s M) → wx.cell? ⟨gd, i, none⟩ = some (.int .u8 (M[i]'(by omega)).toNat) := by
      intro wx M i hM hi hO
      obtain ⟨a', c', e1'', _, _, hcell⟩ := (rd_of_own hO).2
      obtain ⟨b, off, hae, c0⟩ := hcell i (by omega)
      simp only [Value.slice.injEq] at e1''
      obtain ⟨e1'', _, _⟩ := e1''
      rw [hae] at e1''
      cases e1''
      simpa using c0
    have CD := Lib.hid cellD
    clear cellD
    have c4 := CD.out wb L i4 rfl HI4.out HDO.out
    have f4 := hgf i4 hlt4
    have m1 := (HMa.out.below belb).cellv 1 (.int .u8 (k1 : Int)) rfl
    have hx := own_store HDO.out i4 hlt4 e1
    rw [← HK1.out] at hx
    have HX := Lib.hid hx
    have hO := Only.set wb gd i4 (.int .u8 (k1 : Int))
    have HBELS := Lib.hid (Only.below belb hO hg1 belb.size)
    clear hx hO HDO hgf hg2 belb
    go_upto_region 8 with (fail)
    go_upto_region 9 with (fail)
    clear c4 f4 m1
    generalize wb.setCell ⟨gd, i4, none⟩ (.int .u8 (k1 : Int)) = ws at HX HBELS ⊢
    -- the second
    obtain ⟨gd', gdc', e1', _, _, hgf⟩ := own_block HX.out (by omega)
    cases e1'
    have c3 := CD.out ws (L.set i4 e1) i3 List.length_set HI3.out HX.out
    have f3 := hgf i3 hlt3
    have m2 := (HMa.out.below HBELS.out).cellv 2 (.int .u8 (k2 : Int)) rfl
    have hx := own_store HX.out i3 hlt3 e2
    rw [← HK2.out] at hx
    have HY := Lib.hid hx
    have hO := Only.set ws gd i3 (.int .u8 (k2 : Int))
    have HBELT := Lib.hid (Only.below HBELS.out hO hg1 HBELS.out.size)
    clear hx hO HX hgf HBELS
    go_upto_region 10 with (fail)
    clear c3 f3 m2
    generalize ws.setCell ⟨gd, i3, none⟩ (.int .u8 (k2 : Int)) = wt at HY HBELT ⊢
    obtain ⟨D, hD⟩ : ∃ D, D = (L.set i4 e1).set i3 e2 := ⟨_, rfl⟩
    rw [← hD] at HY HOTH
    have HDL : Hid (D.length = L.length) := by show _ = _; rw [hD, List.length_set, List.length_set]
    have D4 : Hid (∀ h : i4 < D.length, (D[i4]'h).toNat = k1) := fun h => by
      rw [HK1.out]; congr 1
      simp only [hD]
      rw [List.getElem_set_ne (fun e => hne e.symm), List.getElem_set_self]
    have D3 : Hid (∀ h : i3 < D.length, (D[i3]'h).toNat = k2) := fun h => by
      rw [HK2.out]; congr 1
      simp only [hD]
      rw [List.getElem_set_self]
    obtain ⟨x4, hx4⟩ : ∃ x, x = (L[i4]'HI4.out).toNat := ⟨_, rfl⟩
    obtain ⟨x3, hx3⟩ : ∃ x, x = (L[i3]'HI3.out).toNat := ⟨_, rfl⟩
    have HX4 := Lib.hid hx4
    have HX3 := Lib.hid hx3
    have hDL : D = L ↔ k1 = x4 ∧ k2 = x3 := by
      constructor
      · intro h
        subst h
        exact ⟨by rw [hx4, D4.out], by rw [hx3, D3.out]⟩
      · rintro ⟨h1, h2⟩
        have q1 : e1 = L[i4]'HI4.out := UInt8.toNat_inj.1 (by rw [← HK1.out, h1, hx4])
        have q2 : e2 = L[i3]'HI3.out := UInt8.toNat_inj.1 (by rw [← HK2.out, h2, hx3])
        rw [hD, q1, q2, List.set_getElem_self, List.set_getElem_self]
    have HDE := Lib.hid hDL
    clear hD hx4 hx3 hDL
    have HRY := Lib.hid (rd_of_own HY.out).2
    have hwb : Below w.heap.size w wt := HBa.out.trans (HBELT.out.mono HBa.out.size)
    have HBT := Lib.hid hwb
    have HPT := Lib.hid (HPa.out.below HBELT.out)
    have hbase : w10.heap.size ≤ wt.heap.size := HBELT.out.size
    clear hwb HMa HPa HBa HBELT hg1
    obtain ⟨pa', pc', ep, _, _, hcell⟩ := HPT.out
    obtain ⟨bb, off, hae, _⟩ := hcell i4 HI4.out
    simp only [Value.slice.injEq] at ep
    obtain ⟨ep, el, ec⟩ := ep
    rw [hae] at ep
    subst ep
    have PD : ∀ wx, Below wt.heap.size wt wx → wx.cell? ⟨bb, off + i4, none⟩ = some (.int .u8 (x4 : Int)) ∧ wx.cell? ⟨bb, off + i3, none⟩ = some (.int .u8 (x3 : Int)) := by
      intro wx hbx
      obtain ⟨a', c', e1'', _, _, hcell⟩ := HPT.out.below hbx
      obtain ⟨b, o1, hae1, c0⟩ := hcell i4 HI4.out
      obtain ⟨b', o2, hae2, c1⟩ := hcell i3 HI3.out
      simp only [Value.slice.injEq] at e1''
      obtain ⟨e1'', _, _⟩ := e1''
      rw [hae1] at hae2 e1''
      cases hae2
      cases e1''
      exact ⟨by rw [HX4.out]; exact c0, by rw [HX3.out]; exact c1⟩
    have HPD := Lib.hid PD
    have HCD : Hid (∀ wx, Below wt.heap.size wt wx → wx.cell? ⟨gd, i4, none⟩ = some (.int .u8 (k1 : Int)) ∧ wx.cell? ⟨gd, i3, none⟩ = some (.int .u8 (k2 : Int))) := by
      intro wx hbx
      have o := own_below HY.out hbx
      have l4 := HI4.out
      have l3 := HI3.out
      have a4 := CD.out wx D i4 HDL.out HI4.out o
      have a3 := CD.out wx D i3 HDL.out HI3.out o
      rw [D4.out] at a4
      rw [D3.out] at a3
      exact ⟨a4, a3⟩
    clear PD hcell hae el ec
    obtain ⟨j, hj⟩ : ∃ j, j = c % dn := ⟨_, rfl⟩
    have hjn : j < dn := by rw [hj]; exact Nat.mod_lt _ (by omega)
    have hjq : (c : Int) % (dn : Int) = (j : Int) := by rw [hj]; simp
    have hdn0 : ((dn : Int) == 0) = false := by simp; omega
    have wji : IntKind.i64.wrap (j : Int) = (j : Int) := IntWalk.i64_in _ (by omega)
    clear hj
    have hways : (¬ k1 = x4) ∨ (k1 = x4 ∧ ¬ k2 = x3) ∨ (k1 = x4 ∧ k2 = x3) := by
      by_cases h1 : k1 = x4 <;> by_cases h2 : k2 = x3 <;> simp [h1, h2]
    have HDLN : Hid (D.length ≤ 268435456) := by show _ ≤ _; rw [HDL.out]; omega
    rcases hways with hA | ⟨hA, hB'⟩ | ⟨hA, hB'⟩
    case' inl =>
      have HG := Lib.hid (get_no wt _ D HRY.out HDLN.out (HOTH.out (fun e => hA (HDE.out.1 e).1)))
      have q1 : ((k1 : Int) == (x4 : Int)) = false := by simp; omega
      have q2 : (k1 == x4) = false := by simp; exact hA
    case' inr.inl =>
      have HG := Lib.hid (get_no wt _ D HRY.out HDLN.out (HOTH.out (fun e => hB' (HDE.out.1 e).2)))
      subst hA
      have q1 : ((k2 : Int) == (x3 : Int)) = false := by simp; omega
      have q2 : (k2 == x3) = false := by simp; exact hB'
    case' inr.inr =>
      have HG := Lib.hid (HIS.out wt _ (by have h := HRY.out; rw [HDE.out.2 ⟨hA, hB'⟩] at h; exact h))
      subst hA hB'
    clear HOTH HDE HIS HDLN HRY
    all_goals
      go_wp2_with fail
      refine HG.out.mono ?_
      first
        | rintro e wu ⟨rfl, belu⟩
        | rintro e wu ⟨ga, gn, gc, rfl, belu⟩
      have HBU := Lib.hid (HBT.out.trans (belu.mono HBT.out.size))
      have HPU := Lib.hid (HPT.out.below belu)
      obtain ⟨y4, y3⟩ := HCD.out wu belu
      obtain ⟨z4, z3⟩ := HPD.out wu belu
      clear HG belu
      go_upto_region 11 with (fail)
      go_quiet (fail)
      have hdw := drewN_below wu nq
      have HBV := Lib.hid (HBU.out.trans (hdw.mono HBU.out.size))
      have HPV := Lib.hid (HPU.out.below hdw)
      clear hdw y4 y3 z4 z3 HBU HPU
      generalize wu.drewN nq = wv at HBV HPV ⊢
      obtain ⟨u1, t1, hc1, hd1⟩ := cut_to HPV.out j (by rw [← HPN.out]; exact Nat.le_of_lt hjn)
      have s1 := fun w' => hc1 w' .i64
      have HG2 := Lib.hid (get_no wv _ (L.take j) hd1 (by rw [List.length_take]; omega) (HLESS.out j hjn))
      clear hc1 hd1
      go_wp2_with fail
      refine HG2.out.mono ?_
      rintro e wy ⟨rfl, bely⟩
      have bel := HBV.out.trans (bely.mono HBV.out.size)
      clear HG2 bely
      go_wp2_with fail
      go_ret
      exact ⟨by first | rfl | (simp; done), bel⟩
end Go.Proofs.Ytafgioidneohhaa

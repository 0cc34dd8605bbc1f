/- Walk of law09.BloomsBits. The condition: bytes and a key of at most 2^47. -/
import Derived.Test.YtnfamahfaghejaaAlive9
import Derived.Test.YtnfamahfaghejaaApart
import Derived.Test.YtnfamahfaghejaaOrStep
import Derived.StillTailTactics
namespace Go.Proofs.Ytnfamahfaghejaa
open Go.RowKit

set_option maxRecDepth 100000 in
set_option maxHeartbeats 4000000 in
theorem bloomsBits_walk (w : World) (v : Value) (l : List UInt8) (v2 : Value) (M : List UInt8) (key : ByteArray) (hv : Rd w v l) (hl : l.length ≤ 140737488351232) (hv2 : Rd w v2 M) (hl2 : M.length ≤ 140737488351232) (hk : key.size ≤ 140737488351232) :
    Calls Try.prog 5 #[v, v2, .string key] w (RetTrue w) := by
  have hend : ∀ (w5 : World), Hid (Calls Try.prog 15 #[] w5 (RetTrue w5)) := fun w5 => alive09_any w5
  obtain ⟨va, vn, vc, rfl, hvn⟩ := rd_len hv
  obtain ⟨ma, mn, mc, rfl, hmn⟩ := rd_len hv2
  rw [← hvn] at hl
  rw [← hmn] at hl2
  have HVN := Lib.hid hvn
  have HMN := Lib.hid hmn
  have HV := Lib.hid hv
  have HV2 := Lib.hid hv2
  clear hvn hmn hv hv2
  by_cases hb : 10000 < vn
  · go_enter Try.func5, Try.ntmps5
    go_wp2_with fail
    refine (hend _).out.mono ?_
    rintro e w1 ⟨rfl, bel⟩
    go_wp2_with fail
    refine (hend _).out.mono ?_
    rintro e w3 ⟨rfl, bel3⟩
    replace bel := Below.trans bel (bel3.mono bel.size)
    clear bel3
    go_wp2
    go_ret
    exact ⟨rfl, bel⟩
  by_cases hb2 : 10000 < key.size
  · go_enter Try.func5, Try.ntmps5
    go_wp2_with fail
    refine (hend _).out.mono ?_
    rintro e w1 ⟨rfl, bel⟩
    go_wp2_with fail
    refine (hend _).out.mono ?_
    rintro e w3 ⟨rfl, bel3⟩
    replace bel := Below.trans bel (bel3.mono bel.size)
    clear bel3
    go_wp2
    go_ret
    exact ⟨rfl, bel⟩
  by_cases hb3 : vn < 9
  · go_enter Try.func5, Try.ntmps5
    go_wp2_with fail
    refine (hend _).out.mono ?_
    rintro e w1 ⟨rfl, bel⟩
    go_wp2_with fail
    refine (hend _).out.mono ?_
    rintro e w3 ⟨rfl, bel3⟩
    replace bel := Below.trans bel (bel3.mono bel.size)
    clear bel3
    go_wp2
    go_ret
    exact ⟨rfl, bel⟩
  obtain ⟨n, hn⟩ : ∃ n, n = vn - 1 := ⟨_, rfl⟩
  have hnv : n < vn := by omega
  have hn8 : 8 ≤ n := by omega
  have ei : ((vn : Int) - 1) = (n : Int) := by omega
  have HN : Hid (vn = n + 1) := by show _ = _; omega
  have HL : Hid (l.length = n + 1) := by show _ = _; rw [← HVN.out, HN.out]
  clear hn
  obtain ⟨i0, hi, hz, hz1, hz2⟩ := info_parts info_u8
  have hmk := fun (w : World) => run_make (P := Try.prog) w 25 5 i0 (.int .u8 0) Try.underlying25 hi hz .i64 .i64 (vn : Int) (vn : Int) (by omega) (by omega) (by rw [hz2]; omega) (by omega)
  have e1 : ((vn : Int)).toNat = vn := by omega
  rw [e1, hz1, Nat.mul_one] at hmk
  have e2 : madeCells (Value.int IntKind.u8 0).cells vn = (u8s (List.replicate vn 0)).toArray := madeZeros _
  rw [e2] at hmk
  have HMK := Lib.hid hmk
  clear e1 e2 hi hz hz1 hz2 hmk
  go_enter Try.func5, Try.ntmps5
  go_wp2_with fail
  refine (hend _).out.mono ?_
  rintro e w1 ⟨rfl, bel⟩
  replace HV := Lib.hid (HV.out.below bel)
  replace HV2 := Lib.hid (HV2.out.below bel)
  go_upto_region 3 with (fail)
  go_wp2_with fail
  refine (twin_my _ l w1 HV.out (by rw [← HVN.out]; omega)).mono ?_
  rintro e w2 ⟨xa, xn, xc, rfl, HXN, HX, bel2⟩
  obtain rfl : xn = vn := by rw [HXN.out, HVN.out]
  obtain ⟨g, gc, e1, hg1, hg2, hgf⟩ := own_block HX.out (by omega)
  cases e1
  have f0 := hgf n hnv
  obtain ⟨a', c', e1, _, _, hcell⟩ := (rd_of_own HX.out).2
  obtain ⟨b, off, hae, c0⟩ := hcell n (by rw [HL.out]; omega)
  simp only [Value.slice.injEq] at e1
  obtain ⟨e1, el, ec⟩ := e1
  rw [hae] at e1
  cases e1
  clear hcell hae el ec
  simp only [Nat.zero_add] at c0
  have hxs := own_store HX.out n hnv 6
  rw [show (((6 : UInt8).toNat : Nat) : Int) = 6 from rfl] at hxs
  have HXS := Lib.hid hxs
  have hO := Only.set w2 g n (.int .u8 6)
  have bel3 := Only.below bel2 hO hg1 bel2.size
  have HV3 := Lib.hid (HV2.out.below (w := w1) bel3)
  clear hxs hO
  go_upto_region 5 with (fail)
  clear c0 f0 hgf hg1 hg2 HX
  have belw := Below.trans bel (bel3.mono bel.size)
  generalize w2.setCell ⟨g, n, none⟩ (.int .u8 6) = w3 at HXS bel3 HV3 belw ⊢
  clear bel2 bel
  obtain ⟨X, hX⟩ : ∃ X, X = l.set n 6 := ⟨_, rfl⟩
  have HXE := Lib.hid hX
  rw [← hX] at HXS
  have HXL : Hid (X.length = n + 1) := by show _ = _; rw [hX, List.length_set, HL.out]
  clear hX
  have HRX := Lib.hid (rd_of_own HXS.out).2
  clear HXS
  go_wp2_with fail
  refine (twin_my _ X w3 HRX.out (by rw [HXL.out]; omega)).mono ?_
  rintro e w4 ⟨ya, yn, yc, rfl, HYN, HY, bel4⟩
  obtain rfl : yn = xn := by rw [HYN.out, HXL.out, HN.out]
  obtain ⟨g', gc, e1, hg1, hg2, hgf⟩ := own_block HY.out (by omega)
  cases e1
  have HG1 := Lib.hid hg1
  have HY0 : Hid (Own w4 w3.heap.size 5 1 (.slice (some ⟨g', 0, none⟩) yn yc) yn (u8s ((orL X M).take 0 ++ X.drop 0))) := HY
  clear HY hgf hg1 hg2
  go_upto_region 6 with (fail)
  go_wp2_with fail
  show Code.wp _ _ _ _ _
  go_loopw [9] (fun i ww => ∃ j : Nat, j ≤ n ∧ j ≤ mn ∧ i = .int .i64 j ∧ Hid (Own ww w3.heap.size 5 1 (.slice (some ⟨g', 0, none⟩) yn yc) yn (u8s ((orL X M).take j ++ X.drop j))) ∧ Below w3.heap.size w3 ww) (fun i _ => n - (intOf i).toNat)
  case atStart => exact ⟨0, Nat.zero_le _, Nat.zero_le _, rfl, HY0, bel4⟩
  case round =>
    obtain ⟨j, hj, hjm, rfl, HYJ, belj⟩ := hrel
    by_cases hjl : j < mn ∧ j < n
    · obtain ⟨hj1, hj2⟩ := hjl
      have hjy : j < yn := by omega
      have hpl := part_length X M j (by rw [HXL.out]; omega)
      rw [HXL.out] at hpl
      have HPL := Lib.hid hpl
      have hZL : (orL X M).length = n + 1 := by rw [orL_length, HXL.out]
      have hst := set_step (orL X M) X (by rw [hZL, HXL.out]) j (by omega)
      have hor := orL_getD X M j (by rw [HXL.out]; omega)
      rw [getD_at _ _ (show j < (orL X M).length by omega), getD_at _ _ (show j < X.length by rw [HXL.out]; omega), getD_at _ _ (show j < M.length by rw [← HMN.out]; exact hj1)] at hor
      obtain ⟨a', c', e1, _, _, hcell⟩ := (rd_of_own HYJ.out).2
      obtain ⟨b, off, hae, c0⟩ := hcell j (by rw [HPL.out]; omega)
      simp only [Value.slice.injEq] at e1
      obtain ⟨e1, el, ec⟩ := e1
      rw [hae] at e1
      cases e1
      clear hcell hae el ec
      obtain ⟨a', c', e1, _, _, hcell⟩ := HV3.out.below belj
      obtain ⟨b, off, hae, d0⟩ := hcell j (by rw [← HMN.out]; exact hj1)
      simp only [Value.slice.injEq] at e1
      obtain ⟨e1, el, ec⟩ := e1
      rw [hae] at e1
      subst e1
      clear hcell hae el ec
      have ex := part_hi X M j j (by rw [HXL.out]; omega) (Nat.le_refl _)
      rw [getD_at _ _ (show j < ((orL X M).take j ++ X.drop j).length by rw [HPL.out]; omega), getD_at _ _ (show j < X.length by rw [HXL.out]; omega)] at ex
      rw [ex] at c0
      have hbd : Below wr.heap.size wr wr.drew := (Below.refl _ _).drew
      obtain ⟨wd, hwd⟩ : ∃ wd, wd = wr.drew := ⟨_, rfl⟩
      have HWD := Lib.hid hwd
      rw [← hwd] at hbd
      clear hwd
      replace HYJ := Lib.hid (own_below HYJ.out hbd)
      have c2 := Below.keeps hbd _ _ _ c0
      have hos := own_store HYJ.out j hjy ((orL X M)[j]'(by omega))
      rw [hst, hor] at hos
      obtain ⟨u, hu⟩ : ∃ u : Nat, u = (X[j]'(by rw [HXL.out]; omega)).toNat := ⟨_, rfl⟩
      obtain ⟨t, ht⟩ : ∃ t : Nat, t = (M[j]'(by rw [← HMN.out]; exact hj1)).toNat := ⟨_, rfl⟩
      rw [← hu, ← ht] at hos
      rw [← hu] at c0 c2
      rw [← ht] at d0
      have hbit := u8_or_nat u t (by rw [hu]; exact UInt8.toNat_lt _) (by rw [ht]; exact UInt8.toNat_lt _)
      obtain ⟨z, hz⟩ : ∃ z, z = u ||| t := ⟨_, rfl⟩
      rw [← hz] at hbit hos
      have HOS := Lib.hid hos
      obtain ⟨g2, gc2, e1, hg1', hg2', hgf⟩ := own_block HYJ.out (by omega)
      cases e1
      have hfz := hgf j hjy
      have hOS := Only.set wd g' j (.int .u8 z)
      have belz := Only.below (belj.trans (hbd.mono belj.size)) hOS HG1.out (belj.trans (hbd.mono belj.size)).size
      clear hbd hst hor ex hu ht hz hos hgf hg2' hg1' HYJ hOS hpl hZL
      simp only [Nat.zero_add] at c0 c2
      have hd1 : decide ((j : Int) < (mn : Int)) = true := by simp; omega
      have hd2 : decide ((j : Int) < (n : Int)) = true := by simp; omega
      go_wp2_with fail
      go_still_tail 12, (by kernel_rfl)
      change wpList _ _ _ _ _ wr.drew
      rw [← HWD.out]
      go_wp2_with fail
      exact ⟨⟨j + 1, by omega, by omega, by go_num, HOS, belz⟩, by simp [intOf]; omega⟩
    · have HMONO : Hid (mayB X key.data.toList = true → mayB ((orL X M).take j ++ X.drop j) key.data.toList = true) := by
        intro h
        rw [HXE.out] at h ⊢
        exact mayB_part l M key.data.toList n j hn8 HL.out hj h
      have HYL : Hid (((orL X M).take j ++ X.drop j).length = n + 1) := by
        show _ = _
        rw [part_length X M j (by rw [HXL.out]; omega), HXL.out]
      have HRY := Lib.hid (rd_of_own HYJ.out).2
      have HRX5 := Lib.hid (HRX.out.below belj)
      have bel5 := Below.trans belw (belj.mono belw.size)
      obtain ⟨Y, hY⟩ : ∃ Y, Y = (orL X M).take j ++ X.drop j := ⟨_, rfl⟩
      rw [← hY] at HMONO HYL HRY
      obtain ⟨w5, hw5⟩ : ∃ w5, w5 = wr := ⟨_, rfl⟩
      subst hw5
      clear hY HYJ belj HRX HV3 HV2 HV HY0 bel4 belw bel3
      have hown := own_new w5 (u8s (List.replicate yn 0)).toArray 5 yn 1 (by simp [u8s]) (by unfold maxLen; omega)
      have bel6 := bel5.alloc bel5.size (.cells (u8s (List.replicate yn 0)).toArray 5)
      have bel56 : Below w5.heap.size w5 (w5.alloc (.cells (u8s (List.replicate yn 0)).toArray 5)) := (Below.refl _ _).alloc (Nat.le_refl _) _
      have hmk := HMK.out w5
      rcases Nat.lt_or_ge j mn with hjm1 | hjm1
      case' inl =>
        have hd1 : decide ((j : Int) < (mn : Int)) = true := by simp; omega
        have hd2 : decide ((j : Int) < (n : Int)) = false := by simp; omega
      case' inr =>
        have hd1 : decide ((j : Int) < (mn : Int)) = false := by simp; omega
      all_goals
        go_upto_region 10 with (fail)
        go_upto_region 11 with (fail)
        try clear hd2
        clear hd1 hmk
        obtain ⟨W, hW⟩ : ∃ W, W = w5.alloc (.cells (u8s (List.replicate yn 0)).toArray 5) := ⟨_, rfl⟩
        rw [← hW] at bel6 bel56 hown ⊢
        have hg5 : Below w.heap.size w w5 := bel5
        obtain ⟨g5, hg5⟩ : ∃ g5, g5 = w5.heap.size := ⟨_, rfl⟩
        rw [← hg5] at hown bel56 ⊢
        have HG5 : Hid (g5 = w5.heap.size) := hg5
        clear hW hg5
        have HOWN : Hid (Own W g5 5 1 (.slice (some ⟨g5, 0, none⟩) yn yn) yn (u8s (List.replicate yn 0))) := hown
        clear hown
        obtain ⟨g2, gc2, e1, _, _, hgf⟩ := own_block HOWN.out (by omega)
        cases e1
        have hfz := hgf n hnv
        obtain ⟨a', c', e1, _, _, hcell⟩ := (rd_of_own HOWN.out).2
        obtain ⟨b, off, hae, c0⟩ := hcell n (by simp; omega)
        simp only [Value.slice.injEq] at e1
        obtain ⟨e1, el, ec⟩ := e1
        rw [hae] at e1
        cases e1
        clear hcell hae el ec hgf
        simp only [Nat.zero_add] at c0
        have hns := own_store HOWN.out n hnv 6
        rw [show (((6 : UInt8).toNat : Nat) : Int) = 6 from rfl] at hns
        have HNS := Lib.hid hns
        have hO := Only.below bel56 (Only.set W g5 n (.int .u8 6)) (Nat.le_refl _) (by rw [HG5.out]; exact bel56.size)
        rw [HG5.out] at hO
        replace HRX5 := Lib.hid (HRX5.out.below hO)
        replace HRY := Lib.hid (HRY.out.below hO)
        have bel7 := Below.trans bel5 (hO.mono bel5.size)
        rw [← HG5.out] at HRX5 HRY bel7
        clear hns hO bel6 bel56 HOWN
        go_upto_region 12 with (fail)
        clear hfz c0
        generalize W.setCell ⟨g5, n, none⟩ (.int .u8 6) = w7 at HNS HRX5 HRY bel7 ⊢
        have HNR := Lib.hid (rd_of_own HNS.out).2
        clear HNS HG5
        have bel78 : Below w7.heap.size w7 (w7.alloc (.cells #[.string key] 9)) := (Below.refl _ _).alloc (Nat.le_refl _) _
        go_wp2_with fail
        refine (put_var9 _ _ [key] 9 (by simp [bloomN]) (rdT_one w7 key _) (by simp) (fun s hs => by rw [List.mem_singleton.1 hs]; omega)).mono ?_
        rintro e w8 ⟨oa, oc, rfl, HO, bel8⟩
        replace bel8 := Below.trans bel78 (bel8.mono bel78.size)
        replace HRX5 := Lib.hid (HRX5.out.below bel8)
        replace HRY := Lib.hid (HRY.out.below bel8)
        replace HNR := Lib.hid (HNR.out.below bel8)
        have bel9 := Below.trans bel7 (bel8.mono bel7.size)
        clear bel8 bel7 bel78
        obtain ⟨O, hO⟩ : ∃ O, O = bloomPut ([key].map fun s => s.data.toList) := ⟨_, rfl⟩
        have hc := cnt_one_key key.data.toList
        rw [← hO] at HO
        have hO2 : O = bloomPut [key.data.toList] := hO
        rw [← hO2] at hc
        have HOL : Hid (O.length = 9) := by show _ = _; rw [hO2, bloomPut_length]; simp [bloomN]
        have HC1 := Lib.hid hc
        clear hO hO2 hc
        obtain ⟨a', c', e1, _, _, hcell⟩ := (rd_of_own HO.out).2
        obtain ⟨b, off, hae, _⟩ := hcell 0 (by rw [HOL.out]; omega)
        simp only [Value.slice.injEq] at e1
        obtain ⟨e1, el, ec⟩ := e1
        subst hae
        subst e1
        clear el ec
        have HCELL : Hid (∀ i : Nat, (hi : i < 9) → w8.cell? ⟨b, off + i, none⟩ = some (.int .u8 (O[i]'(by rw [HOL.out]; exact hi)).toNat)) := fun i hi => by
          obtain ⟨b2, off2, e, c⟩ := hcell i (by rw [HOL.out]; exact hi)
          cases e
          exact c
        clear hcell HO
        go_upto_region 14 with (fail)
        go_wp2_with fail
        show Code.wp _ _ _ _ _
        go_loop [12, 13] (fun t i => ∃ q : Nat, q ≤ 8 ∧ i = .int .i64 q ∧ t = .int .i64 ((cnt (bitAt O) (8 * q) : Nat) : Int)) (fun _ i => 8 - (intOf i).toNat)
        case atStart => exact ⟨0, by omega, rfl, rfl⟩
        case round =>
          obtain ⟨q, hq, rfl, rfl⟩ := hrel
          by_cases hq8 : q < 8
          · have hq8' : (q : Int) < 8 := by omega
            have c0 := HCELL.out q (by omega)
            obtain ⟨d, hd⟩ : ∃ d : Nat, d = (O[q]'(by rw [HOL.out]; omega)).toNat := ⟨_, rfl⟩
            rw [← hd] at c0
            have hd256 : d < 256 := by rw [hd]; exact UInt8.toNat_lt _
            have HBIT : Hid (∀ k : Nat, k < 8 → bitAt O (8 * q + k) = (d / 2 ^ k % 2 == 1)) := fun k hk => by
              unfold bitAt
              rw [show (8 * q + k) / 8 = q from by omega, show (8 * q + k) % 8 = k from by omega, getD_at _ _ (by rw [HOL.out]; omega), hd]
            clear hd
            go_wp2_with fail
            go_loop [12, 14] (fun t i => ∃ k : Nat, k ≤ 8 ∧ i = .int .i64 k ∧ t = .int .i64 ((cnt (bitAt O) (8 * q + k) : Nat) : Int)) (fun _ i => 8 - (intOf i).toNat)
            case atStart => exact ⟨0, by omega, rfl, rfl⟩
            case round =>
              obtain ⟨k, hk8, rfl, rfl⟩ := hrel
              by_cases hkl : k < 8
              · have hb := bit_nat d k hd256
                have hs : cnt (bitAt O) (8 * q + (k + 1)) = cnt (bitAt O) (8 * q + k) + (bitAt O (8 * q + k)).toNat := rfl
                rw [HBIT.out k hkl] at hs
                obtain ⟨z, hz⟩ : ∃ z, z = (d / 2 ^ k % 2 == 1).toNat := ⟨_, rfl⟩
                have hz1 : z ≤ 1 := by rw [hz]; exact Bool.toNat_le _
                rw [← hz] at hb hs
                clear hz
                have HS := Lib.hid hs
                obtain ⟨y, hy⟩ : ∃ y, y = cnt (bitAt O) (8 * q + k) := ⟨_, rfl⟩
                have hyb : y ≤ 8 * q + k := by rw [hy]; exact cnt_le _ _
                rw [← hy] at HS ⊢
                clear hs hy
                have hkk : (k : Int) < 8 := by omega
                go_wp2_with fail
                exact ⟨⟨k + 1, by omega, by go_num, by rw [HS.out]; simp⟩, by simp [intOf]; omega⟩
              · obtain rfl : k = 8 := by omega
                go_wp2_with fail
                exact ⟨⟨q + 1, by omega, by go_num, rfl⟩, by simp [intOf]; omega⟩
          · obtain rfl : q = 8 := by omega
            obtain ⟨hc1, hc6⟩ := HC1.out
            rw [show 8 * 8 = 64 from rfl]
            obtain ⟨y, hy⟩ : ∃ y, y = cnt (bitAt O) 64 := ⟨_, rfl⟩
            rw [← hy] at hc1 hc6 ⊢
            have HNF : Hid (mayB ((List.replicate yn 0).set n 6) key.data.toList = false) := by
              show _ = _
              rw [HN.out]
              exact mayB_zeros _ _ hn8
            have HNL : Hid (((List.replicate yn 0).set n (6 : UInt8)).length = yn) := by show _ = _; simp
            obtain ⟨N, hN⟩ : ∃ N, N = ((List.replicate yn 0).set n (6 : UInt8)) := ⟨_, rfl⟩
            rw [← hN] at HNF HNL HNR
            clear hy hN
            have hy1 : decide ((1 : Int) ≤ (y : Int)) = true := by simp; omega
            have hy6 : decide ((y : Int) ≤ 6) = true := by simp; omega
            cases hr : mayB X key.data.toList
            · have HR := Lib.hid hr
              clear hr
              go_wp2_with fail
              refine (may9_any w8 _ X key false HR.out (by omega) (by rw [HXL.out]; omega) HRX5.out).mono ?_
              rintro e w9 ⟨rfl, bel10⟩
              replace HNR := Lib.hid (HNR.out.below bel10)
              replace bel9 := Below.trans bel9 (bel10.mono bel9.size)
              go_wp2_with fail
              refine (may9_any w9 _ N key false HNF.out (by omega) (by rw [HNL.out]; omega) HNR.out).mono ?_
              rintro e w10 ⟨rfl, bel11⟩
              replace bel9 := Below.trans bel9 (bel11.mono bel9.size)
              go_wp2
              go_ret
              exact ⟨ret_bool (by simp), bel9⟩
            · have HR := Lib.hid hr
              have HYB := Lib.hid (HMONO.out hr)
              clear hr
              go_wp2_with fail
              refine (may9_any w8 _ X key true HR.out (by omega) (by rw [HXL.out]; omega) HRX5.out).mono ?_
              rintro e w9 ⟨rfl, bel10⟩
              replace HNR := Lib.hid (HNR.out.below bel10)
              replace HRY := Lib.hid (HRY.out.below bel10)
              replace bel9 := Below.trans bel9 (bel10.mono bel9.size)
              go_wp2_with fail
              refine (may9_any w9 _ Y key true HYB.out (by omega) (by rw [HYL.out]; omega) HRY.out).mono ?_
              rintro e w10 ⟨rfl, bel11⟩
              replace HNR := Lib.hid (HNR.out.below bel11)
              replace bel9 := Below.trans bel9 (bel11.mono bel9.size)
              go_wp2_with fail
              refine (may9_any w10 _ N key false HNF.out (by omega) (by rw [HNL.out]; omega) HNR.out).mono ?_
              rintro e w11 ⟨rfl, bel12⟩
              replace bel9 := Below.trans bel9 (bel12.mono bel9.size)
              go_wp2
              go_ret
              exact ⟨ret_bool (by simp), bel9⟩
end Go.Proofs.Ytnfamahfaghejaa

/- Walk of law09.BloomsJoin. The condition: texts of at most 2^47 bytes. -/
import Derived.Test.YtnfamahfaghejaaAlive9
import Derived.Test.YtnfamahfaghejaaApart
import Derived.Test.YtnfamahfaghejaaRow8
import Derived.StillTailTactics
namespace Go.Proofs.Ytnfamahfaghejaa
open Go.RowKit

theorem join_may (l k : List (List UInt8)) (hl : l.length = k.length) (x : List UInt8) (hx : x ∈ l ∨ x ∈ k) : mayB (orL (bloomPut l) (bloomPut k)) x = true := by
  have hlen : (orL (bloomPut l) (bloomPut k)).length = bloomN l.length + 1 := by rw [orL_length, bloomPut_length]
  have h6 : (orL (bloomPut l) (bloomPut k)).getD (bloomN l.length) 0 = 6 := by
    apply UInt8.toNat_inj.1
    rw [orL_getD _ _ _ (by rw [bloomPut_length]; omega), bloomPut_last]
    rw [hl, bloomPut_last]
    decide
  rw [mayB_eq (bloomN_pos _) hlen h6]
  have hp := bloomN_pos l.length
  rcases hx with h | h
  · refine mayAll_mono (by omega) (fun q hq hb => ?_) (mayAll_put h)
    rw [bitAt_orL _ _ _ (by rw [bloomPut_length]; omega), hb]; rfl
  · have hm := mayAll_put h
    rw [← hl] at hm
    refine mayAll_mono (by omega) (fun q hq hb => ?_) hm
    rw [bitAt_orL _ _ _ (by rw [bloomPut_length]; omega), hb, Bool.or_true]
theorem getD_at (l : List UInt8) (j : Nat) (h : j < l.length) : l.getD j 0 = l[j] := by rw [List.getD_eq_getElem?_getD, List.getElem?_eq_getElem h]; rfl
theorem set_step {α : Type} (Z X : List α) (hl : Z.length = X.length) (j : Nat) (hj : j < Z.length) : (Z.take j ++ X.drop j).set j Z[j] = Z.take (j + 1) ++ X.drop (j + 1) := by
  have e : (Z.take j).length = j := by rw [List.length_take]; omega
  rw [List.set_append_right _ _ (by omega), e, Nat.sub_self, List.drop_eq_getElem_cons (by omega : j < X.length), List.set_cons_zero, List.take_succ_eq_append_getElem hj, List.append_assoc]
  rfl
def pairsLen : List (ByteArray × ByteArray) → Nat
  | [] => 0
  | x :: l => x.1.size + x.2.size + pairsLen l
theorem pairsLen_app (l m : List (ByteArray × ByteArray)) : pairsLen (l ++ m) = pairsLen l + pairsLen m := by
  induction l with
  | nil => simp [pairsLen]
  | cons x l ih => simp only [List.cons_append, pairsLen, ih]; omega
theorem pairsLen_take (l : List (ByteArray × ByteArray)) (k : Nat) (h : k < l.length) : pairsLen (l.take (k + 1)) = pairsLen (l.take k) + (l[k].1.size + l[k].2.size) := by
  rw [List.take_succ_eq_append_getElem h, pairsLen_app]; simp [pairsLen]
theorem pairsLen_le (l : List (ByteArray × ByteArray)) (k : Nat) : pairsLen (l.take k) ≤ pairsLen l := by
  conv => rhs; rw [← List.take_append_drop k l]
  rw [pairsLen_app]; omega
theorem pairsLen_mem {l : List (ByteArray × ByteArray)} {x : ByteArray × ByteArray} (h : x ∈ l) : x.1.size + x.2.size ≤ pairsLen l := by
  induction l with
  | nil => cases h
  | cons y l ih =>
    simp only [pairsLen]
    rcases List.mem_cons.1 h with rfl | h
    · omega
    · have := ih h; omega
theorem pairsLen_bound (l : List (ByteArray × ByteArray)) (B : Nat) (h : ∀ x ∈ l, x.1.size ≤ B ∧ x.2.size ≤ B) : pairsLen l ≤ l.length * (2 * B) := by
  induction l with
  | nil => simp [pairsLen]
  | cons x l ih =>
    simp only [pairsLen, List.length_cons, Nat.add_mul, Nat.one_mul]
    have := ih fun y hy => h y (List.mem_cons_of_mem _ hy)
    have := h x List.mem_cons_self
    omega
def fsts (l : List (ByteArray × ByteArray)) : List ByteArray := l.map Prod.fst
def snds (l : List (ByteArray × ByteArray)) : List ByteArray := l.map Prod.snd
theorem fsts_take (l : List (ByteArray × ByteArray)) (k : Nat) (h : k < l.length) : fsts (l.take k) ++ [l[k].1] = fsts (l.take (k + 1)) := by
  unfold fsts; rw [List.take_succ_eq_append_getElem h, List.map_append]; rfl
theorem snds_take (l : List (ByteArray × ByteArray)) (k : Nat) (h : k < l.length) : snds (l.take k) ++ [l[k].2] = snds (l.take (k + 1)) := by
  unfold snds; rw [List.take_succ_eq_append_getElem h, List.map_append]; rfl

set_option maxRecDepth 100000 in
set_option maxHeartbeats 4000000 in
theorem bloomsJoin_walk (w : World) (v : Value) (l : List (ByteArray × ByteArray)) (hv : RdP w v l) (hl : ∀ x ∈ l, x.1.size ≤ 140737488351232 ∧ x.2.size ≤ 140737488351232) :
    Calls Try.prog 6 #[v] w (RetTrue w) := by
  have hend : ∀ (w5 : World), Hid (Calls Try.prog 15 #[] w5 (RetTrue w5)) := fun w5 => alive09_any w5
  have HV := Lib.hid hv
  have HS := Lib.hid hl
  obtain ⟨va, vc, rfl, h1, h2, h3⟩ := hv
  clear h3 hl
  obtain ⟨vn, hvn⟩ : ∃ n, n = l.length := ⟨_, rfl⟩
  have HVN := Lib.hid hvn
  rw [← hvn] at h1 HV ⊢
  clear hvn
  by_cases hb : 200 < vn
  · go_enter Try.func6, Try.ntmps6
    go_wp2_with fail
    refine (hend _).out.mono ?_
    rintro e w1 ⟨rfl, bel⟩
    go_wp2_with fail
    refine (hend _).out.mono ?_
    rintro e w3 ⟨rfl, bel3⟩
    replace bel := Below.trans bel (bel3.mono bel.size)
    clear bel3
    go_wp2
    go_ret
    exact ⟨rfl, bel⟩
  go_enter Try.func6, Try.ntmps6
  go_wp2_with fail
  refine (hend _).out.mono ?_
  rintro e w1 ⟨rfl, bel⟩
  replace HV := Lib.hid (HV.out.below bel)
  have hpl := pairsLen_bound l _ HS.out
  rw [← HVN.out] at hpl
  have HPL : Hid (pairsLen l ≤ 56294995340492800) := by
    show _ ≤ _
    refine Nat.le_trans hpl (Nat.le_trans (Nat.mul_le_mul_right _ (show vn ≤ 200 by omega)) (by decide))
  clear hpl
  go_upto_region 5 with (fail)
  go_wp2_with fail
  show Code.wp _ _ _ _ _
  go_loopw [3, 4, 5, 6] (fun x y n i wr => ∃ k : Nat, k ≤ vn ∧ i = .int .i64 k ∧ n = .int .i64 ((pairsLen (l.take k) : Nat) : Int) ∧
      (∃ xa xc ya yc, x = .slice xa k xc ∧ y = .slice ya k yc ∧ Hid (Own wr w1.heap.size 9 1 (.slice xa k xc) k (txs (fsts (l.take k)))) ∧ Hid (Own wr w1.heap.size 9 1 (.slice ya k yc) k (txs (snds (l.take k)))) ∧
        Hid (Apart wr (.slice xa k xc) (.slice ya k yc)) ∧ Hid (Apart wr (.slice ya k yc) (.slice xa k xc))) ∧ Below w1.heap.size w1 wr) (fun _ _ _ i _ => vn - (intOf i).toNat)
  case atStart => exact ⟨0, Nat.zero_le _, rfl, rfl, ⟨none, 0, none, 0, rfl, rfl, own_none _ _ _ _, own_none _ _ _ _, Apart.none _ _, Apart.none _ _⟩, Below.refl _ _⟩
  case round =>
    obtain ⟨k, hk, rfl, rfl, ⟨xa, xc, ya, yc, rfl, rfl, HX, HY, HXY, HYX⟩, belr⟩ := hrel
    by_cases hlt : k < vn
    · have hkl : k < l.length := by rw [← HVN.out]; exact hlt
      have hpt := pairsLen_take l k hkl
      have hple := pairsLen_le l (k + 1)
      have HFT := Lib.hid (fsts_take l k hkl)
      have HSN := Lib.hid (snds_take l k hkl)
      obtain ⟨a', c', hve, _, _, hcell⟩ := HV.out.below belr
      obtain ⟨b3, off3, hae, c0, c1⟩ := hcell k hkl
      simp only [Value.slice.injEq] at hve
      obtain ⟨rfl, el, rfl⟩ := hve
      clear el hcell
      subst hae
      obtain ⟨s, hs⟩ : ∃ s, s = l[k].1 := ⟨_, rfl⟩
      obtain ⟨t, ht⟩ : ∃ t, t = l[k].2 := ⟨_, rfl⟩
      rw [← hs] at HFT
      rw [← ht] at HSN
      rw [← hs, ← ht] at hpt
      rw [← hs] at c0
      rw [← ht] at c1
      have HSE := Lib.hid hs
      have HT := Lib.hid ht
      clear hs ht
      obtain ⟨p, hp⟩ : ∃ p, p = pairsLen (l.take k) := ⟨_, rfl⟩
      obtain ⟨p1, hp1⟩ : ∃ p, p = pairsLen (l.take (k + 1)) := ⟨_, rfl⟩
      have HP1 := Lib.hid hp1
      rw [← hp]
      rw [← hp, ← hp1] at hpt
      rw [← hp1] at hple
      have hple2 := Nat.le_trans hple HPL.out
      clear hp hp1 hple
      obtain ⟨wr, hwr⟩ := the_world belr
      subst hwr
      have hal : ∀ o, Below wr.heap.size wr (wr.alloc o) := fun o => (Below.refl _ _).alloc (Nat.le_refl _) _
      have HAL := Lib.hid hal
      clear hal
      go_upto_region 9 with (at_builtin; go_loud (refine wp_app_txt3 rfl _ _ rfl w1.heap.size k 1 (.slice xa k xc) _ _ [s] _ (k + 1) rfl rfl (own_below HX.out (HAL.out _)) (rdT_one _ _ _) rfl rfl HFT.out (by omega) (Nat.le_trans belr.size (by simp)) ?_); intro ua uc w2 HX2 HG2)
      replace HY := HG2.out.keep _ _ _ _ _ _ (own_below HY.out (HAL.out _)) (HYX.out.later (by simp))
      replace HYX := Lib.hid (HG2.out.apart _ (HYX.out.later (by simp)))
      replace HXY := Lib.hid (HYX.out.comm HX2.out (Nat.succ_pos _))
      replace HY := Lib.hid HY
      have belr2 : Below w1.heap.size w1 w2 := Below.trans (Below.alloc belr belr.size _) HG2.out.below
      clear HG2 HAL HX c0 c1 HFT belr
      obtain ⟨a', c', hve, _, _, hcell⟩ := HV.out.below belr2
      obtain ⟨b, off, hae, c0, c1⟩ := hcell k hkl
      simp only [Value.slice.injEq] at hve
      obtain ⟨e1, el, ec⟩ := hve
      rw [hae] at e1
      cases e1
      clear hcell hae el ec c0
      rw [← HT.out] at c1
      have hal : ∀ o, Below w2.heap.size w2 (w2.alloc o) := fun o => (Below.refl _ _).alloc (Nat.le_refl _) _
      have HAL := Lib.hid hal
      clear hal
      go_upto_region 10 with (at_builtin; go_loud (refine wp_app_txt3 rfl _ _ rfl w1.heap.size k 1 (.slice ya k yc) _ _ [t] _ (k + 1) rfl rfl (own_below HY.out (HAL.out _)) (rdT_one _ _ _) rfl rfl HSN.out (by omega) (Nat.le_trans belr2.size (by simp)) ?_); intro za zc w3 HY2 HG2)
      replace HX2 := HG2.out.keep _ _ _ _ _ _ (own_below HX2.out (HAL.out _)) (HXY.out.later (by simp))
      replace HXY := Lib.hid (HG2.out.apart _ (HXY.out.later (by simp)))
      replace HYX := Lib.hid (HXY.out.comm HY2.out (Nat.succ_pos _))
      replace HX2 := Lib.hid HX2
      have belr3 : Below w1.heap.size w1 w3 := Below.trans (Below.alloc belr2 belr2.size _) HG2.out.below
      clear HG2 HAL HY c1 HSN belr2
      obtain ⟨a', c', hve, _, _, hcell⟩ := HV.out.below belr3
      obtain ⟨b, off, hae, c0, c1⟩ := hcell k hkl
      simp only [Value.slice.injEq] at hve
      obtain ⟨e1, el, ec⟩ := hve
      rw [hae] at e1
      cases e1
      clear hcell hae el ec
      rw [← HT.out] at c1
      rw [← HSE.out] at c0
      have hw1 : IntKind.i64.wrap ((p : Int) + (s.size : Int)) = ((p + s.size : Nat) : Int) := by rw [IntWalk.i64_in _ (by omega)]; omega
      have hw2 : IntKind.i64.wrap (((p + s.size : Nat) : Int) + (t.size : Int)) = (p1 : Int) := by rw [IntWalk.i64_in _ (by omega)]; omega
      go_wp2_with fail
      go_quiet (fail)
      have hps : (p : Int) + (s.size : Int) + (t.size : Int) = (p1 : Int) := by omega
      rw [hps]
      have hdw := drewN_below w3 nq
      clear c0 c1 hw1 hw2 hps
      go_wp2_with fail
      go_round
      case rel => exact ⟨k + 1, by omega, by go_num, by rw [← HP1.out], ⟨ua, uc, za, zc, rfl, rfl, own_below HX2.out hdw, own_below HY2.out hdw, HXY.out.later hdw.size, HYX.out.later hdw.size⟩, Below.trans belr3 (hdw.mono belr3.size)⟩
      case measure => simp [intOf]; omega
    · obtain rfl : k = vn := by omega
      rw [show l.take k = l from List.take_of_length_le (by rw [← HVN.out]; exact Nat.le_refl _)] at HX HY ⊢
      have bel2 := Below.trans bel (belr.mono bel.size)
      replace HV := Lib.hid (HV.out.below belr)
      obtain ⟨wr, hwr⟩ := the_world belr
      subst hwr
      clear belr HXY HYX
      obtain ⟨p, hp⟩ : ∃ p, p = pairsLen l := ⟨_, rfl⟩
      have HP := Lib.hid hp
      rw [← hp]
      clear hp
      by_cases hb3 : 20000 < p
      · go_wp2
        go_ret
        exact ⟨rfl, bel2⟩
      have HTX : Hid (RdT wr (.slice xa k xc) (fsts l)) := rdT_own HX.out
      have HTY : Hid (RdT wr (.slice ya k yc) (snds l)) := rdT_own HY.out
      clear HX HY
      obtain ⟨n, hn⟩ : ∃ n, n = bloomN k := ⟨_, rfl⟩
      have hn8 : 8 ≤ n := by rw [hn]; exact bloomN_pos k
      have hnb : n ≤ 1000 := by rw [hn]; unfold bloomN; omega
      obtain ⟨m, hm⟩ : ∃ m, m = n + 1 := ⟨_, rfl⟩
      have HM : Hid (bloomN k + 1 = m) := by show _ = _; rw [hm, hn]
      have hml : m ≤ 1001 := by omega
      have hm0 : 0 < m := by omega
      have HLF : Hid ((fsts l).length = k) := by show _ = _; rw [HVN.out]; simp [fsts]
      have HLS : Hid ((snds l).length = k) := by show _ = _; rw [HVN.out]; simp [snds]
      have HZF : Hid (∀ s ∈ fsts l, s.size ≤ 20000) := fun s hs => by
        obtain ⟨x, hx, rfl⟩ := List.mem_map.1 hs
        have := pairsLen_mem hx
        have := HP.out
        omega
      have HZS : Hid (∀ s ∈ snds l, s.size ≤ 20000) := fun s hs => by
        obtain ⟨x, hx, rfl⟩ := List.mem_map.1 hs
        have := pairsLen_mem hx
        have := HP.out
        omega
      clear hm hn hn8 hnb
      have HTX0 := HTX
      have HTY0 := HTY
      go_upto_region 13 with (fail)
      go_wp2_with fail
      refine (put_var9 wr _ (fsts l) m (by rw [HLF.out]; exact HM.out) HTX.out (by rw [HLF.out]; omega) (fun s hs => Nat.le_trans (HZF.out s hs) (by decide))).mono ?_
      rintro e w4 ⟨ca, cc, rfl, HX, bel4⟩
      replace HTX := Lib.hid (HTX.out.below bel4)
      replace HTY := Lib.hid (HTY.out.below bel4)
      go_upto_region 14 with (fail)
      go_wp2_with fail
      refine (put_var9 w4 _ (snds l) m (by rw [HLS.out]; exact HM.out) HTY.out (by rw [HLS.out]; omega) (fun s hs => Nat.le_trans (HZS.out s hs) (by decide))).mono ?_
      rintro e w5 ⟨da, dc, rfl, HY, bel5⟩
      replace HTX := Lib.hid (HTX.out.below bel5)
      replace HTY := Lib.hid (HTY.out.below bel5)
      obtain ⟨g, gc, e1, hg1, hg2, hgf⟩ := own_block HX.out hm0
      cases e1
      obtain ⟨g', gc', e1, hg3, hg4, hgf'⟩ := own_block HY.out hm0
      cases e1
      obtain ⟨X, hX⟩ : ∃ X, X = bloomPut ((fsts l).map fun s => s.data.toList) := ⟨_, rfl⟩
      obtain ⟨Y, hY⟩ : ∃ X, X = bloomPut ((snds l).map fun s => s.data.toList) := ⟨_, rfl⟩
      have HMJ : Hid (∀ x, x ∈ fsts l ∨ x ∈ snds l → mayB (orL X Y) x.data.toList = true) := fun x hx => by
        rw [hX, hY]
        refine join_may _ _ (by rw [List.length_map, List.length_map, HLF.out, HLS.out]) _ ?_
        rcases hx with h | h
        · exact .inl (List.mem_map.2 ⟨x, h, rfl⟩)
        · exact .inr (List.mem_map.2 ⟨x, h, rfl⟩)
      have HXL : Hid (X.length = m) := by show _ = _; rw [hX, bloomPut_length, List.length_map, HLF.out]; exact HM.out
      have HYL : Hid (Y.length = m) := by show _ = _; rw [hY, bloomPut_length, List.length_map, HLS.out]; exact HM.out
      rw [← hX] at HX
      rw [← hY] at HY
      have HX5 : Hid (Own w5 wr.heap.size 5 1 (.slice (some ⟨g, 0, none⟩) m cc) m (u8s ((orL X Y).take 0 ++ X.drop 0))) := own_below HX.out bel5
      have HGG : Hid (g < g') := by show _ < _; omega
      have HG1 := Lib.hid hg1
      have bel45 : Below wr.heap.size wr w5 := bel4.trans (bel5.mono bel4.size)
      have HHY : Hid (RdT w5 (.slice ya k yc) (snds l)) := HTY
      clear hX hY HX bel4 bel5 hg1 hg2 hg3 hg4 hgf hgf'
      have hb0 : Below w5.heap.size w5 w5 := Below.refl _ _
      go_upto_region 17 with (fail)
      go_wp2_with fail
      show Code.wp _ _ _ _ _
      go_loopw [9] (fun i ww => ∃ j : Nat, j ≤ m ∧ i = .int .i64 j ∧ Hid (Own ww wr.heap.size 5 1 (.slice (some ⟨g, 0, none⟩) m cc) m (u8s ((orL X Y).take j ++ X.drop j))) ∧ Hid (Own ww w4.heap.size 5 1 (.slice (some ⟨g', 0, none⟩) m dc) m (u8s Y)) ∧ Below wr.heap.size wr ww ∧ Hid (Only w5 ww g)) (fun i _ => m - (intOf i).toNat)
      case atStart => exact ⟨0, Nat.zero_le _, rfl, HX5, HY, bel45, Only.refl _ _⟩
      case round =>
        obtain ⟨j, hj, rfl, HXJ, HYJ, belj, HOJ⟩ := hrel
        by_cases hjl : j < m
        · have HZL : Hid ((orL X Y).length = m) := by show _ = _; rw [orL_length, HXL.out]
          have hst := set_step (orL X Y) X (by rw [HZL.out, HXL.out]) j (by rw [HZL.out]; exact hjl)
          have hor := orL_getD X Y j (by rw [HXL.out]; exact hjl)
          rw [getD_at _ _ (show j < (orL X Y).length by rw [HZL.out]; exact hjl), getD_at _ _ (show j < X.length by rw [HXL.out]; exact hjl), getD_at _ _ (show j < Y.length by rw [HYL.out]; exact hjl)] at hor
          obtain ⟨a', c', e1, _, _, hcell⟩ := (rd_of_own HXJ.out).2
          obtain ⟨b, off, hae, c0⟩ := hcell j (by rw [List.length_append, List.length_take, List.length_drop, HZL.out, HXL.out]; omega)
          simp only [Value.slice.injEq] at e1
          obtain ⟨e1, el, ec⟩ := e1
          rw [hae] at e1
          cases e1
          clear hcell hae el ec
          obtain ⟨a', c', e1, _, _, hcell⟩ := (rd_of_own HYJ.out).2
          obtain ⟨b, off, hae, d0⟩ := hcell j (by rw [HYL.out]; exact hjl)
          simp only [Value.slice.injEq] at e1
          obtain ⟨e1, el, ec⟩ := e1
          rw [hae] at e1
          cases e1
          clear hcell hae el ec
          have ex : ((orL X Y).take j ++ X.drop j)[j]'(by rw [List.length_append, List.length_take, List.length_drop, HZL.out, HXL.out]; omega) = X[j]'(by rw [HXL.out]; exact hjl) := by
            have e : ((orL X Y).take j).length = j := by rw [List.length_take, HZL.out]; omega
            rw [List.getElem_append_right (by omega)]
            simp only [e, Nat.sub_self]
            rw [List.getElem_drop]
            rfl
          rw [ex] at c0
          have hbd : Below wr.heap.size wr wr.drew := (Below.refl _ _).drew
          obtain ⟨wd, hwd⟩ : ∃ wd, wd = wr.drew := ⟨_, rfl⟩
          have HWD := Lib.hid hwd
          rw [← hwd] at hbd
          clear hwd
          replace HXJ := Lib.hid (own_below HXJ.out hbd)
          replace HYJ := Lib.hid (own_below HYJ.out hbd)
          have c2 := Below.keeps hbd _ _ _ c0
          have hos := own_store HXJ.out j hjl ((orL X Y)[j]'(by rw [HZL.out]; exact hjl))
          rw [hst, hor] at hos
          obtain ⟨u, hu⟩ : ∃ u : Nat, u = (X[j]'(by rw [HXL.out]; exact hjl)).toNat := ⟨_, rfl⟩
          obtain ⟨t, ht⟩ : ∃ t : Nat, t = (Y[j]'(by rw [HYL.out]; exact hjl)).toNat := ⟨_, rfl⟩
          rw [← hu, ← ht] at hos
          rw [← hu] at c0
          rw [← ht] at d0
          have hbit := u8_or_nat u t (by rw [hu]; exact UInt8.toNat_lt _) (by rw [ht]; exact UInt8.toNat_lt _)
          obtain ⟨z, hz⟩ : ∃ z, z = u ||| t := ⟨_, rfl⟩
          rw [← hz] at hbit hos
          have HOS := Lib.hid hos
          obtain ⟨g2, gc2, e1, hg1', hg2', hgf⟩ := own_block HXJ.out hm0
          cases e1
          have hfz := hgf j hjl
          have hOS := Only.set wd g j (.int .u8 z)
          have HYS := Lib.hid (own_kept HYJ.out hOS (.inr (by intro e; have := HGG.out; simp [Value.ownBlock] at e; omega)))
          have HOZ := Lib.hid ((HOJ.out.trans (Only.of_below hbd)).trans hOS)
          have belz := Only.below (belj.trans (hbd.mono belj.size)) hOS HG1.out (belj.trans (hbd.mono belj.size)).size
          clear hbd hst hor ex hu ht hz hos hgf hg2' hg1' HXJ HYJ hOS
          simp only [Nat.zero_add] at c0 d0 c2
          go_wp2_with fail
          go_still_tail 12, (by kernel_rfl)
          change wpList _ _ _ _ _ wr.drew
          rw [← HWD.out]
          go_wp2_with fail
          exact ⟨⟨j + 1, by omega, by go_num, HOS, HYS, belz, HOZ⟩, by simp [intOf]; omega⟩
        · obtain rfl : j = m := by omega
          have HZL : Hid ((orL X Y).length = j) := by show _ = _; rw [orL_length, HXL.out]
          rw [List.take_of_length_le (by rw [HZL.out]; exact Nat.le_refl _), List.drop_of_length_le (by rw [HXL.out]; exact Nat.le_refl _), List.append_nil] at HXJ
          have HR := Lib.hid (rd_of_own HXJ.out).2
          replace HTX := Lib.hid (HTX0.out.below belj)
          replace HTY := Lib.hid (HTY0.out.below belj)
          have bel6 := Below.trans bel2 (belj.mono bel2.size)
          obtain ⟨w6, hw6⟩ : ∃ w6, w6 = wr := ⟨_, rfl⟩
          subst hw6
          clear HXJ HYJ HOJ belj HHY HX5 HY HTX0 HTY0 bel45
          obtain ⟨Z, hZ⟩ : ∃ Z, Z = orL X Y := ⟨_, rfl⟩
          rw [← hZ] at HZL HR HMJ
          clear hZ
          go_upto_region 21 with (fail)
          go_wp2_with fail
          show Code.wp _ _ _ _ _
          go_loopw [10] (fun i wr => ∃ q : Nat, q ≤ k ∧ i = .int .i64 q ∧ Below w6.heap.size w6 wr) (fun i _ => k - (intOf i).toNat)
          case atStart => exact ⟨0, Nat.zero_le _, rfl, Below.refl _ _⟩
          case round =>
            obtain ⟨q, hq, rfl, belr⟩ := hrel
            by_cases hql : q < k
            · obtain ⟨a', c', e1, _, _, hcell⟩ := HTX.out.below belr
              obtain ⟨b, off, hae, c0⟩ := hcell q (by rw [HLF.out]; exact hql)
              simp only [Value.slice.injEq] at e1
              obtain ⟨e1, el, ec⟩ := e1
              rw [hae] at e1
              subst e1
              clear hcell hae el ec
              have hm1 := List.getElem_mem (l := fsts l) (n := q) (by rw [HLF.out]; exact hql)
              obtain ⟨s, hs⟩ : ∃ s, s = (fsts l)[q]'(by rw [HLF.out]; exact hql) := ⟨_, rfl⟩
              rw [← hs] at hm1 c0
              have hz1 := HZF.out s hm1
              have HB1 := Lib.hid (HMJ.out s (.inl hm1))
              clear hm1 hs
              obtain ⟨wr, hwr⟩ := the_world belr
              subst hwr
              go_wp2_with fail
              refine (may9_any wr _ Z s true HB1.out (by omega) (by rw [HZL.out]; omega) (HR.out.below belr)).mono ?_
              rintro e w7 ⟨rfl, bel7⟩
              have belz := Below.trans belr (bel7.mono belr.size)
              clear c0
              obtain ⟨a', c', e1, _, _, hcell⟩ := HTY.out.below belz
              obtain ⟨b', off', hae, c0⟩ := hcell q (by rw [HLS.out]; exact hql)
              simp only [Value.slice.injEq] at e1
              obtain ⟨e1, el, ec⟩ := e1
              rw [hae] at e1
              subst e1
              clear hcell hae el ec
              have hm1 := List.getElem_mem (l := snds l) (n := q) (by rw [HLS.out]; exact hql)
              obtain ⟨t, ht⟩ : ∃ s, s = (snds l)[q]'(by rw [HLS.out]; exact hql) := ⟨_, rfl⟩
              rw [← ht] at hm1 c0
              have hz2 := HZS.out t hm1
              have HB2 := Lib.hid (HMJ.out t (.inr hm1))
              clear hm1 ht
              go_wp2_with fail
              refine (may9_any w7 _ Z t true HB2.out (by omega) (by rw [HZL.out]; omega) (HR.out.below belz)).mono ?_
              rintro e w8 ⟨rfl, bel8⟩
              have belz8 := Below.trans belz (bel8.mono belz.size)
              go_wp2
              exact ⟨⟨q + 1, by omega, by go_num, belz8⟩, by simp [intOf]; omega⟩
            · have belf := Below.trans bel6 (belr.mono bel6.size)
              go_wp2
              go_ret
              exact ⟨rfl, belf⟩
end Go.Proofs.Ytnfamahfaghejaa

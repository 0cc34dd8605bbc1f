/- Walk of law09.BloomsOrder. The condition: texts of at most 2^47 bytes. -/
import Derived.Test.YtnfamahfaghejaaAlive9
import Derived.Test.YtnfamahfaghejaaTexts2
namespace Go.Proofs.Ytnfamahfaghejaa
open Go.RowKit

def dat (l : List ByteArray) : List (List UInt8) := l.map fun s => s.data.toList
theorem dat_app (l m : List ByteArray) : dat (l ++ m) = dat l ++ dat m := by simp [dat]
theorem turn_put (l : List ByteArray) (k : Nat) : bloomPut (dat (l.drop k ++ l.take k)) = bloomPut (dat l) := by
  refine bloomPut_perm (by simp only [dat, List.length_map, List.length_append, List.length_drop, List.length_take]; omega) fun f => ?_
  conv => rhs; rw [← List.take_append_drop k l]
  rw [dat_app, dat_app, List.any_append, List.any_append, Bool.or_comm]
theorem more_put (l : List (List UInt8)) (x o : List UInt8) (hx : x ∈ l) (j : Nat) (hj : j ≤ bloomN (l.length + 1)) :
    ((bloomPut (l ++ [x])).getD j 0).toNat &&& ((bloomPut (l ++ [o])).getD j 0).toNat = ((bloomPut (l ++ [x])).getD j 0).toNat := by
  have e1 : (l ++ [x]).length = l.length + 1 := by simp
  have e2 : (l ++ [o]).length = l.length + 1 := by simp
  refine and_sub (n := bloomN (l.length + 1)) ?_ (fun q hq h => ?_) j hj
  · have h1 := bloomPut_last (l ++ [x])
    have h2 := bloomPut_last (l ++ [o])
    rw [e1] at h1; rw [e2] at h2
    rw [h1, h2]
  · have h1 := bitAt_bloomPut (l ++ [x]) q (by rw [e1]; exact hq)
    have h2 := bitAt_bloomPut (l ++ [o]) q (by rw [e2]; exact hq)
    rw [e1] at h1; rw [e2] at h2
    rw [h1] at h
    rw [h2]
    simp only [List.any_append, List.any_cons, List.any_nil, Bool.or_false, Bool.or_eq_true, List.any_eq_true] at h ⊢
    rcases h with h | h
    · exact .inl h
    · exact .inl ⟨x, hx, h⟩

set_option maxRecDepth 100000 in
set_option maxHeartbeats 4000000 in
theorem bloomsOrder_walk (w : World) (v : Value) (l : List ByteArray) (a0 : Nat) (hv : RdT w v l) (hl : ∀ x ∈ l, x.size ≤ 140737488351232) (ha : a0 < 256) :
    Calls Try.prog 4 #[v, .int .u8 a0] w (RetTrue w) := by
  have hend : ∀ (w5 : World), Hid (Calls Try.prog 15 #[] w5 (RetTrue w5)) := fun w5 => alive09_any w5
  have HV := Lib.hid hv
  have HS := Lib.hid hl
  obtain ⟨va, vc, rfl, h1, h2, h3⟩ := hv
  clear h3 hl
  obtain ⟨vn, hvn⟩ : ∃ n, n = l.length := ⟨_, rfl⟩
  have HVN := Lib.hid hvn
  rw [← hvn] at h1 HV ⊢
  clear hvn
  by_cases hb : 200 < vn
  · go_enter Try.func4, Try.ntmps4
    go_wp2_with fail
    refine (hend _).out.mono ?_
    rintro e w1 ⟨rfl, bel⟩
    go_wp2_with fail
    refine (hend _).out.mono ?_
    rintro e w3 ⟨rfl, bel3⟩
    replace bel := Below.trans bel (bel3.mono bel.size)
    clear bel3
    go_wp2
    go_ret
    exact ⟨rfl, bel⟩
  go_enter Try.func4, Try.ntmps4
  go_wp2_with fail
  refine (hend _).out.mono ?_
  rintro e w1 ⟨rfl, bel⟩
  replace HV := Lib.hid (HV.out.below bel)
  have hz := textsSize_any w1 _ l HV.out (by rw [← HVN.out]; omega) HS.out
  rw [← HVN.out] at hz
  have HZ := Lib.hid hz
  clear hz
  go_wp2_with fail
  refine HZ.out.mono ?_
  rintro e w' ⟨z, rfl, hz, rfl⟩
  clear HZ
  by_cases hb3 : 20000 < z
  · clear hz
    go_wp2_with fail
    refine (hend _).out.mono ?_
    rintro e w3 ⟨rfl, bel3⟩
    replace bel := Below.trans bel (bel3.mono bel.size)
    clear bel3
    go_wp2
    go_ret
    exact ⟨rfl, bel⟩
  by_cases hb4 : vn = 0
  · clear hz
    go_wp2_with fail
    refine (hend _).out.mono ?_
    rintro e w3 ⟨rfl, bel3⟩
    replace bel := Below.trans bel (bel3.mono bel.size)
    clear bel3
    go_wp2
    go_ret
    exact ⟨rfl, bel⟩
  have hzz := hz (by omega)
  have HT : Hid (textsLen l ≤ 20000) := by show _ ≤ _; omega
  clear hz hzz
  replace HS : Hid (∀ x ∈ l, x.size ≤ 20000) := fun x hx => Nat.le_trans (textsLen_mem hx) HT.out
  obtain ⟨k, hk⟩ : ∃ k, k = a0 % vn := ⟨_, rfl⟩
  have hkv : k < vn := by rw [hk]; exact Nat.mod_lt _ (by omega)
  have hkk : ((a0 : Int) % (vn : Int)) = (k : Int) := by rw [hk]; simp
  clear hk
  have hb5 : ((vn : Int) == 0) = false := by simp; omega
  have hb6 : decide (200 < (vn : Int)) = false := by simp; omega
  have hb7 : decide (20000 < (z : Int)) = false := by simp; omega
  go_upto_region 4 with (fail)
  clear hb5 hb6 hb7
  rw [hkk]
  clear hkk
  obtain ⟨r1, rc1, hcut1, hr1⟩ := cutT_rest HV.out k (vn - k) (by rw [← HVN.out]; omega)
  obtain ⟨r2, rc2, hcut2, hr2⟩ := cutT_to HV.out k (by rw [← HVN.out]; omega)
  have s1 := fun w' => hcut1 w' .i64
  have s2 := fun w' => hcut2 w' .i64
  have R1 := Lib.hid hr1
  have R2 := Lib.hid hr2
  have B1 : Below w1.heap.size w1 w1 := Below.refl _ _
  have HK : Hid (k ≤ vn) := by show _ ≤ _; omega
  clear hr1 hr2 hcut1 hcut2
  obtain ⟨d, hd⟩ : ∃ d, d = vn - k := ⟨_, rfl⟩
  have hdl : d ≤ 200 := by omega
  have hkl : k ≤ 200 := by omega
  have HD : Hid (d = (l.drop k).length) := by show _ = _; rw [hd, HVN.out, List.length_drop]
  have HK2 : Hid (k = (l.take k).length) := by show _ = _; rw [List.length_take, ← HVN.out]; omega
  rw [← hd] at s1 R1
  have HDK : Hid (d + k = vn) := by show _ = _; omega
  clear hd
  go_region_held3 (fun w' => Below w1.heap.size w1 w')
    ((first | assumption | exact Below.drew B1 | exact Below.trans (by assumption) hb9))
    (first
      | (refine step_app_txt rfl _ _ rfl _ 0 d _ _ [] (l.drop k) rfl rfl (own_none _ w1.heap.size _ _) (R1.out.below (by assumption)) HD.out _ _ (Nat.zero_add _) rfl (by omega) (Below.size (w := w1) (by assumption)) ?_; intro ua uc w7 HU hb9)
      | (refine step_app_txt rfl _ _ rfl _ _ k _ _ _ (l.take k) rfl rfl HU.out (R2.out.below (by assumption)) HK2.out _ _ HDK.out rfl (by omega) (Below.size (w := w1) (by assumption)) ?_; intro ua uc w8 HU hb9))
  have B8 : Below w1.heap.size w1 w8 := by assumption
  have HTU : Hid (RdT w8 (.slice ua vn uc) (l.drop k ++ l.take k)) := rdT_own HU.out
  replace HV := Lib.hid (HV.out.below B8)
  have bel8 : Below w.heap.size w w8 := Below.trans bel (B8.mono bel.size)
  clear s1 s2 R1 R2 HD HK2 HDK HU B8 B1
  obtain ⟨a', c', hve, _, _, hcell⟩ := HV.out
  obtain ⟨b3, off3, hae, x0⟩ := hcell k (by rw [← HVN.out]; exact hkv)
  simp only [Value.slice.injEq] at hve
  obtain ⟨rfl, el, rfl⟩ := hve
  clear el
  subst hae
  clear hcell
  have hmem := List.getElem_mem (l := l) (n := k) (by rw [← HVN.out]; exact hkv)
  obtain ⟨x, hx⟩ : ∃ x, x = l[k]'(by rw [← HVN.out]; exact hkv) := ⟨_, rfl⟩
  rw [← hx] at x0 hmem
  have HX := Lib.hid hmem
  have HXE := Lib.hid hx
  clear hx hmem
  have hS : ∀ w', Below w8.heap.size w8 w' → w'.cell? ⟨b3, off3 + k, none⟩ = some (.string x) ∧ Below w8.heap.size w8 w' := fun w' hb' => ⟨Below.keeps hb' _ _ _ x0, hb'⟩
  have HSS := Lib.hid hS
  have B1 : Below w8.heap.size w8 w8 := Below.refl _ _
  clear hS
  go_upto_region 5 with (fail)
  clear x0
  go_region_held3 (fun w' => w'.cell? ⟨b3, off3 + k, none⟩ = some (.string x) ∧ Below w8.heap.size w8 w')
    ((go_split_ands; refine HSS.out _ ?_; first | assumption | exact Below.drew B1 | exact Below.trans (by assumption) (hb9.mono (by first | exact Nat.le_refl _ | assumption | exact Below.size (by assumption))) | exact Below.alloc (by assumption) (Below.size (w := w8) (by assumption)) _ | exact Below.alloc (Below.drew B1) (Nat.le_refl _) _))
    (first
      | (have hB : Below w8.heap.size w8 _ := And.right (by assumption); refine step_app_txt rfl _ _ rfl _ 0 vn _ _ [] l rfl rfl (own_none _ _ _ _) (HV.out.below hB) HVN.out _ _ (Nat.zero_add _) rfl (by omega) (Nat.le_refl _) ?_; intro ub uc2 w7 HU hb9; have hbs := hB.size; have hbt := hb9.size; try (have hlit := RdT.below (rdT_one w8.drew x 9) hb9))
      | (refine step_app_txt rfl _ _ rfl _ _ 1 _ _ _ [x] rfl rfl (own_below HU.out ((Below.refl _ _).alloc (Nat.le_refl _) _)) (rdT_one _ x _) rfl _ _ rfl rfl (by omega) (Nat.le_trans hbt (by simp)) ?_; intro ud uc3 w9 HU hb9)
      | (refine step_app_txt rfl _ _ rfl _ _ 1 _ _ _ [x] rfl rfl HU.out hlit rfl _ _ rfl rfl (by omega) hbt ?_; intro ud uc3 w9 HU hb9))
  all_goals
    have B9 : Below w8.heap.size w8 w9 := by go_split_ands; assumption
    have HTW : Hid (RdT w9 (.slice ud (vn + 1) uc3) (l ++ [x])) := rdT_own HU.out
    replace HV := Lib.hid (HV.out.below B9)
    replace HTU := Lib.hid (HTU.out.below B9)
    have bel9 : Below w.heap.size w w9 := Below.trans bel8 (B9.mono bel8.size)
    clear HU hb9 hbs hbt B9 HSS B1
    try clear hlit
    go_upto_region 6 with (fail)
    go_wp2_with (at_builtin; go_loud (first
      | (refine wp_app_txt2 rfl _ _ rfl _ 0 vn _ _ [] l rfl rfl (own_none _ _ _ _) HV.out HVN.out _ _ (Nat.zero_add _) rfl (by omega) (Nat.le_refl _) ?_; intro ue uf w10 HU hb9)
      | (refine wp_app_txt2 rfl _ _ rfl _ _ 1 _ _ _ [⟨#[111, 116, 104, 101, 114]⟩] rfl rfl (own_below HU.out ((Below.refl _ _).alloc (Nat.le_refl _) _)) (rdT_one _ _ _) rfl _ _ rfl rfl (by omega) (Nat.le_trans hb9.size (by simp)) ?_; intro ug uh w11 HW hb11)))
    have B11 : Below w9.heap.size w9 w11 := Below.trans (hb9.alloc hb9.size _) (hb11.mono (Nat.le_refl _))
    have HTO : Hid (RdT w11 (.slice ug (vn + 1) uh) (l ++ [⟨#[111, 116, 104, 101, 114]⟩])) := rdT_own HW.out
    replace HTW := Lib.hid (HTW.out.below B11)
    replace HV := Lib.hid (HV.out.below B11)
    replace HTU := Lib.hid (HTU.out.below B11)
    replace bel9 : Below w.heap.size w w11 := Below.trans bel9 (B11.mono bel9.size)
    clear B11 hb9 hb11 HU HW
    obtain ⟨m, hm⟩ : ∃ m, m = bloomN (vn + 1) + 1 := ⟨_, rfl⟩
    have hm3 : m ≤ 1000 := by rw [hm]; unfold bloomN; omega
    have hm0 : 1 ≤ m := by omega
    have HM := Lib.hid hm
    have hsx : ∀ s ∈ l ++ [x], s.size ≤ 1099511627776 := fun s hs => by
      rcases List.mem_append.1 hs with h | h
      · exact Nat.le_trans (HS.out s h) (by decide)
      · rw [List.mem_singleton.1 h]; exact Nat.le_trans (HS.out x HX.out) (by decide)
    have hso : ∀ s ∈ l ++ [⟨#[111, 116, 104, 101, 114]⟩], s.size ≤ 1099511627776 := fun s hs => by
      rcases List.mem_append.1 hs with h | h
      · exact Nat.le_trans (HS.out s h) (by decide)
      · rw [List.mem_singleton.1 h]; decide
    have HSX := Lib.hid hsx
    have HSO := Lib.hid hso
    have HL1 : Hid (∀ y : ByteArray, (l ++ [y]).length = vn + 1) := fun y => by rw [List.length_append, ← HVN.out]; rfl
    clear hm hsx hso
    refine (put_var9 w11 _ (l ++ [x]) m (by rw [HL1.out]; exact HM.out.symm) HTW.out (by rw [HL1.out]; omega) HSX.out).mono ?_
    rintro e w12 ⟨aa, ac, rfl, HA, bel12⟩
    replace HTO := Lib.hid (HTO.out.below bel12)
    replace HV := Lib.hid (HV.out.below bel12)
    replace HTU := Lib.hid (HTU.out.below bel12)
    replace bel9 := Below.trans bel9 (bel12.mono bel9.size)
    have HRA := Lib.hid (rd_of_own HA.out).2
    clear HA HTW bel12
    go_upto_region 8 with (fail)
    go_wp2_with fail
    refine (put_var9 w12 _ (l ++ [⟨#[111, 116, 104, 101, 114]⟩]) m (by rw [HL1.out]; exact HM.out.symm) HTO.out (by rw [HL1.out]; omega) HSO.out).mono ?_
    rintro e w13 ⟨ba, bc, rfl, HB, bel12⟩
    replace HV := Lib.hid (HV.out.below bel12)
    replace HTU := Lib.hid (HTU.out.below bel12)
    replace HRA := Lib.hid (HRA.out.below bel12)
    replace bel9 := Below.trans bel9 (bel12.mono bel9.size)
    have HRB := Lib.hid (rd_of_own HB.out).2
    clear HB HTO bel12
    obtain ⟨A, hA⟩ : ∃ A, A = bloomPut ((l ++ [x]).map fun s => s.data.toList) := ⟨_, rfl⟩
    obtain ⟨B, hB⟩ : ∃ B, B = bloomPut ((l ++ [(⟨#[111, 116, 104, 101, 114]⟩ : ByteArray)]).map fun s => s.data.toList) := ⟨_, rfl⟩
    have HAL : Hid (A.length = m) := by show _ = _; rw [hA, bloomPut_length, List.length_map, HL1.out, HM.out]
    have HBL : Hid (B.length = m) := by show _ = _; rw [hB, bloomPut_length, List.length_map, HL1.out, HM.out]
    have HAND : Hid (∀ j, j < m → (A.getD j 0).toNat &&& (B.getD j 0).toNat = (A.getD j 0).toNat) := fun j hj => by
      have := more_put (dat l) x.data.toList (⟨#[111, 116, 104, 101, 114]⟩ : ByteArray).data.toList (List.mem_map.2 ⟨x, HX.out, rfl⟩) j (by rw [dat, List.length_map, ← HVN.out]; have := HM.out; omega)
      rw [hA, hB, List.map_append, List.map_append]
      exact this
    have HM1 : Hid (mayB B (⟨#[111, 116, 104, 101, 114]⟩ : ByteArray).data.toList = true) := by show _ = _; rw [hB]; exact mayB_put (by simp)
    have HM2 : Hid (mayB B x.data.toList = true) := by show _ = _; rw [hB]; exact mayB_put (List.mem_map.2 ⟨x, List.mem_append_left _ HX.out, rfl⟩)
    rw [← hA] at HRA
    rw [← hB] at HRB
    clear hA hB
    go_upto_region 9 with (fail)
    go_wp2_with fail
    obtain ⟨p, hp⟩ : ∃ p, p = bloomN vn + 1 := ⟨_, rfl⟩
    have HP := Lib.hid hp
    have HLT : Hid ((l.drop k ++ l.take k).length = vn) := by show _ = _; rw [List.length_append, List.length_drop, List.length_take, ← HVN.out]; omega
    have hst : ∀ s ∈ l.drop k ++ l.take k, s.size ≤ 1099511627776 := fun s hs => by
      rcases List.mem_append.1 hs with h | h
      · exact Nat.le_trans (HS.out s (List.mem_of_mem_drop h)) (by decide)
      · exact Nat.le_trans (HS.out s (List.mem_of_mem_take h)) (by decide)
    have HST := Lib.hid hst
    clear hp hst
    refine (put_var9 w13 _ (l.drop k ++ l.take k) p (by rw [HLT.out]; exact HP.out.symm) HTU.out (by rw [HLT.out]; omega) HST.out).mono ?_
    rintro e w14 ⟨ca, cc, rfl, HC, bel12⟩
    replace HV := Lib.hid (HV.out.below bel12)
    replace HRA := Lib.hid (HRA.out.below bel12)
    replace HRB := Lib.hid (HRB.out.below bel12)
    replace bel9 := Below.trans bel9 (bel12.mono bel9.size)
    have HRC := Lib.hid (rd_of_own HC.out).2
    rw [show bloomPut ((l.drop k ++ l.take k).map fun s => s.data.toList) = bloomPut (l.map fun s => s.data.toList) from turn_put l k] at HRC
    clear HC HTU bel12
    go_wp2_with fail
    refine (put_var9 w14 _ l p (by rw [← HVN.out]; exact HP.out.symm) HV.out (by rw [← HVN.out]; omega) (fun s hs => Nat.le_trans (HS.out s hs) (by decide))).mono ?_
    rintro e w15 ⟨da, dc, rfl, HD, bel12⟩
    replace HV := Lib.hid (HV.out.below bel12)
    replace HRA := Lib.hid (HRA.out.below bel12)
    replace HRB := Lib.hid (HRB.out.below bel12)
    replace HRC := Lib.hid (HRC.out.below bel12)
    replace bel9 := Below.trans bel9 (bel12.mono bel9.size)
    have HRD := Lib.hid (rd_of_own HD.out).2
    clear HD bel12
    go_wp2_with fail
    refine (same_bt w15 _ _ _ HRC.out HRD.out).mono ?_
    rintro e w16 ⟨rfl, bel12⟩
    replace HV := Lib.hid (HV.out.below bel12)
    replace HRA := Lib.hid (HRA.out.below bel12)
    replace HRB := Lib.hid (HRB.out.below bel12)
    replace bel9 := Below.trans bel9 (bel12.mono bel9.size)
    clear HRC HRD bel12
    obtain ⟨a', c', e1, _, _, hcell⟩ := HRA.out
    obtain ⟨ab, aoff, hae, _⟩ := hcell 0 (by rw [HAL.out]; exact hm0)
    simp only [Value.slice.injEq] at e1
    obtain ⟨rfl, el, rfl⟩ := e1
    clear el
    subst hae
    obtain ⟨a', c', e1, _, _, hcell⟩ := HRB.out
    obtain ⟨bb, boff, hae, _⟩ := hcell 0 (by rw [HBL.out]; exact hm0)
    simp only [Value.slice.injEq] at e1
    obtain ⟨rfl, el, rfl⟩ := e1
    clear el
    subst hae
    go_upto_region 11 with (fail)
    go_wp2_with fail
    show Code.wp _ _ _ _ _
    go_loopw [11] (fun i wr => ∃ q : Nat, q ≤ m ∧ i = .int .i64 q ∧ Below w16.heap.size w16 wr) (fun i _ => m - (intOf i).toNat)
    case atStart => exact ⟨0, Nat.zero_le _, rfl, Below.refl _ _⟩
    case round =>
      obtain ⟨q, hq, rfl, belr⟩ := hrel
      by_cases hlt : q < m
      · obtain ⟨a', c', e1, _, _, hcell⟩ := HRA.out.below belr
        obtain ⟨b, off, hae, c0⟩ := hcell q (by rw [HAL.out]; exact hlt)
        simp only [Value.slice.injEq] at e1
        obtain ⟨e1, _, _⟩ := e1
        rw [hae] at e1
        cases e1
        clear hcell hae
        obtain ⟨a', c', e1, _, _, hcell⟩ := HRB.out.below belr
        obtain ⟨b, off, hae, d0⟩ := hcell q (by rw [HBL.out]; exact hlt)
        simp only [Value.slice.injEq] at e1
        obtain ⟨e1, _, _⟩ := e1
        rw [hae] at e1
        cases e1
        clear hcell hae
        have hand := HAND.out q hlt
        rw [List.getD_eq_getElem?_getD, List.getD_eq_getElem?_getD, List.getElem?_eq_getElem (by rw [HAL.out]; exact hlt), List.getElem?_eq_getElem (by rw [HBL.out]; exact hlt)] at hand
        simp only [Option.getD_some] at hand
        obtain ⟨u, hu⟩ : ∃ u : Nat, u = (A[q]'(by rw [HAL.out]; exact hlt)).toNat := ⟨_, rfl⟩
        obtain ⟨t, ht⟩ : ∃ t : Nat, t = (B[q]'(by rw [HBL.out]; exact hlt)).toNat := ⟨_, rfl⟩
        rw [← hu, ← ht] at hand
        rw [← hu] at c0
        rw [← ht] at d0
        have hbit := u8_and_nat u t (by rw [hu]; exact UInt8.toNat_lt _) (by rw [ht]; exact UInt8.toNat_lt _)
        rw [hand] at hbit
        clear hand hu ht
        obtain ⟨wr, hwr⟩ := the_world belr
        subst hwr
        go_wp2_with fail
        go_quiet (fail)
        go_wp2_with fail
        exact ⟨⟨q + 1, by omega, by go_num, Below.trans belr ((drewN_below _ _).mono belr.size)⟩, by simp [intOf]; omega⟩
      · obtain rfl : q = m := by omega
        have hbelw := Below.trans bel9 (belr.mono bel9.size)
        replace HV := Lib.hid (HV.out.below belr)
        replace HRB := Lib.hid (HRB.out.below belr)
        obtain ⟨wr, hwr⟩ := the_world belr
        subst hwr
        clear belr
        go_wp2_with fail
        refine (may9_any wr _ B ⟨#[111, 116, 104, 101, 114]⟩ true HM1.out (by decide) (by rw [HBL.out]; omega) HRB.out).mono ?_
        rintro e w17 ⟨rfl, bel17⟩
        replace HRB := Lib.hid (HRB.out.below bel17)
        replace hbelw := Below.trans hbelw (bel17.mono hbelw.size)
        obtain ⟨a', c', hve, _, _, hcell⟩ := HV.out.below bel17
        obtain ⟨b3, off3, hae, x0⟩ := hcell k (by rw [← HVN.out]; exact hkv)
        simp only [Value.slice.injEq] at hve
        obtain ⟨e1, el, _⟩ := hve
        rw [hae] at e1
        cases e1
        clear hcell hae el bel17
        rw [← HXE.out] at x0
        go_wp2_with fail
        refine (may9_any w17 _ B x true HM2.out (Nat.le_trans (HS.out x HX.out) (by decide)) (by rw [HBL.out]; omega) HRB.out).mono ?_
        rintro e w18 ⟨rfl, bel18⟩
        replace hbelw := Below.trans hbelw (bel18.mono hbelw.size)
        go_wp2
        go_ret
        exact ⟨rfl, hbelw⟩
end Go.Proofs.Ytnfamahfaghejaa

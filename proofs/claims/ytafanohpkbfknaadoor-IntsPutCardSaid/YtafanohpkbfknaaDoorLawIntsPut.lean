/- The law IntsPut answers true for any bytes, number and text. The condition: bytes and a text that the machine bears. -/
import Derived.Test.YtafanohpkbfknaaDoorBook9
import Derived.Test.YtafanohpkbfknaaDoorRefPut
import Derived.Test.YtafanohpkbfknaaDoorNum
namespace Go.Proofs.YtafanohpkbfknaaDoor
open Go.RowKit

theorem ap_of_ranges {M : Nat} {L : Nat → Value} (S : Nat → Nat) (hmono : ∀ j k, j ≤ k → k ≤ M → S j ≤ S k) (hr : ∀ j, j < M → ∀ b, (L j).ownBlock = some b → S j ≤ b ∧ b < S (j + 1)) :
    ∀ j k, j < M → k < M → j ≠ k → ∀ b, (L j).ownBlock = some b → (L k).ownBlock ≠ some b := by
  intro j k hj hk hne b e e2
  have a := hr j hj b e
  have c := hr k hk b e2
  rcases Nat.lt_or_gt_of_ne hne with h | h
  · have := hmono (j + 1) k h (by omega); omega
  · have := hmono (k + 1) j h (by omega); omega
/-- four of them -/
def four4 {α : Type} (a b c d : α) : Nat → α
  | 0 => a
  | 1 => b
  | 2 => c
  | _ => d
theorem all4 {P : Nat → Prop} (h0 : P 0) (h1 : P 1) (h2 : P 2) (h3 : P 3) : ∀ j, j < 4 → P j
  | 0, _ => h0
  | 1, _ => h1
  | 2, _ => h2
  | 3, _ => h3
  | j + 4, h => absurd h (by omega)

set_option maxRecDepth 100000 in
set_option maxHeartbeats 8000000 in
theorem intsPut_walk (w : World) (v : Value) (l : List UInt8) (a1 : Int) (s : ByteArray) (hv : Rd w v l) (hl : l.length ≤ 140737488351232) (wa : (Lit.int .u64 a1).wf = true) (hs : s.size ≤ 140737488351232) :
    Calls Tryd.prog 3 #[v, .int .u64 a1, .string s] w (fun e w' => e = .returned (.bool true) ∧ Below w.heap.size w w') := by
  obtain ⟨n, rfl, hn⟩ := nat_u64 wa
  clear wa
  obtain ⟨va, vn, vc, rfl, hvn⟩ := rd_len hv
  have HV := Lib.hid hv
  have HVN := Lib.hid hvn
  rw [← hvn] at hl
  clear hvn hv
  obtain ⟨z, hz⟩ : ∃ z, z = vn + s.size := ⟨_, rfl⟩
  have hzi : (vn : Int) + (s.size : Int) = (z : Int) := by omega
  have hzw : IntKind.i64.wrap (z : Int) = (z : Int) := IntWalk.i64_in _ (by omega)
  have hz2 : z ≤ 281474976702464 := by omega
  have HZ := Lib.hid hz
  clear hz
  go_enter Tryd.func3, Tryd.ntmps3
  go_wp2_with fail
  by_cases hbig : 1048576 < z
  · refine (beyond_one w _ _ (by omega) (by omega) true (by simp; omega)).mono ?_
    rintro e w1 ⟨rfl, bel⟩
    go_wp2
    go_ret
    exact ⟨rfl, bel⟩
  refine (beyond_one w _ _ (by omega) (by omega) false (by simp; omega)).mono ?_
  rintro e w1 ⟨rfl, bel1⟩
  have HB1 := Lib.hid bel1
  have hz3 : vn + s.size ≤ 1048576 := by have := HZ.out; omega
  have hvs : vn ≤ 1048576 := by omega
  have hss : s.size ≤ 1048576 := by omega
  have HLL : Hid (l.length ≤ 1048576) := by show _ ≤ _; rw [← HVN.out]; exact hvs
  clear bel1 hzi hzw hz2 HZ hbig hz3
  go_wp2_with fail
  refine (twinBytes_any _ l w1 (HV.out.below HB1.out) (by have := HLL.out; omega)).mono ?_
  rintro e w2 ⟨vt, rfl, htw, bel2⟩
  obtain ⟨tg, htv, _, htb, htg⟩ := id htw
  have htv2 : vt = .slice (some ⟨tg, 0, none⟩) vn (vn + 1) := by rw [HVN.out]; exact htv
  subst htv2
  have htl : tg < w2.heap.size := (Array.getElem?_eq_some_iff.1 htg).1
  have HTW := Lib.hid htw
  have HB2 := Lib.hid (HB1.out.trans (bel2.mono HB1.out.size))
  have HTG : Hid (w1.heap.size ≤ tg ∧ tg < w2.heap.size) := ⟨htb, htl⟩
  have HS2 : Hid (w1.heap.size ≤ w2.heap.size) := bel2.size
  clear htv htb htg htl htw bel2
  have HTR := Lib.hid (twin_rd HTW.out)
  -- the number
  go_wp2_with fail
  refine (put_any w2 _ l n HTR.out hn (by have := HLL.out; omega)).mono ?_
  rintro e w3 h3
  obtain ⟨xa, xn, xc, rfl, HXN, HXO, bel3⟩ := my_of_own h3
  have HX := Lib.hid (own_lt HXO.out (by rw [HXN.out, List.length_append]; have := vint_pos n; omega))
  have HB3 := Lib.hid (HB2.out.trans (bel3.mono HB2.out.size))
  have HTW3 := Lib.hid (twin_below HTW.out bel3)
  have HS3 : Hid (w2.heap.size ≤ w3.heap.size) := bel3.size
  clear h3 bel3 HTW HTR
  -- the number of four bytes
  obtain ⟨q, hq⟩ : ∃ q, q = n % 4294967296 := ⟨_, rfl⟩
  have hqw : IntKind.u32.wrap (n : Int) = (q : Int) := by
    rw [hq]
    simp only [IntKind.wrap, IntKind.signed, IntKind.bits]
    simp
  have hq2 : q < 4294967296 := by omega
  have hqm : (n : Int) % 4294967296 = (q : Int) := by omega
  clear hq
  go_wp2_with fail
  refine (putFour_any w3 _ l q (twin_rd HTW3.out) hq2 (by have := HLL.out; omega)).mono ?_
  rintro e w4 h4
  obtain ⟨ya, yn, yc, rfl, HYN, HYO, bel4⟩ := my_of_own h4
  have HY := Lib.hid (own_lt HYO.out (by rw [HYN.out, List.length_append, four_length]; omega))
  have HB4 := Lib.hid (HB3.out.trans (bel4.mono HB3.out.size))
  have HTW4 := Lib.hid (twin_below HTW3.out bel4)
  have HXO4 := Lib.hid (own_below HXO.out bel4)
  have HS4 : Hid (w3.heap.size ≤ w4.heap.size) := bel4.size
  clear h4 bel4 HTW3 HXO
  -- the text
  go_wp2_with fail
  refine (putText_any w4 _ l s (twin_rd HTW4.out) (by omega) (by have := HLL.out; omega)).mono ?_
  rintro e w5 h5
  obtain ⟨za, zn, zc, rfl, HZN, HZO, bel5⟩ := my_of_own h5
  have HZ := Lib.hid (own_lt HZO.out (by rw [HZN.out, List.length_append, List.length_append]; have := vint_pos s.size; omega))
  have HB5 := Lib.hid (HB4.out.trans (bel5.mono HB4.out.size))
  have HTW5 := Lib.hid (twin_below HTW4.out bel5)
  have HXO5 := Lib.hid (own_below HXO4.out bel5)
  have HYO5 := Lib.hid (own_below HYO.out bel5)
  have HS5 : Hid (w4.heap.size ≤ w5.heap.size) := bel5.size
  clear h5 bel5 HTW4 HXO4 HYO
  have HC0 : Hid (Below w5.heap.size w5 w5) := Below.refl _ _
  -- the document's answers
  go_wp2_with fail
  refine (refPut_any w5 _ l n (HV.out.below HB5.out) hn (by have := HLL.out; omega)).mono ?_
  rintro e w6 ⟨ra, rn, rc, rfl, _, HRO, belr⟩
  have HSB := Lib.hid (same_bt w6 (.slice xa xn xc) (.slice ra rn rc) _ ((rd_of_own HXO5.out).2.below belr) (rd_of_own HRO.out).2)
  have HC6 := Lib.hid (HC0.out.trans belr)
  clear HRO belr HC0
  go_wp2_with fail
  refine HSB.out.mono ?_
  rintro e w7 ⟨rfl, belb⟩
  have HC7 := Lib.hid (HC6.out.trans (belb.mono HC6.out.size))
  clear HSB belb HC6
  go_wp2_with fail
  refine (refPutFour_any w7 _ l q ((HV.out.below HB5.out).below HC7.out) hq2 (by have := HLL.out; omega)).mono ?_
  rintro e w8 ⟨ra2, rn2, rc2, rfl, _, HRO, belr⟩
  have HC8 := Lib.hid (HC7.out.trans (belr.mono HC7.out.size))
  have HSB := Lib.hid (same_bt w8 (.slice ya yn yc) (.slice ra2 rn2 rc2) _ ((rd_of_own HYO5.out).2.below HC8.out) (rd_of_own HRO.out).2)
  clear HRO belr HC7
  go_wp2_with fail
  refine HSB.out.mono ?_
  rintro e w9 ⟨rfl, belb⟩
  have HC9 := Lib.hid (HC8.out.trans (belb.mono HC8.out.size))
  clear HSB belb HC8
  go_wp2_with fail
  refine (refPutText_any w9 _ l s ((HV.out.below HB5.out).below HC9.out) (by omega) (by have := HLL.out; omega)).mono ?_
  rintro e wa ⟨ra3, rn3, rc3, rfl, _, HRO, belr⟩
  have HCa := Lib.hid (HC9.out.trans (belr.mono HC9.out.size))
  have HSB := Lib.hid (same_bt wa (.slice za zn zc) (.slice ra3 rn3 rc3) _ ((rd_of_own HZO.out).2.below HCa.out) (rd_of_own HRO.out).2)
  clear HRO belr HC9
  go_wp2_with fail
  refine HSB.out.mono ?_
  rintro e wb ⟨rfl, belb⟩
  have HCb := Lib.hid (HCa.out.trans (belb.mono HCa.out.size))
  clear HSB belb HCa
  have HLB := Lib.hid (leftBytes_any _ _ _ l wb (twin_below HTW5.out HCb.out) ((HV.out.below HB5.out).below HCb.out))
  go_wp2_with fail
  refine HLB.out.mono ?_
  rintro e wc ⟨rfl, nd, rfl⟩
  have hdw := drewN_below wb nd
  have HCc := Lib.hid (HCb.out.trans (hdw.mono HCb.out.size))
  generalize wb.drewN nd = wc at HCc ⊢
  clear HLB hdw HCb hqw hqm
  -- the book
  have HBc := Lib.hid (HB5.out.trans (HCc.out.mono HB5.out.size))
  obtain ⟨base, hba⟩ : ∃ x, x = w.heap.size := ⟨_, rfl⟩
  have hbl : base ≤ w1.heap.size := by rw [hba]; exact HB1.out.size
  have HT0 := Lib.hid (own_mono (own_below (twin_own HTW5.out) HCc.out) hbl)
  have HX0 := Lib.hid (own_mono (own_below HXO5.out HCc.out) (Nat.le_trans hbl HS2.out))
  have HY0 := Lib.hid (own_mono (own_below HYO5.out HCc.out) (Nat.le_trans hbl (Nat.le_trans HS2.out HS3.out)))
  have HZ0 := Lib.hid (own_mono (own_below HZO.out HCc.out) (Nat.le_trans hbl (Nat.le_trans HS2.out (Nat.le_trans HS3.out HS4.out))))
  rw [← HVN.out] at HT0
  have hszc : w5.heap.size ≤ wc.heap.size := HCc.out.size
  have HRNG : Hid (∀ j, j < 4 → ∀ b, (four4 (Value.slice (some ⟨tg, 0, none⟩) vn (vn + 1)) (.slice xa xn xc) (.slice ya yn yc) (.slice za zn zc) j).ownBlock = some b → four4 w1.heap.size w2.heap.size w3.heap.size w4.heap.size j ≤ b ∧ b < four4 w2.heap.size w3.heap.size w4.heap.size w5.heap.size j) :=
    all4 (fun b hb => by
      simp only [four4, Value.ownBlock, Option.some.injEq] at hb
      subst hb
      exact HTG.out) HX.out HY.out HZ.out
  have HKS : Hid (KeepSt (wc.alloc (.cells (bkC 0 (.slice none 0 0) (.slice none 0 0)) 45)) base wc.heap.size 0 4 (.slice none 0 0) (.slice none 0 0) (four4 (Value.slice (some ⟨tg, 0, none⟩) vn (vn + 1)) (.slice xa xn xc) (.slice ya yn yc) (.slice za zn zc)) (four4 vn xn yn zn) (four4 l (l ++ vint n) (l ++ four q) (l ++ (vint s.size ++ s.data.toList)))) :=
    KeepSt.new (all4 HT0.out HX0.out HY0.out HZ0.out) (all4 (fun b hb => by have := HRNG.out 0 (by omega) b hb; simp only [four4] at this; have h3 := HS3.out; have h4 := HS4.out; have h5 := HS5.out; omega)
      (fun b hb => by have := HRNG.out 1 (by omega) b hb; simp only [four4] at this; have h4 := HS4.out; have h5 := HS5.out; omega)
      (fun b hb => by have := HRNG.out 2 (by omega) b hb; simp only [four4] at this; have h5 := HS5.out; omega)
      (fun b hb => by have := HRNG.out 3 (by omega) b hb; simp only [four4] at this; omega))
  have HAPT : Hid (∀ j k, j < 4 → k < 4 → j ≠ k → ∀ b, (four4 (Value.slice (some ⟨tg, 0, none⟩) vn (vn + 1)) (.slice xa xn xc) (.slice ya yn yc) (.slice za zn zc) j).ownBlock = some b → (four4 (Value.slice (some ⟨tg, 0, none⟩) vn (vn + 1)) (.slice xa xn xc) (.slice ya yn yc) (.slice za zn zc) k).ownBlock ≠ some b) := by
    refine ap_of_ranges (fun j => if j = 0 then w1.heap.size else if j = 1 then w2.heap.size else if j = 2 then w3.heap.size else if j = 3 then w4.heap.size else w5.heap.size) ?_ ?_
    · intro j k h1 h2
      have s2 := HS2.out
      have s3 := HS3.out
      have s4 := HS4.out
      have s5 := HS5.out
      show (if _ then _ else _) ≤ (if _ then _ else _)
      repeat' split
      all_goals omega
    · exact all4 (HRNG.out 0 (by omega)) (HRNG.out 1 (by omega)) (HRNG.out 2 (by omega)) (HRNG.out 3 (by omega))
  have hgb : base ≤ wc.heap.size := by rw [hba]; exact HBc.out.size
  have hal : Below w.heap.size w (wc.alloc (.cells (bkC 0 (.slice none 0 0) (.slice none 0 0)) 45)) := HBc.out.alloc HBc.out.size _
  rw [← hba] at hal
  have HAL := Lib.hid hal
  have HLIM : Hid (∀ j, j < 4 → four4 vn xn yn zn j ≤ 1000000000000) := by
    have h1 := HXN.out
    have h2 := HYN.out
    have h3 := HZN.out
    have h4 := HLL.out
    have h5 := vint_le n
    have h6 := vint_le s.size
    have h7 := four_length q
    have h8 : s.data.toList.length = s.size := by rw [Array.length_toList]; rfl
    simp only [List.length_append] at h1 h2 h3
    exact all4 (by show vn ≤ _; omega) (by show xn ≤ _; omega) (by show yn ≤ _; omega) (by show zn ≤ _; omega)
  clear hal hszc HT0 HX0 HY0 HZ0 HRNG HTW5 HXO5 HYO5 HZO HX HY HZ HTG HXN HYN HZN HBc HCc HB5 HB4 HB3 HB2 HB1
  go_upto_region 10 with (fail)
  obtain ⟨wk, hwk⟩ : ∃ x, x = wc.alloc (.cells (bkC 0 (.slice none 0 0) (.slice none 0 0)) 45) := ⟨_, rfl⟩
  rw [← hwk] at HKS HAL
  change Code.wp _ _ _ _ (wc.alloc (.cells (bkC 0 (.slice none 0 0) (.slice none 0 0)) 45))
  rw [← hwk]
  clear hwk
  obtain ⟨g, hg⟩ : ∃ x, x = wc.heap.size := ⟨_, rfl⟩
  rw [← hg] at HKS hgb
  rw [← hg]
  clear hg
  have HKB := Lib.hid (bytes_any wk base g 0 4 (.slice none 0 0) (.slice none 0 0) (four4 (Value.slice (some ⟨tg, 0, none⟩) vn (vn + 1)) (.slice xa xn xc) (.slice ya yn yc) (.slice za zn zc)) (four4 vn xn yn zn) (four4 l (l ++ vint n) (l ++ four q) (l ++ (vint s.size ++ s.data.toList))) HKS.out (by omega) (by omega) hgb _ rfl)
  go_wp2_with fail
  refine HKB.out.mono ?_
  rintro e wk1 ⟨rfl, hks, hb⟩
  have HAL2 := Lib.hid (HAL.out.trans hb)
  clear HAL HKS HKB
  obtain ⟨bv1, hks2⟩ := hks.out
  have HAL := HAL2
  have HKS := Lib.hid hks2
  clear HAL2 hks hks2 hb
  have HKB := Lib.hid (bytes_any wk1 base g 1 4 bv1 (.slice none 0 0) (four4 (Value.slice (some ⟨tg, 0, none⟩) vn (vn + 1)) (.slice xa xn xc) (.slice ya yn yc) (.slice za zn zc)) (four4 vn xn yn zn) (four4 l (l ++ vint n) (l ++ four q) (l ++ (vint s.size ++ s.data.toList))) HKS.out (by omega) (by omega) hgb _ rfl)
  go_wp2_with fail
  refine HKB.out.mono ?_
  rintro e wk2 ⟨rfl, hks, hb⟩
  have HAL2 := Lib.hid (HAL.out.trans hb)
  clear HAL HKS HKB
  obtain ⟨bv2, hks2⟩ := hks.out
  have HAL := HAL2
  have HKS := Lib.hid hks2
  clear HAL2 hks hks2 hb
  have HKB := Lib.hid (bytes_any wk2 base g 2 4 bv2 (.slice none 0 0) (four4 (Value.slice (some ⟨tg, 0, none⟩) vn (vn + 1)) (.slice xa xn xc) (.slice ya yn yc) (.slice za zn zc)) (four4 vn xn yn zn) (four4 l (l ++ vint n) (l ++ four q) (l ++ (vint s.size ++ s.data.toList))) HKS.out (by omega) (by omega) hgb _ rfl)
  go_wp2_with fail
  refine HKB.out.mono ?_
  rintro e wk3 ⟨rfl, hks, hb⟩
  have HAL2 := Lib.hid (HAL.out.trans hb)
  clear HAL HKS HKB
  obtain ⟨bv3, hks2⟩ := hks.out
  have HAL := HAL2
  have HKS := Lib.hid hks2
  clear HAL2 hks hks2 hb
  have HKB := Lib.hid (bytes_any wk3 base g 3 4 bv3 (.slice none 0 0) (four4 (Value.slice (some ⟨tg, 0, none⟩) vn (vn + 1)) (.slice xa xn xc) (.slice ya yn yc) (.slice za zn zc)) (four4 vn xn yn zn) (four4 l (l ++ vint n) (l ++ four q) (l ++ (vint s.size ++ s.data.toList))) HKS.out (by omega) (by omega) hgb _ rfl)
  go_wp2_with fail
  refine HKB.out.mono ?_
  rintro e wk4 ⟨rfl, hks, hb⟩
  have HAL2 := Lib.hid (HAL.out.trans hb)
  clear HAL HKS HKB
  obtain ⟨bv4, hks2⟩ := hks.out
  have HAL := HAL2
  have HKS := Lib.hid hks2
  clear HAL2 hks hks2 hb
  have HAP := Lib.hid (apart_any wk4 base g 4 bv4 (four4 (Value.slice (some ⟨tg, 0, none⟩) vn (vn + 1)) (.slice xa xn xc) (.slice ya yn yc) (.slice za zn zc)) (four4 vn xn yn zn) (four4 l (l ++ vint n) (l ++ four q) (l ++ (vint s.size ++ s.data.toList))) (HKS.out.bk HAPT.out) (by omega) hgb HLIM.out)
  go_wp2_with fail
  refine HAP.out.mono ?_
  rintro e wz ⟨rfl, hb⟩
  have HF := HAL.out.trans hb
  clear HAL HKS HAP hb
  go_wp2
  go_ret
  rw [← hba]
  exact ⟨rfl, HF⟩
end Go.Proofs.YtafanohpkbfknaaDoor

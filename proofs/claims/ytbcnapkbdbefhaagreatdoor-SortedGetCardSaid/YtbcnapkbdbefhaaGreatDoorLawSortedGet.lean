/- The law SortedGet answers true for any bytes, any mark, any number. The condition: as many bytes as the machine bears. -/
import Derived.Test.YtbcnapkbdbefhaaGreatDoorKdBE
import Derived.Test.YtbcnapkbdbefhaaGreatDoorKdEntry
import Derived.Test.YtbcnapkbdbefhaaGreatDoorKdByte
import Derived.Test.YtbcnapkbdbefhaaGreatDoorKindA
import Derived.Test.YtbcnapkbdbefhaaGreatDoorSGetR
import Derived.Test.YtbcnapkbdbefhaaGreatDoorSameE
namespace Go.Proofs.YtbcnapkbdbefhaaGreatDoor
open Go.RowKit
/-- both ways of a Get in one: entries and a number -/
def RetGetU (X : List Ent) (er : Int) (w : World) (e : Ending) (w' : World) : Prop :=
  ∃ a n c, e = .returned (.tuple #[.slice a n c, .int .i64 er]) ∧ Hid (n = X.length) ∧ Hid (Own w' w.heap.size 34 4 (.slice a n c) n (pcells (X.map toPE))) ∧ Hid (InR (.slice a n c) w.heap.size w'.heap.size) ∧ Below w.heap.size w w'
theorem getU_of {X : List Ent} {er : Nat} {w : World} {e : Ending} {w' : World} (h : RetAE X er w e w') : RetGetU X er w e w' := by
  obtain ⟨a, n, c, rfl, hn, ho, hb⟩ := h
  exact ⟨a, n, c, rfl, hn, ho, own_ltR ho.out, hb⟩
theorem twG_of {w : World} {base : Nat} {v : Value} {l : List UInt8} (h : Twin w base v l) : ∃ g, v = .slice (some ⟨g, 0, none⟩) l.length (l.length + 1) ∧ base ≤ g ∧ g < w.heap.size := by
  obtain ⟨g, e, _, h1, h2⟩ := h
  exact ⟨g, e, h1, (Array.getElem?_eq_some_iff.1 h2).1⟩
set_option maxRecDepth 100000 in
set_option maxHeartbeats 8000000 in
theorem sortedGet_walk (w : World) (v : Value) (b : List UInt8) (mk : ByteArray) (ms : Nat) (mg : Bool) (most : Int) (hv : Rd w v b) (hl0 : b.length ≤ 140737488351232) (_ : mk.size ≤ 140737488351232) (_ : ms < 18446744073709551616) (hmost : -9223372036854775808 ≤ most ∧ most ≤ 9223372036854775807) :
    Calls Tryz.prog 3 #[v, .agg #[.string mk, .int .u64 ms, .bool mg, .int .i64 most]] w (fun e w' => e = .returned (.bool true) ∧ Below w.heap.size w w') := by
  have HV := Lib.hid hv
  obtain ⟨va, vn, vc, rfl, hvn⟩ := rd_len hv
  have HVN := Lib.hid hvn
  rw [← hvn] at hl0
  clear hv hvn
  obtain ⟨W, hW⟩ : ∃ W, W = w.alloc (.cells #[.string mk, .int .u64 ms, .bool mg, .int .i64 most] 27) := ⟨_, rfl⟩
  have HM : Hid (Blk W w.heap.size #[.string mk, .int .u64 ms, .bool mg, .int .i64 most] 27) := Lib.hid (by rw [hW]; exact Blk.new _ _ _)
  have hbw : Below w.heap.size w W := by rw [hW]; exact (Below.refl _ _).alloc (Nat.le_refl _) _
  have HBW := Lib.hid hbw
  replace HV := Lib.hid (HV.out.below hbw)
  obtain ⟨gm, hgm⟩ : ∃ g, g = w.heap.size := ⟨_, rfl⟩
  have HMC : Hid (∀ w', Below W.heap.size W w' → (w'.cell? ⟨gm, 0, none⟩ = some (.string mk) ∧ w'.cell? ⟨gm, 1, none⟩ = some (.int .u64 ms) ∧ w'.cell? ⟨gm, 2, none⟩ = some (.bool mg) ∧ w'.cell? ⟨gm, 3, none⟩ = some (.int .i64 most))) := Lib.hid fun w' hb => by
    rw [hgm]
    have h := HM.out.below hb
    exact ⟨h.cellv 0 _ rfl, h.cellv 1 _ rfl, h.cellv 2 _ rfl, h.cellv 3 _ rfl⟩
  clear hbw HM
  go_enter Tryz.func3, Tryz.ntmps3
  go_upto_region 1 with (fail)
  rw [← hW, ← hgm]
  clear hW hgm
  obtain ⟨m0, -, -, -⟩ := HMC.out W (Below.refl _ _)
  by_cases hb1 : 20000 < vn
  · go_wp2
    go_ret
    exact ⟨rfl, HBW.out⟩
  by_cases hb2 : 1000 < mk.size
  · go_wp2
    go_ret
    exact ⟨rfl, HBW.out⟩
  have HTW := Lib.hid (twinBytes_any _ b W HV.out (by rw [← HVN.out]; omega))
  go_wp2_with fail
  refine HTW.out.mono ?_
  rintro e w2 ⟨tv, rfl, htw, bel2⟩
  obtain ⟨tg, rfl, hg1, hg2⟩ := twG_of htw
  have HD2 := Lib.hid bel2
  have HB2 := Lib.hid (HBW.out.trans (bel2.mono HBW.out.size))
  have HV2 := Lib.hid (HV.out.below bel2)
  rw [HVN.out.symm] at htw ⊢
  have HTW2 := Lib.hid htw
  have HR0 : Hid (InR (.slice (some ⟨tg, 0, none⟩) vn (vn + 1)) W.heap.size w2.heap.size) := Lib.hid (inR_some _ _ _ hg1 hg2)
  have HSW : Hid (w.heap.size ≤ W.heap.size) := HBW.out.size
  clear bel2 HTW htw hg1 hg2 HBW m0
  obtain ⟨hm1, hm2⟩ := hmost
  obtain ⟨X, er, hX⟩ := allIs_ex b
  obtain ⟨Y, hY⟩ : ∃ Y, Y = (X.drop (seekAt mk.data.toList ms mg X)).take (mostN most (X.drop (seekAt mk.data.toList ms mg X)).length) := ⟨_, rfl⟩
  have hx64 : X.length ≤ 4096 := hX.small.1
  have hy64 : Y.length ≤ 4096 := by rw [hY]; exact Nat.le_trans (List.length_take_le' _ _) (by rw [List.length_drop]; omega)
  obtain ⟨y, hy⟩ : ∃ y, y = (getS mk.data.toList ms X).getD Ent.none := ⟨_, rfl⟩
  obtain ⟨wk, ws, wg, wu, hyc⟩ : ∃ (wk : ByteArray) (ws : Nat) (wg : Bool) (wu : ByteArray), entV y = .agg #[.string wk, .int .u64 ws, .bool wg, .string wu] := ⟨_, _, _, _, rfl⟩
  obtain ⟨tb, htb⟩ : ∃ tb, tb = (getS mk.data.toList ms X).isSome := ⟨_, rfl⟩
  have HGT := Lib.hid fun w' (h : Rd w' (.slice (some ⟨tg, 0, none⟩) vn (vn + 1)) b) => (sortedAll_any w' _ b X er h (by rw [← HVN.out]; omega) hX).mono fun _ _ h => getU_of h
  have HG1 : Hid (∀ w', Rd w' (.slice (some ⟨tg, 0, none⟩) vn (vn + 1)) b → Calls Tryz.prog 7 #[(.slice (some ⟨tg, 0, none⟩) vn (vn + 1)), .string mk, .int .u64 ms] w' fun e w'' => e = .returned (.tuple #[.agg #[.string wk, .int .u64 ws, .bool wg, .string wu], .bool tb, .int .i64 er]) ∧ Below w'.heap.size w' w'') := fun w' h =>
    (sortedGet_any w' _ b X er mk ms h (by rw [← HVN.out]; omega) hX).mono fun _ _ h => ⟨by rw [h.1, ← hy, ← htb, hyc], h.2⟩
  have HSK := Lib.hid fun w' (h : Rd w' (.slice (some ⟨tg, 0, none⟩) vn (vn + 1)) b) => (sortedFrom_any w' _ b X er mk ms mg most h (by rw [← HVN.out]; omega) hX hm1 hm2).mono fun _ _ h => getU_of h
  have HRG := Lib.hid fun w' (h : Rd w' (.slice va vn vc) b) => (refAll_any w' _ b X er h (by rw [← HVN.out]; omega) hX).mono fun _ _ h => getU_of h
  have HG2 : Hid (∀ w', Rd w' (.slice va vn vc) b → Calls Tryz.prog 10 #[.slice va vn vc, .string mk, .int .u64 ms] w' fun e w'' => e = .returned (.tuple #[.agg #[.string wk, .int .u64 ws, .bool wg, .string wu], .bool tb, .int .i64 er]) ∧ Below w'.heap.size w' w'') := fun w' h =>
    (refGetS_any w' _ b X er mk ms h (by rw [← HVN.out]; omega) hX).mono fun _ _ h => ⟨by rw [h.1, ← hy, ← htb, hyc], h.2⟩
  have HRS := Lib.hid fun w' (h : Rd w' (.slice va vn vc) b) => (refFromS_any w' _ b X er mk ms mg most h (by rw [← HVN.out]; omega) hX hm1 hm2 (by omega)).mono fun _ _ h => getU_of h
  rw [← hY] at HSK HRS
  clear hX hY hy hyc htb hm1 hm2
  have HP1 := Lib.hid (HGT.out w2 (twin_rd HTW2.out))
  go_wp2_with fail
  refine HP1.out.mono ?_
  rintro e w3 ⟨xa, xn, xc, rfl, HXN, HXO, HR1, bel3⟩
  have HS3 : Hid (w2.heap.size ≤ w3.heap.size) := bel3.size
  have HD3 := Lib.hid (HD2.out.trans (bel3.mono HD2.out.size))
  have HB3 := Lib.hid (HB2.out.trans (bel3.mono HB2.out.size))
  have HTW3 := Lib.hid (twin_below HTW2.out bel3)
  have HV3 := Lib.hid (HV2.out.below (bel3))
  clear bel3 HP1 HTW2 HV2 HGT HD2
  obtain ⟨m0, m1, m2, m3⟩ := HMC.out w3 (HD3.out)
  have HP1 := Lib.hid (HG1.out w3 (twin_rd HTW3.out))
  go_upto_region 6 with (go_at_call 7; refine HP1.out.mono ?_; rintro e wq ⟨rfl, belq⟩)
  obtain ⟨gA, hgA⟩ : ∃ g, g = wq.heap.size := ⟨_, rfl⟩
  obtain ⟨w3a, hw3a⟩ : ∃ z, z = wq.alloc (.cells #[.string wk, .int .u64 ws, .bool wg, .string wu] 34) := ⟨_, rfl⟩
  have bel3a : Below w3.heap.size w3 w3a := by rw [hw3a]; exact belq.trans (((Below.refl _ _).alloc (Nat.le_refl _) _).mono belq.size)
  have HA3 : Hid (Blk w3a gA #[.string wk, .int .u64 ws, .bool wg, .string wu] 34) := Lib.hid (by rw [hw3a]; exact Blk.new_at _ _ _ _ hgA)
  rw [← hgA, ← hw3a]
  replace HS3 : Hid (w2.heap.size ≤ w3a.heap.size) := Nat.le_trans HS3.out bel3a.size
  replace HR1 : Hid (InR (.slice xa xn xc) w2.heap.size w3a.heap.size) := HR1.out.mono (Nat.le_refl _) bel3a.size
  replace HD3 := Lib.hid (HD3.out.trans (bel3a.mono HD3.out.size))
  replace HB3 := Lib.hid (HB3.out.trans (bel3a.mono HB3.out.size))
  replace HTW3 := Lib.hid (twin_below HTW3.out bel3a)
  replace HV3 := Lib.hid (HV3.out.below bel3a)
  replace HXO := Lib.hid (own_below HXO.out bel3a)
  clear hgA hw3a belq bel3a HP1 m0 m1 m2 m3 HG1
  obtain ⟨m0, m1, m2, m3⟩ := HMC.out w3a (HD3.out)
  have HP1 := Lib.hid (HSK.out w3a (twin_rd HTW3.out))
  go_wp2_with fail
  refine HP1.out.mono ?_
  rintro e w4 ⟨ya, yn, yc, rfl, HYN, HYO, HR2, bel4⟩
  have HS4 : Hid (w3a.heap.size ≤ w4.heap.size) := bel4.size
  have HA4 := Lib.hid (HA3.out.below bel4)
  have HD4 := Lib.hid (HD3.out.trans (bel4.mono HD3.out.size))
  have HB4 := Lib.hid (HB3.out.trans (bel4.mono HB3.out.size))
  have HTW4 := Lib.hid (twin_below HTW3.out bel4)
  have HXO4 := Lib.hid (own_below HXO.out bel4)
  have HV4 := Lib.hid (HV3.out.below bel4)
  clear bel4 HP1 HTW3 HV3 HXO HSK HD3 m0 m1 m2 m3 HA3
  -- the document's
  have HP1 := Lib.hid (HRG.out w4 HV4.out)
  go_wp2_with fail
  refine HP1.out.mono ?_
  rintro e w5 ⟨ra, rn, rc, rfl, _, HRO, _, bel5⟩
  have HC5 := Lib.hid bel5
  have HD5 := Lib.hid (HD4.out.trans (bel5.mono HD4.out.size))
  obtain ⟨m0, m1, m2, m3⟩ := HMC.out w5 HD5.out
  have HV5 := Lib.hid (HV4.out.below bel5)
  clear bel5 HP1 HRG
  have HP1 := Lib.hid (HG2.out w5 HV5.out)
  go_upto_region 9 with (go_at_call 10; refine HP1.out.mono ?_; rintro e wq ⟨rfl, belq⟩)
  obtain ⟨gB, hgB⟩ : ∃ g, g = wq.heap.size := ⟨_, rfl⟩
  obtain ⟨w5a, hw5a⟩ : ∃ z, z = wq.alloc (.cells #[.string wk, .int .u64 ws, .bool wg, .string wu] 34) := ⟨_, rfl⟩
  have bel5a : Below w5.heap.size w5 w5a := by rw [hw5a]; exact belq.trans (((Below.refl _ _).alloc (Nat.le_refl _) _).mono belq.size)
  have HBB : Hid (Blk w5a gB #[.string wk, .int .u64 ws, .bool wg, .string wu] 34) := Lib.hid (by rw [hw5a]; exact Blk.new_at _ _ _ _ hgB)
  rw [← hgB, ← hw5a]
  replace HC5 := Lib.hid (HC5.out.trans (bel5a.mono HC5.out.size))
  replace HV5 := Lib.hid (HV5.out.below bel5a)
  replace HRO := Lib.hid (own_below HRO.out bel5a)
  clear m0 m1 m2 m3
  obtain ⟨m0, m1, m2, m3⟩ := HMC.out w5a (HD5.out.trans (bel5a.mono HD5.out.size))
  clear hgB hw5a belq bel5a HP1 HG2 HD5
  have HP1 := Lib.hid (HRS.out w5a HV5.out)
  go_wp2_with fail
  refine HP1.out.mono ?_
  rintro e w6 ⟨sa, sn, sc, rfl, _, HSO, _, bel6⟩
  have HC6 := Lib.hid (HC5.out.trans (bel6.mono HC5.out.size))
  have HSB := Lib.hid (sameE_any w6 (.slice xa xn xc) (.slice ra rn rc) _ (rdE_of (reads_of_own (own_below HXO4.out HC6.out))).2 (rdE_of (reads_of_own (own_below HRO.out bel6))).2)
  have hA6 := HA4.out.below HC6.out
  have hB6 := HBB.out.below bel6
  have HA6 := Lib.hid hA6
  have HB6 := Lib.hid hB6
  clear bel6 HP1 HRS HRO HV5 HC5 m0 m1 m2 m3 HMC HD4 HA4 HBB hA6 hB6
  go_wp2_with fail
  refine HSB.out.mono ?_
  rintro e w7 ⟨rfl, bel7⟩
  have HC7 := Lib.hid (HC6.out.trans (bel7.mono HC6.out.size))
  have HSB2 := Lib.hid (sameE_any w7 (.slice ya yn yc) (.slice sa sn sc) _ (rdE_of (reads_of_own (own_below HYO.out HC7.out))).2 (rdE_of (reads_of_own (own_below HSO.out bel7))).2)
  clear HSB HC6 HSO
  have her : ((er : Int) != (er : Int)) = false := by simp
  have her2 : ((er : Int) == (er : Int)) = true := by simp
  have htb1 : (tb != tb) = false := by simp
  have htb2 : (tb == tb) = true := by simp
  have hA7 := HA6.out.below bel7
  have hB7 := HB6.out.below bel7
  have y0 := hA7.cellv 0 (.string wk) rfl
  have y1 := hA7.cellv 1 (.int .u64 ws) rfl
  have y2 := hA7.cellv 2 (.bool wg) rfl
  have y3 := hA7.cellv 3 (.string wu) rfl
  have z0 := hB7.cellv 0 (.string wk) rfl
  have z1 := hB7.cellv 1 (.int .u64 ws) rfl
  have z2 := hB7.cellv 2 (.bool wg) rfl
  have z3 := hB7.cellv 3 (.string wu) rfl
  clear hA7 hB7 HA6 HB6
  go_wp2_with fail
  refine HSB2.out.mono ?_
  rintro e wb ⟨rfl, belb⟩
  have HCb := Lib.hid (HC7.out.trans (belb.mono HC7.out.size))
  clear HSB2 belb HC7 bel7 y0 y1 y2 y3 z0 z1 z2 z3
  have HLB := Lib.hid (leftBytes_any _ _ _ b wb (twin_below HTW4.out HCb.out) (HV4.out.below HCb.out))
  go_wp2_with fail
  refine HLB.out.mono ?_
  rintro e wc ⟨rfl, dn, hdn⟩
  have belc : Below wb.heap.size wb wc := by rw [hdn]; exact drewN_below wb dn
  clear hdn
  have HCc := Lib.hid (HCb.out.trans (belc.mono HCb.out.size))
  clear HLB belc HCb
  -- the book
  have HBc := Lib.hid (HB4.out.trans (HCc.out.mono HB4.out.size))
  obtain ⟨base, hba⟩ : ∃ x, x = w.heap.size := ⟨_, rfl⟩
  have hs1 := HSW.out
  have hs2 := HB2.out.size
  have hs3 := HS3.out
  have hs4 := HS4.out
  have hsc := HCc.out.size
  have HO0 : Hid (Own wc base 5 1 (.slice (some ⟨tg, 0, none⟩) vn (vn + 1)) vn (u8s b)) := Lib.hid (own_mono (by have h := twin_own (twin_below HTW4.out HCc.out); rwa [← HVN.out] at h) (by omega))
  have HO1 : Hid (Own wc base 34 4 (.slice xa xn xc) xn (pcells (X.map toPE))) := Lib.hid (own_mono (own_below HXO4.out HCc.out) (by omega))
  have HO2 : Hid (Own wc base 34 4 (.slice ya yn yc) yn (pcells (Y.map toPE))) := Lib.hid (own_mono (own_below HYO.out HCc.out) (by omega))
  have HQ0 : Hid (InR (.slice (some ⟨tg, 0, none⟩) vn (vn + 1)) base wc.heap.size) := Lib.hid (HR0.out.mono (by omega) (by omega))
  have HQ1 : Hid (InR (.slice xa xn xc) base wc.heap.size) := Lib.hid (HR1.out.mono (by omega) (by omega))
  have HQ2 : Hid (InR (.slice ya yn yc) base wc.heap.size) := Lib.hid (HR2.out.mono (by omega) (by omega))
  have HM0 : Hid (vn ≤ 1000000000) := Lib.hid (by omega)
  have HM1 : Hid (xn ≤ 1000000000) := Lib.hid (by rw [HXN.out]; omega)
  have HM2 : Hid (yn ≤ 1000000000) := Lib.hid (by rw [HYN.out]; omega)
  have A0_1 : Hid (Ap ((.slice (some ⟨tg, 0, none⟩) vn (vn + 1))) ((.slice xa xn xc))) := Lib.hid (HR0.out.ap HR1.out (by omega))
  have A0_2 : Hid (Ap ((.slice (some ⟨tg, 0, none⟩) vn (vn + 1))) ((.slice ya yn yc))) := Lib.hid (HR0.out.ap HR2.out (by omega))
  have A1_2 : Hid (Ap ((.slice xa xn xc)) ((.slice ya yn yc))) := Lib.hid (HR1.out.ap HR2.out (by omega))
  clear HR0 HR1 HR2 hs1 hs2 hs3 hs4 hsc HTW4 HSW HXO4 HYO HXN HYN HCc HB4 HB3 HB2 HS3 HS4 HV4 her her2 htb1 htb2 hx64 hy64
  have HJ0 : Hid (∀ w', Below wc.heap.size wc w' → Own w' base 5 1 ((.slice (some ⟨tg, 0, none⟩) vn (vn + 1))) (vn) (u8s b)) := Lib.hid fun w' hb => own_below HO0.out hb
  have HJ1 : Hid (∀ w', Below wc.heap.size wc w' → Own w' base 34 4 ((.slice xa xn xc)) (xn) (pcells (X.map toPE))) := Lib.hid fun w' hb => own_below HO1.out hb
  have HJ2 : Hid (∀ w', Below wc.heap.size wc w' → Own w' base 34 4 ((.slice ya yn yc)) (yn) (pcells (Y.map toPE))) := Lib.hid fun w' hb => own_below HO2.out hb
  have hgb : base ≤ wc.heap.size := by rw [hba]; exact HBc.out.size
  clear HO0 HO1 HO2
  go_upto_region 13 with (fail)
  obtain ⟨wk0, hwk⟩ : ∃ x, x = wc.alloc (.cells (bkF 0 (fun _ => .slice none 0 0)) 54) := ⟨_, rfl⟩
  have HP0 : Hid (Pg wk0 wc.heap.size 0 (fun _ => .slice none 0 0)) := Lib.hid (by rw [hwk]; exact Pg.new wc _ (fun _ => rfl))
  have HAL0 : Hid (Below wc.heap.size wc wk0) := Lib.hid (by rw [hwk]; exact (Below.refl _ _).alloc (Nat.le_refl _) _)
  change Code.wp _ _ _ _ (wc.alloc (.cells (bkF 0 (fun _ => .slice none 0 0)) 54))
  rw [← hwk]
  clear hwk
  obtain ⟨gk, hgk⟩ : ∃ x, x = wc.heap.size := ⟨_, rfl⟩
  rw [← hgk] at HP0 HAL0 hgb HJ0 HQ0 HJ1 HQ1 HJ2 HQ2
  rw [← hgk]
  clear hgk
  obtain ⟨f0, hf⟩ : ∃ f : Nat → Value, f = fun _ => .slice none 0 0 := ⟨_, rfl⟩
  rw [← hf] at HP0
  have HZ0 : Hid (∀ r, f0 r = .slice none 0 0) := Lib.hid fun r => by rw [hf]
  have HW0_1 : Hid (Own wk0 gk 100 3 (f0 1) 0 (helds 0 (seqL (α := Value) (.slice none 0 0) [(.slice (some ⟨tg, 0, none⟩) vn (vn + 1))]) (fun _ => .slice none 0 0) (seqL (α := Nat) 0 [1]))) := Lib.hid (by rw [HZ0.out]; exact own_none _ _ _ _)
  have HW0_8 : Hid (Own wk0 gk 102 3 (f0 8) 0 (helds 0 (seqL (α := Value) (.slice none 0 0) [(.slice xa xn xc), (.slice ya yn yc)]) (fun _ => .slice none 0 0) (seqL (α := Nat) 0 [2, 3]))) := Lib.hid (by rw [HZ0.out]; exact own_none _ _ _ _)
  clear hf
  have HT := Lib.hid (toldByte_any wk0 gk 0 0 f0 (seqL (α := Value) (.slice none 0 0) [(.slice (some ⟨tg, 0, none⟩) vn (vn + 1))]) (seqL (α := Nat) 0 [1]) ((.slice (some ⟨tg, 0, none⟩) vn (vn + 1))) HP0.out HW0_1.out (by omega) (by omega) ⟨_, _, _, rfl⟩ rfl rfl)
  go_wp2_with fail
  refine HT.out.mono ?_
  rintro e wk1 ⟨rfl, hx, hb⟩
  have HAL1 := Lib.hid (HAL0.out.trans hb)
  obtain ⟨v', hp, ho, hk⟩ := hx.out
  obtain ⟨f1, hf⟩ : ∃ f, f = upd f0 1 v' := ⟨_, rfl⟩
  rw [← hf] at hp ho hk
  have HZ1 : Hid (∀ r, r ≠ 1 → f1 r = f0 r) := Lib.hid fun r hr => by rw [hf]; exact upd_other _ _ hr
  have HP1 := Lib.hid hp
  have HW1_1 := Lib.hid ho
  have HW1_8 := Lib.hid (keepsO_own hk 8 (by decide) HW0_8.out)
  clear hf hp ho hk hx hb HT HP0 HAL0 HW0_1 HW0_8
  have HT := Lib.hid (toldEntry_any wk1 gk 1 0 f1 (seqL (α := Value) (.slice none 0 0) [(.slice xa xn xc), (.slice ya yn yc)]) (seqL (α := Nat) 0 [2, 3]) ((.slice xa xn xc)) HP1.out HW1_8.out (by omega) (by omega) ⟨_, _, _, rfl⟩ rfl rfl)
  go_wp2_with fail
  refine HT.out.mono ?_
  rintro e wk2 ⟨rfl, hx, hb⟩
  have HAL2 := Lib.hid (HAL1.out.trans hb)
  obtain ⟨v', hp, ho, hk⟩ := hx.out
  obtain ⟨f2, hf⟩ : ∃ f, f = upd f1 8 v' := ⟨_, rfl⟩
  rw [← hf] at hp ho hk
  have HZ2 : Hid (∀ r, r ≠ 8 → f2 r = f1 r) := Lib.hid fun r hr => by rw [hf]; exact upd_other _ _ hr
  have HP2 := Lib.hid hp
  have HW2_8 := Lib.hid ho
  have HW2_1 := Lib.hid (keepsO_own hk 1 (by decide) HW1_1.out)
  clear hf hp ho hk hx hb HT HP1 HAL1 HW1_1 HW1_8
  have HT := Lib.hid (toldEntry_any wk2 gk 2 1 f2 (seqL (α := Value) (.slice none 0 0) [(.slice xa xn xc), (.slice ya yn yc)]) (seqL (α := Nat) 0 [2, 3]) ((.slice ya yn yc)) HP2.out HW2_8.out (by omega) (by omega) ⟨_, _, _, rfl⟩ rfl rfl)
  go_wp2_with fail
  refine HT.out.mono ?_
  rintro e wk3 ⟨rfl, hx, hb⟩
  have HAL3 := Lib.hid (HAL2.out.trans hb)
  obtain ⟨v', hp, ho, hk⟩ := hx.out
  obtain ⟨f3, hf⟩ : ∃ f, f = upd f2 8 v' := ⟨_, rfl⟩
  rw [← hf] at hp ho hk
  have HZ3 : Hid (∀ r, r ≠ 8 → f3 r = f2 r) := Lib.hid fun r hr => by rw [hf]; exact upd_other _ _ hr
  have HP3 := Lib.hid hp
  have HW3_8 := Lib.hid ho
  have HW3_1 := Lib.hid (keepsO_own hk 1 (by decide) HW2_1.out)
  clear hf hp ho hk hx hb HT HP2 HAL2 HW2_1 HW2_8
  have HK1 := Lib.hid (HP3.out.kst (base := base) (m := 1) (L := (seqL (α := Value) (.slice none 0 0) [(.slice (some ⟨tg, 0, none⟩) vn (vn + 1))])) (num := (seqL (α := Nat) 0 [1])) (n := (seqL (α := Nat) 0 [vn])) (C := (seqL (α := List Value) [] [u8s b])) (et := 5) (sz := 1) hgb HW3_1.out (lt1 (HJ0.out _ HAL3.out)) (lt1 HQ0.out) (ap_off (lt1 lt0)))
  have HK8 := Lib.hid (HP3.out.kst (base := base) (m := 2) (L := (seqL (α := Value) (.slice none 0 0) [(.slice xa xn xc), (.slice ya yn yc)])) (num := (seqL (α := Nat) 0 [2, 3])) (n := (seqL (α := Nat) 0 [xn, yn])) (C := (seqL (α := List Value) [] [pcells (X.map toPE), pcells (Y.map toPE)])) (et := 34) (sz := 4) hgb HW3_8.out (lt2 (HJ1.out _ HAL3.out) (HJ2.out _ HAL3.out)) (lt2 HQ1.out HQ2.out) (ap_off (lt2 lt0 (lt1 A1_2.out))))
  have HD1_8 := Lib.hid (sOf_dj (L := (seqL (α := Value) (.slice none 0 0) [(.slice (some ⟨tg, 0, none⟩) vn (vn + 1))])) (L' := (seqL (α := Value) (.slice none 0 0) [(.slice xa xn xc), (.slice ya yn yc)])) HP3.out (show 1 ≠ 8 by decide) (lt1 (fun b e => (HQ0.out b e).2)) (lt2 (fun b e => (HQ1.out b e).2) (fun b e => (HQ2.out b e).2)) (fun j k hj hk => lt1 (P := fun j => ∀ k, k < 2 → Ap ((seqL (α := Value) (.slice none 0 0) [(.slice (some ⟨tg, 0, none⟩) vn (vn + 1))]) j) ((seqL (α := Value) (.slice none 0 0) [(.slice xa xn xc), (.slice ya yn yc)]) k)) (lt2 (P := fun k => Ap ((seqL (α := Value) (.slice none 0 0) [(.slice (some ⟨tg, 0, none⟩) vn (vn + 1))]) 0) ((seqL (α := Value) (.slice none 0 0) [(.slice xa xn xc), (.slice ya yn yc)]) k)) A0_1.out A0_2.out) j hj k hk))
  have HD8_1 := Lib.hid (sOf_dj (L := (seqL (α := Value) (.slice none 0 0) [(.slice xa xn xc), (.slice ya yn yc)])) (L' := (seqL (α := Value) (.slice none 0 0) [(.slice (some ⟨tg, 0, none⟩) vn (vn + 1))])) HP3.out (show 8 ≠ 1 by decide) (lt2 (fun b e => (HQ1.out b e).2) (fun b e => (HQ2.out b e).2)) (lt1 (fun b e => (HQ0.out b e).2)) (fun j k hj hk => lt2 (P := fun j => ∀ k, k < 1 → Ap ((seqL (α := Value) (.slice none 0 0) [(.slice xa xn xc), (.slice ya yn yc)]) j) ((seqL (α := Value) (.slice none 0 0) [(.slice (some ⟨tg, 0, none⟩) vn (vn + 1))]) k)) (lt1 (P := fun k => Ap ((seqL (α := Value) (.slice none 0 0) [(.slice xa xn xc), (.slice ya yn yc)]) 0) ((seqL (α := Value) (.slice none 0 0) [(.slice (some ⟨tg, 0, none⟩) vn (vn + 1))]) k)) (Ap.symm A0_1.out)) (lt1 (P := fun k => Ap ((seqL (α := Value) (.slice none 0 0) [(.slice xa xn xc), (.slice ya yn yc)]) 1) ((seqL (α := Value) (.slice none 0 0) [(.slice (some ⟨tg, 0, none⟩) vn (vn + 1))]) k)) (Ap.symm A0_2.out)) j hj k hk))
  have HAP := Lib.hid (apartBE_any wk3 base gk 3 f3 1 (seqL (α := Value) (.slice none 0 0) [(.slice (some ⟨tg, 0, none⟩) vn (vn + 1))]) (seqL (α := Nat) 0 [1]) (seqL (α := Nat) 0 [vn]) (seqL (α := List Value) [] [u8s b]) (SOf (f3 1) 1 (seqL (α := Value) (.slice none 0 0) [(.slice (some ⟨tg, 0, none⟩) vn (vn + 1))])) 2 (seqL (α := Value) (.slice none 0 0) [(.slice xa xn xc), (.slice ya yn yc)]) (seqL (α := Nat) 0 [2, 3]) (seqL (α := Nat) 0 [xn, yn]) (seqL (α := List Value) [] [pcells (X.map toPE), pcells (Y.map toPE)]) (SOf (f3 8) 2 (seqL (α := Value) (.slice none 0 0) [(.slice xa xn xc), (.slice ya yn yc)])) HP3.out.blk (Nat.le_trans hgb (Nat.le_of_lt HP3.out.blk.lt)) ((HZ3.out 2 (by decide)).trans ((HZ2.out 2 (by decide)).trans ((HZ1.out 2 (by decide)).trans (HZ0.out 2)))) ((HZ3.out 3 (by decide)).trans ((HZ2.out 3 (by decide)).trans ((HZ1.out 3 (by decide)).trans (HZ0.out 3)))) ((HZ3.out 4 (by decide)).trans ((HZ2.out 4 (by decide)).trans ((HZ1.out 4 (by decide)).trans (HZ0.out 4)))) ((HZ3.out 5 (by decide)).trans ((HZ2.out 5 (by decide)).trans ((HZ1.out 5 (by decide)).trans (HZ0.out 5)))) ((HZ3.out 6 (by decide)).trans ((HZ2.out 6 (by decide)).trans ((HZ1.out 6 (by decide)).trans (HZ0.out 6)))) ((HZ3.out 7 (by decide)).trans ((HZ2.out 7 (by decide)).trans ((HZ1.out 7 (by decide)).trans (HZ0.out 7)))) ((HZ3.out 9 (by decide)).trans ((HZ2.out 9 (by decide)).trans ((HZ1.out 9 (by decide)).trans (HZ0.out 9)))) ((HZ3.out 10 (by decide)).trans ((HZ2.out 10 (by decide)).trans ((HZ1.out 10 (by decide)).trans (HZ0.out 10)))) ((HZ3.out 11 (by decide)).trans ((HZ2.out 11 (by decide)).trans ((HZ1.out 11 (by decide)).trans (HZ0.out 11)))) ((HZ3.out 12 (by decide)).trans ((HZ2.out 12 (by decide)).trans ((HZ1.out 12 (by decide)).trans (HZ0.out 12)))) ((HZ3.out 13 (by decide)).trans ((HZ2.out 13 (by decide)).trans ((HZ1.out 13 (by decide)).trans (HZ0.out 13)))) HK1.out (by omega) (lt1 (by decide)) (lt1 HM0.out) HK8.out (by omega) (lt2 (by decide) (by decide)) (lt2 HM1.out HM2.out) HD1_8.out HD8_1.out)
  clear HK1 HK8
  go_wp2_with fail
  refine HAP.out.mono ?_
  rintro e wz ⟨rfl, hb⟩
  have HBb : Below base w wc := by rw [hba]; exact HBc.out
  have HF := HBb.trans ((HAL3.out.mono hgb).trans hb)
  clear HAP hb
  go_wp2
  go_ret
  rw [← hba]
  exact ⟨rfl, HF⟩
end Go.Proofs.YtbcnapkbdbefhaaGreatDoor

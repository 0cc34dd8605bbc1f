/- The law SortedPut answers true for any entries. No condition. -/
import Derived.Test.YtbcnapkbdbefhaaGreatDoorKdAll
import Derived.Test.YtbcnapkbdbefhaaGreatDoorKdEntry
import Derived.Test.YtbcnapkbdbefhaaGreatDoorKdByte
import Derived.Test.YtbcnapkbdbefhaaGreatDoorKindA
import Derived.Test.YtbcnapkbdbefhaaGreatDoorTwEntry
import Derived.Test.YtbcnapkbdbefhaaGreatDoorSRefA
namespace Go.Proofs.YtbcnapkbdbefhaaGreatDoor
open Go.RowKit
/-- both ways of a Put in one -/
def RetPutS (B : List UInt8) (er : Int) (w : World) (e : Ending) (w' : World) : Prop :=
  ∃ a n c, e = .returned (.tuple #[.slice a n c, .int .i64 er]) ∧ Hid (n = B.length) ∧ Hid (Own w' w.heap.size 5 1 (.slice a n c) n (u8s B)) ∧ Hid (InR (.slice a n c) w.heap.size w'.heap.size) ∧ Below w.heap.size w w'
theorem retSP_uni {E : List Ent} {w : World} {e : Ending} {w' : World} (h : RetSP E w e w') : RetPutS (outS E) ((errS E : Nat) : Int) w e w' := by
  obtain ⟨a, n, c, rfl, hn, ho, hb⟩ := h
  exact ⟨a, n, c, rfl, hn, ho, own_ltR ho.out, hb⟩
theorem outS_small (E : List Ent) : (outS E).length ≤ 1000000000 := by
  by_cases h : errS E = 0
  · rw [outS_ok h]
    obtain ⟨h1, h2⟩ := errS_zero.1 h
    exact Nat.le_trans (fileS_small h1 h2) (by decide)
  · rw [outS_no h]; simp
set_option maxRecDepth 100000 in
set_option maxHeartbeats 8000000 in
theorem sortedPut_walk (w : World) (v : Value) (l : List PE) (hv : RdE w v l) (hl0 : l.length ≤ 2932031007402 ∧ ∀ x ∈ l, x.ok) :
    Calls Tryz.prog 4 #[v] w (fun e w' => e = .returned (.bool true) ∧ Below w.heap.size w w') := by
  have HZ := Lib.hid (great10_any w v l hv hl0.1 hl0.2)
  have hl := hl0.2
  clear hl0
  have HV := Lib.hid hv
  have HS := Lib.hid hl
  obtain ⟨va, vc, rfl, h1, h2, h3⟩ := hv
  clear h3 hl
  obtain ⟨vn, hvn⟩ : ∃ n, n = l.length := ⟨_, rfl⟩
  have HVN := Lib.hid hvn
  rw [← hvn] at h1 HV HZ ⊢
  clear hvn
  go_enter Tryz.func4, Tryz.ntmps4
  go_wp2_with fail
  refine HZ.out.mono ?_
  rintro e w1 ⟨gr, rfl, hgr, bel1⟩
  have HB1 := Lib.hid bel1
  replace HV := Lib.hid (HV.out.below bel1)
  clear HZ bel1
  cases gr
  case true =>
    go_wp2_with fail
    go_ret
    exact ⟨rfl, HB1.out⟩
  have hvb0 : vn ≤ 300 := hgr rfl
  have hvb : vn ≤ 40000 := by omega
  clear hgr
  have HTW := Lib.hid (twEntry_any w1 _ l HV.out (by rw [← HVN.out]; omega))
  go_wp2_with fail
  refine HTW.out.mono ?_
  rintro e w2 ⟨tg, n2, rfl, HN2, HTW2, bel2⟩
  obtain rfl : n2 = vn := HN2.out.trans HVN.out.symm
  have HB2 := Lib.hid (HB1.out.trans (bel2.mono HB1.out.size))
  have HS1 : Hid (w.heap.size ≤ w1.heap.size) := HB1.out.size
  have HV2 := Lib.hid (HV.out.below bel2)
  have HR0 : Hid (InR (.slice (some ⟨tg, 0, none⟩) n2 (n2 + 1)) w1.heap.size w2.heap.size) := Lib.hid (inR_some _ _ _ HTW2.out.1 HTW2.out.2.1)
  clear bel2 HTW HN2
  have HLEN := Lib.hid (outS_small (entsOf l))
  have HRF := Lib.hid fun w' (h : RdE w' (.slice va n2 vc) l) => (refSPut_any w' _ l h HS.out (by rw [← HVN.out]; omega)).mono fun _ _ h => retSP_uni h
  have HPP := Lib.hid fun w' (h : RdE w' (.slice (some ⟨tg, 0, none⟩) n2 (n2 + 1)) l) => (sortedPut_any w' _ l h (fun x hx => (HS.out x hx).2.1) (by rw [← HVN.out]; omega)).mono fun _ _ h => retSP_uni h
  generalize outS (entsOf l) = B at HLEN HRF HPP
  generalize ((errS (entsOf l) : Nat) : Int) = er at HRF HPP
  have HP1 := Lib.hid (HPP.out w2 (rdE_of (reads_of_own HTW2.out.own)).2)
  go_wp2_with fail
  refine HP1.out.mono ?_
  rintro e w3 ⟨xa, xn, xc, rfl, HXN, HXO, HR1, bel3⟩
  have HS3 : Hid (w2.heap.size ≤ w3.heap.size) := bel3.size
  have HB3 := Lib.hid (HB2.out.trans (bel3.mono HB2.out.size))
  have HTW3 := Lib.hid (HTW2.out.below bel3)
  have HV3 := Lib.hid (HV2.out.below (bel3))
  clear bel3 HP1 HTW2 HV2
  have HP1 := Lib.hid (HPP.out w3 (rdE_of (reads_of_own HTW3.out.own)).2)
  go_wp2_with fail
  refine HP1.out.mono ?_
  rintro e w4 ⟨ya, yn, yc, rfl, HYN, HYO, HR2, bel4⟩
  have HS4 : Hid (w3.heap.size ≤ w4.heap.size) := bel4.size
  have HB4 := Lib.hid (HB3.out.trans (bel4.mono HB3.out.size))
  have HTW4 := Lib.hid (HTW3.out.below bel4)
  have HXO4 := Lib.hid (own_below HXO.out bel4)
  have HV4 := Lib.hid (HV3.out.below bel4)
  clear bel4 HP1 HTW3 HV3 HXO HPP
  -- the document's
  have HP1 := Lib.hid (HRF.out w4 HV4.out)
  go_wp2_with fail
  refine HP1.out.mono ?_
  rintro e w5 ⟨ra, rn, rc, rfl, _, HRO, _, belr⟩
  have HC5 := Lib.hid belr
  have HSB := Lib.hid (same_bt w5 (.slice xa xn xc) (.slice ra rn rc) _ ((rd_of_own HXO4.out).2.below belr) (rd_of_own HRO.out).2)
  have HRR := Lib.hid (rd_of_own HRO.out).2
  clear belr HRO HP1 HRF
  go_wp2_with fail
  refine HSB.out.mono ?_
  rintro e w6 ⟨rfl, belb⟩
  have HC6 := Lib.hid (HC5.out.trans (belb.mono HC5.out.size))
  have HSB2 := Lib.hid (same_bt w6 (.slice ya yn yc) (.slice ra rn rc) _ ((rd_of_own HYO.out).2.below HC6.out) (HRR.out.below belb))
  clear HSB belb HC5 HRR
  go_wp2_with fail
  refine HSB2.out.mono ?_
  rintro e wb ⟨rfl, belb⟩
  have HCb := Lib.hid (HC6.out.trans (belb.mono HC6.out.size))
  clear HSB2 belb HC6
  have HLB := Lib.hid (leftEntry_any wb _ tg n2 _ l HVN.out (HTW4.out.below HCb.out) (HV4.out.below HCb.out) (by rw [← HVN.out]; omega))
  have her : (er != er) = false := by simp
  have her2 : (er == er) = true := by simp
  go_wp2_with fail
  refine HLB.out.mono ?_
  rintro e wc ⟨rfl, belc⟩
  have HCc := Lib.hid (HCb.out.trans (belc.mono HCb.out.size))
  clear HLB belc HCb
  -- the book
  have HBc := Lib.hid (HB4.out.trans (HCc.out.mono HB4.out.size))
  obtain ⟨base, hba⟩ : ∃ x, x = w.heap.size := ⟨_, rfl⟩
  have hs1 := HS1.out
  have hs2 := HB2.out.size
  have hs3 := HS3.out
  have hs4 := HS4.out
  have hsc := HCc.out.size
  have HO0 : Hid (Own wc base 34 4 (.slice (some ⟨tg, 0, none⟩) n2 (n2 + 1)) n2 (pcells l)) := Lib.hid (own_mono (own_below HTW4.out.own HCc.out) (by omega))
  have HO1 : Hid (Own wc base 5 1 (.slice xa xn xc) xn (u8s B)) := Lib.hid (own_mono (own_below HXO4.out HCc.out) (by omega))
  have HO2 : Hid (Own wc base 5 1 (.slice ya yn yc) yn (u8s B)) := Lib.hid (own_mono (own_below HYO.out HCc.out) (by omega))
  have HQ0 : Hid (InR (.slice (some ⟨tg, 0, none⟩) n2 (n2 + 1)) base wc.heap.size) := Lib.hid (HR0.out.mono (by omega) (by omega))
  have HQ1 : Hid (InR (.slice xa xn xc) base wc.heap.size) := Lib.hid (HR1.out.mono (by omega) (by omega))
  have HQ2 : Hid (InR (.slice ya yn yc) base wc.heap.size) := Lib.hid (HR2.out.mono (by omega) (by omega))
  have HM0 : Hid (n2 ≤ 1000000000) := Lib.hid (by omega)
  have HM1 : Hid (xn ≤ 1000000000) := Lib.hid (by rw [HXN.out]; exact HLEN.out)
  have HM2 : Hid (yn ≤ 1000000000) := Lib.hid (by rw [HYN.out]; exact HLEN.out)
  have A0_1 : Hid (Ap ((.slice (some ⟨tg, 0, none⟩) n2 (n2 + 1))) ((.slice xa xn xc))) := Lib.hid (HR0.out.ap HR1.out (by omega))
  have A0_2 : Hid (Ap ((.slice (some ⟨tg, 0, none⟩) n2 (n2 + 1))) ((.slice ya yn yc))) := Lib.hid (HR0.out.ap HR2.out (by omega))
  have A1_2 : Hid (Ap ((.slice xa xn xc)) ((.slice ya yn yc))) := Lib.hid (HR1.out.ap HR2.out (by omega))
  clear HR0 HR1 HR2 hs1 hs2 hs3 hs4 hsc HTW4 HXO4 HYO HXN HYN HCc HB4 HB3 HB2 HS1 HS3 HS4 HV4 HLEN her her2
  have HJ0 : Hid (∀ w', Below wc.heap.size wc w' → Own w' base 34 4 ((.slice (some ⟨tg, 0, none⟩) n2 (n2 + 1))) (n2) (pcells l)) := Lib.hid fun w' hb => own_below HO0.out hb
  have HJ1 : Hid (∀ w', Below wc.heap.size wc w' → Own w' base 5 1 ((.slice xa xn xc)) (xn) (u8s B)) := Lib.hid fun w' hb => own_below HO1.out hb
  have HJ2 : Hid (∀ w', Below wc.heap.size wc w' → Own w' base 5 1 ((.slice ya yn yc)) (yn) (u8s B)) := Lib.hid fun w' hb => own_below HO2.out hb
  have hgb : base ≤ wc.heap.size := by rw [hba]; exact HBc.out.size
  clear HO0 HO1 HO2
  go_upto_region 10 with (fail)
  obtain ⟨wk0, hwk⟩ : ∃ x, x = wc.alloc (.cells (bkF 0 (fun _ => .slice none 0 0)) 54) := ⟨_, rfl⟩
  have HP0 : Hid (Pg wk0 wc.heap.size 0 (fun _ => .slice none 0 0)) := Lib.hid (by rw [hwk]; exact Pg.new wc _ (fun _ => rfl))
  have HAL0 : Hid (Below wc.heap.size wc wk0) := Lib.hid (by rw [hwk]; exact (Below.refl _ _).alloc (Nat.le_refl _) _)
  change Code.wp _ _ _ _ (wc.alloc (.cells (bkF 0 (fun _ => .slice none 0 0)) 54))
  rw [← hwk]
  clear hwk
  obtain ⟨gk, hgk⟩ : ∃ x, x = wc.heap.size := ⟨_, rfl⟩
  rw [← hgk] at HP0 HAL0 hgb HJ0 HQ0 HJ1 HQ1 HJ2 HQ2
  rw [← hgk]
  clear hgk
  obtain ⟨f0, hf⟩ : ∃ f : Nat → Value, f = fun _ => .slice none 0 0 := ⟨_, rfl⟩
  rw [← hf] at HP0
  have HZ0 : Hid (∀ r, f0 r = .slice none 0 0) := Lib.hid fun r => by rw [hf]
  have HW0_1 : Hid (Own wk0 gk 100 3 (f0 1) 0 (helds 0 (seqL (α := Value) (.slice none 0 0) [(.slice xa xn xc), (.slice ya yn yc)]) (fun _ => .slice none 0 0) (seqL (α := Nat) 0 [2, 3]))) := Lib.hid (by rw [HZ0.out]; exact own_none _ _ _ _)
  have HW0_8 : Hid (Own wk0 gk 102 3 (f0 8) 0 (helds 0 (seqL (α := Value) (.slice none 0 0) [(.slice (some ⟨tg, 0, none⟩) n2 (n2 + 1))]) (fun _ => .slice none 0 0) (seqL (α := Nat) 0 [1]))) := Lib.hid (by rw [HZ0.out]; exact own_none _ _ _ _)
  clear hf
  have HT := Lib.hid (toldEntry_any wk0 gk 0 0 f0 (seqL (α := Value) (.slice none 0 0) [(.slice (some ⟨tg, 0, none⟩) n2 (n2 + 1))]) (seqL (α := Nat) 0 [1]) ((.slice (some ⟨tg, 0, none⟩) n2 (n2 + 1))) HP0.out HW0_8.out (by omega) (by omega) ⟨_, _, _, rfl⟩ rfl rfl)
  go_wp2_with fail
  refine HT.out.mono ?_
  rintro e wk1 ⟨rfl, hx, hb⟩
  have HAL1 := Lib.hid (HAL0.out.trans hb)
  obtain ⟨v', hp, ho, hk⟩ := hx.out
  obtain ⟨f1, hf⟩ : ∃ f, f = upd f0 8 v' := ⟨_, rfl⟩
  rw [← hf] at hp ho hk
  have HZ1 : Hid (∀ r, r ≠ 8 → f1 r = f0 r) := Lib.hid fun r hr => by rw [hf]; exact upd_other _ _ hr
  have HP1 := Lib.hid hp
  have HW1_8 := Lib.hid ho
  have HW1_1 := Lib.hid (keepsO_own hk 1 (by decide) HW0_1.out)
  clear hf hp ho hk hx hb HT HP0 HAL0 HW0_1 HW0_8
  have HT := Lib.hid (toldByte_any wk1 gk 1 0 f1 (seqL (α := Value) (.slice none 0 0) [(.slice xa xn xc), (.slice ya yn yc)]) (seqL (α := Nat) 0 [2, 3]) ((.slice xa xn xc)) HP1.out HW1_1.out (by omega) (by omega) ⟨_, _, _, rfl⟩ rfl rfl)
  go_wp2_with fail
  refine HT.out.mono ?_
  rintro e wk2 ⟨rfl, hx, hb⟩
  have HAL2 := Lib.hid (HAL1.out.trans hb)
  obtain ⟨v', hp, ho, hk⟩ := hx.out
  obtain ⟨f2, hf⟩ : ∃ f, f = upd f1 1 v' := ⟨_, rfl⟩
  rw [← hf] at hp ho hk
  have HZ2 : Hid (∀ r, r ≠ 1 → f2 r = f1 r) := Lib.hid fun r hr => by rw [hf]; exact upd_other _ _ hr
  have HP2 := Lib.hid hp
  have HW2_1 := Lib.hid ho
  have HW2_8 := Lib.hid (keepsO_own hk 8 (by decide) HW1_8.out)
  clear hf hp ho hk hx hb HT HP1 HAL1 HW1_1 HW1_8
  have HT := Lib.hid (toldByte_any wk2 gk 2 1 f2 (seqL (α := Value) (.slice none 0 0) [(.slice xa xn xc), (.slice ya yn yc)]) (seqL (α := Nat) 0 [2, 3]) ((.slice ya yn yc)) HP2.out HW2_1.out (by omega) (by omega) ⟨_, _, _, rfl⟩ rfl rfl)
  go_wp2_with fail
  refine HT.out.mono ?_
  rintro e wk3 ⟨rfl, hx, hb⟩
  have HAL3 := Lib.hid (HAL2.out.trans hb)
  obtain ⟨v', hp, ho, hk⟩ := hx.out
  obtain ⟨f3, hf⟩ : ∃ f, f = upd f2 1 v' := ⟨_, rfl⟩
  rw [← hf] at hp ho hk
  have HZ3 : Hid (∀ r, r ≠ 1 → f3 r = f2 r) := Lib.hid fun r hr => by rw [hf]; exact upd_other _ _ hr
  have HP3 := Lib.hid hp
  have HW3_1 := Lib.hid ho
  have HW3_8 := Lib.hid (keepsO_own hk 8 (by decide) HW2_8.out)
  clear hf hp ho hk hx hb HT HP2 HAL2 HW2_1 HW2_8
  have HK1 := Lib.hid (HP3.out.kst (base := base) (m := 2) (L := (seqL (α := Value) (.slice none 0 0) [(.slice xa xn xc), (.slice ya yn yc)])) (num := (seqL (α := Nat) 0 [2, 3])) (n := (seqL (α := Nat) 0 [xn, yn])) (C := (seqL (α := List Value) [] [u8s B, u8s B])) (et := 5) (sz := 1) hgb HW3_1.out (lt2 (HJ1.out _ HAL3.out) (HJ2.out _ HAL3.out)) (lt2 HQ1.out HQ2.out) (ap_off (lt2 lt0 (lt1 A1_2.out))))
  have z2 : f3 2 = .slice none 0 0 := (HZ3.out 2 (by decide)).trans ((HZ2.out 2 (by decide)).trans ((HZ1.out 2 (by decide)).trans (HZ0.out 2)))
  have z5 : f3 5 = .slice none 0 0 := (HZ3.out 5 (by decide)).trans ((HZ2.out 5 (by decide)).trans ((HZ1.out 5 (by decide)).trans (HZ0.out 5)))
  have HK8 := Lib.hid (HP3.out.kst (base := base) (m := 1) (L := (seqL (α := Value) (.slice none 0 0) [(.slice (some ⟨tg, 0, none⟩) n2 (n2 + 1))])) (num := (seqL (α := Nat) 0 [1])) (n := (seqL (α := Nat) 0 [n2])) (C := (seqL (α := List Value) [] [pcells l])) (et := 34) (sz := 4) hgb HW3_8.out (lt1 (HJ0.out _ HAL3.out)) (lt1 HQ0.out) (ap_off (lt1 lt0)))
  have z9 : f3 9 = .slice none 0 0 := (HZ3.out 9 (by decide)).trans ((HZ2.out 9 (by decide)).trans ((HZ1.out 9 (by decide)).trans (HZ0.out 9)))
  have HD1_8 := Lib.hid (sOf_dj (L := (seqL (α := Value) (.slice none 0 0) [(.slice xa xn xc), (.slice ya yn yc)])) (L' := (seqL (α := Value) (.slice none 0 0) [(.slice (some ⟨tg, 0, none⟩) n2 (n2 + 1))])) HP3.out (show 1 ≠ 8 by decide) (lt2 (fun b e => (HQ1.out b e).2) (fun b e => (HQ2.out b e).2)) (lt1 (fun b e => (HQ0.out b e).2)) (fun j k hj hk => lt2 (P := fun j => ∀ k, k < 1 → Ap ((seqL (α := Value) (.slice none 0 0) [(.slice xa xn xc), (.slice ya yn yc)]) j) ((seqL (α := Value) (.slice none 0 0) [(.slice (some ⟨tg, 0, none⟩) n2 (n2 + 1))]) k)) (lt1 (P := fun k => Ap ((seqL (α := Value) (.slice none 0 0) [(.slice xa xn xc), (.slice ya yn yc)]) 0) ((seqL (α := Value) (.slice none 0 0) [(.slice (some ⟨tg, 0, none⟩) n2 (n2 + 1))]) k)) (Ap.symm A0_1.out)) (lt1 (P := fun k => Ap ((seqL (α := Value) (.slice none 0 0) [(.slice xa xn xc), (.slice ya yn yc)]) 1) ((seqL (α := Value) (.slice none 0 0) [(.slice (some ⟨tg, 0, none⟩) n2 (n2 + 1))]) k)) (Ap.symm A0_2.out)) j hj k hk))
  have HD8_1 := Lib.hid (sOf_dj (L := (seqL (α := Value) (.slice none 0 0) [(.slice (some ⟨tg, 0, none⟩) n2 (n2 + 1))])) (L' := (seqL (α := Value) (.slice none 0 0) [(.slice xa xn xc), (.slice ya yn yc)])) HP3.out (show 8 ≠ 1 by decide) (lt1 (fun b e => (HQ0.out b e).2)) (lt2 (fun b e => (HQ1.out b e).2) (fun b e => (HQ2.out b e).2)) (fun j k hj hk => lt1 (P := fun j => ∀ k, k < 2 → Ap ((seqL (α := Value) (.slice none 0 0) [(.slice (some ⟨tg, 0, none⟩) n2 (n2 + 1))]) j) ((seqL (α := Value) (.slice none 0 0) [(.slice xa xn xc), (.slice ya yn yc)]) k)) (lt2 (P := fun k => Ap ((seqL (α := Value) (.slice none 0 0) [(.slice (some ⟨tg, 0, none⟩) n2 (n2 + 1))]) 0) ((seqL (α := Value) (.slice none 0 0) [(.slice xa xn xc), (.slice ya yn yc)]) k)) A0_1.out A0_2.out) j hj k hk))
  have HAP := Lib.hid (apartK_any wk3 base gk 3 f3 2 (seqL (α := Value) (.slice none 0 0) [(.slice xa xn xc), (.slice ya yn yc)]) (seqL (α := Nat) 0 [2, 3]) (seqL (α := Nat) 0 [xn, yn]) (seqL (α := List Value) [] [u8s B, u8s B]) (SOf (f3 1) 2 (seqL (α := Value) (.slice none 0 0) [(.slice xa xn xc), (.slice ya yn yc)])) 0 (fun _ => .slice none 0 0) (fun _ => 0) (fun _ => 0) (fun _ => []) (fun _ => False) 0 (fun _ => .slice none 0 0) (fun _ => 0) (fun _ => 0) (fun _ => []) (fun _ => False) 1 (seqL (α := Value) (.slice none 0 0) [(.slice (some ⟨tg, 0, none⟩) n2 (n2 + 1))]) (seqL (α := Nat) 0 [1]) (seqL (α := Nat) 0 [n2]) (seqL (α := List Value) [] [pcells l]) (SOf (f3 8) 1 (seqL (α := Value) (.slice none 0 0) [(.slice (some ⟨tg, 0, none⟩) n2 (n2 + 1))])) 0 (fun _ => .slice none 0 0) (fun _ => 0) (fun _ => 0) (fun _ => []) (fun _ => False) HP3.out.blk (Nat.le_trans hgb (Nat.le_of_lt HP3.out.blk.lt)) ((HZ3.out 3 (by decide)).trans ((HZ2.out 3 (by decide)).trans ((HZ1.out 3 (by decide)).trans (HZ0.out 3)))) ((HZ3.out 4 (by decide)).trans ((HZ2.out 4 (by decide)).trans ((HZ1.out 4 (by decide)).trans (HZ0.out 4)))) ((HZ3.out 6 (by decide)).trans ((HZ2.out 6 (by decide)).trans ((HZ1.out 6 (by decide)).trans (HZ0.out 6)))) ((HZ3.out 7 (by decide)).trans ((HZ2.out 7 (by decide)).trans ((HZ1.out 7 (by decide)).trans (HZ0.out 7)))) ((HZ3.out 10 (by decide)).trans ((HZ2.out 10 (by decide)).trans ((HZ1.out 10 (by decide)).trans (HZ0.out 10)))) ((HZ3.out 11 (by decide)).trans ((HZ2.out 11 (by decide)).trans ((HZ1.out 11 (by decide)).trans (HZ0.out 11)))) ((HZ3.out 12 (by decide)).trans ((HZ2.out 12 (by decide)).trans ((HZ1.out 12 (by decide)).trans (HZ0.out 12)))) ((HZ3.out 13 (by decide)).trans ((HZ2.out 13 (by decide)).trans ((HZ1.out 13 (by decide)).trans (HZ0.out 13)))) HK1.out (by omega) (lt2 (by decide) (by decide)) (lt2 HM1.out HM2.out) (by rw [z2]; exact KSt.empty _ _ _ _) (by omega) lt0 lt0 (by rw [z5]; exact KSt.empty _ _ _ _) (by omega) lt0 lt0 HK8.out (by omega) (lt1 (by decide)) (lt1 HM0.out) (by rw [z9]; exact KSt.empty _ _ _ _) (by omega) lt0 lt0 dj_false dj_false HD1_8.out dj_false dj_false' dj_false' dj_false' dj_false' dj_false' dj_false' dj_false' dj_false' HD8_1.out dj_false dj_false dj_false dj_false' dj_false' dj_false' dj_false')
  clear HK1 HK8
  go_wp2_with fail
  refine HAP.out.mono ?_
  rintro e wz ⟨rfl, hb⟩
  have HBb : Below base w wc := by rw [hba]; exact HBc.out
  have HF := HBb.trans ((HAL3.out.mono hgb).trans hb)
  clear HAP hb
  go_wp2
  go_ret
  rw [← hba]
  exact ⟨rfl, HF⟩
end Go.Proofs.YtbcnapkbdbefhaaGreatDoor

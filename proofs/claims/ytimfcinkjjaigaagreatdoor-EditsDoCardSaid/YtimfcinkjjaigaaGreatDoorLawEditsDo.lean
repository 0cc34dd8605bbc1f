/- The law EditsDo answers true for any files and any edit. The condition: as many files and numbers as the machine bears. -/
import Derived.Test.YtimfcinkjjaigaaGreatDoorKdAll
import Derived.Test.YtimfcinkjjaigaaGreatDoorKdEdit
import Derived.Test.YtimfcinkjjaigaaGreatDoorKindA
import Derived.Test.YtimfcinkjjaigaaGreatDoorTwEd
import Derived.Test.YtimfcinkjjaigaaGreatDoorRqDoA
import Derived.Test.YtimfcinkjjaigaaGreatDoorFl3
import Derived.Test.YtimfcinkjjaigaaGreatDoorHeld
namespace Go.Proofs.YtimfcinkjjaigaaGreatDoor
open Go.RowKit
theorem rdF_slD {w : World} {v : Value} {l : List PF} (h : RdF w v l) : ∃ a n c, v = .slice a n c ∧ Hid (n = l.length) ∧ n ≤ c ∧ c ≤ 9223372036854775807 := by
  obtain ⟨a, c, h1, h2, h3, _⟩ := h
  exact ⟨a, _, c, h1, rfl, h2, h3⟩
theorem rdU_slD {w : World} {v : Value} {l : List Nat} (h : RdU w v l) : ∃ a n c, v = .slice a n c ∧ Hid (n = l.length) ∧ n ≤ c ∧ c ≤ 9223372036854775807 := by
  obtain ⟨a, c, h1, h2, h3, _⟩ := h
  exact ⟨a, _, c, h1, rfl, h2, h3⟩
set_option maxRecDepth 100000 in
set_option maxHeartbeats 8000000 in
theorem editsDo_walk (w : World) (v : Value) (l : List PF) (vx : Value) (x : PX) (hv : RdF w v l) (hl0 : l.length ≤ 2932031007402 ∧ ∀ f ∈ l, f.ok) (hx : RdX w vx x) (hxo : x.ok) :
    Calls Tryz.prog 3 #[v, vx] w fun e w' => e = .returned (.bool true) ∧ Below w.heap.size w w' := by
  obtain ⟨va, vr, rfl, hva, hvr⟩ := hx
  obtain ⟨la, ln, lc, rfl, HLN, -, -⟩ := rdF_slD hv
  obtain ⟨aa, an, ac, rfl, HAN, -, -⟩ := rdF_slD hva
  obtain ⟨ra, rn, rc, rfl, HRN, -, -⟩ := rdU_slD hvr
  obtain ⟨W, hW⟩ : ∃ W, W = w.alloc (.cells #[.slice aa an ac, .slice ra rn rc, .int .u32 x.jo, .int .u32 x.nx, .int .u64 x.sq] 27) := ⟨_, rfl⟩
  obtain ⟨gx, hgx⟩ : ∃ g, g = w.heap.size := ⟨_, rfl⟩
  have HKW : Hid (Blk W gx #[.slice aa an ac, .slice ra rn rc, .int .u32 x.jo, .int .u32 x.nx, .int .u64 x.sq] 27) := Lib.hid (by rw [hW, hgx]; exact Blk.new _ _ _)
  have HCX : Hid (∀ w', Below W.heap.size W w' → w'.cell? ⟨gx, 0, none⟩ = some (.slice aa an ac) ∧ w'.cell? ⟨gx, 1, none⟩ = some (.slice ra rn rc) ∧ w'.cell? ⟨gx, 2, none⟩ = some (.int .u32 x.jo) ∧ w'.cell? ⟨gx, 3, none⟩ = some (.int .u32 x.nx) ∧ w'.cell? ⟨gx, 4, none⟩ = some (.int .u64 x.sq)) := Lib.hid fun w' hb => have q := HKW.out.below hb; ⟨q.cellv 0 _ rfl, q.cellv 1 _ rfl, q.cellv 2 _ rfl, q.cellv 3 _ rfl, q.cellv 4 _ rfl⟩
  have HBW : Hid (Below w.heap.size w W) := Lib.hid (by rw [hW]; exact alloc_bel _ _)
  have HV : Hid (∀ w', Below W.heap.size W w' → RdF w' (.slice la ln lc) l ∧ RdX w' (.agg #[.slice aa an ac, .slice ra rn rc, .int .u32 x.jo, .int .u32 x.nx, .int .u64 x.sq]) x) := Lib.hid fun w' hb => ⟨(hv.below HBW.out).below hb, ⟨_, _, rfl, (hva.below HBW.out).below hb, (hvr.below HBW.out).below hb⟩⟩
  have HG : Hid (∀ w', Below W.heap.size W w' → Calls Tryz.prog 8 #[.slice la ln lc, (.agg #[.slice aa an ac, .slice ra rn rc, .int .u32 x.jo, .int .u32 x.nx, .int .u64 x.sq])] w' fun e w'' => ∃ b, e = .returned (.bool b) ∧ Hid (b = false → l.length + x.add.length + x.rem.length ≤ 300 ∧ filesLen l + filesLen x.add ≤ 20000) ∧ Below w'.heap.size w' w'') := Lib.hid fun w' hb => great_any w' _ _ l x (HV.out w' hb).1 (HV.out w' hb).2 hl0 hxo
  have HLO := Lib.hid hl0.2
  have HXO := Lib.hid hxo
  have HEND : Hid (∀ w', Below W.heap.size W w' → Below w.heap.size w w') := Lib.hid fun w' hb => HBW.out.trans (hb.mono HBW.out.size)
  have HSW : Hid (w.heap.size ≤ W.heap.size) := HBW.out.size
  clear hv hva hvr hxo hl0 HBW
  go_enter Tryz.func3, Tryz.ntmps3
  go_upto_region 1 with (fail)
  rw [← hW, ← hgx]
  clear hW hgx
  obtain ⟨c0, c1, c2, c3, c4⟩ := HCX.out W (Below.refl _ _)
  go_wp2_with fail
  refine (HG.out W (Below.refl _ _)).mono ?_
  rintro e w2 ⟨B, rfl, hgb, b2⟩
  have HD2 := Lib.hid b2
  clear b2 c0 c1 c2 c3 c4
  cases B with
  | true =>
    go_wp2
    go_ret
    exact ⟨rfl, HEND.out _ HD2.out⟩
  | false =>
    obtain ⟨hs1, -⟩ := hgb.out rfl
    have hlnb : ln ≤ 300 := by rw [HLN.out]; omega
    have han : an ≤ 300 := by rw [HAN.out]; omega
    have hrn : rn ≤ 300 := by rw [HRN.out]; omega
    clear hs1 hgb HG
    have HT := Lib.hid (twFile_any w2 (.slice la ln lc) l (HV.out w2 HD2.out).1 (by rw [← HLN.out]; omega))
    go_wp2_with fail
    refine HT.out.mono ?_
    rintro e w3 ⟨tl, n0, rfl, HN0, HTL, b3⟩
    obtain rfl : n0 = ln := HN0.out.trans HLN.out.symm
    have HS23 : Hid (W.heap.size ≤ w2.heap.size ∧ w2.heap.size ≤ w3.heap.size) := Lib.hid ⟨HD2.out.size, b3.size⟩
    have HD3 := Lib.hid (HD2.out.trans (b3.mono HD2.out.size))
    have HR0 : Hid (InR (.slice (some ⟨tl, 0, none⟩) n0 (n0 + 1)) w2.heap.size w3.heap.size) := Lib.hid (inR_some _ _ _ HTL.out.1 HTL.out.2.1)
    clear b3 HT HD2 HN0
    obtain ⟨c0, c1, c2, c3, c4⟩ := HCX.out w3 HD3.out
    have HT := Lib.hid (twEdit_any w3 (.agg #[.slice aa an ac, .slice ra rn rc, .int .u32 x.jo, .int .u32 x.nx, .int .u64 x.sq]) x (HV.out w3 HD3.out).2 (by rw [← HAN.out]; omega) (by rw [← HRN.out]; omega))
    go_wp2_with fail
    refine HT.out.mono ?_
    rintro e w4 ⟨tf, tu, n1, m1, rfl, HN1, HM1, HTF, HTU, HNE, b4⟩
    obtain rfl : n1 = an := HN1.out.trans HAN.out.symm
    obtain rfl : m1 = rn := HM1.out.trans HRN.out.symm
    have HS34 : Hid (w3.heap.size ≤ w4.heap.size) := Lib.hid b4.size
    have HD4 := Lib.hid (HD3.out.trans (b4.mono HD3.out.size))
    have HR1 : Hid (InR (.slice (some ⟨tf, 0, none⟩) n1 (n1 + 1)) w3.heap.size w4.heap.size) := Lib.hid (inR_some _ _ _ HTF.out.1 HTF.out.2.1)
    have HR2 : Hid (InR (.slice (some ⟨tu, 0, none⟩) m1 (m1 + 1)) w3.heap.size w4.heap.size) := Lib.hid (inR_some _ _ _ HTU.out.1 HTU.out.2.1)
    have A1_2 : Hid (Ap (.slice (some ⟨tf, 0, none⟩) n1 (n1 + 1)) (.slice (some ⟨tu, 0, none⟩) m1 (m1 + 1))) := Lib.hid (fun k e e2 => by have h1 := rowOf_own e; have h2 := rowOf_own e2; simp only [Value.ownBlock, Option.some.injEq] at h1 h2; have := HNE.out; omega)
    have HTL4 := Lib.hid (HTL.out.below b4)
    obtain ⟨W4, hW4⟩ : ∃ W, W = w4.alloc (.cells #[.slice (some ⟨tf, 0, none⟩) n1 (n1 + 1), .slice (some ⟨tu, 0, none⟩) m1 (m1 + 1), .int .u32 x.jo, .int .u32 x.nx, .int .u64 x.sq] 27) := ⟨_, rfl⟩
    obtain ⟨gt, hgt⟩ : ∃ g, g = w4.heap.size := ⟨_, rfl⟩
    have HKW4 : Hid (Blk W4 gt #[.slice (some ⟨tf, 0, none⟩) n1 (n1 + 1), .slice (some ⟨tu, 0, none⟩) m1 (m1 + 1), .int .u32 x.jo, .int .u32 x.nx, .int .u64 x.sq] 27) := Lib.hid (by rw [hW4, hgt]; exact Blk.new _ _ _)
    have HCT : Hid (∀ w', Below W4.heap.size W4 w' → w'.cell? ⟨gt, 0, none⟩ = some (.slice (some ⟨tf, 0, none⟩) n1 (n1 + 1)) ∧ w'.cell? ⟨gt, 1, none⟩ = some (.slice (some ⟨tu, 0, none⟩) m1 (m1 + 1)) ∧ w'.cell? ⟨gt, 2, none⟩ = some (.int .u32 x.jo) ∧ w'.cell? ⟨gt, 3, none⟩ = some (.int .u32 x.nx) ∧ w'.cell? ⟨gt, 4, none⟩ = some (.int .u64 x.sq)) := Lib.hid fun w' hb => have q := HKW4.out.below hb; ⟨q.cellv 0 _ rfl, q.cellv 1 _ rfl, q.cellv 2 _ rfl, q.cellv 3 _ rfl, q.cellv 4 _ rfl⟩
    have hb4 : Below w4.heap.size w4 W4 := by rw [hW4]; exact alloc_bel _ _
    have HS45 : Hid (w4.heap.size ≤ W4.heap.size) := Lib.hid hb4.size
    have HDW4 := Lib.hid (HD4.out.trans (hb4.mono HD4.out.size))
    have HTL5 := Lib.hid (HTL4.out.below hb4)
    have HTF5 := Lib.hid (HTF.out.below hb4)
    have HTU5 := Lib.hid (HTU.out.below hb4)
    clear b4 HT HTL HTF HTU c0 c1 c2 c3 c4 hb4 HN1 HM1 HD3 HD4 HTL4
    have HDO := Lib.hid fun (w' : World) (va vb : Value) (h1 : RdF w' va l) (h2 : RdX w' vb x) => do_any w' va vb l x h1 h2 (by rw [← HLN.out]; omega) (by rw [← HAN.out]; omega) (by rw [← HRN.out]; omega) HLO.out HXO.out.1.2
    have HP1 := Lib.hid (HDO.out W4 (.slice (some ⟨tl, 0, none⟩) n0 (n0 + 1)) (.agg #[.slice (some ⟨tf, 0, none⟩) n1 (n1 + 1), .slice (some ⟨tu, 0, none⟩) m1 (m1 + 1), .int .u32 x.jo, .int .u32 x.nx, .int .u64 x.sq]) (rdF_of (reads_of_own HTL5.out.own)).2 ⟨_, _, rfl, (rdF_of (reads_of_own HTF5.out.own)).2, (rdU_of (reads_of_own HTU5.out.own)).2⟩)
    obtain ⟨c0, c1, c2, c3, c4⟩ := HCT.out W4 (Below.refl _ _)
    go_upto_region 5 with (fail)
    rw [← hW4, ← hgt]
    clear hW4 hgt
    go_wp2_with fail
    refine HP1.out.mono ?_
    rintro e w5 ⟨r, q, da, dc, rfl, HDR, HRA, b5⟩
    have HE5 := Lib.hid b5
    have HD5 := Lib.hid (HDW4.out.trans (b5.mono HDW4.out.size))
    have HR3 : Hid (InR (.slice da r.length dc) W4.heap.size w5.heap.size) := Lib.hid (own_ltR HRA.out)
    have HTL6 := Lib.hid (HTL5.out.below b5)
    have HTF6 := Lib.hid (HTF5.out.below b5)
    have HTU6 := Lib.hid (HTU5.out.below b5)
    have HP1 := Lib.hid (HDO.out w5 (.slice (some ⟨tl, 0, none⟩) n0 (n0 + 1)) (.agg #[.slice (some ⟨tf, 0, none⟩) n1 (n1 + 1), .slice (some ⟨tu, 0, none⟩) m1 (m1 + 1), .int .u32 x.jo, .int .u32 x.nx, .int .u64 x.sq]) (rdF_of (reads_of_own HTL6.out.own)).2 ⟨_, _, rfl, (rdF_of (reads_of_own HTF6.out.own)).2, (rdU_of (reads_of_own HTU6.out.own)).2⟩)
    clear b5 c0 c1 c2 c3 c4 HTL5 HTF5 HTU5 HDW4
    obtain ⟨c0, c1, c2, c3, c4⟩ := HCT.out w5 HE5.out
    go_wp2_with fail
    refine HP1.out.mono ?_
    rintro e w6 ⟨r2, q2, db, ec, rfl, HDR2, HRB, b6⟩
    obtain ⟨rfl, rfl⟩ := doR_one HDR.out HDR2.out
    have HS56 : Hid (W4.heap.size ≤ w5.heap.size ∧ w5.heap.size ≤ w6.heap.size) := Lib.hid ⟨HE5.out.size, b6.size⟩
    have HE6 := Lib.hid (HE5.out.trans (b6.mono HE5.out.size))
    have HD6 := Lib.hid (HD5.out.trans (b6.mono HD5.out.size))
    have HR4 : Hid (InR (.slice db r.length ec) w5.heap.size w6.heap.size) := Lib.hid (own_ltR HRB.out)
    have HTL7 := Lib.hid (HTL6.out.below b6)
    have HTF7 := Lib.hid (HTF6.out.below b6)
    have HTU7 := Lib.hid (HTU6.out.below b6)
    have HRA6 := Lib.hid (own_below HRA.out b6)
    clear b6 HP1 c0 c1 c2 c3 c4 HTL6 HTF6 HTU6 HE5 HD5 HRA HDO HDR2
    have HP1 := Lib.hid (refDo_any w6 (.slice la n0 lc) (.agg #[.slice aa n1 ac, .slice ra m1 rc, .int .u32 x.jo, .int .u32 x.nx, .int .u64 x.sq]) l x (HV.out w6 HD6.out).1 (HV.out w6 HD6.out).2 (by rw [← HLN.out]; omega) (by rw [← HAN.out]; omega) (by rw [← HRN.out]; omega))
    obtain ⟨c0, c1, c2, c3, c4⟩ := HCX.out w6 HD6.out
    go_wp2_with fail
    refine HP1.out.mono ?_
    rintro e w7 ⟨r3, q3, fa, fc, rfl, HDR3, HRF, b7⟩
    obtain ⟨rfl, rfl⟩ := doR_one HDR.out HDR3.out
    have HLR : Hid (r.length ≤ 1000000000) := Lib.hid (by have := doR_len HDR.out; rw [← HLN.out, ← HAN.out] at this; omega)
    have HK7 := Lib.hid b7
    have HSF := Lib.hid (sameF_any w7 (.slice da r.length dc) (.slice fa r.length fc) r (rdF_of (reads_of_own (own_below HRA6.out b7))).2 (rdF_of (reads_of_own HRF.out)).2)
    clear b7 HP1 c0 c1 c2 c3 c4 HDR HDR3
    go_wp2_with fail
    refine HSF.out.mono ?_
    rintro e w8 ⟨rfl, b8⟩
    have HK8 := Lib.hid (HK7.out.trans (b8.mono HK7.out.size))
    have HSF2 := Lib.hid (sameF_any w8 (.slice db r.length ec) (.slice fa r.length fc) r (rdF_of (reads_of_own (own_below HRB.out HK8.out))).2 (rdF_of (reads_of_own (own_below HRF.out b8))).2)
    have hq1 : ((q : Int) != (q : Int)) = false := by simp
    have hq3 : ((q : Int) == (q : Int)) = true := by simp
    clear b8 HSF HK7 HRF
    go_wp2_with fail
    refine HSF2.out.mono ?_
    rintro e w9 ⟨rfl, b9⟩
    have HK9 := Lib.hid (HK8.out.trans (b9.mono HK8.out.size))
    have HD9 := Lib.hid (HD6.out.trans (HK9.out.mono HD6.out.size))
    have HLF := Lib.hid (leftFile_any w9 _ tl n0 _ l HLN.out (HTL7.out.below HK9.out) (HV.out w9 HD9.out).1 (by rw [← HLN.out]; omega))
    clear b9 HSF2 HK8
    go_wp2_with fail
    refine HLF.out.mono ?_
    rintro e w10 ⟨rfl, b10⟩
    have HK10 := Lib.hid (HK9.out.trans (b10.mono HK9.out.size))
    have HD10 := Lib.hid (HD9.out.trans (b10.mono HD9.out.size))
    obtain ⟨c0, c1, c2, c3, c4⟩ := HCT.out w10 (HE6.out.trans (HK10.out.mono HE6.out.size))
    obtain ⟨d0, d1, d2, d3, d4⟩ := HCX.out w10 HD10.out
    have HLE := Lib.hid (leftEdit_any w10 _ tf tu n1 m1 (.agg #[.slice aa n1 ac, .slice ra m1 rc, .int .u32 x.jo, .int .u32 x.nx, .int .u64 x.sq]) x HAN.out HRN.out (HTF7.out.below HK10.out) (HTU7.out.below HK10.out) (HV.out w10 HD10.out).2 (by rw [← HAN.out]; omega) (by rw [← HRN.out]; omega))
    clear b10 HLF HK9 HD9
    go_wp2_with fail
    refine HLE.out.mono ?_
    rintro e wc ⟨rfl, b11⟩
    have HKc := Lib.hid (HK10.out.trans (b11.mono HK10.out.size))
    have HDc := Lib.hid (HD10.out.trans (b11.mono HD10.out.size))
    have HEc := Lib.hid (HE6.out.trans (HKc.out.mono HE6.out.size))
    clear b11 HLE c0 c1 c2 c3 c4 d0 d1 d2 d3 d4 HK10 HD10
    have HBc := Lib.hid (HEND.out _ HDc.out)
    have HGK : Hid (W4.heap.size ≤ wc.heap.size) := Lib.hid HEc.out.size
    obtain ⟨base, hba⟩ : ∃ x, x = w.heap.size := ⟨_, rfl⟩
    obtain ⟨kr, hk⟩ : ∃ k, k = r.length := ⟨_, rfl⟩
    rw [← hk] at HR3 HR4 HRA6 HRB HLR
    rw [← hk]
    clear hk
    have hs1 := HSW.out
    obtain ⟨hs2, hs3⟩ := HS23.out
    have hs4 := HS34.out
    have hs5 := HS45.out
    obtain ⟨hs6, hs7⟩ := HS56.out
    have hs8 := HKc.out.size
    have HO0 : Hid (Own wc base 86 4 (.slice (some ⟨tl, 0, none⟩) n0 (n0 + 1)) n0 (fcells l)) := Lib.hid (own_mono (own_below HTL7.out.own HKc.out) (by omega))
    have HO1 : Hid (Own wc base 86 4 (.slice (some ⟨tf, 0, none⟩) n1 (n1 + 1)) n1 (fcells x.add)) := Lib.hid (own_mono (own_below HTF7.out.own HKc.out) (by omega))
    have HO2 : Hid (Own wc base 24 1 (.slice (some ⟨tu, 0, none⟩) m1 (m1 + 1)) m1 (ucells x.rem)) := Lib.hid (own_mono (own_below HTU7.out.own HKc.out) (by omega))
    have HO3 : Hid (Own wc base 86 4 (.slice da kr dc) kr (fcells r)) := Lib.hid (own_mono (own_below HRA6.out HKc.out) (by omega))
    have HO4 : Hid (Own wc base 86 4 (.slice db kr ec) kr (fcells r)) := Lib.hid (own_mono (own_below HRB.out HKc.out) (by omega))
    have HQ0 : Hid (InR (.slice (some ⟨tl, 0, none⟩) n0 (n0 + 1)) base wc.heap.size) := Lib.hid (HR0.out.mono (by omega) (by omega))
    have HQ1 : Hid (InR (.slice (some ⟨tf, 0, none⟩) n1 (n1 + 1)) base wc.heap.size) := Lib.hid (HR1.out.mono (by omega) (by omega))
    have HQ2 : Hid (InR (.slice (some ⟨tu, 0, none⟩) m1 (m1 + 1)) base wc.heap.size) := Lib.hid (HR2.out.mono (by omega) (by omega))
    have HQ3 : Hid (InR (.slice da kr dc) base wc.heap.size) := Lib.hid (HR3.out.mono (by omega) (by omega))
    have HQ4 : Hid (InR (.slice db kr ec) base wc.heap.size) := Lib.hid (HR4.out.mono (by omega) (by omega))
    have HM0 : Hid (n0 ≤ 1000000000) := Lib.hid (by omega)
    have HM1 : Hid (n1 ≤ 1000000000) := Lib.hid (by omega)
    have HM2 : Hid (m1 ≤ 1000000000) := Lib.hid (by omega)
    have HM3 := HLR
    have HM4 := HLR
    have A0_1 : Hid (Ap ((.slice (some ⟨tl, 0, none⟩) n0 (n0 + 1))) ((.slice (some ⟨tf, 0, none⟩) n1 (n1 + 1)))) := Lib.hid (HR0.out.ap HR1.out (by omega))
    have A0_2 : Hid (Ap ((.slice (some ⟨tl, 0, none⟩) n0 (n0 + 1))) ((.slice (some ⟨tu, 0, none⟩) m1 (m1 + 1)))) := Lib.hid (HR0.out.ap HR2.out (by omega))
    have A0_3 : Hid (Ap ((.slice (some ⟨tl, 0, none⟩) n0 (n0 + 1))) ((.slice da kr dc))) := Lib.hid (HR0.out.ap HR3.out (by omega))
    have A0_4 : Hid (Ap ((.slice (some ⟨tl, 0, none⟩) n0 (n0 + 1))) ((.slice db kr ec))) := Lib.hid (HR0.out.ap HR4.out (by omega))
    have A1_3 : Hid (Ap ((.slice (some ⟨tf, 0, none⟩) n1 (n1 + 1))) ((.slice da kr dc))) := Lib.hid (HR1.out.ap HR3.out (by omega))
    have A1_4 : Hid (Ap ((.slice (some ⟨tf, 0, none⟩) n1 (n1 + 1))) ((.slice db kr ec))) := Lib.hid (HR1.out.ap HR4.out (by omega))
    have A2_3 : Hid (Ap ((.slice (some ⟨tu, 0, none⟩) m1 (m1 + 1))) ((.slice da kr dc))) := Lib.hid (HR2.out.ap HR3.out (by omega))
    have A2_4 : Hid (Ap ((.slice (some ⟨tu, 0, none⟩) m1 (m1 + 1))) ((.slice db kr ec))) := Lib.hid (HR2.out.ap HR4.out (by omega))
    have A3_4 : Hid (Ap ((.slice da kr dc)) ((.slice db kr ec))) := Lib.hid (HR3.out.ap HR4.out (by omega))
    clear HR0 HR1 HR2 HR3 HR4 hs1 hs2 hs3 hs4 hs5 hs6 hs7 hs8 HTL7 HTF7 HTU7 HRA6 HRB HKc HSW HS23 HS34 HS45 HS56 HDc HEND HV hq1 hq3 HAN HRN HLN HXO HLO HLR HNE HD6 HE6
    have HJ0 : Hid (∀ w', Below wc.heap.size wc w' → Own w' base 86 4 ((.slice (some ⟨tl, 0, none⟩) n0 (n0 + 1))) (n0) (fcells l)) := Lib.hid fun w' hb => own_below HO0.out hb
    have HJ1 : Hid (∀ w', Below wc.heap.size wc w' → Own w' base 86 4 ((.slice (some ⟨tf, 0, none⟩) n1 (n1 + 1))) (n1) (fcells x.add)) := Lib.hid fun w' hb => own_below HO1.out hb
    have HJ2 : Hid (∀ w', Below wc.heap.size wc w' → Own w' base 24 1 ((.slice (some ⟨tu, 0, none⟩) m1 (m1 + 1))) (m1) (ucells x.rem)) := Lib.hid fun w' hb => own_below HO2.out hb
    have HJ3 : Hid (∀ w', Below wc.heap.size wc w' → Own w' base 86 4 ((.slice da kr dc)) (kr) (fcells r)) := Lib.hid fun w' hb => own_below HO3.out hb
    have HJ4 : Hid (∀ w', Below wc.heap.size wc w' → Own w' base 86 4 ((.slice db kr ec)) (kr) (fcells r)) := Lib.hid fun w' hb => own_below HO4.out hb
    have hgb : base ≤ wc.heap.size := by rw [hba]; exact HBc.out.size
    clear HO0 HO1 HO2 HO3 HO4
    go_upto_region 11 with (fail)
    obtain ⟨wk0, hwk⟩ : ∃ x, x = wc.alloc (.cells (bkF 0 (fun _ => .slice none 0 0)) 50) := ⟨_, rfl⟩
    have HP0 : Hid (Pg wk0 wc.heap.size 0 (fun _ => .slice none 0 0)) := Lib.hid (by rw [hwk]; exact Pg.new wc _ (fun _ => rfl))
    have HAL0 : Hid (Below wc.heap.size wc wk0) := Lib.hid (by rw [hwk]; exact (Below.refl _ _).alloc (Nat.le_refl _) _)
    change Code.wp _ _ _ _ (wc.alloc (.cells (bkF 0 (fun _ => .slice none 0 0)) 50))
    rw [← hwk]
    clear hwk
    obtain ⟨gk, hgk⟩ : ∃ x, x = wc.heap.size := ⟨_, rfl⟩
    rw [← hgk] at HP0 HAL0 hgb HJ0 HQ0 HJ1 HQ1 HJ2 HQ2 HJ3 HQ3 HJ4 HQ4 HGK
    rw [← hgk]
    clear hgk
    obtain ⟨f0, hf⟩ : ∃ f : Nat → Value, f = fun _ => .slice none 0 0 := ⟨_, rfl⟩
    rw [← hf] at HP0
    have HZ0 : Hid (∀ r, f0 r = .slice none 0 0) := Lib.hid fun r => by rw [hf]
    have HW0_2 : Hid (Own wk0 gk 161 3 (f0 2) 0 (helds 0 (seqL (α := Value) (.slice none 0 0) [(.slice (some ⟨tu, 0, none⟩) m1 (m1 + 1))]) (fun _ => .slice none 0 0) (seqL (α := Nat) 0 [3]))) := Lib.hid (by rw [HZ0.out]; exact own_none _ _ _ _)
    have HW0_9 : Hid (Own wk0 gk 156 3 (f0 9) 0 (helds 0 (seqL (α := Value) (.slice none 0 0) [(.slice (some ⟨tl, 0, none⟩) n0 (n0 + 1)), (.slice (some ⟨tf, 0, none⟩) n1 (n1 + 1)), (.slice da kr dc), (.slice db kr ec)]) (fun _ => .slice none 0 0) (seqL (α := Nat) 0 [1, 2, 4, 5]))) := Lib.hid (by rw [HZ0.out]; exact own_none _ _ _ _)
    clear hf
    have HT := Lib.hid (toldFile_any wk0 gk 0 0 f0 (seqL (α := Value) (.slice none 0 0) [(.slice (some ⟨tl, 0, none⟩) n0 (n0 + 1)), (.slice (some ⟨tf, 0, none⟩) n1 (n1 + 1)), (.slice da kr dc), (.slice db kr ec)]) (seqL (α := Nat) 0 [1, 2, 4, 5]) ((.slice (some ⟨tl, 0, none⟩) n0 (n0 + 1))) HP0.out HW0_9.out (by omega) (by omega) ⟨_, _, _, rfl⟩ rfl rfl)
    go_wp2_with fail
    refine HT.out.mono ?_
    rintro e wk1 ⟨rfl, hx, hb⟩
    have HAL1 := Lib.hid (HAL0.out.trans hb)
    obtain ⟨v', hp, ho, hk⟩ := hx.out
    obtain ⟨f1, hf⟩ : ∃ f, f = upd f0 9 v' := ⟨_, rfl⟩
    rw [← hf] at hp ho hk
    have HZ1 : Hid (∀ r, r ≠ 9 → f1 r = f0 r) := Lib.hid fun r hr => by rw [hf]; exact upd_other _ _ hr
    have HP1 := Lib.hid hp
    have HW1_9 := Lib.hid ho
    have HW1_2 := Lib.hid (keepsO_own hk 2 (by decide) HW0_2.out)
    clear hf hp ho hk hx hb HT HP0 HAL0 HW0_2 HW0_9
    obtain ⟨c0, c1, c2, c3, c4⟩ := HCT.out wk1 (HEc.out.trans (HAL1.out.mono HGK.out))
    have HT := Lib.hid (toldEdit_any wk1 gk 1 1 0 f1 (seqL (α := Value) (.slice none 0 0) [(.slice (some ⟨tl, 0, none⟩) n0 (n0 + 1)), (.slice (some ⟨tf, 0, none⟩) n1 (n1 + 1)), (.slice da kr dc), (.slice db kr ec)]) (seqL (α := Value) (.slice none 0 0) [(.slice (some ⟨tu, 0, none⟩) m1 (m1 + 1))]) (seqL (α := Nat) 0 [1, 2, 4, 5]) (seqL (α := Nat) 0 [3]) ((.slice (some ⟨tf, 0, none⟩) n1 (n1 + 1))) ((.slice (some ⟨tu, 0, none⟩) m1 (m1 + 1))) (x.jo) (x.nx) (x.sq) HP1.out HW1_9.out HW1_2.out (by omega) (by omega) (by omega) ⟨_, _, _, rfl⟩ ⟨_, _, _, rfl⟩ rfl rfl rfl rfl)
    go_wp2_with fail
    refine HT.out.mono ?_
    rintro e wk3 ⟨rfl, hx, -⟩
    obtain ⟨wk2, v', v2', hp, ho, hk, hb, hp2, ho2, hk2, hb2⟩ := hx.out
    have HAL2 := Lib.hid (HAL1.out.trans hb)
    obtain ⟨f2, hf⟩ : ∃ f, f = upd f1 9 v' := ⟨_, rfl⟩
    rw [← hf] at hp ho hk hp2 ho2 hk2
    have HZ2 : Hid (∀ r, r ≠ 9 → f2 r = f1 r) := Lib.hid fun r hr => by rw [hf]; exact upd_other _ _ hr
    have HW2_9 := Lib.hid ho
    have HW2_2 := Lib.hid (keepsO_own hk 2 (by decide) HW1_2.out)
    clear hf
    have HAL3 := Lib.hid (HAL2.out.trans hb2)
    obtain ⟨f3, hf⟩ : ∃ f, f = upd f2 2 v2' := ⟨_, rfl⟩
    rw [← hf] at hp2 ho2 hk2
    have HZ3 : Hid (∀ r, r ≠ 2 → f3 r = f2 r) := Lib.hid fun r hr => by rw [hf]; exact upd_other _ _ hr
    have HP3 := Lib.hid hp2
    have HW3_2 := Lib.hid ho2
    have HW3_9 := Lib.hid (keepsO_own hk2 9 (by decide) HW2_9.out)
    clear hf hp ho hk hx hb hp2 ho2 hk2 hb2 HT HP1 HAL1 HAL2 HW1_2 HW1_9 HW2_2 HW2_9
    clear c0 c1 c2 c3 c4
    have HT := Lib.hid (toldFile_any wk3 gk 3 2 f3 (seqL (α := Value) (.slice none 0 0) [(.slice (some ⟨tl, 0, none⟩) n0 (n0 + 1)), (.slice (some ⟨tf, 0, none⟩) n1 (n1 + 1)), (.slice da kr dc), (.slice db kr ec)]) (seqL (α := Nat) 0 [1, 2, 4, 5]) ((.slice da kr dc)) HP3.out HW3_9.out (by omega) (by omega) ⟨_, _, _, rfl⟩ rfl rfl)
    go_wp2_with fail
    refine HT.out.mono ?_
    rintro e wk4 ⟨rfl, hx, hb⟩
    have HAL4 := Lib.hid (HAL3.out.trans hb)
    obtain ⟨v', hp, ho, hk⟩ := hx.out
    obtain ⟨f4, hf⟩ : ∃ f, f = upd f3 9 v' := ⟨_, rfl⟩
    rw [← hf] at hp ho hk
    have HZ4 : Hid (∀ r, r ≠ 9 → f4 r = f3 r) := Lib.hid fun r hr => by rw [hf]; exact upd_other _ _ hr
    have HP4 := Lib.hid hp
    have HW4_9 := Lib.hid ho
    have HW4_2 := Lib.hid (keepsO_own hk 2 (by decide) HW3_2.out)
    clear hf hp ho hk hx hb HT HP3 HAL3 HW3_2 HW3_9
    have HT := Lib.hid (toldFile_any wk4 gk 4 3 f4 (seqL (α := Value) (.slice none 0 0) [(.slice (some ⟨tl, 0, none⟩) n0 (n0 + 1)), (.slice (some ⟨tf, 0, none⟩) n1 (n1 + 1)), (.slice da kr dc), (.slice db kr ec)]) (seqL (α := Nat) 0 [1, 2, 4, 5]) ((.slice db kr ec)) HP4.out HW4_9.out (by omega) (by omega) ⟨_, _, _, rfl⟩ rfl rfl)
    go_wp2_with fail
    refine HT.out.mono ?_
    rintro e wk5 ⟨rfl, hx, hb⟩
    have HAL5 := Lib.hid (HAL4.out.trans hb)
    obtain ⟨v', hp, ho, hk⟩ := hx.out
    obtain ⟨f5, hf⟩ : ∃ f, f = upd f4 9 v' := ⟨_, rfl⟩
    rw [← hf] at hp ho hk
    have HZ5 : Hid (∀ r, r ≠ 9 → f5 r = f4 r) := Lib.hid fun r hr => by rw [hf]; exact upd_other _ _ hr
    have HP5 := Lib.hid hp
    have HW5_9 := Lib.hid ho
    have HW5_2 := Lib.hid (keepsO_own hk 2 (by decide) HW4_2.out)
    clear hf hp ho hk hx hb HT HP4 HAL4 HW4_2 HW4_9
    have z1 : f5 1 = .slice none 0 0 := (HZ5.out 1 (by decide)).trans ((HZ4.out 1 (by decide)).trans ((HZ3.out 1 (by decide)).trans ((HZ2.out 1 (by decide)).trans ((HZ1.out 1 (by decide)).trans (HZ0.out 1)))))
    have HK2 := Lib.hid (HP5.out.kst (base := base) (m := 1) (L := (seqL (α := Value) (.slice none 0 0) [(.slice (some ⟨tu, 0, none⟩) m1 (m1 + 1))])) (num := (seqL (α := Nat) 0 [3])) (n := (seqL (α := Nat) 0 [m1])) (C := (seqL (α := List Value) [] [ucells x.rem])) (et := 24) (sz := 1) hgb HW5_2.out (lt1 (HJ2.out _ HAL5.out)) (lt1 HQ2.out) (ap_off (lt1 lt0)))
    have z5 : f5 5 = .slice none 0 0 := (HZ5.out 5 (by decide)).trans ((HZ4.out 5 (by decide)).trans ((HZ3.out 5 (by decide)).trans ((HZ2.out 5 (by decide)).trans ((HZ1.out 5 (by decide)).trans (HZ0.out 5)))))
    have z8 : f5 8 = .slice none 0 0 := (HZ5.out 8 (by decide)).trans ((HZ4.out 8 (by decide)).trans ((HZ3.out 8 (by decide)).trans ((HZ2.out 8 (by decide)).trans ((HZ1.out 8 (by decide)).trans (HZ0.out 8)))))
    have HK9 := Lib.hid (HP5.out.kst (base := base) (m := 4) (L := (seqL (α := Value) (.slice none 0 0) [(.slice (some ⟨tl, 0, none⟩) n0 (n0 + 1)), (.slice (some ⟨tf, 0, none⟩) n1 (n1 + 1)), (.slice da kr dc), (.slice db kr ec)])) (num := (seqL (α := Nat) 0 [1, 2, 4, 5])) (n := (seqL (α := Nat) 0 [n0, n1, kr, kr])) (C := (seqL (α := List Value) [] [fcells l, fcells x.add, fcells r, fcells r])) (et := 86) (sz := 4) hgb HW5_9.out (lt4 (HJ0.out _ HAL5.out) (HJ1.out _ HAL5.out) (HJ3.out _ HAL5.out) (HJ4.out _ HAL5.out)) (lt4 HQ0.out HQ1.out HQ3.out HQ4.out) (ap_off (lt4 lt0 (lt1 A0_1.out) (lt2 A0_3.out A1_3.out) (lt3 A0_4.out A1_4.out A3_4.out))))
    have HD2_9 := Lib.hid (sOf_dj (L := (seqL (α := Value) (.slice none 0 0) [(.slice (some ⟨tu, 0, none⟩) m1 (m1 + 1))])) (L' := (seqL (α := Value) (.slice none 0 0) [(.slice (some ⟨tl, 0, none⟩) n0 (n0 + 1)), (.slice (some ⟨tf, 0, none⟩) n1 (n1 + 1)), (.slice da kr dc), (.slice db kr ec)])) HP5.out (show 2 ≠ 9 by decide) (lt1 (fun b e => (HQ2.out b e).2)) (lt4 (fun b e => (HQ0.out b e).2) (fun b e => (HQ1.out b e).2) (fun b e => (HQ3.out b e).2) (fun b e => (HQ4.out b e).2)) (fun j k hj hk => lt1 (P := fun j => ∀ k, k < 4 → Ap ((seqL (α := Value) (.slice none 0 0) [(.slice (some ⟨tu, 0, none⟩) m1 (m1 + 1))]) j) ((seqL (α := Value) (.slice none 0 0) [(.slice (some ⟨tl, 0, none⟩) n0 (n0 + 1)), (.slice (some ⟨tf, 0, none⟩) n1 (n1 + 1)), (.slice da kr dc), (.slice db kr ec)]) k)) (lt4 (P := fun k => Ap ((seqL (α := Value) (.slice none 0 0) [(.slice (some ⟨tu, 0, none⟩) m1 (m1 + 1))]) 0) ((seqL (α := Value) (.slice none 0 0) [(.slice (some ⟨tl, 0, none⟩) n0 (n0 + 1)), (.slice (some ⟨tf, 0, none⟩) n1 (n1 + 1)), (.slice da kr dc), (.slice db kr ec)]) k)) (Ap.symm A0_2.out) (Ap.symm A1_2.out) A2_3.out A2_4.out) j hj k hk))
    have HD9_2 := Lib.hid (sOf_dj (L := (seqL (α := Value) (.slice none 0 0) [(.slice (some ⟨tl, 0, none⟩) n0 (n0 + 1)), (.slice (some ⟨tf, 0, none⟩) n1 (n1 + 1)), (.slice da kr dc), (.slice db kr ec)])) (L' := (seqL (α := Value) (.slice none 0 0) [(.slice (some ⟨tu, 0, none⟩) m1 (m1 + 1))])) HP5.out (show 9 ≠ 2 by decide) (lt4 (fun b e => (HQ0.out b e).2) (fun b e => (HQ1.out b e).2) (fun b e => (HQ3.out b e).2) (fun b e => (HQ4.out b e).2)) (lt1 (fun b e => (HQ2.out b e).2)) (fun j k hj hk => lt4 (P := fun j => ∀ k, k < 1 → Ap ((seqL (α := Value) (.slice none 0 0) [(.slice (some ⟨tl, 0, none⟩) n0 (n0 + 1)), (.slice (some ⟨tf, 0, none⟩) n1 (n1 + 1)), (.slice da kr dc), (.slice db kr ec)]) j) ((seqL (α := Value) (.slice none 0 0) [(.slice (some ⟨tu, 0, none⟩) m1 (m1 + 1))]) k)) (lt1 (P := fun k => Ap ((seqL (α := Value) (.slice none 0 0) [(.slice (some ⟨tl, 0, none⟩) n0 (n0 + 1)), (.slice (some ⟨tf, 0, none⟩) n1 (n1 + 1)), (.slice da kr dc), (.slice db kr ec)]) 0) ((seqL (α := Value) (.slice none 0 0) [(.slice (some ⟨tu, 0, none⟩) m1 (m1 + 1))]) k)) A0_2.out) (lt1 (P := fun k => Ap ((seqL (α := Value) (.slice none 0 0) [(.slice (some ⟨tl, 0, none⟩) n0 (n0 + 1)), (.slice (some ⟨tf, 0, none⟩) n1 (n1 + 1)), (.slice da kr dc), (.slice db kr ec)]) 1) ((seqL (α := Value) (.slice none 0 0) [(.slice (some ⟨tu, 0, none⟩) m1 (m1 + 1))]) k)) A1_2.out) (lt1 (P := fun k => Ap ((seqL (α := Value) (.slice none 0 0) [(.slice (some ⟨tl, 0, none⟩) n0 (n0 + 1)), (.slice (some ⟨tf, 0, none⟩) n1 (n1 + 1)), (.slice da kr dc), (.slice db kr ec)]) 2) ((seqL (α := Value) (.slice none 0 0) [(.slice (some ⟨tu, 0, none⟩) m1 (m1 + 1))]) k)) (Ap.symm A2_3.out)) (lt1 (P := fun k => Ap ((seqL (α := Value) (.slice none 0 0) [(.slice (some ⟨tl, 0, none⟩) n0 (n0 + 1)), (.slice (some ⟨tf, 0, none⟩) n1 (n1 + 1)), (.slice da kr dc), (.slice db kr ec)]) 3) ((seqL (α := Value) (.slice none 0 0) [(.slice (some ⟨tu, 0, none⟩) m1 (m1 + 1))]) k)) (Ap.symm A2_4.out)) j hj k hk))
    have HAP := Lib.hid (apartK_any wk5 base gk 5 f5 0 (fun _ => .slice none 0 0) (fun _ => 0) (fun _ => 0) (fun _ => []) (fun _ => False) 1 (seqL (α := Value) (.slice none 0 0) [(.slice (some ⟨tu, 0, none⟩) m1 (m1 + 1))]) (seqL (α := Nat) 0 [3]) (seqL (α := Nat) 0 [m1]) (seqL (α := List Value) [] [ucells x.rem]) (SOf (f5 2) 1 (seqL (α := Value) (.slice none 0 0) [(.slice (some ⟨tu, 0, none⟩) m1 (m1 + 1))])) 0 (fun _ => .slice none 0 0) (fun _ => 0) (fun _ => 0) (fun _ => []) (fun _ => False) 0 (fun _ => .slice none 0 0) (fun _ => 0) (fun _ => 0) (fun _ => []) (fun _ => False) 4 (seqL (α := Value) (.slice none 0 0) [(.slice (some ⟨tl, 0, none⟩) n0 (n0 + 1)), (.slice (some ⟨tf, 0, none⟩) n1 (n1 + 1)), (.slice da kr dc), (.slice db kr ec)]) (seqL (α := Nat) 0 [1, 2, 4, 5]) (seqL (α := Nat) 0 [n0, n1, kr, kr]) (seqL (α := List Value) [] [fcells l, fcells x.add, fcells r, fcells r]) (SOf (f5 9) 4 (seqL (α := Value) (.slice none 0 0) [(.slice (some ⟨tl, 0, none⟩) n0 (n0 + 1)), (.slice (some ⟨tf, 0, none⟩) n1 (n1 + 1)), (.slice da kr dc), (.slice db kr ec)])) HP5.out.blk (Nat.le_trans hgb (Nat.le_of_lt HP5.out.blk.lt)) ((HZ5.out 3 (by decide)).trans ((HZ4.out 3 (by decide)).trans ((HZ3.out 3 (by decide)).trans ((HZ2.out 3 (by decide)).trans ((HZ1.out 3 (by decide)).trans (HZ0.out 3)))))) ((HZ5.out 4 (by decide)).trans ((HZ4.out 4 (by decide)).trans ((HZ3.out 4 (by decide)).trans ((HZ2.out 4 (by decide)).trans ((HZ1.out 4 (by decide)).trans (HZ0.out 4)))))) ((HZ5.out 6 (by decide)).trans ((HZ4.out 6 (by decide)).trans ((HZ3.out 6 (by decide)).trans ((HZ2.out 6 (by decide)).trans ((HZ1.out 6 (by decide)).trans (HZ0.out 6)))))) ((HZ5.out 7 (by decide)).trans ((HZ4.out 7 (by decide)).trans ((HZ3.out 7 (by decide)).trans ((HZ2.out 7 (by decide)).trans ((HZ1.out 7 (by decide)).trans (HZ0.out 7)))))) ((HZ5.out 10 (by decide)).trans ((HZ4.out 10 (by decide)).trans ((HZ3.out 10 (by decide)).trans ((HZ2.out 10 (by decide)).trans ((HZ1.out 10 (by decide)).trans (HZ0.out 10)))))) ((HZ5.out 11 (by decide)).trans ((HZ4.out 11 (by decide)).trans ((HZ3.out 11 (by decide)).trans ((HZ2.out 11 (by decide)).trans ((HZ1.out 11 (by decide)).trans (HZ0.out 11)))))) ((HZ5.out 12 (by decide)).trans ((HZ4.out 12 (by decide)).trans ((HZ3.out 12 (by decide)).trans ((HZ2.out 12 (by decide)).trans ((HZ1.out 12 (by decide)).trans (HZ0.out 12)))))) ((HZ5.out 13 (by decide)).trans ((HZ4.out 13 (by decide)).trans ((HZ3.out 13 (by decide)).trans ((HZ2.out 13 (by decide)).trans ((HZ1.out 13 (by decide)).trans (HZ0.out 13)))))) (by rw [z1]; exact KSt.empty _ _ _ _) (by omega) lt0 lt0 HK2.out (by omega) (lt1 (by decide)) (lt1 HM2.out) (by rw [z5]; exact KSt.empty _ _ _ _) (by omega) lt0 lt0 (by rw [z8]; exact KSt.empty _ _ _ _) (by omega) lt0 lt0 HK9.out (by omega) (lt4 (by decide) (by decide) (by decide) (by decide)) (lt4 HM0.out HM1.out HM3.out HM4.out) dj_false' dj_false' dj_false' dj_false' dj_false dj_false dj_false HD2_9.out dj_false' dj_false' dj_false' dj_false' dj_false' dj_false' dj_false' dj_false' dj_false HD9_2.out dj_false dj_false)
    clear HK2 HK9
    go_wp2_with fail
    refine HAP.out.mono ?_
    rintro e wz ⟨rfl, hb⟩
    have HBb : Below base w wc := by rw [hba]; exact HBc.out
    have HF := HBb.trans ((HAL5.out.mono hgb).trans hb)
    clear HAP hb
    go_wp2
    go_ret
    rw [← hba]
    exact ⟨rfl, HF⟩
end Go.Proofs.YtimfcinkjjaigaaGreatDoor

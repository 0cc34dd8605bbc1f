/- Walk of law11.EditsBoth. The conditions: as the law itself asks. -/
import Derived.Test.YtmonmfamnbfhcaaFlR
import Derived.Deep.Cut
import Derived.Test.YtmonmfamnbfhcaaFlS
namespace Go.Proofs.Ytmonmfamnbfhcaa
open Go.RowKit

set_option maxRecDepth 100000 in
set_option maxHeartbeats 1000000 in
theorem editsBoth_walk (w : World) (v : Value) (l : List PF) (vx : Value) (x : PX) (vy : Value) (y : PX) (hv : RdF w v l) (hl : l.length ≤ 2932031007402 ∧ ∀ f ∈ l, f.ok) (hx : RdX w vx x) (hxo : x.ok) (hy : RdX w vy y) (hyo : y.ok) :
    Calls Try.prog 9 #[v, vx, vy] w fun e w' => e = .returned (.bool true) ∧ Below w.heap.size w w' := by
  obtain ⟨va, vr, rfl, hva, hvr⟩ := hx
  obtain ⟨la, ln, lc, rfl, HLN, hlc, hlm⟩ := rdF_sl hv
  obtain ⟨aa, an, ac, rfl, HAN, hac, ham⟩ := rdF_sl hva
  obtain ⟨ra, rn, rc, rfl, HRN, hrc, hrm⟩ := rdU_sl hvr
  obtain ⟨vb, vs, rfl, hvb, hvs⟩ := hy
  obtain ⟨ba, bn, bc, rfl, HBN, hbc, hbm⟩ := rdF_sl hvb
  obtain ⟨sa, sn, sc, rfl, HSN, hsc, hsm⟩ := rdU_sl hvs
  obtain ⟨W, hW⟩ : ∃ W, W = (w.alloc (.cells #[.slice aa an ac, .slice ra rn rc, .int .u32 x.jo, .int .u32 x.nx, .int .u64 x.sq] 27)).alloc (.cells #[.slice ba bn bc, .slice sa sn sc, .int .u32 y.jo, .int .u32 y.nx, .int .u64 y.sq] 27) := ⟨_, rfl⟩
  have hBlk : Blk W w.heap.size #[.slice aa an ac, .slice ra rn rc, .int .u32 x.jo, .int .u32 x.nx, .int .u64 x.sq] 27 := by rw [hW]; exact (Blk.new _ _ _).alloc _
  have hBlkY : Blk W (w.heap.size + 1) #[.slice ba bn bc, .slice sa sn sc, .int .u32 y.jo, .int .u32 y.nx, .int .u64 y.sq] 27 := by rw [hW]; exact Blk.new_at _ _ _ _ (by simp)
  have HBW : Hid (Below w.heap.size w W) := Lib.hid (by rw [hW]; exact (alloc_bel _ _).trans ((alloc_bel _ _).mono (alloc_bel _ _).size))
  have HC : Hid (∀ w', Below W.heap.size W w' → w'.cell? ⟨w.heap.size, 0, none⟩ = some (.slice aa an ac) ∧ w'.cell? ⟨w.heap.size, 1, none⟩ = some (.slice ra rn rc) ∧ w'.cell? ⟨w.heap.size, 2, none⟩ = some (.int .u32 x.jo) ∧ w'.cell? ⟨w.heap.size, 3, none⟩ = some (.int .u32 x.nx) ∧ w'.cell? ⟨w.heap.size, 4, none⟩ = some (.int .u64 x.sq)) := Lib.hid fun w' hb => ⟨Below.keeps hb _ _ _ (hBlk.cell 0), Below.keeps hb _ _ _ (hBlk.cell 1), Below.keeps hb _ _ _ (hBlk.cell 2), Below.keeps hb _ _ _ (hBlk.cell 3), Below.keeps hb _ _ _ (hBlk.cell 4)⟩
  have HCY : Hid (∀ w', Below W.heap.size W w' → w'.cell? ⟨w.heap.size + 1, 0, none⟩ = some (.slice ba bn bc) ∧ w'.cell? ⟨w.heap.size + 1, 1, none⟩ = some (.slice sa sn sc) ∧ w'.cell? ⟨w.heap.size + 1, 2, none⟩ = some (.int .u32 y.jo) ∧ w'.cell? ⟨w.heap.size + 1, 3, none⟩ = some (.int .u32 y.nx) ∧ w'.cell? ⟨w.heap.size + 1, 4, none⟩ = some (.int .u64 y.sq)) := Lib.hid fun w' hb => ⟨Below.keeps hb _ _ _ (hBlkY.cell 0), Below.keeps hb _ _ _ (hBlkY.cell 1), Below.keeps hb _ _ _ (hBlkY.cell 2), Below.keeps hb _ _ _ (hBlkY.cell 3), Below.keeps hb _ _ _ (hBlkY.cell 4)⟩
  have HV : Hid (∀ w', Below W.heap.size W w' → RdF w' (.slice la ln lc) l ∧ RdX w' (.agg #[.slice aa an ac, .slice ra rn rc, .int .u32 x.jo, .int .u32 x.nx, .int .u64 x.sq]) x ∧ RdX w' (.agg #[.slice ba bn bc, .slice sa sn sc, .int .u32 y.jo, .int .u32 y.nx, .int .u64 y.sq]) y) := Lib.hid fun w' hb => ⟨(hv.below HBW.out).below hb, ⟨_, _, rfl, (hva.below HBW.out).below hb, (hvr.below HBW.out).below hb⟩, ⟨_, _, rfl, (hvb.below HBW.out).below hb, (hvs.below HBW.out).below hb⟩⟩
  have HG : Hid (∀ w', Below W.heap.size W w' → Calls Try.prog 11 #[.slice la ln lc, (.agg #[.slice aa an ac, .slice ra rn rc, .int .u32 x.jo, .int .u32 x.nx, .int .u64 x.sq])] w' fun e w'' => ∃ b, e = .returned (.bool b) ∧ Hid (b = false → l.length + x.add.length + x.rem.length ≤ 300 ∧ filesLen l + filesLen x.add ≤ 20000) ∧ Below w'.heap.size w' w'') := Lib.hid fun w' hb => great_any w' _ _ l x (HV.out w' hb).1 (HV.out w' hb).2.1 hl hxo
  have HGY : Hid (∀ w', Below W.heap.size W w' → Calls Try.prog 11 #[.slice none 0 0, (.agg #[.slice ba bn bc, .slice sa sn sc, .int .u32 y.jo, .int .u32 y.nx, .int .u64 y.sq])] w' fun e w'' => ∃ b, e = .returned (.bool b) ∧ Hid (b = false → ([] : List PF).length + y.add.length + y.rem.length ≤ 300 ∧ filesLen [] + filesLen y.add ≤ 20000) ∧ Below w'.heap.size w' w'') := Lib.hid fun w' hb => great_any w' _ _ [] y (RdF.nil _) (HV.out w' hb).2.2 ⟨by simp, fun f hf => by cases hf⟩ hyo
  have HYO := Lib.hid hyo
  clear hvb hvs hBlkY hyo
  have HVA : Hid (∀ w', Below W.heap.size W w' → RdF w' (.slice aa an ac) x.add ∧ RdU w' (.slice ra rn rc) x.rem) := Lib.hid fun w' hb => ⟨(hva.below HBW.out).below hb, (hvr.below HBW.out).below hb⟩
  have HLO := Lib.hid hl.2
  have HXO := Lib.hid hxo
  have HEND : Hid (∀ w', Below W.heap.size W w' → Below w.heap.size w w') := Lib.hid fun w' hb => HBW.out.trans (hb.mono HBW.out.size)
  clear hv hva hvr hBlk hl hxo
  go_enter Try.func9, Try.ntmps9
  go_wp2_with fail
  rw [← hW]
  clear hW
  refine (alive11_any W).mono ?_
  intro e w2 hal
  obtain ⟨rfl, b2⟩ := hal
  obtain ⟨c0, c1, c2, c3, c4⟩ := HC.out w2 b2
  have HB2 := Lib.hid b2
  clear b2
  go_wp2_with fail
  refine (HG.out w2 HB2.out).mono ?_
  rintro e w3 ⟨B, rfl, hgb, b3⟩
  have HB3 := Lib.hid (HB2.out.trans (b3.mono HB2.out.size))
  clear b3 c0 c1 c2 c3 c4
  cases B with
  | true =>
    go_wp2_with fail
    refine (alive11_any w3).mono ?_
    intro e w4 hal
    obtain ⟨rfl, b4⟩ := hal
    have HB4 := Lib.hid (HB3.out.trans (b4.mono HB3.out.size))
    clear b4
    go_wp2
    go_ret
    exact ⟨rfl, HEND.out _ HB4.out⟩
  | false =>
    have HGB := Lib.hid (hgb.out rfl)
    clear hgb
    obtain ⟨c0, c1, c2, c3, c4⟩ := HCY.out w3 HB3.out
    go_wp2_with fail
    refine (HGY.out w3 HB3.out).mono ?_
    rintro e w4 ⟨B, rfl, hgy, b4⟩
    have HB4 := Lib.hid (HB3.out.trans (b4.mono HB3.out.size))
    clear b4 c0 c1 c2 c3 c4
    cases B with
    | true =>
      go_wp2_with fail
      refine (alive11_any w4).mono ?_
      intro e w5 hal
      obtain ⟨rfl, b5⟩ := hal
      have HB5 := Lib.hid (HB4.out.trans (b5.mono HB4.out.size))
      clear b5
      go_wp2
      go_ret
      exact ⟨rfl, HEND.out _ HB5.out⟩
    | false =>
      obtain ⟨hs1, hs2⟩ := HGB.out
      obtain ⟨hy1, hy2⟩ := hgy.out rfl
      have hln : l.length ≤ 300 := by omega
      have han : x.add.length ≤ 300 := by omega
      have hrn : x.rem.length ≤ 300 := by omega
      have hbn : y.add.length ≤ 300 := by simp only [List.length_nil] at hy1; omega
      have hsn : y.rem.length ≤ 300 := by simp only [List.length_nil] at hy1; omega
      obtain ⟨M, hM⟩ : ∃ b, b = meetB x y := ⟨_, rfl⟩
      have HM := Lib.hid hM
      have HME := Lib.hid (meet_any w4 (.agg #[.slice aa an ac, .slice ra rn rc, .int .u32 x.jo, .int .u32 x.nx, .int .u64 x.sq]) (.agg #[.slice ba bn bc, .slice sa sn sc, .int .u32 y.jo, .int .u32 y.nx, .int .u64 y.sq]) x y (HV.out w4 HB4.out).2.1 (HV.out w4 HB4.out).2.2 (by omega) (by omega) (by omega) (by omega))
      rw [← hM] at HME
      clear hM hs1 hs2 hy1 hy2
      obtain ⟨c0, c1, c2, c3, c4⟩ := HC.out w4 HB4.out
      obtain ⟨d0, d1, d2, d3, d4⟩ := HCY.out w4 HB4.out
      go_wp2_with fail
      refine HME.out.mono ?_
      rintro e w5 ⟨rfl, b5⟩
      have HB5 := Lib.hid (HB4.out.trans (b5.mono HB4.out.size))
      clear b5 c0 c1 c2 c3 c4 d0 d1 d2 d3 d4 HME
      cases M with
      | true =>
        go_wp2_with fail
        refine (alive11_any w5).mono ?_
        intro e w6 hal
        obtain ⟨rfl, b6⟩ := hal
        have HB6 := Lib.hid (HB5.out.trans (b6.mono HB5.out.size))
        clear b6
        go_wp2
        go_ret
        exact ⟨rfl, HEND.out _ HB6.out⟩
      | false =>
        obtain ⟨c0, c1, c2, c3, c4⟩ := HC.out w5 HB5.out
        have HDO6 := Lib.hid (do_n w5 (.slice la ln lc) (.agg #[.slice aa an ac, .slice ra rn rc, .int .u32 x.jo, .int .u32 x.nx, .int .u64 x.sq]) l x (HV.out w5 HB5.out).1 (HV.out w5 HB5.out).2.1 (by omega) (by omega) (by omega) HLO.out (px_small HXO.out))
        go_wp2_with fail
        refine HDO6.out.mono ?_
        rintro e w6 ⟨r1, q1, n1, a1, k1, rfl, HN6, HQ6, HD6, HR6, hc6, hm6, HK6, HL6, b6⟩
        have HB6 := Lib.hid (HB5.out.trans (b6.mono HB5.out.size))
        clear b6 HDO6 c0 c1 c2 c3 c4
        obtain ⟨c0, c1, c2, c3, c4⟩ := HCY.out w6 HB6.out
        have HDO7 := Lib.hid (do_n w6 (.slice la ln lc) (.agg #[.slice ba bn bc, .slice sa sn sc, .int .u32 y.jo, .int .u32 y.nx, .int .u64 y.sq]) l y (HV.out w6 HB6.out).1 (HV.out w6 HB6.out).2.2 (by omega) (by omega) (by omega) HLO.out (px_small HYO.out))
        go_wp2_with fail
        refine HDO7.out.mono ?_
        rintro e w7 ⟨r2, q2, n2, a2, k2, rfl, HN7, HQ7, HD7, HR7, hc7, hm7, HK7, HL7, b7⟩
        have HB7 := Lib.hid (HB6.out.trans (b7.mono HB6.out.size))
        have HR6' := Lib.hid (HR6.out.below b7)
        clear b7 HDO7 c0 c1 c2 c3 c4
        rcases HQ6 with rfl | rfl
        case inr =>
          go_wp2
          go_ret
          exact ⟨rfl, HEND.out _ HB7.out⟩
        rcases HQ7 with rfl | rfl
        case inr =>
          go_wp2
          go_ret
          exact ⟨rfl, HEND.out _ HB7.out⟩
        have HLr1 : Hid (r1.length ≤ 600) := Lib.hid (by have h1 := HN6.out; have h2 := HL6.out; omega)
        have HLr2 : Hid (r2.length ≤ 600) := Lib.hid (by have h1 := HN7.out; have h2 := HL7.out; omega)
        obtain ⟨c0, c1, c2, c3, c4⟩ := HCY.out w7 HB7.out
        have HDO8 := Lib.hid (do_n w7 (.slice a1 n1 k1) (.agg #[.slice ba bn bc, .slice sa sn sc, .int .u32 y.jo, .int .u32 y.nx, .int .u64 y.sq]) r1 y HR6'.out (HV.out w7 HB7.out).2.2 (by have := HLr1.out; omega) (by omega) (by omega) HK6.out (px_small HYO.out))
        go_wp2_with fail
        refine HDO8.out.mono ?_
        rintro e w8 ⟨r3, q3, n3, a3, k3, rfl, HN8, HQ8, HD8, HR8, hc8, hm8, HK8, HL8, b8⟩
        have HB8 := Lib.hid (HB7.out.trans (b8.mono HB7.out.size))
        have HR7' := Lib.hid (HR7.out.below b8)
        clear b8 HDO8 c0 c1 c2 c3 c4
        obtain ⟨c0, c1, c2, c3, c4⟩ := HC.out w8 HB8.out
        have HDO9 := Lib.hid (do_n w8 (.slice a2 n2 k2) (.agg #[.slice aa an ac, .slice ra rn rc, .int .u32 x.jo, .int .u32 x.nx, .int .u64 x.sq]) r2 x HR7'.out (HV.out w8 HB8.out).2.1 (by have := HLr2.out; omega) (by omega) (by omega) HK7.out (px_small HXO.out))
        go_wp2_with fail
        refine HDO9.out.mono ?_
        rintro e w9 ⟨r4, q4, n4, a4, k4, rfl, HN9, HQ9, HD9, HR9, hc9, hm9, HK9, HL9, b9⟩
        have HB9 := Lib.hid (HB8.out.trans (b9.mono HB8.out.size))
        have HR8' := Lib.hid (HR8.out.below b9)
        clear b9 HDO9 c0 c1 c2 c3 c4
        obtain ⟨rfl, rfl, hrr⟩ := both_same HD6.out rfl HD7.out rfl HM.out.symm HD8.out HD9.out
        have HR9' := HR9
        rw [← hrr] at HR9'
        clear hrr
        have HS := Lib.hid (sameF_any w9 _ _ r3 HR8'.out HR9'.out)
        go_wp2_with fail
        refine HS.out.mono ?_
        rintro e w10 ⟨rfl, b10⟩
        have HB10 := Lib.hid (HB9.out.trans (b10.mono HB9.out.size))
        clear b10
        go_wp2
        go_ret
        exact ⟨rfl, HEND.out _ HB10.out⟩
end Go.Proofs.Ytmonmfamnbfhcaa

/- The law BlocksBack answers true for any entries and any bytes. No condition. -/
import Derived.Test.YtafgioidneohhaaRises
namespace Go.Proofs.Ytafgioidneohhaa
open Go.RowKit

set_option maxRecDepth 100000 in
set_option maxHeartbeats 8000000 in
theorem blocksBack_walk (w : World) (v : Value) (l : List PE) (v2 : Value) (b : List UInt8) (hv : RdE w v l) (hl : l.length ≤ 2932031007402 ∧ ∀ x ∈ l, x.ok) (hvb : Rd w v2 b) (hbl : b.length ≤ 140737488351232) :
    Calls Try.prog 5 #[v, v2] w (RetTrue w) := by
  have hend : ∀ (w5 : World), Hid (Calls Try.prog 20 #[] w5 (RetTrue w5)) := fun w5 => alive08_any w5
  obtain ⟨hln, hlo⟩ := hl
  have HS := Lib.hid hlo
  have HV0 := Lib.hid hv
  obtain ⟨va, vc, rfl, h1, h2, h3⟩ := hv
  clear h3 hlo
  obtain ⟨vn, hvn⟩ : ∃ n, n = l.length := ⟨_, rfl⟩
  have HVN := Lib.hid hvn
  rw [← hvn] at h1 HV0 hln ⊢
  clear hvn
  have HVB := Lib.hid hvb
  obtain ⟨ba, bn, bc, rfl, hbn⟩ := rd_len hvb
  have HBN := Lib.hid hbn
  rw [← hbn] at hbl
  clear hbn hvb
  go_enter Try.func5, Try.ntmps5
  go_wp2_with fail
  refine (hend _).out.mono ?_
  rintro e w1 ⟨rfl, bel⟩
  have hv1 := HV0.out.below bel
  have hz := entriesSize_any w1 _ l hv1 (by rw [← HVN.out]; omega) HS.out
  rw [← HVN.out] at hz
  have HZ := Lib.hid hz
  clear hz
  go_wp2_with fail
  refine HZ.out.mono ?_
  rintro e w2 ⟨z, rfl, hz, bel2⟩
  replace bel := Below.trans bel (bel2.mono bel.size)
  have HB := Lib.hid bel
  clear HZ bel2 hv1 bel
  by_cases hb3 : 40000 < z
  · clear hz
    go_wp2_with fail
    refine (hend _).out.mono ?_
    rintro e w3 ⟨rfl, bel3⟩
    have bel := Below.trans HB.out (bel3.mono HB.out.size)
    clear bel3
    go_wp2
    go_ret
    exact ⟨rfl, bel⟩
  have hzz := hz (by omega)
  have hvs : vn ≤ 40000 := by omega
  clear hz hzz
  by_cases hb4 : 40000 < bn
  · go_wp2_with fail
    refine (hend _).out.mono ?_
    rintro e w3 ⟨rfl, bel3⟩
    have bel := Below.trans HB.out (bel3.mono HB.out.size)
    clear bel3
    go_wp2
    go_ret
    exact ⟨rfl, bel⟩
  have hz1 : decide (40000 < (z : Int)) = false := by simp; omega
  have hz2 : decide (40000 < z) = false := by simp; omega
  have hz3 : decide (40000 < (bn : Int)) = false := by simp; omega
  have hz4 : decide (40000 < bn) = false := by simp; omega
  have hbs : bn ≤ 40000 := by omega
  clear hb3 hb4
  go_upto_region 3 with (fail)
  clear hz1 hz2 hz3 hz4
  have hsq := seqs_of HS.out
  have HSQ := Lib.hid hsq.2
  cases hm : mayL (entsOf l)
  · have HP := Lib.hid (put_no w2 _ l (HV0.out.below HB.out) hsq.1 hm)
    have HMM := Lib.hid hm
    clear hsq hm
    go_wp2_with fail
    refine HP.out.mono ?_
    rintro e w3 ⟨rfl, bel3⟩
    have HB3 := Lib.hid (Below.trans HB.out (bel3.mono HB.out.size))
    clear HP bel3 HB
    by_cases h0 : vn = 0
    · have g1 : decide ((vn : Int) ≥ 1) = false := by simp; omega
      have g2 : decide (1 ≤ (vn : Int)) = false := by simp; omega
      have g3 : decide (1 ≤ vn) = false := by simp; omega
      have HG := Lib.hid (blocksGet_any w3 _ b (HVB.out.below HB3.out) (by have := HBN.out; omega))
      go_upto_region 10 with (fail)
      clear g1 g2 g3
      go_wp2_with fail
      refine HG.out.mono ?_
      rintro e wa ⟨bela, ⟨E, hm, hs, hbE, ga, gn, gc, rfl, HGN, HGO⟩ | ⟨_, rfl⟩⟩
      · have HBa := Lib.hid (HB3.out.trans (bela.mono HB3.out.size))
        have HRE := Lib.hid (rdE_of (reads_of_own HGO.out)).2
        have hseq : ∀ x ∈ E.map toPE, x.s < 18446744073709551616 := fun x hx => by
          obtain ⟨y, hy, rfl⟩ := List.mem_map.1 hx
          exact hs y hy
        have hp := put_is wa _ (E.map toPE) HRE.out hseq (by rw [entsOf_toPE]; exact hm)
        rw [entsOf_toPE, hbE] at hp
        have HP := Lib.hid hp
        clear HG bela hm hs hbE HGN HGO HRE hseq hp
        go_wp2_with fail
        refine HP.out.mono ?_
        rintro e wb ⟨ra, rn, rc, rfl, HRN, HRO, belb⟩
        have HBb := Lib.hid (HBa.out.trans (belb.mono HBa.out.size))
        have HSB := Lib.hid (same_bt wb (.slice ra rn rc) _ b (rd_of_own HRO.out).2 (HVB.out.below HBb.out))
        clear HP HRN HRO belb HBa
        go_wp2_with fail
        refine HSB.out.mono ?_
        rintro e wc ⟨rfl, belc⟩
        have hbf := HBb.out.trans (belc.mono HBb.out.size)
        go_wp2
        go_ret
        exact ⟨rfl, hbf⟩
      · have hbf := HB3.out.trans (bela.mono HB3.out.size)
        go_wp2
        go_ret
        exact ⟨rfl, hbf⟩
    have g1 : decide ((vn : Int) ≥ 1) = true := by simp; omega
    have g2 : decide (1 ≤ (vn : Int)) = true := by simp; omega
    have g3 : decide (1 ≤ vn) = true := by simp; omega
    by_cases h64 : 64 < vn
    · have g4 : decide ((vn : Int) ≤ 64) = false := by simp; omega
      have g5 : decide (vn ≤ 64) = false := by simp; omega
      have HG := Lib.hid (blocksGet_any w3 _ b (HVB.out.below HB3.out) (by have := HBN.out; omega))
      go_upto_region 10 with (fail)
      clear g1 g2 g3 g4 g5
      go_wp2_with fail
      refine HG.out.mono ?_
      rintro e wa ⟨bela, ⟨E, hm, hs, hbE, ga, gn, gc, rfl, HGN, HGO⟩ | ⟨_, rfl⟩⟩
      · have HBa := Lib.hid (HB3.out.trans (bela.mono HB3.out.size))
        have HRE := Lib.hid (rdE_of (reads_of_own HGO.out)).2
        have hseq : ∀ x ∈ E.map toPE, x.s < 18446744073709551616 := fun x hx => by
          obtain ⟨y, hy, rfl⟩ := List.mem_map.1 hx
          exact hs y hy
        have hp := put_is wa _ (E.map toPE) HRE.out hseq (by rw [entsOf_toPE]; exact hm)
        rw [entsOf_toPE, hbE] at hp
        have HP := Lib.hid hp
        clear HG bela hm hs hbE HGN HGO HRE hseq hp
        go_wp2_with fail
        refine HP.out.mono ?_
        rintro e wb ⟨ra, rn, rc, rfl, HRN, HRO, belb⟩
        have HBb := Lib.hid (HBa.out.trans (belb.mono HBa.out.size))
        have HSB := Lib.hid (same_bt wb (.slice ra rn rc) _ b (rd_of_own HRO.out).2 (HVB.out.below HBb.out))
        clear HP HRN HRO belb HBa
        go_wp2_with fail
        refine HSB.out.mono ?_
        rintro e wc ⟨rfl, belc⟩
        have hbf := HBb.out.trans (belc.mono HBb.out.size)
        go_wp2
        go_ret
        exact ⟨rfl, hbf⟩
      · have hbf := HB3.out.trans (bela.mono HB3.out.size)
        go_wp2
        go_ret
        exact ⟨rfl, hbf⟩
    have g4 : decide ((vn : Int) ≤ 64) = true := by simp; omega
    have g5 : decide (vn ≤ 64) = true := by simp; omega
    have hr := rises_any w3 _ l (HV0.out.below HB3.out) (by rw [← HVN.out]; omega)
    have hrf : risesN (entsOf l) l.length = false := by
      have := HMM.out
      unfold mayL at this
      rw [mayN_eq, entsOf_length, ← HVN.out, show (decide (0 < vn ∧ vn ≤ 64)) = true from by simp; omega, Bool.true_and, HVN.out] at this
      exact this
    rw [hrf] at hr
    have HR := Lib.hid hr
    clear hr hrf
    go_wp2_with fail
    refine HR.out.mono ?_
    rintro e w4 ⟨rfl, bel4⟩
    have HB4 := Lib.hid (Below.trans HB3.out (bel4.mono HB3.out.size))
    clear HR bel4 HB3
    have HG := Lib.hid (blocksGet_any w4 _ b (HVB.out.below HB4.out) (by have := HBN.out; omega))
    go_upto_region 10 with (fail)
    clear g1 g2 g3 g4 g5
    go_wp2_with fail
    refine HG.out.mono ?_
    rintro e wa ⟨bela, ⟨E, hm, hs, hbE, ga, gn, gc, rfl, HGN, HGO⟩ | ⟨_, rfl⟩⟩
    · have HBa := Lib.hid (HB4.out.trans (bela.mono HB4.out.size))
      have HRE := Lib.hid (rdE_of (reads_of_own HGO.out)).2
      have hseq : ∀ x ∈ E.map toPE, x.s < 18446744073709551616 := fun x hx => by
        obtain ⟨y, hy, rfl⟩ := List.mem_map.1 hx
        exact hs y hy
      have hp := put_is wa _ (E.map toPE) HRE.out hseq (by rw [entsOf_toPE]; exact hm)
      rw [entsOf_toPE, hbE] at hp
      have HP := Lib.hid hp
      clear HG bela hm hs hbE HGN HGO HRE hseq hp
      go_wp2_with fail
      refine HP.out.mono ?_
      rintro e wb ⟨ra, rn, rc, rfl, HRN, HRO, belb⟩
      have HBb := Lib.hid (HBa.out.trans (belb.mono HBa.out.size))
      have HSB := Lib.hid (same_bt wb (.slice ra rn rc) _ b (rd_of_own HRO.out).2 (HVB.out.below HBb.out))
      clear HP HRN HRO belb HBa
      go_wp2_with fail
      refine HSB.out.mono ?_
      rintro e wc ⟨rfl, belc⟩
      have hbf := HBb.out.trans (belc.mono HBb.out.size)
      go_wp2
      go_ret
      exact ⟨rfl, hbf⟩
    · have hbf := HB4.out.trans (bela.mono HB4.out.size)
      go_wp2
      go_ret
      exact ⟨rfl, hbf⟩
  · have HP := Lib.hid (put_is w2 _ l (HV0.out.below HB.out) hsq.1 hm)
    have HMM := Lib.hid hm
    obtain ⟨h0, h64⟩ := ((mayL_iff _).1 hm).1
    rw [entsOf_length, ← HVN.out] at h0 h64
    clear hsq hm
    go_wp2_with fail
    refine HP.out.mono ?_
    rintro e w3 ⟨pa, pn, pc, rfl, HN, HO, bel3⟩
    have HB3 := Lib.hid (Below.trans HB.out (bel3.mono HB.out.size))
    have HPR := Lib.hid (rd_of_own HO.out).2
    clear HP bel3 HB HN HO
    have g1 : decide ((vn : Int) ≥ 1) = true := by simp; omega
    have g2 : decide (1 ≤ (vn : Int)) = true := by simp; omega
    have g3 : decide (1 ≤ vn) = true := by simp; omega
    have g4 : decide ((vn : Int) ≤ 64) = true := by simp; omega
    have g5 : decide (vn ≤ 64) = true := by simp; omega
    have hr := rises_any w3 _ l (HV0.out.below HB3.out) (by rw [← HVN.out]; omega)
    have hrf : risesN (entsOf l) l.length = true := by
      have := HMM.out
      unfold mayL at this
      rw [mayN_eq, entsOf_length, ← HVN.out, show (decide (0 < vn ∧ vn ≤ 64)) = true from by simp; omega, Bool.true_and, HVN.out] at this
      exact this
    rw [hrf] at hr
    have HR := Lib.hid hr
    clear hr hrf
    go_wp2_with fail
    refine HR.out.mono ?_
    rintro e w4 ⟨rfl, bel4⟩
    have HB4 := Lib.hid (Below.trans HB3.out (bel4.mono HB3.out.size))
    have HG2 := Lib.hid (get_is w4 _ _ _ (HPR.out.below bel4) (Nat.le_trans (blk_small HMM.out) (by decide)) HMM.out HSQ.out rfl)
    clear HR bel4 HB3 HPR
    go_upto_region 7 with (fail)
    clear g1 g2 g3 g4 g5
    go_wp2_with fail
    refine HG2.out.mono ?_
    rintro e w5 ⟨ma, mn, mc, rfl, HMN, HMO, bel5⟩
    have HB5 := Lib.hid (Below.trans HB4.out (bel5.mono HB4.out.size))
    have hmr := (rdE_of (reads_of_own HMO.out)).2
    rw [toPE_entsOf] at hmr
    have HSE := Lib.hid (sameE_any w5 _ _ _ hmr (HV0.out.below HB5.out))
    clear HG2 HMN HMO bel5 HB4 hmr
    go_wp2_with fail
    refine HSE.out.mono ?_
    rintro e w6 ⟨rfl, bel6⟩
    have HB6 := Lib.hid (Below.trans HB5.out (bel6.mono HB5.out.size))
    clear HSE bel6 HB5
    have HG := Lib.hid (blocksGet_any w6 _ b (HVB.out.below HB6.out) (by have := HBN.out; omega))
    go_upto_region 10 with (fail)
    go_wp2_with fail
    refine HG.out.mono ?_
    rintro e wa ⟨bela, ⟨E, hm, hs, hbE, ga, gn, gc, rfl, HGN, HGO⟩ | ⟨_, rfl⟩⟩
    · have HBa := Lib.hid (HB6.out.trans (bela.mono HB6.out.size))
      have HRE := Lib.hid (rdE_of (reads_of_own HGO.out)).2
      have hseq : ∀ x ∈ E.map toPE, x.s < 18446744073709551616 := fun x hx => by
        obtain ⟨y, hy, rfl⟩ := List.mem_map.1 hx
        exact hs y hy
      have hp := put_is wa _ (E.map toPE) HRE.out hseq (by rw [entsOf_toPE]; exact hm)
      rw [entsOf_toPE, hbE] at hp
      have HP := Lib.hid hp
      clear HG bela hm hs hbE HGN HGO HRE hseq hp
      go_wp2_with fail
      refine HP.out.mono ?_
      rintro e wb ⟨ra, rn, rc, rfl, HRN, HRO, belb⟩
      have HBb := Lib.hid (HBa.out.trans (belb.mono HBa.out.size))
      have HSB := Lib.hid (same_bt wb (.slice ra rn rc) _ b (rd_of_own HRO.out).2 (HVB.out.below HBb.out))
      clear HP HRN HRO belb HBa
      go_wp2_with fail
      refine HSB.out.mono ?_
      rintro e wc ⟨rfl, belc⟩
      have hbf := HBb.out.trans (belc.mono HBb.out.size)
      go_wp2
      go_ret
      exact ⟨rfl, hbf⟩
    · have hbf := HB6.out.trans (bela.mono HB6.out.size)
      go_wp2
      go_ret
      exact ⟨rfl, hbf⟩
end Go.Proofs.Ytafgioidneohhaa

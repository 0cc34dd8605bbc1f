/- The law SortedAgain answers true for any bytes. No condition. -/
import Derived.Test.YtbcnapkbdbefhaaSGreat
namespace Go.Proofs.Ytbcnapkbdbefhaa
open Go.RowKit

set_option maxRecDepth 100000 in
set_option maxHeartbeats 4000000 in
theorem sortedAgain_walk (w : World) (v : Value) (b : List UInt8) (hv : Rd w v b) (_ : b.length ≤ 140737488351232) :
    Calls Try.prog 4 #[v] w (RetTrue w) := by
  have hend : ∀ (w5 : World), Hid (Calls Try.prog 10 #[] w5 (RetTrue w5)) := fun w5 => alive10_any w5
  have HV := Lib.hid hv
  obtain ⟨va, vn, vc, rfl, hvn⟩ := rd_len hv
  have HVN := Lib.hid hvn
  clear hv hvn
  go_enter Try.func4, Try.ntmps4
  by_cases hb3 : 20000 < vn
  · go_wp2_with (go_at_call 10; refine (hend _).out.mono ?_; rintro e w1 ⟨rfl, bel1⟩)
    rename_i w2 bel2 _
    have hb := bel2.trans (bel1.mono bel2.size)
    go_ret
    exact ⟨rfl, hb⟩
  obtain ⟨X, er, hX⟩ := allIs_ex b
  have HX := Lib.hid hX
  have her := hX.small.2.2
  clear hX
  go_upto_region 3 with (go_at_call 10; refine (hend _).out.mono ?_; rintro e w1 ⟨rfl, bel1⟩)
  have HA := Lib.hid (sortedAll_any w1 _ b X er (HV.out.below bel1) (by have := HVN.out; omega) HX.out)
  go_upto_region 4 with (go_at_call 14; refine HA.out.mono ?_; rintro e w2 ⟨xa, xn, xc, rfl, HN, HO, bel2⟩)
  have HB2 := Lib.hid (bel1.trans (bel2.mono bel1.size))
  clear HA bel1 bel2
  rcases her with rfl | rfl
  · have hx := (HX.out.resolve_right (fun h => absurd h.1 (by decide))).2
    have hz := isS_zero hx
    have hp := sortedPut_any w2 _ (X.map toPE) (rdE_of (reads_of_own HO.out)).2 (seqs_toPE hx.2.1) (by rw [List.length_map]; have := hx.2.2.1; omega)
    rw [entsOf_toPE] at hp
    have HP := Lib.hid hp
    have HZ := Lib.hid hz
    clear hp hz hx HN HO
    go_upto_region 8 with (go_at_call 12; refine HP.out.mono ?_; rintro e w3 ⟨pa, pn, pc, rfl, HPN, HPO, bel3⟩)
    have HB3 := Lib.hid (HB2.out.trans (bel3.mono HB2.out.size))
    have hr3 := (rd_of_own HPO.out).2
    rw [HZ.out.2] at hr3
    have hz1 := HZ.out.1
    have HSB := Lib.hid (same_bt w3 _ _ b hr3 (HV.out.below HB3.out))
    clear HP HPN HPO bel3 hr3
    go_wp2_with (go_at_call 18; refine HSB.out.mono ?_; rintro e w4 ⟨rfl, bel4⟩)
    have hb := HB3.out.trans (bel4.mono HB3.out.size)
    go_ret
    exact ⟨rfl, hb⟩
  · have hno := HX.out.resolve_left (fun h => absurd h.1 (by decide))
    obtain ⟨_, rfl, hno2⟩ := hno
    have hn0 : xn = 0 := HN.out
    subst hn0
    have HF := Lib.hid (sfrom_n w2 (.slice va vn vc) b [] 4 ⟨#[]⟩ 0 false 10 0 (HV.out.below HB2.out) (by have := HVN.out; omega) HX.out (by decide) (by decide) (by simp))
    clear hno2 HN HO
    go_wp2_with (go_at_call 17; refine HF.out.mono ?_; rintro e w3 ⟨⟨fa, fc, rfl⟩, bel3⟩)
    have hb := HB2.out.trans (bel3.mono HB2.out.size)
    go_ret
    exact ⟨rfl, hb⟩
end Go.Proofs.Ytbcnapkbdbefhaa

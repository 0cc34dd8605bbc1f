/- The law BlocksSeek answers true for any entries and any mark. No condition. -/
import Derived.Test.YtafgioidneohhaaBlkL
import Derived.Deep.RegionHeld3
namespace Go.Proofs.Ytafgioidneohhaa
open Go.RowKit

set_option maxRecDepth 100000 in
set_option maxHeartbeats 4000000 in
theorem blocksSeek_walk (w : World) (v : Value) (l : List PE) (mk : ByteArray) (ms : Nat) (mg : Bool) (hv : RdE w v l) (hl : l.length ≤ 2932031007402 ∧ ∀ x ∈ l, x.ok) (_ : mk.size ≤ 140737488351232) (_ : ms < 18446744073709551616) :
    Calls Try.prog 6 #[v, .agg #[.string mk, .int .u64 ms, .bool mg]] w (RetTrue w) := by
  have hend : ∀ (w5 : World), Hid (Calls Try.prog 20 #[] w5 (RetTrue w5)) := fun w5 => alive08_any w5
  obtain ⟨hln, hlo⟩ := hl
  have HS := Lib.hid hlo
  have HV0 := Lib.hid hv
  obtain ⟨va, vc, rfl, h1, h2, h3⟩ := hv
  clear h3 hlo
  obtain ⟨vn, hvn⟩ : ∃ n, n = l.length := ⟨_, rfl⟩
  have HVN := Lib.hid hvn
  rw [← hvn] at h1 HV0 hln ⊢
  clear hvn
  obtain ⟨W, hW⟩ : ∃ W, W = w.alloc (.cells #[.string mk, .int .u64 ms, .bool mg] 28) := ⟨_, rfl⟩
  have hM : Blk W w.heap.size #[.string mk, .int .u64 ms, .bool mg] 28 := by rw [hW]; exact Blk.new _ _ _
  have hbW : Below w.heap.size w W := by rw [hW]; exact (Below.refl _ _).alloc (Nat.le_refl _) _
  have HW := Lib.hid hW
  have HM := Lib.hid hM
  have HBW := Lib.hid hbW
  clear hW hM hbW
  obtain ⟨g, hg⟩ : ∃ g, g = w.heap.size := ⟨_, rfl⟩
  rw [← hg] at HM
  have HGW := Lib.hid hg
  go_enter Try.func6, Try.ntmps6
  go_upto_region 1 with (fail)
  rw [← HW.out]
  rw [← hg]
  clear hg HW
  go_wp2_with fail
  refine (hend _).out.mono ?_
  rintro e w1 ⟨rfl, bel1⟩
  have bel := HBW.out.trans (bel1.mono HBW.out.size)
  have hM := HM.out.below bel1
  have hv1 := HV0.out.below bel
  have hz := entriesSize_any w1 _ l hv1 (by rw [← HVN.out]; omega) HS.out
  rw [← HVN.out] at hz
  have HZ := Lib.hid hz
  clear hz HM HBW
  go_wp2_with fail
  refine HZ.out.mono ?_
  rintro e w2 ⟨z, rfl, hz, bel2⟩
  replace bel := Below.trans bel (bel2.mono bel.size)
  have HB := Lib.hid bel
  have HM := Lib.hid (hM.below bel2)
  clear HZ bel2 hM hv1 bel1 bel
  have m0 := HM.out.cellv 0 (.string mk) rfl
  by_cases hb3 : 40000 < z
  · clear hz
    go_wp2_with fail
    refine (hend _).out.mono ?_
    rintro e w3 ⟨rfl, bel3⟩
    have bel := Below.trans HB.out (bel3.mono HB.out.size)
    clear bel3
    go_wp2
    go_ret
    exact ⟨rfl, bel⟩
  have hzz := hz (by omega)
  have HT : Hid (vn + entsLen l ≤ 40000) := by show _ ≤ _; omega
  have hvs : vn ≤ 40000 := by omega
  clear hz hzz
  by_cases hmk : 1000 < mk.size
  · go_wp2_with fail
    refine (hend _).out.mono ?_
    rintro e w3 ⟨rfl, bel3⟩
    have bel := Below.trans HB.out (bel3.mono HB.out.size)
    clear bel3
    go_wp2
    go_ret
    exact ⟨rfl, bel⟩
  go_upto_region 3 with (fail)
  clear hb3 hmk m0
  rename_i y1 y2 _ _
  clear y1 y2
  have hsq := seqs_of HS.out
  have HSQ := Lib.hid hsq.2
  cases hm : mayL (entsOf l)
  · have HP := Lib.hid (put_no w2 _ l (HV0.out.below HB.out) hsq.1 hm)
    clear hsq hm
    go_wp2_with fail
    refine HP.out.mono ?_
    rintro e w3 ⟨rfl, bel3⟩
    have bel := Below.trans HB.out (bel3.mono HB.out.size)
    go_wp2
    go_ret
    exact ⟨rfl, bel⟩
  have HP := Lib.hid (put_is w2 _ l (HV0.out.below HB.out) hsq.1 hm)
  have HMM := Lib.hid hm
  have hn64 : vn ≤ 64 := by have := ((mayL_iff _).1 hm).1.2; rw [entsOf_length, ← HVN.out] at this; exact this
  clear hsq hm hvs HT
  go_wp2_with fail
  refine HP.out.mono ?_
  rintro e w3 ⟨pa, pn, pc, rfl, HN, HO, bel3⟩
  have HB3 := Lib.hid (Below.trans HB.out (bel3.mono HB.out.size))
  have HM3 := Lib.hid (HM.out.below bel3)
  obtain ⟨q, hq⟩ : ∃ q, q = seekAt mk.data.toList ms mg (entsOf l) := ⟨_, rfl⟩
  have HQ := Lib.hid hq
  have hqn : q ≤ vn := by rw [hq, HVN.out, ← entsOf_length]; exact seekAt_le _ _ _ _
  have HK := Lib.hid (seek_is w3 _ (blkPut (entsOf l)) (entsOf l) mk ms mg q (rd_of_own HO.out).2 (Nat.le_trans (blk_small HMM.out) (by decide)) HMM.out HSQ.out rfl hq.symm)
  clear HP HN HO bel3 HB HM hq
  go_upto_region 6 with (fail)
  have m0 := HM3.out.cellv 0 (.string mk) rfl
  have m1 := HM3.out.cellv 1 (.int .u64 ms) rfl
  have m2 := HM3.out.cellv 2 (.bool mg) rfl
  go_wp2_with fail
  refine HK.out.mono ?_
  rintro e w4 ⟨sa, sn, sc, rfl, HN, HO, bel4⟩
  have HB4 := Lib.hid (Below.trans HB3.out (bel4.mono HB3.out.size))
  have HM4 := Lib.hid (HM3.out.below bel4)
  have hsn : sn + q = vn := by have := HN.out; rw [entsOf_length, ← HVN.out] at this; omega
  have HO4 := Lib.hid (rdE_of (reads_of_own HO.out)).2
  clear HK HN HO bel4 HB3 HM3 m0 m1 m2
  go_upto_region 7 with (fail)
  obtain ⟨ca, cc, hcut, hcr⟩ := cutE_rest (HV0.out.below HB4.out) q sn (by rw [← HVN.out]; exact hsn)
  have HCR := Lib.hid hcr
  have HSM := Lib.hid (sameE_any w4 (.slice sa sn sc) (.slice ca sn cc) (l.drop q) (by
    have h := HO4.out
    rw [List.map_drop, toPE_entsOf] at h
    exact h) hcr)
  have hd1 : decide ((vn : Int) < (sn : Int)) = false := by simp; omega
  have hd2 : decide (vn < sn) = false := by simp; omega
  have hsub : (vn : Int) - (sn : Int) = (q : Int) := by omega
  have hwq : IntKind.i64.wrap (q : Int) = (q : Int) := IntWalk.i64_in _ (by omega)
  clear hcr
  go_wp2_with fail
  refine HSM.out.mono ?_
  rintro e w5 ⟨rfl, bel5⟩
  have HB5 := Lib.hid (Below.trans HB4.out (bel5.mono HB4.out.size))
  have HM5 := Lib.hid (HM4.out.below bel5)
  clear HSM HCR bel5 HB4 HM4 HO4 hcut hd1 hd2
  go_wp2_with fail
  show Code.wp _ _ _ _ _
  go_loopw [9] (fun i wr => ∃ k : Nat, k ≤ vn ∧ i = .int .i64 k ∧ Below w5.heap.size w5 wr) (fun i _ => vn - (intOf i).toNat)
  case atStart => exact ⟨0, Nat.zero_le _, rfl, Below.refl _ _⟩
  case round =>
    obtain ⟨k, hk, rfl, belr⟩ := hrel
    have HBR := Lib.hid (Below.trans HB5.out (belr.mono HB5.out.size))
    have HR := Lib.hid belr
    obtain ⟨wr, hwr⟩ := the_world belr
    subst hwr
    by_cases hlt : k < vn
    · have hkl : k < l.length := by rw [← HVN.out]; exact hlt
      have hae := entsOf_at l k hkl
      have hall := seek_all HMM.out mk.data.toList ms mg k (by rw [entsOf_length]; exact hkl)
      rw [hae, ← HQ.out] at hall
      obtain ⟨a', c', hve, _, _, hcell⟩ := HV0.out.below HBR.out
      obtain ⟨b3, off3, hae2, c0, c1, c2, _⟩ := hcell k hkl
      simp only [Value.slice.injEq] at hve
      obtain ⟨e1, el, ec⟩ := hve
      rw [hae2] at e1
      subst e1
      clear el ec hcell hae2
      obtain ⟨x, hx⟩ : ∃ x, x = l[k] := ⟨_, rfl⟩
      rw [← hx] at c0 c1 c2 hall
      obtain ⟨n, hn⟩ : ∃ n, n = cmpM x.k.data.toList x.s x.g mk.data.toList ms mg := ⟨_, rfl⟩
      have hall2 : n < 0 ↔ k < q := by rw [hn]; exact hall
      have HC : ∀ w', Hid (Calls Try.prog 19 #[.agg #[.string x.k, .int .u64 x.s, .bool x.g], .agg #[.string mk, .int .u64 ms, .bool mg]] w' fun e w'' => e = .returned (.int .i64 n) ∧ Below w'.heap.size w' w'') := fun w' => by
        rw [hn]; exact orderCmp_any _ _ _ _ _ _ w'
      clear hn hx hae hall belr
      obtain ⟨xk, xs, xg, xu⟩ := x
      simp only at c0 c1 c2 HC
      have m0 := (HM5.out.below HR.out).cellv 0 (.string mk) rfl
      have m1 := (HM5.out.below HR.out).cellv 1 (.int .u64 ms) rfl
      have m2 := (HM5.out.below HR.out).cellv 2 (.bool mg) rfl
      have hself : Below wr.heap.size wr wr := Below.refl _ _
      have hdr : Below wr.heap.size wr wr.drew := (Below.refl _ _).drew
      by_cases hkq : k < q
      case' pos =>
        have hda : decide (n < 0) = true := by simp; omega
        have hdb : decide ((k : Int) < (q : Int)) = true := by simp; omega
      case' neg =>
        have hda : decide (n < 0) = false := by simp; omega
        have hdb : decide ((k : Int) < (q : Int)) = false := by simp; omega
      all_goals
        go_wp2_with fail
        go_region_held3 (fun w' => w'.cell? ⟨b3, off3 + k * 4, none⟩ = some (.string xk) ∧ w'.cell? ⟨b3, off3 + k * 4 + 1, none⟩ = some (.int .u64 xs) ∧ w'.cell? ⟨b3, off3 + k * 4 + 2, none⟩ = some (.bool xg) ∧
            w'.cell? ⟨g, 0, none⟩ = some (.string mk) ∧ w'.cell? ⟨g, 1, none⟩ = some (.int .u64 ms) ∧ w'.cell? ⟨g, 2, none⟩ = some (.bool mg) ∧ Below wr.heap.size wr w')
          ((go_split_ands; (repeat' apply And.intro) <;> first | assumption | exact Below.keeps hb2 _ _ _ (by assumption) | exact Below.trans (by assumption) (hb2.mono (Below.size (by assumption))) | go_keep))
          ((go_at_call 19; refine (HC _).out.mono ?_; rintro e w' ⟨rfl, hb2⟩))
        rename_i hH
        have hbf := HR.out.trans (Below.mono hH.2.2.2.2.2.2 HR.out.size)
        clear hH
        go_wp2_with fail
        go_roundw
        case rel => exact ⟨k + 1, by omega, by go_num, hbf⟩
        case measure => simp [intOf]; omega
    · go_wp2_with fail
      go_ret
      exact ⟨rfl, HBR.out⟩
end Go.Proofs.Ytafgioidneohhaa

/- The law OrderSort answers true for any marks and any number. No condition. -/
import Derived.Test.YtafgioidneohhaaSort2
import Derived.Test.YtafgioidneohhaaAlive4
namespace Go.Proofs.Ytafgioidneohhaa
open Go.RowKit

set_option maxRecDepth 100000 in
set_option maxHeartbeats 8000000 in
theorem orderSort_walk (w : World) (v : Value) (l : List MkB) (a1 : Int) (hv : RdM w v l) (hl : l.length ≤ 4398046511104 ∧ ∀ x ∈ l, x.k.size ≤ 140737488351232 ∧ x.s < 18446744073709551616) (wa : (Lit.int .u8 a1).wf = true) :
    Calls Try.prog 4 #[v, .int .u8 a1] w (RetTrue w) := by
  obtain ⟨c, rfl, hc⟩ := nat_u8 wa
  clear wa
  have hend : ∀ (w5 : World), Hid (Calls Try.prog 11 #[] w5 (RetTrue w5)) := fun w5 => alive04_any w5
  obtain ⟨hln, hlo⟩ := hl
  have HS := Lib.hid hlo
  have HV0 := Lib.hid hv
  obtain ⟨va, vc, rfl, h1, h2, h3⟩ := hv
  clear h3 hlo
  obtain ⟨vn, hvn⟩ : ∃ n, n = l.length := ⟨_, rfl⟩
  have HVN := Lib.hid hvn
  rw [← hvn] at h1 HV0 hln ⊢
  clear hvn
  obtain ⟨i0, hi0, hz, hz1, hz2⟩ := info_parts info_mk
  go_enter Try.func4, Try.ntmps4
  go_wp2_with fail
  refine (hend _).out.mono ?_
  rintro e w1 ⟨rfl, bel1⟩
  have HB := Lib.hid bel1
  clear bel1
  by_cases hb40 : 40 < vn
  · go_wp2_with fail
    refine (hend _).out.mono ?_
    rintro e w3 ⟨rfl, bel3⟩
    have bel := Below.trans HB.out (bel3.mono HB.out.size)
    clear bel3
    go_wp2
    go_ret
    exact ⟨rfl, bel⟩
  have hg := great_any w1 _ l (HV0.out.below HB.out) (by rw [← HVN.out]; omega) (fun x hx => (HS.out x hx).1)
  cases hgr : decide (100000 < keysLen l)
  case true =>
    rw [hgr] at hg
    have HG := Lib.hid hg
    clear hg hgr
    go_wp2_with fail
    refine HG.out.mono ?_
    rintro e w2 ⟨rfl, rfl⟩
    go_wp2_with fail
    refine (hend _).out.mono ?_
    rintro e w3 ⟨rfl, bel3⟩
    have bel := Below.trans HB.out (bel3.mono HB.out.size)
    clear bel3
    go_wp2
    go_ret
    exact ⟨rfl, bel⟩
  rw [hgr] at hg
  have HG := Lib.hid hg
  clear hg hgr
  go_wp2_with fail
  refine HG.out.mono ?_
  rintro e w2 ⟨rfl, rfl⟩
  by_cases h0 : vn = 0
  · subst h0
    go_wp2_with fail
    refine (hend _).out.mono ?_
    rintro e w3 ⟨rfl, bel3⟩
    have bel := Below.trans HB.out (bel3.mono HB.out.size)
    clear bel3
    go_wp2
    go_ret
    exact ⟨rfl, bel⟩
  have hv1 : 1 ≤ vn := by omega
  have e0 : ((vn : Int) == 0) = false := by simp; omega
  have e1 : (vn == 0) = false := by simp; omega
  have e2 : ¬ (vn : Int) = 0 := by omega
  have e3 : decide (40 < (vn : Int)) = false := by simp; omega
  have e4 : decide (40 < vn) = false := by simp; omega
  clear HG hb40 h0
  obtain ⟨k, hk⟩ : ∃ k, k = c % vn := ⟨_, rfl⟩
  have hkn : k < vn := by rw [hk]; exact Nat.mod_lt _ hv1
  have hkq : (c : Int) % (vn : Int) = (k : Int) := by rw [hk]; simp
  have hkw : IntKind.i64.wrap (k : Int) = (k : Int) := IntWalk.i64_in _ (by omega)
  clear hk
  go_upto_region 4 with (fail)
  try rw [hkq]
  clear e0 e1 e2 e3 e4 hkq
  have HSO := Lib.hid (sorted_any w1 _ l (HV0.out.below HB.out) (by rw [← HVN.out]; omega))
  rw [← HVN.out] at HSO
  go_wp2_with fail
  refine HSO.out.mono ?_
  rintro e w3 ⟨sa, sn, sc, rfl, HSN, HSR, bel3⟩
  have hsn : sn = vn := HSN.out
  subst hsn
  have HB3 := Lib.hid (Below.trans HB.out (bel3.mono HB.out.size))
  clear HSO HSN bel3 HB
  go_upto_region 5 with (fail)
  obtain ⟨u2, t2, hc2, hr2⟩ := cutM_to (HV0.out.below HB3.out) k (by rw [← HVN.out]; omega)
  obtain ⟨r, hr⟩ : ∃ r, r = sn - k := ⟨_, rfl⟩
  have hrq : r + k = sn := by omega
  clear hr
  obtain ⟨u1, t1, hc1, hr1⟩ := cutM_rest (HV0.out.below HB3.out) k r (by rw [← HVN.out]; exact hrq)
  have s1 := fun w' => hc1 w' .i64
  have s2 := fun w' => hc2 w' .i64
  have R1 := Lib.hid hr1
  have R2 := Lib.hid hr2
  have hkc : (k : Int) ≤ (sn : Int) := by omega
  have hzz : Below w3.heap.size w3 w3 := Below.refl _ _
  clear hc1 hc2 hr1 hr2
  have HSO : Hid (∀ w' v', RdM w' v' (l.drop k ++ l.take k) → Calls Try.prog 18 #[v'] w' fun e w'' => ∃ a c, e = .returned (.slice a sn c) ∧ Hid (RdM w'' (.slice a sn c) (sortM l)) ∧ Below w'.heap.size w' w'') := fun w' v' hr => by
    refine (sorted_any w' v' _ hr (by rw [List.length_append, List.length_take, List.length_drop, ← HVN.out]; omega)).mono ?_
    rintro e w'' ⟨a, n, c, rfl, hn, hh1, hh2⟩
    have hn2 : n = sn := by rw [hn.out, List.length_append, List.length_take, List.length_drop, ← HVN.out]; omega
    subst hn2
    rw [sortM_rot] at hh1
    exact ⟨a, c, rfl, hh1, hh2⟩
  go_region_held3 (fun w' => Below w3.heap.size w3 w')
    ((first | assumption | exact Below.drew hzz | exact Below.trans (by assumption) (hb9.mono (Below.size (by assumption))) | exact Below.trans (by assumption) (Grew.below HG.out)))
    ((first
      | (refine step_app_el4 rfl _ _ rfl Try.underlying38 hi0 hz hz1 hz2 rfl (by omega) w3.heap.size 0 r (.slice none 0 0) (.slice u1 r t1) [] (mcells (l.drop k)) (mcells (l.drop k)) r rfl rfl (own_none _ _ _ _) (rdM_readsN (R1.out.below (by assumption))) (one_mcells _) (Nat.zero_add _) rfl (by omega) (by omega) (Below.size (w := w3) (by assumption)) ?_; intro a1 c1 w7 H1 HG)
      | (refine step_app_el4 rfl _ _ rfl Try.underlying38 hi0 hz hz1 hz2 rfl (by omega) w3.heap.size r k (.slice a1 r c1) (.slice u2 k t2) (mcells (l.drop k)) (mcells (l.take k)) (mcells (l.drop k ++ l.take k)) sn rfl rfl H1.out (rdM_readsN (R2.out.below (by assumption))) (one_mcells _) hrq (mcells_app _ _).symm (by omega) (by omega) (Below.size (w := w3) (by assumption)) ?_; intro a2 c2 w8 H2 HG)
      | (go_at_call 18; refine (HSO.out _ _ (rdM_of (reads_of_own H2.out)).2).mono ?_; rintro e w9 ⟨ba, bc, rfl, HBR, hb9⟩)))
  rename_i hH
  have HB9 := Lib.hid (HB3.out.trans (hH.mono HB3.out.size))
  have HSR9 := Lib.hid (HSR.out.below hH)
  clear hH H1 H2 HG HSO R1 R2 s1 s2 hb9 HSR HB3 hkc
  have HLEN : Hid ((sortM l).length = sn) := by show _ = _; rw [sortM_length, ← HVN.out]
  go_wp2_with fail
  try show Code.wp _ _ _ _ _
  go_loopw [8, 9] (fun iv _ wr => ∃ i : Nat, i ≤ sn ∧ iv = .int .i64 i ∧ Hid (Below w9.heap.size w9 wr)) (fun iv _ _ => sn - (intOf iv).toNat)
  case atStart => exact ⟨0, Nat.zero_le _, rfl, Below.refl _ _⟩
  case round =>
    obtain ⟨i, hi, rfl, HR⟩ := hrel
    by_cases hlt : i < sn
    · have hiS : i < (sortM l).length := by rw [HLEN.out]; exact hlt
      obtain ⟨a3, c3, hve, _, _, hcell⟩ := HSR9.out.below HR.out
      obtain ⟨b3, off3, hae, p0, p1, p2⟩ := hcell i hiS
      simp only [Value.slice.injEq] at hve
      obtain ⟨f1, el, ec⟩ := hve
      rw [hae] at f1
      subst f1
      clear el ec hcell hae
      obtain ⟨a4, c4, hve, _, _, hcell⟩ := HBR.out.below HR.out
      obtain ⟨b4, off4, hae, q0, q1, q2⟩ := hcell i hiS
      simp only [Value.slice.injEq] at hve
      obtain ⟨f1, el, ec⟩ := hve
      rw [hae] at f1
      subst f1
      clear el ec hcell hae
      obtain ⟨x, hx⟩ : ∃ x, x = (sortM l)[i] := ⟨_, rfl⟩
      rw [← hx] at p0 p1 p2 q0 q1 q2
      have HX := Lib.hid hx
      clear hx
      obtain ⟨xk, xs, xg⟩ := x
      simp only at p0 p1 p2 q0 q1 q2
      go_wp2_with fail
      go_quiet (fail)
      have hdw := drewN_below wr nq
      have HR2 := Lib.hid (HR.out.trans (hdw.mono HR.out.size))
      clear hdw p0 p1 p2 q0 q1 q2 HR
      generalize wr.drewN nq = wq at HR2 ⊢
      go_wp2_with fail
      try show Code.wp _ _ _ _ _
      go_loopw [9] (fun jv wz => ∃ j : Nat, i < j ∧ j ≤ sn ∧ jv = .int .i64 j ∧ Hid (Below w9.heap.size w9 wz)) (fun jv _ => sn - (intOf jv).toNat)
      case atStart => exact ⟨i + 1, by omega, by omega, by go_num, HR2⟩
      case round =>
        obtain ⟨j, hij, hj, rfl, HZ⟩ := hrel
        obtain ⟨wz, hwz⟩ := the_world HZ.out
        subst hwz
        by_cases hjl : j < sn
        · have hjS : j < (sortM l).length := by rw [HLEN.out]; exact hjl
          obtain ⟨wd, hwd⟩ : ∃ wd, wd = wz.drew := ⟨_, rfl⟩
          have HWD := Lib.hid hwd
          have hbd : Below wz.heap.size wz wd := by rw [hwd]; exact (Below.refl _ _).drew
          have HRD := Lib.hid (HZ.out.trans (hbd.mono HZ.out.size))
          clear hwd hbd
          have hcl : ∀ m, (hm : m < (sortM l).length) → wd.cell? ⟨b3, off3 + m * 3, none⟩ = some (.string (sortM l)[m].k) ∧ wd.cell? ⟨b3, off3 + m * 3 + 1, none⟩ = some (.int .u64 (sortM l)[m].s) ∧ wd.cell? ⟨b3, off3 + m * 3 + 2, none⟩ = some (.bool (sortM l)[m].g) := by
            intro m hm
            obtain ⟨a3, c3, hve, _, _, hcell⟩ := HSR9.out.below HRD.out
            obtain ⟨b5, off5, hae, p0, p1, p2⟩ := hcell m hm
            simp only [Value.slice.injEq] at hve
            obtain ⟨f1, _, _⟩ := hve
            rw [hae] at f1
            cases f1
            exact ⟨p0, p1, p2⟩
          obtain ⟨p0, p1, p2⟩ := hcl i hiS
          obtain ⟨q0, q1, q2⟩ := hcl j hjS
          obtain ⟨y, hy⟩ : ∃ y, y = (sortM l)[j] := ⟨_, rfl⟩
          obtain ⟨n, hn⟩ : ∃ n, n = cmpK (MkB.m ⟨xk, xs, xg⟩) y.m := ⟨_, rfl⟩
          have hn0 : n ≤ 0 := by
            rw [hn, hy, HX.out]
            exact sortM_le l i j hij hjS
          rw [← HX.out] at p0 p1 p2
          rw [← hy] at q0 q1 q2
          have HC : Hid (Calls Try.prog 19 #[.agg #[.string xk, .int .u64 xs, .bool xg], .agg #[.string y.k, .int .u64 y.s, .bool y.g]] wd fun e w' => e = .returned (.int .i64 n) ∧ Below wd.heap.size wd w') := by
            rw [hn]; exact orderCmp_any _ _ _ _ _ _ wd
          clear hn hy hcl hjS
          obtain ⟨yk, ys, yg⟩ := y
          simp only at p0 p1 p2 q0 q1 q2 HC
          go_wp2_with fail
          refine still_tail4 (wd := wd) 8 ?hm ?hB ?hwd ?h
          case hm => kernel_rfl
          case hB => kernel_rfl
          case hwd => exact HWD.out
          simp only [List.take_succ_cons, List.take_zero, List.drop_succ_cons, List.drop_zero]
          repeat (first | ((with_reducible refine still_skip4 ?hw ?hrest); case hw => rfl; simp only [Act.put, List.setIfInBounds_toArray, List.set_cons_zero, List.set_cons_succ]) | ((with_reducible refine wpStill_step (fun K hK => ?_)); go_simp; refine hK _ ?_; clear hK K))
          try refine wpStill_nil ?_
          go_wp2_with fail
          refine HC.out.mono ?_
          rintro e wx ⟨rfl, belx⟩
          have HX9 := Lib.hid (HRD.out.trans (belx.mono HRD.out.size))
          have g1 : decide (n > 0) = false := by simp; omega
          have g2 : decide (0 < n) = false := by simp; omega
          clear p0 p1 p2 q0 q1 q2 belx HC HWD HRD HZ
          go_wp2_with fail
          go_roundw
          case rel => exact ⟨j + 1, by omega, by omega, by go_num, HX9⟩
          case measure => simp [intOf]; omega
        · have g0 : decide ((j : Int) < (sn : Int)) = false := by simp; omega
          go_wp2_with fail
          go_roundw
          case rel => exact ⟨i + 1, by omega, by go_num, HZ⟩
          case measure => simp [intOf]; omega
    · have g0 : decide ((i : Int) < (sn : Int)) = false := by simp; omega
      have hbf := HB9.out.trans (HR.out.mono HB9.out.size)
      go_wp2_with fail
      go_ret
      exact ⟨by first | rfl | (simp; done), hbf⟩
end Go.Proofs.Ytafgioidneohhaa

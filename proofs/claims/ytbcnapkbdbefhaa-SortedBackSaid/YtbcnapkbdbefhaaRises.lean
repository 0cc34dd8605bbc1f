/- Walk of law08.Rises. The condition: a slice of entries. -/
import Derived.Test.YtbcnapkbdbefhaaBlocks9
namespace Go.Proofs.Ytbcnapkbdbefhaa
open Go.RowKit

theorem rises_no {E : List Ent} {k n : Nat} (h : okAt E k = false) (hk : k < n) : risesN E n = false := by
  cases hr : risesN E n
  · rfl
  · rw [(risesN_iff E n).1 hr k hk] at h; cases h
set_option maxRecDepth 100000 in
set_option maxHeartbeats 8000000 in
theorem rises_any (w : World) (v : Value) (l : List PE) (hv : RdE w v l) (hl : l.length ≤ 1000000) :
    Calls Try.prog 13 #[v] w fun e w' => e = .returned (.bool (risesN (entsOf l) l.length)) ∧ Below w.heap.size w w' := by
  have HV0 := Lib.hid hv
  obtain ⟨va, vc, rfl, h1, h2, h3⟩ := hv
  clear h3
  obtain ⟨vn, hvn⟩ : ∃ n, n = l.length := ⟨_, rfl⟩
  have HVN := Lib.hid hvn
  rw [← hvn] at h1 HV0 hl ⊢
  clear hvn
  go_enter Try.func13, Try.ntmps13
  go_wp2_with fail
  try show Code.wp _ _ _ _ _
  go_loopw [3] (fun i wr => ∃ k : Nat, k ≤ vn ∧ i = .int .i64 k ∧ Hid (risesN (entsOf l) k = true) ∧ Hid (Below w.heap.size w wr)) (fun i _ => vn - (intOf i).toNat)
  case atStart => exact ⟨0, Nat.zero_le _, rfl, rfl, Below.refl _ _⟩
  case round =>
    obtain ⟨k, hk, rfl, HRK, HBR⟩ := hrel
    by_cases hlt : k < vn
    · have hkl : k < l.length := by rw [← HVN.out]; exact hlt
      obtain ⟨wd, hwd⟩ : ∃ wd, wd = wr.drew := ⟨_, rfl⟩
      have HWD := Lib.hid hwd
      have hbd : Below wr.heap.size wr wd := by rw [hwd]; exact (Below.refl _ _).drew
      have HBD := Lib.hid (HBR.out.trans (hbd.mono HBR.out.size))
      clear hwd hbd
      have HV := Lib.hid (HV0.out.below HBD.out)
      have hae := entsOf_at l k hkl
      obtain ⟨a', c', hve, _, _, hcell⟩ := HV.out
      obtain ⟨b3, off3, hae2, c0, c1, c2, c3⟩ := hcell k hkl
      simp only [Value.slice.injEq] at hve
      obtain ⟨e1, el, ec⟩ := hve
      rw [hae2] at e1
      subst e1
      clear el ec hcell hae2
      obtain ⟨x, hx⟩ : ∃ x, x = l[k] := ⟨_, rfl⟩
      rw [← hx] at c0 c1 c2 c3 hae
      clear hx
      obtain ⟨xk, xs, xg, xu⟩ := x
      simp only at c0 c1 c2 c3
      have HOK : Hid (okAt (entsOf l) k = (checkK xk.data.toList && (decide (xu.size ≤ 256) && (!xg || xu.toList.isEmpty)) && (k == 0 || decide (cmpE (atE (entsOf l) (k - 1)) (entOf xk xs xg xu) < 0)))) := by
        show _ = _
        unfold okAt
        rw [hae]
        simp only [fitE, PE.ent, entOf, Lib.toList_data, size_data]
        rfl
      have HNO : Hid (okAt (entsOf l) k = false → risesN (entsOf l) vn = false) := fun h => rises_no h hlt
      have HYES : Hid (okAt (entsOf l) k = true → risesN (entsOf l) (k + 1) = true) := fun h => by rw [risesN, HRK.out, h]; rfl
      have HCA : ∀ b, checkK xk.data.toList = b → Hid (∀ w', Calls Try.prog 36 #[.string xk] w' fun e w'' => e = .returned (.bool b) ∧ w'' = w') := fun b hb w' =>
        (check_any xk w').mono fun e w'' h => by rw [← hb]; exact ⟨h.1, h.2.symm⟩
      clear hae
      go_upto_region 4 with (fail)
      cases hck : checkK xk.data.toList
      · have HCK := HCA _ hck
        have HCE := Lib.hid hck
        clear HCA hck
        refine still_tail (wd := wd) 48 ?hm ?hB ?hwd ?h
        case hm => kernel_rfl
        case hB => kernel_rfl
        case hwd => exact HWD.out
        simp only [List.take_succ_cons, List.take_zero, List.drop_succ_cons, List.drop_zero]
        repeat (first | ((with_reducible refine still_skip ?hw ?hrest); case hw => rfl; simp only [Act.put, List.setIfInBounds_toArray, List.set_cons_zero, List.set_cons_succ]) | ((with_reducible refine wpStill_step (fun K hK => ?_)); go_simp; refine hK _ ?_; clear hK K))
        (with_reducible refine wpStill_step (fun K hK => ?_))
        go_simp
        refine ⟨_, HCK.out _, hK _ ?_⟩
        clear hK K
        repeat (first | ((with_reducible refine still_skip ?hw ?hrest); case hw => rfl; simp only [Act.put, List.setIfInBounds_toArray, List.set_cons_zero, List.set_cons_succ]) | ((with_reducible refine wpStill_step (fun K hK => ?_)); go_simp; refine hK _ ?_; clear hK K))
        try refine wpStill_nil ?_
        have HF : Hid (risesN (entsOf l) vn = false) := HNO.out (by rw [HOK.out, HCE.out]; rfl)
        clear c0 c1 c2 c3
        go_wp2_with fail
        go_ret
        exact ⟨ret_bool HF.out.symm, HBD.out⟩
      have HCK := HCA _ hck
      have HCE := Lib.hid hck
      clear HCA hck
      by_cases hvl : xu.size ≤ 256
      case neg =>
        have hvd : decide (256 < (xu.size : Int)) = true := by simp; omega
        have HVD : Hid (decide (xu.size ≤ 256) = false) := by show _ = _; simp; omega
        clear hvl
        refine still_tail (wd := wd) 48 ?hm ?hB ?hwd ?h
        case hm => kernel_rfl
        case hB => kernel_rfl
        case hwd => exact HWD.out
        simp only [List.take_succ_cons, List.take_zero, List.drop_succ_cons, List.drop_zero]
        repeat (first | ((with_reducible refine still_skip ?hw ?hrest); case hw => rfl; simp only [Act.put, List.setIfInBounds_toArray, List.set_cons_zero, List.set_cons_succ]) | ((with_reducible refine wpStill_step (fun K hK => ?_)); go_simp; refine hK _ ?_; clear hK K))
        (with_reducible refine wpStill_step (fun K hK => ?_))
        go_simp
        refine ⟨_, HCK.out _, hK _ ?_⟩
        clear hK K
        repeat (first | ((with_reducible refine still_skip ?hw ?hrest); case hw => rfl; simp only [Act.put, List.setIfInBounds_toArray, List.set_cons_zero, List.set_cons_succ]) | ((with_reducible refine wpStill_step (fun K hK => ?_)); go_simp; refine hK _ ?_; clear hK K))
        try refine wpStill_nil ?_
        have HF : Hid (risesN (entsOf l) vn = false) := HNO.out (by rw [HOK.out, HCE.out, HVD.out]; rfl)
        clear c0 c1 c2 c3
        go_wp2_with fail
        go_ret
        exact ⟨ret_bool HF.out.symm, HBD.out⟩
      have hvd : decide (256 < (xu.size : Int)) = false := by simp; omega
      have HVD : Hid (decide (xu.size ≤ 256) = true) := by show _ = _; simp; omega
      clear hvl
      have hgv : ∃ gv : Bool, (!xg || xu.toList.isEmpty) = gv := ⟨_, rfl⟩
      obtain ⟨gv, hgv⟩ := hgv
      have HGV := Lib.hid hgv
      cases gv
      · obtain ⟨hg1, hg2⟩ : xg = true ∧ xu.toList.isEmpty = false := by simpa using hgv
        subst hg1
        clear hgv
        refine still_tail (wd := wd) 48 ?hm ?hB ?hwd ?h
        case hm => kernel_rfl
        case hB => kernel_rfl
        case hwd => exact HWD.out
        simp only [List.take_succ_cons, List.take_zero, List.drop_succ_cons, List.drop_zero]
        repeat (first | ((with_reducible refine still_skip ?hw ?hrest); case hw => rfl; simp only [Act.put, List.setIfInBounds_toArray, List.set_cons_zero, List.set_cons_succ]) | ((with_reducible refine wpStill_step (fun K hK => ?_)); go_simp; refine hK _ ?_; clear hK K))
        (with_reducible refine wpStill_step (fun K hK => ?_))
        go_simp
        refine ⟨_, HCK.out _, hK _ ?_⟩
        clear hK K
        repeat (first | ((with_reducible refine still_skip ?hw ?hrest); case hw => rfl; simp only [Act.put, List.setIfInBounds_toArray, List.set_cons_zero, List.set_cons_succ]) | ((with_reducible refine wpStill_step (fun K hK => ?_)); go_simp; refine hK _ ?_; clear hK K))
        try refine wpStill_nil ?_
        have HF : Hid (risesN (entsOf l) vn = false) := HNO.out (by rw [HOK.out, HCE.out, HVD.out, HGV.out]; rfl)
        clear c0 c1 c2 c3
        go_wp2_with fail
        go_ret
        exact ⟨ret_bool HF.out.symm, HBD.out⟩
      cases xg
      · clear hgv
        by_cases hk0 : k = 0
        · subst hk0
          simp only [Nat.zero_mul, Nat.add_zero] at c0 c1 c2 c3
          refine still_tail (wd := wd) 48 ?hm ?hB ?hwd ?h
          case hm => kernel_rfl
          case hB => kernel_rfl
          case hwd => exact HWD.out
          simp only [List.take_succ_cons, List.take_zero, List.drop_succ_cons, List.drop_zero]
          repeat (first | ((with_reducible refine still_skip ?hw ?hrest); case hw => rfl; simp only [Act.put, List.setIfInBounds_toArray, List.set_cons_zero, List.set_cons_succ]) | ((with_reducible refine wpStill_step (fun K hK => ?_)); go_simp; refine hK _ ?_; clear hK K))
          (with_reducible refine wpStill_step (fun K hK => ?_))
          go_simp
          refine ⟨_, HCK.out _, hK _ ?_⟩
          clear hK K
          repeat (first | ((with_reducible refine still_skip ?hw ?hrest); case hw => rfl; simp only [Act.put, List.setIfInBounds_toArray, List.set_cons_zero, List.set_cons_succ]) | ((with_reducible refine wpStill_step (fun K hK => ?_)); go_simp; refine hK _ ?_; clear hK K))
          try refine wpStill_nil ?_
          have HF : Hid (risesN (entsOf l) (0 + 1) = true) := HYES.out (by rw [HOK.out, HCE.out, HVD.out, HGV.out]; rfl)
          clear c0 c1 c2 c3
          have HBF := Lib.hid HBD.out
          go_wp2_with fail
          go_roundw
          case rel => exact ⟨0 + 1, by omega, by go_num, HF, HBF⟩
          case measure => simp [intOf]; omega
        · have hk1 : decide ((0 : Int) < (k : Int)) = true := by simp; omega
          have hk1n : decide (0 < k) = true := by simp; omega
          have HK1 : Hid ((k == 0) = false) := by show _ = _; simp; omega
          obtain ⟨j, hj⟩ : ∃ j, j = k - 1 := ⟨_, rfl⟩
          have HJ := Lib.hid hj
          have hkj : ((k : Int) - 1) = (j : Int) := by omega
          have hjl : j < l.length := by omega
          have hwj : IntKind.i64.wrap (j : Int) = (j : Int) := IntWalk.i64_in _ (by omega)
          have HAJ := Lib.hid (entsOf_at l j hjl)
          obtain ⟨a2, c2', hve, _, _, hcell⟩ := HV.out
          obtain ⟨b4, off4, hae2, y0, y1, y2, y3⟩ := hcell j hjl
          simp only [Value.slice.injEq] at hve
          obtain ⟨e1, el, ec⟩ := hve
          rw [hae2] at e1
          simp only [Option.some.injEq, Addr.mk.injEq, and_true] at e1
          obtain ⟨e2, e3⟩ := e1
          rw [← e2, ← e3] at y0 y1 y2
          clear el ec hcell hae2 e2 e3 hj y3
          have hjv : j < vn := by omega
          obtain ⟨y, hy⟩ : ∃ y, y = l[j] := ⟨_, rfl⟩
          rw [← hy] at y0 y1 y2 HAJ
          clear hy hjl
          obtain ⟨yk, ys, yg, yu⟩ := y
          simp only at y0 y1 y2
          obtain ⟨n, hn⟩ : ∃ n, n = cmpM yk.data.toList ys yg xk.data.toList xs false := ⟨_, rfl⟩
          have HN := Lib.hid hn
          have HCM : Hid (Calls Try.prog 19 #[.agg #[.string yk, .int .u64 ys, .bool yg], .agg #[.string xk, .int .u64 xs, .bool false]] wd fun e w' => e = .returned (.int .i64 n) ∧ Below wd.heap.size wd w') := by
            rw [hn]; exact orderCmp_any _ _ _ _ _ _ wd
          have HOKN : Hid (okAt (entsOf l) k = decide (n < 0)) := by
            show _ = _
            rw [HOK.out, HCE.out, HVD.out, HGV.out, HK1.out, ← HJ.out, HAJ.out, hn]; rfl
          clear hn
          refine still_tail (wd := wd) 48 ?hm ?hB ?hwd ?h
          case hm => kernel_rfl
          case hB => kernel_rfl
          case hwd => exact HWD.out
          simp only [List.take_succ_cons, List.take_zero, List.drop_succ_cons, List.drop_zero]
          repeat (first | ((with_reducible refine still_skip ?hw ?hrest); case hw => rfl; simp only [Act.put, List.setIfInBounds_toArray, List.set_cons_zero, List.set_cons_succ]) | ((with_reducible refine wpStill_step (fun K hK => ?_)); go_simp; refine hK _ ?_; clear hK K))
          (with_reducible refine wpStill_step (fun K hK => ?_))
          go_simp
          refine ⟨_, HCK.out _, hK _ ?_⟩
          clear hK K
          repeat (first | ((with_reducible refine still_skip ?hw ?hrest); case hw => rfl; simp only [Act.put, List.setIfInBounds_toArray, List.set_cons_zero, List.set_cons_succ]) | ((with_reducible refine wpStill_step (fun K hK => ?_)); go_simp; refine hK _ ?_; clear hK K))
          try refine wpStill_nil ?_
          go_wp2_with fail
          refine HCM.out.mono ?_
          rintro e w9 ⟨rfl, bel9⟩
          have HB9 := Lib.hid (HBD.out.trans (bel9.mono HBD.out.size))
          clear bel9 y0 y1 y2 hkj hwj hk1 hk1n
          by_cases hneg : n < 0
          · have hn2 : decide (n ≥ 0) = false := by simp; omega
            have hn3 : decide (0 ≤ n) = false := by simp; omega
            have HF : Hid (risesN (entsOf l) (k + 1) = true) := HYES.out (by rw [HOKN.out]; simp; omega)
            clear c0 c1 c2 c3
            have HBF := Lib.hid HB9.out
            go_wp2_with fail
            go_roundw
            case rel => exact ⟨k + 1, by omega, by go_num, HF, HBF⟩
            case measure => simp [intOf]; omega
          · have hn2 : decide (n ≥ 0) = true := by simp; omega
            have hn3 : decide (0 ≤ n) = true := by simp; omega
            have HF : Hid (risesN (entsOf l) vn = false) := HNO.out (by rw [HOKN.out]; simp; omega)
            clear c0 c1 c2 c3
            go_wp2_with fail
            go_ret
            exact ⟨ret_bool HF.out.symm, HB9.out⟩
      · have hem : xu.toList.isEmpty = true := by simpa using hgv
        clear hgv
        by_cases hk0 : k = 0
        · subst hk0
          simp only [Nat.zero_mul, Nat.add_zero] at c0 c1 c2 c3
          refine still_tail (wd := wd) 48 ?hm ?hB ?hwd ?h
          case hm => kernel_rfl
          case hB => kernel_rfl
          case hwd => exact HWD.out
          simp only [List.take_succ_cons, List.take_zero, List.drop_succ_cons, List.drop_zero]
          repeat (first | ((with_reducible refine still_skip ?hw ?hrest); case hw => rfl; simp only [Act.put, List.setIfInBounds_toArray, List.set_cons_zero, List.set_cons_succ]) | ((with_reducible refine wpStill_step (fun K hK => ?_)); go_simp; refine hK _ ?_; clear hK K))
          (with_reducible refine wpStill_step (fun K hK => ?_))
          go_simp
          refine ⟨_, HCK.out _, hK _ ?_⟩
          clear hK K
          repeat (first | ((with_reducible refine still_skip ?hw ?hrest); case hw => rfl; simp only [Act.put, List.setIfInBounds_toArray, List.set_cons_zero, List.set_cons_succ]) | ((with_reducible refine wpStill_step (fun K hK => ?_)); go_simp; refine hK _ ?_; clear hK K))
          try refine wpStill_nil ?_
          have HF : Hid (risesN (entsOf l) (0 + 1) = true) := HYES.out (by rw [HOK.out, HCE.out, HVD.out, HGV.out]; rfl)
          clear c0 c1 c2 c3
          have HBF := Lib.hid HBD.out
          go_wp2_with fail
          go_roundw
          case rel => exact ⟨0 + 1, by omega, by go_num, HF, HBF⟩
          case measure => simp [intOf]; omega
        · have hk1 : decide ((0 : Int) < (k : Int)) = true := by simp; omega
          have hk1n : decide (0 < k) = true := by simp; omega
          have HK1 : Hid ((k == 0) = false) := by show _ = _; simp; omega
          obtain ⟨j, hj⟩ : ∃ j, j = k - 1 := ⟨_, rfl⟩
          have HJ := Lib.hid hj
          have hkj : ((k : Int) - 1) = (j : Int) := by omega
          have hjl : j < l.length := by omega
          have hwj : IntKind.i64.wrap (j : Int) = (j : Int) := IntWalk.i64_in _ (by omega)
          have HAJ := Lib.hid (entsOf_at l j hjl)
          obtain ⟨a2, c2', hve, _, _, hcell⟩ := HV.out
          obtain ⟨b4, off4, hae2, y0, y1, y2, y3⟩ := hcell j hjl
          simp only [Value.slice.injEq] at hve
          obtain ⟨e1, el, ec⟩ := hve
          rw [hae2] at e1
          simp only [Option.some.injEq, Addr.mk.injEq, and_true] at e1
          obtain ⟨e2, e3⟩ := e1
          rw [← e2, ← e3] at y0 y1 y2
          clear el ec hcell hae2 e2 e3 hj y3
          have hjv : j < vn := by omega
          obtain ⟨y, hy⟩ : ∃ y, y = l[j] := ⟨_, rfl⟩
          rw [← hy] at y0 y1 y2 HAJ
          clear hy hjl
          obtain ⟨yk, ys, yg, yu⟩ := y
          simp only at y0 y1 y2
          obtain ⟨n, hn⟩ : ∃ n, n = cmpM yk.data.toList ys yg xk.data.toList xs true := ⟨_, rfl⟩
          have HN := Lib.hid hn
          have HCM : Hid (Calls Try.prog 19 #[.agg #[.string yk, .int .u64 ys, .bool yg], .agg #[.string xk, .int .u64 xs, .bool true]] wd fun e w' => e = .returned (.int .i64 n) ∧ Below wd.heap.size wd w') := by
            rw [hn]; exact orderCmp_any _ _ _ _ _ _ wd
          have HOKN : Hid (okAt (entsOf l) k = decide (n < 0)) := by
            show _ = _
            rw [HOK.out, HCE.out, HVD.out, HGV.out, HK1.out, ← HJ.out, HAJ.out, hn]; rfl
          clear hn
          refine still_tail (wd := wd) 48 ?hm ?hB ?hwd ?h
          case hm => kernel_rfl
          case hB => kernel_rfl
          case hwd => exact HWD.out
          simp only [List.take_succ_cons, List.take_zero, List.drop_succ_cons, List.drop_zero]
          repeat (first | ((with_reducible refine still_skip ?hw ?hrest); case hw => rfl; simp only [Act.put, List.setIfInBounds_toArray, List.set_cons_zero, List.set_cons_succ]) | ((with_reducible refine wpStill_step (fun K hK => ?_)); go_simp; refine hK _ ?_; clear hK K))
          (with_reducible refine wpStill_step (fun K hK => ?_))
          go_simp
          refine ⟨_, HCK.out _, hK _ ?_⟩
          clear hK K
          repeat (first | ((with_reducible refine still_skip ?hw ?hrest); case hw => rfl; simp only [Act.put, List.setIfInBounds_toArray, List.set_cons_zero, List.set_cons_succ]) | ((with_reducible refine wpStill_step (fun K hK => ?_)); go_simp; refine hK _ ?_; clear hK K))
          try refine wpStill_nil ?_
          go_wp2_with fail
          refine HCM.out.mono ?_
          rintro e w9 ⟨rfl, bel9⟩
          have HB9 := Lib.hid (HBD.out.trans (bel9.mono HBD.out.size))
          clear bel9 y0 y1 y2 hkj hwj hk1 hk1n
          by_cases hneg : n < 0
          · have hn2 : decide (n ≥ 0) = false := by simp; omega
            have hn3 : decide (0 ≤ n) = false := by simp; omega
            have HF : Hid (risesN (entsOf l) (k + 1) = true) := HYES.out (by rw [HOKN.out]; simp; omega)
            clear c0 c1 c2 c3
            have HBF := Lib.hid HB9.out
            go_wp2_with fail
            go_roundw
            case rel => exact ⟨k + 1, by omega, by go_num, HF, HBF⟩
            case measure => simp [intOf]; omega
          · have hn2 : decide (n ≥ 0) = true := by simp; omega
            have hn3 : decide (0 ≤ n) = true := by simp; omega
            have HF : Hid (risesN (entsOf l) vn = false) := HNO.out (by rw [HOKN.out]; simp; omega)
            clear c0 c1 c2 c3
            go_wp2_with fail
            go_ret
            exact ⟨ret_bool HF.out.symm, HB9.out⟩
    · obtain rfl : k = vn := by omega
      go_wp2_with fail
      go_ret
      exact ⟨ret_bool HRK.out.symm, HBR.out⟩
end Go.Proofs.Ytbcnapkbdbefhaa

/- The law SortedMany answers true for any number and any two bytes. No condition. -/
import Derived.Test.YtbcnapkbdbefhaaSManyP
import Derived.Test.YtbcnapkbdbefhaaSameE
namespace Go.Proofs.Ytbcnapkbdbefhaa
open Go.RowKit

/-- k rows stand -/
def ManySt (u : List UInt8) (gL nn : Nat) (W : World) (k : Nat) (wr : World) : Prop :=
  ∃ cs : Array Value, Blk wr gL cs 37 ∧ cs.size = nn * 4 ∧ cs.toList.take (k * 4) = pcells (rowsM u k) ∧ Below W.heap.size W wr
set_option maxRecDepth 100000 in
set_option maxHeartbeats 3000000 in
theorem sortedMany_walk (w : World) (a1 : Int) (b : UInt8 × UInt8) (wa : (Lit.int .u8 a1).wf = true) (_ : True) :
    Calls Try.prog 7 #[.int .u8 a1, .agg #[.int .u8 b.1.toNat, .int .u8 b.2.toNat]] w (RetTrue w) := by
  obtain ⟨c, rfl, hc⟩ := nat_u8 wa
  have hend : ∀ (w5 : World), Hid (Calls Try.prog 10 #[] w5 (RetTrue w5)) := fun w5 => alive10_any w5
  obtain ⟨u1, u2⟩ := b
  simp only
  obtain ⟨n1, hn1⟩ : ∃ n : Nat, n = u1.toNat := ⟨_, rfl⟩
  obtain ⟨n2, hn2⟩ : ∃ n : Nat, n = u2.toNat := ⟨_, rfl⟩
  rw [← hn1, ← hn2]
  obtain ⟨gV, hgV⟩ : ∃ g, g = w.heap.size := ⟨_, rfl⟩
  obtain ⟨W, hW⟩ : ∃ W, W = w.alloc (.cells #[.int .u8 n1, .int .u8 n2] 56) := ⟨_, rfl⟩
  have HV : Hid (Blk W gV #[.int .u8 n1, .int .u8 n2] 56) := Lib.hid (by rw [hW]; exact Blk.new_at _ _ _ _ hgV)
  have HBW : Hid (Below w.heap.size w W) := Lib.hid (by rw [hW]; exact (Below.refl _ _).alloc (Nat.le_refl _) _)
  have HW := Lib.hid hW
  have HGV := Lib.hid hgV
  have HN1 := Lib.hid hn1
  have HN2 := Lib.hid hn2
  clear hW hgV hn1 hn2
  obtain ⟨r, hr⟩ : ∃ r, r = c % 5 := ⟨_, rfl⟩
  have hr5 : r < 5 := by omega
  have hrem : Int.tmod (c : Int) 5 = (r : Int) := by rw [hr]; rfl
  have hw8 : IntKind.u8.wrap (r : Int) = (r : Int) := by rw [IntKind.wrap_u8]; omega
  have hwr : IntKind.i64.wrap (r : Int) = (r : Int) := IntWalk.i64_in _ (by omega)
  obtain ⟨nn, hnn⟩ : ∃ n, n = 4094 + r := ⟨_, rfl⟩
  have hadd : (4094 : Int) + (r : Int) = (nn : Int) := by omega
  have hwn : IntKind.i64.wrap (nn : Int) = (nn : Int) := IntWalk.i64_in _ (by omega)
  have hnl : 4094 ≤ nn := by omega
  have hnu : nn ≤ 4098 := by omega
  clear hr hnn
  obtain ⟨i0, hi0, hz, hz1, hz2⟩ := info_parts info_ent
  have hmk := fun (w : World) => run_make (P := Try.prog) w 22 37 i0 _ Try.underlying22 hi0 hz .i64 .i64 (nn : Int) (nn : Int) (by omega) (by omega) (by rw [hz2]; omega) (by omega)
  go_enter Try.func7, Try.ntmps7
  go_upto_region 1 with (fail)
  rw [← HGV.out, ← HW.out]
  go_upto_region 3 with (fail)
  obtain ⟨gL, hgL⟩ : ∃ g, g = W.heap.size := ⟨_, rfl⟩
  obtain ⟨cs0, hcs0⟩ : ∃ cs, cs = madeCells #[.string ⟨#[]⟩, .int .u64 0, .bool false, .string ⟨#[]⟩] (nn * 4) := ⟨_, rfl⟩
  obtain ⟨w3, hw3⟩ : ∃ z, z = W.alloc (.cells cs0 37) := ⟨_, rfl⟩
  have hb3 : Below W.heap.size W w3 := by rw [hw3]; exact (Below.refl _ _).alloc (Nat.le_refl _) _
  have hgLW : W.heap.size ≤ gL := Nat.le_of_eq hgL.symm
  have HM3 : Hid (ManySt [u1, u2] gL nn W 0 w3) := by
    refine ⟨cs0, by rw [hw3]; exact Blk.new_at _ _ _ _ hgL, ?_, by simp [rowsM, pcells], hb3⟩
    rw [hcs0]; simp [madeCells]
  rw [← hgL, ← hcs0, ← hw3]
  clear hgL hcs0 hw3 hb3 hmk hrem hw8 hwr hadd hz hz1 hz2 hi0
  have HVW : Hid (∀ w', Below W.heap.size W w' → Rd w' (.slice (some ⟨gV, 0, none⟩) 2 2) [u1, u2]) := fun w' hb => by
    have h := HV.out.below hb
    refine ⟨_, 2, rfl, by simp, by omega, fun j hj => ⟨gV, 0, rfl, ?_⟩⟩
    rw [h.cell]
    match j, hj with
    | 0, _ => show some _ = some _; rw [HN1.out]; rfl
    | 1, _ => show some _ = some _; rw [HN2.out]; rfl
  go_wp2_with fail
  try show Code.wp _ _ _ _ _
  go_loopw [7] (fun i wr => ∃ k : Nat, k ≤ nn ∧ i = .int .i64 k ∧ Hid (ManySt [u1, u2] gL nn W k wr)) (fun i _ => nn - (intOf i).toNat)
  case atStart => exact ⟨0, Nat.zero_le _, rfl, HM3⟩
  case round =>
    obtain ⟨k, hk, rfl, HR⟩ := hrel
    clear HM3
    by_cases hlt : k < nn
    · obtain ⟨cs, hB, hsz, htk, hbr⟩ := HR.out
      obtain ⟨ka, hka⟩ : ∃ x, x = k / 256 := ⟨_, rfl⟩
      obtain ⟨kb, hkb⟩ : ∃ x, x = k % 256 := ⟨_, rfl⟩
      have hq1 : Int.tdiv (k : Int) 256 = (ka : Int) := by rw [hka]; rfl
      have hq2 : IntKind.u8.wrap (ka : Int) = (ka : Int) := by rw [IntKind.wrap_u8]; omega
      have hq3 : IntKind.u8.wrap (k : Int) = (kb : Int) := by rw [IntKind.wrap_u8]; omega
      have hq4 : IntKind.u64.wrap (k : Int) = (k : Int) := wrap_u64_in _ (by omega)
      have hq5 : IntKind.i64.wrap (ka : Int) = (ka : Int) := IntWalk.i64_in _ (by omega)
      have HKM : Hid (keyM k = [UInt8.ofNat ka, UInt8.ofNat kb]) := by show _ = _; rw [hka, hkb]; rfl
      have hka2 : ka < 256 := by omega
      have hkb2 : kb < 256 := by omega
      have HB := Lib.hid hB
      have HSZ := Lib.hid hsz
      have HTK := Lib.hid htk
      have HBR := Lib.hid hbr
      have hki : (k : Int) < (nn : Int) := by omega
      have HSS : Hid (∀ w', Below W.heap.size W w' → Below W.heap.size W w' ∧ (convert 26 9 (.slice (some ⟨gV, 0, none⟩) 2 2)).run Try.prog w' = .ok (.string (bs [u1, u2])) w') := fun w' hb => ⟨hb, run_str (HVW.out w' hb)⟩
      clear hB hsz htk hbr hka hkb HR
      go_upto_region 6 with (fail)
      refine wp_region_held_drew (S := fun w' => Below W.heap.size W w' ∧ (convert 26 9 (.slice (some ⟨gV, 0, none⟩) 2 2)).run Try.prog w' = .ok (.string (bs [u1, u2])) w') (by kernel_rfl) (HSS.out _ HBR.out.drew) (fun hHeld => ?_)
      refine wpAnyH_take (i := 0) (v := ?vq1) (by simp only [List.getElem?_toArray]; rfl) (by kernel_rfl) (by kernel_rfl) (by kernel_rfl) (by exact fun _ _ _ h => h) (Or.inl ⟨by rfl, ?yq1⟩) (by assumption) ?rq1
      case yq1 => (intro w hSw; (try dsimp only at hSw); go_simp; try with_reducible rfl)
      try simp only [Act.put, List.setIfInBounds_toArray, List.set_cons_zero, List.set_cons_succ]
      refine wpAnyH_take (i := 1) (v := ?vq2) (by simp only [List.getElem?_toArray]; rfl) (by kernel_rfl) (by kernel_rfl) (by kernel_rfl) (by exact fun _ _ _ h => h) (Or.inl ⟨by rfl, ?yq2⟩) (by assumption) ?rq2
      case yq2 => (intro w hSw; (try dsimp only at hSw); go_simp; try with_reducible rfl)
      try simp only [Act.put, List.setIfInBounds_toArray, List.set_cons_zero, List.set_cons_succ]
      refine wpAnyH_take (i := 2) (v := ?vq3) (by simp only [List.getElem?_toArray]; rfl) (by kernel_rfl) (by kernel_rfl) (by kernel_rfl) (by exact fun _ _ _ h => h) (Or.inl ⟨by rfl, ?yq3⟩) (by assumption) ?rq3
      case yq3 => (intro w hSw; (try dsimp only at hSw); go_simp; try with_reducible rfl)
      try simp only [Act.put, List.setIfInBounds_toArray, List.set_cons_zero, List.set_cons_succ]
      refine wpAnyH_take (i := 3) (v := ?vq4) (by simp only [List.getElem?_toArray]; rfl) (by kernel_rfl) (by kernel_rfl) (by kernel_rfl) (by exact fun _ _ _ h => h) (Or.inl ⟨by rfl, ?yq4⟩) (by assumption) ?rq4
      case yq4 => (intro w hSw; (try dsimp only at hSw); go_simp; try with_reducible rfl)
      try simp only [Act.put, List.setIfInBounds_toArray, List.set_cons_zero, List.set_cons_succ]
      refine wpAnyH_take (i := 4) (v := ?vq5) (by simp only [List.getElem?_toArray]; rfl) (by kernel_rfl) (by kernel_rfl) (by kernel_rfl) (by exact fun _ _ _ h => h) (Or.inl ⟨by rfl, ?yq5⟩) (by assumption) ?rq5
      case yq5 => (intro w hSw; (try dsimp only at hSw); go_simp; try with_reducible rfl)
      try simp only [Act.put, List.setIfInBounds_toArray, List.set_cons_zero, List.set_cons_succ]
      refine wpAnyH_take (i := 5) (v := ?vq6) (by simp only [List.getElem?_toArray]; rfl) (by kernel_rfl) (by kernel_rfl) (by kernel_rfl) (by exact fun _ _ _ h => h) (Or.inl ⟨by rfl, ?yq6⟩) (by assumption) ?rq6
      case yq6 => (intro w hSw; (try dsimp only at hSw); go_simp; try with_reducible rfl)
      try simp only [Act.put, List.setIfInBounds_toArray, List.set_cons_zero, List.set_cons_succ]
      refine wpAnyH_take (i := 6) (v := ?vq7) (by simp only [List.getElem?_toArray]; rfl) (by kernel_rfl) (by kernel_rfl) (by kernel_rfl) (by exact fun _ _ _ h => h) (Or.inl ⟨by rfl, ?yq7⟩) (by assumption) ?rq7
      case yq7 => (intro w hSw; (try dsimp only at hSw); go_simp; try with_reducible rfl)
      try simp only [Act.put, List.setIfInBounds_toArray, List.set_cons_zero, List.set_cons_succ]
      refine wpAnyH_take (i := 9) (v := ?vq8) (by simp only [List.getElem?_toArray]; rfl) (by kernel_rfl) (by kernel_rfl) (by kernel_rfl) (by exact fun _ _ _ h => h) (Or.inl ⟨by rfl, ?yq8⟩) (by assumption) ?rq8
      case yq8 => (intro w hSw; (try dsimp only at hSw); go_simp; try with_reducible rfl)
      try simp only [Act.put, List.setIfInBounds_toArray, List.set_cons_zero, List.set_cons_succ]
      refine wpAnyH_take (i := 10) (v := ?vq9) (by simp only [List.getElem?_toArray]; rfl) (by kernel_rfl) (by kernel_rfl) (by kernel_rfl) (by exact fun _ _ _ h => h) (Or.inl ⟨by rfl, ?yq9⟩) (by assumption) ?rq9
      case yq9 => (intro w hSw; (try dsimp only at hSw); go_simp; try with_reducible rfl)
      try simp only [Act.put, List.setIfInBounds_toArray, List.set_cons_zero, List.set_cons_succ]
      refine wpAnyH_take (i := 12) (v := ?vq10) (by simp only [List.getElem?_toArray]; rfl) (by kernel_rfl) (by kernel_rfl) (by kernel_rfl) (by exact fun _ _ _ h => h) (Or.inl ⟨by rfl, ?yq10⟩) (by assumption) ?rq10
      case yq10 => (intro w hSw; (try dsimp only at hSw); go_simp; try with_reducible rfl)
      try simp only [Act.put, List.setIfInBounds_toArray, List.set_cons_zero, List.set_cons_succ]
      refine wpAnyH_take (i := 13) (v := ?vq11) (by simp only [List.getElem?_toArray]; rfl) (by kernel_rfl) (by kernel_rfl) (by kernel_rfl) (by exact fun _ _ _ h => h) (Or.inl ⟨by rfl, ?yq11⟩) (by assumption) ?rq11
      case yq11 => (intro w hSw; (try dsimp only at hSw); go_simp; try with_reducible rfl)
      try simp only [Act.put, List.setIfInBounds_toArray, List.set_cons_zero, List.set_cons_succ]
      refine wpAnyH_ready (rs := [7]) (by kernel_rfl) (by simp) ?_
      refine AllReadyH.cons (by simp only [List.getElem?_toArray]; rfl) (fun K hK => ?_) AllReadyH.nil
      go_simp
      obtain ⟨w6, hw6⟩ : ∃ z, z = (wr.alloc (.cells #[.int .u8 ka, .int .u8 kb] 5)).drew := ⟨_, rfl⟩
      have hb6 : Below wr.heap.size wr w6 := by rw [hw6]; exact ((Below.refl _ _).alloc (Nat.le_refl _) _).drew
      have HB6 := Lib.hid (HBR.out.trans (hb6.mono HBR.out.size))
      have hrd : Rd w6 (.slice (some ⟨wr.heap.size, 0, none⟩) 2 2) [UInt8.ofNat ka, UInt8.ofNat kb] := by
        rw [hw6]
        refine Rd.below (w := wr.alloc (.cells #[.int .u8 ka, .int .u8 kb] 5)) ?_ (Below.refl _ _).drew
        exact rd_lit wr [UInt8.ofNat ka, UInt8.ofNat kb] _ _ 2 (by simp [u8s]; omega) rfl (by show 2 ≤ _; omega)
      have hcv := run_str hrd
      rw [← HKM.out] at hcv
      have HBB := Lib.hid (HB.out.below hb6)
      refine hK.out _ _ (by rw [← hw6]; exact HSS.out _ HB6.out) (fun hHeld => ?_)
      clear hK K
      try simp only [Act.put, List.setIfInBounds_toArray, List.set_cons_zero, List.set_cons_succ]
      rw [← hw6]
      clear hw6 hrd hb6
      refine wpAnyH_ready (rs := [8]) (by kernel_rfl) (by simp) ?_
      refine AllReadyH.cons (by simp only [List.getElem?_toArray]; rfl) (fun K hK => ?_) AllReadyH.nil
      go_simp
      refine hK.out _ _ (HSS.out _ HB6.out) (fun hHeld => ?_)
      clear hK K
      try simp only [Act.put, List.setIfInBounds_toArray, List.set_cons_zero, List.set_cons_succ]
      refine wpAnyH_take (i := 11) (v := ?vq12) (by simp only [List.getElem?_toArray]; rfl) (by kernel_rfl) (by kernel_rfl) (by kernel_rfl) (by exact fun _ _ _ h => h) (Or.inl ⟨by rfl, ?yq12⟩) (by assumption) ?rq12
      case yq12 => (intro w hSw; (try dsimp only at hSw); go_simp; try with_reducible rfl)
      try simp only [Act.put, List.setIfInBounds_toArray, List.set_cons_zero, List.set_cons_succ]
      refine wpAnyH_take (i := 14) (v := ?vq13) (by simp only [List.getElem?_toArray]; rfl) (by kernel_rfl) (by kernel_rfl) (by kernel_rfl) (by exact fun _ _ _ h => h) (Or.inl ⟨by rfl, ?yq13⟩) (by assumption) ?rq13
      case yq13 => (intro w hSw; (try dsimp only at hSw); go_simp; try with_reducible rfl)
      try simp only [Act.put, List.setIfInBounds_toArray, List.set_cons_zero, List.set_cons_succ]
      refine wpAnyH_take (i := 15) (v := ?vq14) (by simp only [List.getElem?_toArray]; rfl) (by kernel_rfl) (by kernel_rfl) (by kernel_rfl) (by exact fun _ _ _ h => h) (Or.inl ⟨by rfl, ?yq14⟩) (by assumption) ?rq14
      case yq14 => (intro w hSw; (try dsimp only at hSw); go_simp; try with_reducible rfl)
      try simp only [Act.put, List.setIfInBounds_toArray, List.set_cons_zero, List.set_cons_succ]
      have hcell : ∀ j, j < 4 → ∃ z, w6.cell? ⟨gL, k * 4 + j, none⟩ = some z := fun j hj => ⟨_, by rw [HBB.out.cell]; exact Array.getElem?_eq_getElem (by have := HSZ.out; omega)⟩
      obtain ⟨z0, y0⟩ := hcell 0 (by omega)
      obtain ⟨z1, y1⟩ := hcell 1 (by omega)
      obtain ⟨z2, y2⟩ := hcell 2 (by omega)
      obtain ⟨z3, y3⟩ := hcell 3 (by omega)
      rw [Nat.add_zero] at y0
      have g0 := HBB.out.free (k * 4)
      have g1 := HBB.out.free (k * 4 + 1)
      have g2 := HBB.out.free (k * 4 + 2)
      have g3 := HBB.out.free (k * 4 + 3)
      clear hcell
      obtain ⟨w7, hw7⟩ : ∃ z, z = (((w6.setCell ⟨gL, k * 4, none⟩ (.string (bs (keyM k)))).setCell ⟨gL, k * 4 + 1, none⟩ (.int .u64 k)).setCell ⟨gL, k * 4 + 2, none⟩ (.bool false)).setCell ⟨gL, k * 4 + 3, none⟩ (.string (bs [u1, u2])) := ⟨_, rfl⟩
      have HB7 : Hid (Below W.heap.size W w7) := by
        rw [hw7]
        exact (((HB6.out.setCell (p := ⟨gL, k * 4, none⟩) hgLW _).setCell (p := ⟨gL, k * 4 + 1, none⟩) hgLW _).setCell (p := ⟨gL, k * 4 + 2, none⟩) hgLW _).setCell (p := ⟨gL, k * 4 + 3, none⟩) hgLW _
      have HM7 : Hid (ManySt [u1, u2] gL nn W (k + 1) w7) := by
        refine ⟨_, by rw [hw7]; exact (((HBB.out.set (k * 4) _).set (k * 4 + 1) _).set (k * 4 + 2) _).set (k * 4 + 3) _, by simp only [Array.size_setIfInBounds]; exact HSZ.out, ?_, HB7.out⟩
        simp only [Array.toList_setIfInBounds]
        rw [Nat.add_mul, Nat.one_mul, set_four (pcells (rowsM [u1, u2] k)) cs.toList (k * 4) _ _ _ _ HTK.out (by rw [Array.length_toList, HSZ.out]; omega), rowsM_succ, pcells_app]
        rfl
      refine wpAnyH_ready (rs := [16]) (by kernel_rfl) (by simp) ?_
      refine AllReadyH.cons (by simp only [List.getElem?_toArray]; rfl) (fun K hK => ?_) AllReadyH.nil
      go_simp
      refine hK.out _ _ (by rw [← hw7]; exact HSS.out _ HB7.out) (fun hHeld => ?_)
      clear hK K
      try simp only [Act.put, List.setIfInBounds_toArray, List.set_cons_zero, List.set_cons_succ]
      refine wpAnyH_done (by kernel_rfl) ?_ _
      rw [← hw7]
      clear hw7 y0 y1 y2 y3 g0 g1 g2 g3 hHeld
      go_wp2_with fail
      go_roundw
      case rel => exact ⟨k + 1, by omega, by go_num, HM7⟩
      case measure => simp [intOf]; omega
    · obtain rfl : k = nn := by omega
      obtain ⟨cs, hB, hsz, htk, hbr⟩ := HR.out
      have hrd : RdE wr (.slice (some ⟨gL, 0, none⟩) k k) (rowsM [u1, u2] k) := by
        have h : Reads wr 4 (.slice (some ⟨gL, 0, none⟩) k k) k (pcells (rowsM [u1, u2] k)) := by
          refine ⟨_, k, rfl, by rw [pcells_length, rowsM_len], Nat.le_refl _, by omega, fun j hj => ⟨gL, 0, rfl, ?_⟩⟩
          rw [hB.cell, Nat.zero_add]
          have hj2 : j < k * 4 := by rw [pcells_length, rowsM_len] at hj; exact hj
          have e : (pcells (rowsM [u1, u2] k))[j]? = cs.toList[j]? := by rw [← htk, List.getElem?_take, if_pos hj2]
          rw [List.getElem?_eq_getElem hj] at e
          rw [e]; simp
        exact (rdE_of h).2
      have HRD := Lib.hid hrd
      have HBR := Lib.hid (HBW.out.trans (hbr.mono HBW.out.size))
      have hms := mayM [u1, u2] k (by omega) (by omega) (by simp)
      have hlen : (entsOf (rowsM [u1, u2] k)).length = k := by rw [entsOf_length, rowsM_len]
      have hsq := seqsM [u1, u2] k (by omega)
      clear hB hsz htk hbr hrd HR
      by_cases hmax : 4096 < k
      · have HP := Lib.hid (sput_no wr _ (rowsM [u1, u2] k) 3 HRD.out hsq (by rw [rowsM_len]; omega) (errS_limit hms (by rw [hlen]; omega)) (by decide))
        clear hms hlen hsq
        go_upto_region 9 with (go_at_call 12; refine HP.out.mono ?_; rintro e w5 ⟨⟨pa, pc, rfl⟩, bel5⟩)
        go_wp2_with (go_at_call 10; refine (hend _).out.mono ?_; rintro e w6 ⟨rfl, bel6⟩)
        have hb := HBR.out.trans ((bel5.trans (bel6.mono bel5.size)).mono HBR.out.size)
        go_ret
        exact ⟨rfl, hb⟩
      have he := errS_ok hms (by rw [hlen]; omega)
      have HP := Lib.hid (sput_is wr _ (rowsM [u1, u2] k) HRD.out hsq (by rw [rowsM_len]; omega) he)
      have hIS := isS_put (E := entsOf (rowsM [u1, u2] k)) (fun x hx => by obtain ⟨y, hy, rfl⟩ := List.mem_map.1 hx; exact hsq y hy) he
      rw [outS_ok he] at hIS
      have HIS := Lib.hid hIS
      have HFL := Lib.hid (fileS_small hms (by rw [hlen]; omega))
      clear hms hlen hsq he hIS
      go_upto_region 10 with (go_at_call 12; refine HP.out.mono ?_; rintro e w5 ⟨pa, pn, pc, rfl, HPN, HPO, bel5⟩)
      obtain ⟨e1, he1⟩ : ∃ e, e = k - 1 := ⟨_, rfl⟩
      obtain ⟨f1, hf1⟩ : ∃ e, e = k - 3 := ⟨_, rfl⟩
      have hk1 : e1 + 1 = k := by omega
      have hk3 : f1 + 3 = k := by omega
      have hs1 : (k : Int) - 1 = (e1 : Int) := by omega
      have hs3 : (k : Int) - 3 = (f1 : Int) := by omega
      have hw1 : IntKind.i64.wrap (e1 : Int) = (e1 : Int) := IntWalk.i64_in _ (by omega)
      have hw3 : IntKind.i64.wrap (f1 : Int) = (f1 : Int) := IntWalk.i64_in _ (by omega)
      have hlt1 : e1 < k := by omega
      have hlt3 : f1 < k := by omega
      have HROW : Hid (∀ i, i < k → ∀ w', Below wr.heap.size wr w' → w'.cell? ⟨gL, i * 4, none⟩ = some (.string (bs (keyM i))) ∧ w'.cell? ⟨gL, i * 4 + 1, none⟩ = some (.int .u64 i) ∧ w'.cell? ⟨gL, i * 4 + 2, none⟩ = some (.bool false) ∧ w'.cell? ⟨gL, i * 4 + 3, none⟩ = some (.string (bs [u1, u2]))) := fun i hi w' hb => by
        obtain ⟨a, cap, hve, _, _, hcell⟩ := HRD.out.below hb
        obtain ⟨b3, off3, hae2, c0, c1, c2, c3⟩ := hcell i (by rw [rowsM_len]; exact hi)
        simp only [Value.slice.injEq] at hve
        obtain ⟨e1, el, ec⟩ := hve
        rw [hae2] at e1
        simp only [Option.some.injEq, Addr.mk.injEq, and_true] at e1
        obtain ⟨e2, e3⟩ := e1
        subst e2
        subst e3
        rw [rowsM_get] at c0 c1 c2 c3
        simp only [Nat.zero_add] at c0 c1 c2 c3
        exact ⟨c0, c1, c2, c3⟩
      have hg := getM [u1, u2] e1 9223372036854775808 (by omega) (by simp) (by omega)
      rw [hk1] at hg
      have hr5 := (rd_of_own HPO.out).2
      have HG := Lib.hid (sget_some w5 (.slice pa pn pc) _ _ 0 (bs (keyM e1)) 9223372036854775808 (rowM [u1, u2] e1).ent (.agg #[.string (bs (keyM e1)), .int .u64 e1, .bool false, .string (bs [u1, u2])]) hr5 (by have := HFL.out; omega) (.inl ⟨rfl, HIS.out⟩) (by rw [bs_data]; exact hg) (by show Value.agg _ = _; simp only [rowM, PE.ent, entOf, bs_of]))
      have HR5 := Lib.hid hr5
      have HB5 := Lib.hid bel5
      obtain ⟨c0, c1, c2, c3⟩ := HROW.out e1 hlt1 w5 bel5
      have hsk := seekM [u1, u2] f1 (by omega) (by omega) (by simp)
      rw [hk3] at hsk
      have HSK := Lib.hid hsk
      have HK3 := Lib.hid hk3
      clear hg hr5 bel5 HP HPO he1 hf1 hk1 hk3 hsk
      go_upto_region 11 with (go_at_call 16; refine HG.out.mono ?_; rintro e w6 ⟨rfl, hb6⟩)
      obtain ⟨gY, hgY⟩ : ∃ g, g = w6.heap.size := ⟨_, rfl⟩
      obtain ⟨w7, hw7⟩ : ∃ z, z = w6.alloc (.cells #[.string (bs (keyM e1)), .int .u64 e1, .bool false, .string (bs [u1, u2])] 37) := ⟨_, rfl⟩
      have hb7 : Below w5.heap.size w5 w7 := by rw [hw7]; exact hb6.trans (((Below.refl _ _).alloc (Nat.le_refl _) _).mono hb6.size)
      have HY7 : Hid (Blk w7 gY #[.string (bs (keyM e1)), .int .u64 e1, .bool false, .string (bs [u1, u2])] 37) := Lib.hid (by rw [hw7]; exact Blk.new_at _ _ _ _ hgY)
      rw [← hgY, ← hw7]
      have HB7 := Lib.hid (HB5.out.trans (hb7.mono HB5.out.size))
      have HR7 := Lib.hid (HR5.out.below hb7)
      clear hgY hw7 hb6 hb7 c0 c1 c2 c3 HG HR5 HB5
      obtain ⟨c0, c1, c2, c3⟩ := HROW.out f1 hlt3 w7 HB7.out
      have hfr := sortedFrom_any w7 (.slice pa pn pc) _ _ 0 (bs (keyM f1)) f1 false 9 HR7.out (by have := HFL.out; omega) (.inl ⟨rfl, HIS.out⟩) (by decide) (by decide)
      rw [bs_data, HSK.out] at hfr
      have hl3 : ((entsOf (rowsM [u1, u2] k)).drop f1).length = 3 := by rw [List.length_drop, entsOf_length, rowsM_len]; have := HK3.out; omega
      rw [hl3, show mostN 9 3 = 3 from rfl, List.take_of_length_le (Nat.le_of_eq hl3)] at hfr
      have HFR := Lib.hid hfr
      clear hfr hl3 c3
      go_upto_region 12 with (go_at_call 17; refine HFR.out.mono ?_; rintro e w8 ⟨sa, sn, sc, rfl, HSN, HSO, hb8⟩)
      have HB8 := Lib.hid (HB7.out.trans (hb8.mono HB7.out.size))
      have HY8 := Lib.hid (HY7.out.below hb8)
      have HMR := Lib.hid (rdE_of (reads_of_own HSO.out)).2
      obtain ⟨ta, tc, hcut, hcr⟩ := cutE_rest (HRD.out.below HB8.out) f1 3 (by rw [rowsM_len]; have := HK3.out; omega)
      have hcut2 := fun w' => hcut w' .i64
      have hmr := HMR.out
      rw [List.map_drop, toPE_entsOf] at hmr
      have HSE := Lib.hid (fun w' (hb : Below w8.heap.size w8 w') => sameE_any w' (.slice sa sn sc) (.slice ta 3 tc) _ (hmr.below hb) (hcr.below hb))
      have HSS : Hid (∀ w', Below w8.heap.size w8 w' → (fun w' => Below w8.heap.size w8 w' ∧ w'.cell? ⟨gY, 0, none⟩ = some (.string (bs (keyM e1))) ∧ w'.cell? ⟨gY, 1, none⟩ = some (.int .u64 e1) ∧ w'.cell? ⟨gY, 2, none⟩ = some (.bool false) ∧ w'.cell? ⟨gY, 3, none⟩ = some (.string (bs [u1, u2])) ∧ w'.cell? ⟨gL, e1 * 4, none⟩ = some (.string (bs (keyM e1))) ∧ w'.cell? ⟨gL, e1 * 4 + 1, none⟩ = some (.int .u64 e1) ∧ w'.cell? ⟨gL, e1 * 4 + 2, none⟩ = some (.bool false) ∧ w'.cell? ⟨gL, e1 * 4 + 3, none⟩ = some (.string (bs [u1, u2]))) w') := fun w' hb => by
        have q := HY8.out.below hb
        obtain ⟨d0, d1, d2, d3⟩ := HROW.out e1 hlt1 w' (HB8.out.trans (hb.mono HB8.out.size))
        exact ⟨hb, q.cellv 0 _ rfl, q.cellv 1 _ rfl, q.cellv 2 _ rfl, q.cellv 3 _ rfl, d0, d1, d2, d3⟩
      clear hcut hcr hmr HMR HSO HSN HFR HY7 HY8 hb8 c0 c1 c2 HR7 HB7
      refine wp_region_held_drew (S := fun w' => Below w8.heap.size w8 w' ∧ w'.cell? ⟨gY, 0, none⟩ = some (.string (bs (keyM e1))) ∧ w'.cell? ⟨gY, 1, none⟩ = some (.int .u64 e1) ∧ w'.cell? ⟨gY, 2, none⟩ = some (.bool false) ∧ w'.cell? ⟨gY, 3, none⟩ = some (.string (bs [u1, u2])) ∧ w'.cell? ⟨gL, e1 * 4, none⟩ = some (.string (bs (keyM e1))) ∧ w'.cell? ⟨gL, e1 * 4 + 1, none⟩ = some (.int .u64 e1) ∧ w'.cell? ⟨gL, e1 * 4 + 2, none⟩ = some (.bool false) ∧ w'.cell? ⟨gL, e1 * 4 + 3, none⟩ = some (.string (bs [u1, u2]))) (by kernel_rfl) (HSS.out _ (Below.refl _ _).drew) (fun hHeld => ?_)
      have BD : Below w8.heap.size w8 w8.drew := (Below.refl _ _).drew
      refine wpAnyH_ready (rs := [0]) (by kernel_rfl) (by simp) ?_
      refine AllReadyH.cons (by simp only [List.getElem?_toArray]; rfl) (fun K hK => ?_) AllReadyH.nil
      go_simp
      refine (hend _).out.mono ?_
      rintro e w9 ⟨rfl, hb9⟩
      have B9 := BD.trans (hb9.mono BD.size)
      refine hK.out _ _ (HSS.out _ B9) (fun hHeld => ?_)
      clear hK K
      try simp only [Act.put, List.setIfInBounds_toArray, List.set_cons_zero, List.set_cons_succ]
      refine wpAnyH_take (i := 1) (v := ?vq15) (by simp only [List.getElem?_toArray]; rfl) (by kernel_rfl) (by kernel_rfl) (by kernel_rfl) (by exact fun _ _ _ h => h) (Or.inl ⟨by rfl, ?yq15⟩) (by assumption) ?rq15
      case yq15 => (intro w hSw; (try dsimp only at hSw); go_simp; try with_reducible rfl)
      try simp only [Act.put, List.setIfInBounds_toArray, List.set_cons_zero, List.set_cons_succ]
      refine wpAnyH_take (i := 2) (v := ?vq16) (by simp only [List.getElem?_toArray]; rfl) (by kernel_rfl) (by kernel_rfl) (by kernel_rfl) (by exact fun _ _ _ h => h) (Or.inl ⟨by rfl, ?yq16⟩) (by assumption) ?rq16
      case yq16 => (intro w hSw; (try dsimp only at hSw); go_simp; try with_reducible rfl)
      try simp only [Act.put, List.setIfInBounds_toArray, List.set_cons_zero, List.set_cons_succ]
      refine wpAnyH_take (i := 3) (v := ?vq17) (by simp only [List.getElem?_toArray]; rfl) (by kernel_rfl) (by kernel_rfl) (by kernel_rfl) (by exact fun _ _ _ h => h) (Or.inl ⟨by rfl, ?yq17⟩) (by assumption) ?rq17
      case yq17 => (intro w hSw; (try dsimp only at hSw); go_simp; try with_reducible rfl)
      try simp only [Act.put, List.setIfInBounds_toArray, List.set_cons_zero, List.set_cons_succ]
      refine wpAnyH_take (i := 4) (v := ?vq18) (by simp only [List.getElem?_toArray]; rfl) (by kernel_rfl) (by kernel_rfl) (by kernel_rfl) (by exact fun _ _ _ h => h) (Or.inl ⟨by rfl, ?yq18⟩) (by assumption) ?rq18
      case yq18 => (intro w hSw; (try dsimp only at hSw); go_simp; try with_reducible rfl)
      try simp only [Act.put, List.setIfInBounds_toArray, List.set_cons_zero, List.set_cons_succ]
      refine wpAnyH_take (i := 5) (v := ?vq19) (by simp only [List.getElem?_toArray]; rfl) (by kernel_rfl) (by kernel_rfl) (by kernel_rfl) (by exact fun _ _ _ h => h) (Or.inl ⟨by rfl, ?yq19⟩) (by assumption) ?rq19
      case yq19 => (intro w hSw; (try dsimp only at hSw); go_simp; try with_reducible rfl)
      try simp only [Act.put, List.setIfInBounds_toArray, List.set_cons_zero, List.set_cons_succ]
      refine wpAnyH_take (i := 6) (v := ?vq20) (by simp only [List.getElem?_toArray]; rfl) (by kernel_rfl) (by kernel_rfl) (by kernel_rfl) (by exact fun _ _ _ h => h) (Or.inl ⟨by rfl, ?yq20⟩) (by assumption) ?rq20
      case yq20 => (intro w hSw; (try dsimp only at hSw); go_simp; try with_reducible rfl)
      try simp only [Act.put, List.setIfInBounds_toArray, List.set_cons_zero, List.set_cons_succ]
      refine wpAnyH_take (i := 7) (v := ?vq21) (by simp only [List.getElem?_toArray]; rfl) (by kernel_rfl) (by kernel_rfl) (by kernel_rfl) (by exact fun _ _ _ h => h) (Or.inl ⟨by rfl, ?yq21⟩) (by assumption) ?rq21
      case yq21 => (intro w hSw; (try dsimp only at hSw); go_simp; try with_reducible rfl)
      try simp only [Act.put, List.setIfInBounds_toArray, List.set_cons_zero, List.set_cons_succ]
      refine wpAnyH_take (i := 8) (v := ?vq22) (by simp only [List.getElem?_toArray]; rfl) (by kernel_rfl) (by kernel_rfl) (by kernel_rfl) (by exact fun _ _ _ h => h) (Or.inl ⟨by rfl, ?yq22⟩) (by assumption) ?rq22
      case yq22 => (intro w hSw; (try dsimp only at hSw); go_simp; try with_reducible rfl)
      try simp only [Act.put, List.setIfInBounds_toArray, List.set_cons_zero, List.set_cons_succ]
      refine wpAnyH_take (i := 9) (v := ?vq23) (by simp only [List.getElem?_toArray]; rfl) (by kernel_rfl) (by kernel_rfl) (by kernel_rfl) (by exact fun _ _ _ h => h) (Or.inl ⟨by rfl, ?yq23⟩) (by assumption) ?rq23
      case yq23 => (intro w hSw; (try dsimp only at hSw); go_simp; try with_reducible rfl)
      try simp only [Act.put, List.setIfInBounds_toArray, List.set_cons_zero, List.set_cons_succ]
      refine wpAnyH_take (i := 10) (v := ?vq24) (by simp only [List.getElem?_toArray]; rfl) (by kernel_rfl) (by kernel_rfl) (by kernel_rfl) (by exact fun _ _ _ h => h) (Or.inl ⟨by rfl, ?yq24⟩) (by assumption) ?rq24
      case yq24 => (intro w hSw; (try dsimp only at hSw); go_simp; try with_reducible rfl)
      try simp only [Act.put, List.setIfInBounds_toArray, List.set_cons_zero, List.set_cons_succ]
      refine wpAnyH_take (i := 11) (v := ?vq25) (by simp only [List.getElem?_toArray]; rfl) (by kernel_rfl) (by kernel_rfl) (by kernel_rfl) (by exact fun _ _ _ h => h) (Or.inl ⟨by rfl, ?yq25⟩) (by assumption) ?rq25
      case yq25 => (intro w hSw; (try dsimp only at hSw); go_simp; try with_reducible rfl)
      try simp only [Act.put, List.setIfInBounds_toArray, List.set_cons_zero, List.set_cons_succ]
      refine wpAnyH_take (i := 12) (v := ?vq26) (by simp only [List.getElem?_toArray]; rfl) (by kernel_rfl) (by kernel_rfl) (by kernel_rfl) (by exact fun _ _ _ h => h) (Or.inl ⟨by rfl, ?yq26⟩) (by assumption) ?rq26
      case yq26 => (intro w hSw; (try dsimp only at hSw); go_simp; try with_reducible rfl)
      try simp only [Act.put, List.setIfInBounds_toArray, List.set_cons_zero, List.set_cons_succ]
      refine wpAnyH_take (i := 13) (v := ?vq27) (by simp only [List.getElem?_toArray]; rfl) (by kernel_rfl) (by kernel_rfl) (by kernel_rfl) (by exact fun _ _ _ h => h) (Or.inl ⟨by rfl, ?yq27⟩) (by assumption) ?rq27
      case yq27 => (intro w hSw; (try dsimp only at hSw); go_simp; try with_reducible rfl)
      try simp only [Act.put, List.setIfInBounds_toArray, List.set_cons_zero, List.set_cons_succ]
      refine wpAnyH_take (i := 14) (v := ?vq28) (by simp only [List.getElem?_toArray]; rfl) (by kernel_rfl) (by kernel_rfl) (by kernel_rfl) (by exact fun _ _ _ h => h) (Or.inl ⟨by rfl, ?yq28⟩) (by assumption) ?rq28
      case yq28 => (intro w hSw; (try dsimp only at hSw); go_simp; try with_reducible rfl)
      try simp only [Act.put, List.setIfInBounds_toArray, List.set_cons_zero, List.set_cons_succ]
      refine wpAnyH_take (i := 15) (v := ?vq29) (by simp only [List.getElem?_toArray]; rfl) (by kernel_rfl) (by kernel_rfl) (by kernel_rfl) (by exact fun _ _ _ h => h) (Or.inl ⟨by rfl, ?yq29⟩) (by assumption) ?rq29
      case yq29 => (intro w hSw; (try dsimp only at hSw); go_simp; try with_reducible rfl)
      try simp only [Act.put, List.setIfInBounds_toArray, List.set_cons_zero, List.set_cons_succ]
      refine wpAnyH_take (i := 16) (v := ?vq30) (by simp only [List.getElem?_toArray]; rfl) (by kernel_rfl) (by kernel_rfl) (by kernel_rfl) (by exact fun _ _ _ h => h) (Or.inl ⟨by rfl, ?yq30⟩) (by assumption) ?rq30
      case yq30 => (intro w hSw; (try dsimp only at hSw); go_simp; try with_reducible rfl)
      try simp only [Act.put, List.setIfInBounds_toArray, List.set_cons_zero, List.set_cons_succ]
      refine wpAnyH_take (i := 17) (v := ?vq31) (by simp only [List.getElem?_toArray]; rfl) (by kernel_rfl) (by kernel_rfl) (by kernel_rfl) (by exact fun _ _ _ h => h) (Or.inl ⟨by rfl, ?yq31⟩) (by assumption) ?rq31
      case yq31 => (intro w hSw; (try dsimp only at hSw); go_simp; try with_reducible rfl)
      try simp only [Act.put, List.setIfInBounds_toArray, List.set_cons_zero, List.set_cons_succ]
      refine wpAnyH_take (i := 18) (v := ?vq32) (by simp only [List.getElem?_toArray]; rfl) (by kernel_rfl) (by kernel_rfl) (by kernel_rfl) (by exact fun _ _ _ h => h) (Or.inl ⟨by rfl, ?yq32⟩) (by assumption) ?rq32
      case yq32 => (intro w hSw; (try dsimp only at hSw); go_simp; try with_reducible rfl)
      try simp only [Act.put, List.setIfInBounds_toArray, List.set_cons_zero, List.set_cons_succ]
      refine wpAnyH_take (i := 19) (v := ?vq33) (by simp only [List.getElem?_toArray]; rfl) (by kernel_rfl) (by kernel_rfl) (by kernel_rfl) (by exact fun _ _ _ h => h) (Or.inl ⟨by rfl, ?yq33⟩) (by assumption) ?rq33
      case yq33 => (intro w hSw; (try dsimp only at hSw); go_simp; try with_reducible rfl)
      try simp only [Act.put, List.setIfInBounds_toArray, List.set_cons_zero, List.set_cons_succ]
      refine wpAnyH_take (i := 20) (v := ?vq34) (by simp only [List.getElem?_toArray]; rfl) (by kernel_rfl) (by kernel_rfl) (by kernel_rfl) (by exact fun _ _ _ h => h) (Or.inl ⟨by rfl, ?yq34⟩) (by assumption) ?rq34
      case yq34 => (intro w hSw; (try dsimp only at hSw); go_simp; try with_reducible rfl)
      try simp only [Act.put, List.setIfInBounds_toArray, List.set_cons_zero, List.set_cons_succ]
      refine wpAnyH_take (i := 21) (v := ?vq35) (by simp only [List.getElem?_toArray]; rfl) (by kernel_rfl) (by kernel_rfl) (by kernel_rfl) (by exact fun _ _ _ h => h) (Or.inl ⟨by rfl, ?yq35⟩) (by assumption) ?rq35
      case yq35 => (intro w hSw; (try dsimp only at hSw); go_simp; try with_reducible rfl)
      try simp only [Act.put, List.setIfInBounds_toArray, List.set_cons_zero, List.set_cons_succ]
      refine wpAnyH_take (i := 22) (v := ?vq36) (by simp only [List.getElem?_toArray]; rfl) (by kernel_rfl) (by kernel_rfl) (by kernel_rfl) (by exact fun _ _ _ h => h) (Or.inl ⟨by rfl, ?yq36⟩) (by assumption) ?rq36
      case yq36 => (intro w hSw; (try dsimp only at hSw); go_simp; try with_reducible rfl)
      try simp only [Act.put, List.setIfInBounds_toArray, List.set_cons_zero, List.set_cons_succ]
      refine wpAnyH_take (i := 23) (v := ?vq37) (by simp only [List.getElem?_toArray]; rfl) (by kernel_rfl) (by kernel_rfl) (by kernel_rfl) (by exact fun _ _ _ h => h) (Or.inl ⟨by rfl, ?yq37⟩) (by assumption) ?rq37
      case yq37 => (intro w hSw; (try dsimp only at hSw); go_simp; try with_reducible rfl)
      try simp only [Act.put, List.setIfInBounds_toArray, List.set_cons_zero, List.set_cons_succ]
      refine wpAnyH_take (i := 24) (v := ?vq38) (by simp only [List.getElem?_toArray]; rfl) (by kernel_rfl) (by kernel_rfl) (by kernel_rfl) (by exact fun _ _ _ h => h) (Or.inl ⟨by rfl, ?yq38⟩) (by assumption) ?rq38
      case yq38 => (intro w hSw; (try dsimp only at hSw); go_simp; try with_reducible rfl)
      try simp only [Act.put, List.setIfInBounds_toArray, List.set_cons_zero, List.set_cons_succ]
      refine wpAnyH_take (i := 25) (v := ?vq39) (by simp only [List.getElem?_toArray]; rfl) (by kernel_rfl) (by kernel_rfl) (by kernel_rfl) (by exact fun _ _ _ h => h) (Or.inl ⟨by rfl, ?yq39⟩) (by assumption) ?rq39
      case yq39 => (intro w hSw; (try dsimp only at hSw); go_simp; try with_reducible rfl)
      try simp only [Act.put, List.setIfInBounds_toArray, List.set_cons_zero, List.set_cons_succ]
      refine wpAnyH_take (i := 26) (v := ?vq40) (by simp only [List.getElem?_toArray]; rfl) (by kernel_rfl) (by kernel_rfl) (by kernel_rfl) (by exact fun _ _ _ h => h) (Or.inl ⟨by rfl, ?yq40⟩) (by assumption) ?rq40
      case yq40 => (intro w hSw; (try dsimp only at hSw); go_simp; try with_reducible rfl)
      try simp only [Act.put, List.setIfInBounds_toArray, List.set_cons_zero, List.set_cons_succ]
      refine wpAnyH_take (i := 27) (v := ?vq41) (by simp only [List.getElem?_toArray]; rfl) (by kernel_rfl) (by kernel_rfl) (by kernel_rfl) (by exact fun _ _ _ h => h) (Or.inl ⟨by rfl, ?yq41⟩) (by assumption) ?rq41
      case yq41 => (intro w hSw; (try dsimp only at hSw); go_simp; try with_reducible rfl)
      try simp only [Act.put, List.setIfInBounds_toArray, List.set_cons_zero, List.set_cons_succ]
      refine wpAnyH_take (i := 28) (v := ?vq42) (by simp only [List.getElem?_toArray]; rfl) (by kernel_rfl) (by kernel_rfl) (by kernel_rfl) (by exact fun _ _ _ h => h) (Or.inl ⟨by rfl, ?yq42⟩) (by assumption) ?rq42
      case yq42 => (intro w hSw; (try dsimp only at hSw); go_simp; try with_reducible rfl)
      try simp only [Act.put, List.setIfInBounds_toArray, List.set_cons_zero, List.set_cons_succ]
      refine wpAnyH_take (i := 29) (v := ?vq43) (by simp only [List.getElem?_toArray]; rfl) (by kernel_rfl) (by kernel_rfl) (by kernel_rfl) (by exact fun _ _ _ h => h) (Or.inl ⟨by rfl, ?yq43⟩) (by assumption) ?rq43
      case yq43 => (intro w hSw; (try dsimp only at hSw); go_simp; try with_reducible rfl)
      try simp only [Act.put, List.setIfInBounds_toArray, List.set_cons_zero, List.set_cons_succ]
      refine wpAnyH_take (i := 30) (v := ?vq44) (by simp only [List.getElem?_toArray]; rfl) (by kernel_rfl) (by kernel_rfl) (by kernel_rfl) (by exact fun _ _ _ h => h) (Or.inl ⟨by rfl, ?yq44⟩) (by assumption) ?rq44
      case yq44 => (intro w hSw; (try dsimp only at hSw); go_simp; try with_reducible rfl)
      try simp only [Act.put, List.setIfInBounds_toArray, List.set_cons_zero, List.set_cons_succ]
      refine wpAnyH_ready (rs := [31]) (by kernel_rfl) (by simp) ?_
      refine AllReadyH.cons (by simp only [List.getElem?_toArray]; rfl) (fun K hK => ?_) AllReadyH.nil
      go_simp
      refine (HSE.out _ B9).mono ?_
      rintro e w10 ⟨rfl, hb10⟩
      have B10 := B9.trans (hb10.mono B9.size)
      refine hK.out _ _ (HSS.out _ B10) (fun hHeld => ?_)
      clear hK K
      try simp only [Act.put, List.setIfInBounds_toArray, List.set_cons_zero, List.set_cons_succ]
      refine wpAnyH_take (i := 32) (v := ?vq45) (by simp only [List.getElem?_toArray]; rfl) (by kernel_rfl) (by kernel_rfl) (by kernel_rfl) (by exact fun _ _ _ h => h) (Or.inl ⟨by rfl, ?yq45⟩) (by assumption) ?rq45
      case yq45 => (intro w hSw; (try dsimp only at hSw); go_simp; try with_reducible rfl)
      try simp only [Act.put, List.setIfInBounds_toArray, List.set_cons_zero, List.set_cons_succ]
      refine wpAnyH_take (i := 33) (v := ?vq46) (by simp only [List.getElem?_toArray]; rfl) (by kernel_rfl) (by kernel_rfl) (by kernel_rfl) (by exact fun _ _ _ h => h) (Or.inl ⟨by rfl, ?yq46⟩) (by assumption) ?rq46
      case yq46 => (intro w hSw; (try dsimp only at hSw); go_simp; try with_reducible rfl)
      try simp only [Act.put, List.setIfInBounds_toArray, List.set_cons_zero, List.set_cons_succ]
      refine wpAnyH_done (by kernel_rfl) ?_ _
      have hbf := HBR.out.trans ((HB8.out.trans (B10.mono HB8.out.size)).mono HBR.out.size)
      go_wp2_with fail
      go_ret
      exact ⟨rfl, hbf⟩
end Go.Proofs.Ytbcnapkbdbefhaa

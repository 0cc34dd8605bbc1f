/- Walks of law01.SameEdit, edits.may, law11.may, edits.fine. The condition: values that read as files, as an edit. -/
import Derived.Test.YtimfcinkjjaigaaGreatDoorFl3
import Derived.Test.YtimfcinkjjaigaaGreatDoorOrder1
namespace Go.Proofs.YtimfcinkjjaigaaGreatDoor
open Go.RowKit

set_option maxRecDepth 100000 in
set_option maxHeartbeats 2000000 in
theorem sameX_any (w : World) (v v2 : Value) (x : PX) (hv : RdX w v x) (hv2 : RdX w v2 x) :
    Calls Tryz.prog 38 #[v, v2] w fun e w' => e = .returned (.bool true) ∧ Below w.heap.size w w' := by
  obtain ⟨a, r, rfl, ha, hr⟩ := hv
  obtain ⟨a2, r2, rfl, ha2, hr2⟩ := hv2
  obtain ⟨W, hW⟩ : ∃ W, W = (w.alloc (.cells (xcells a r x) 27)).alloc (.cells (xcells a2 r2 x) 27) := ⟨_, rfl⟩
  have hbl : Below w.heap.size w W := by rw [hW]; exact (alloc_bel w _).trans ((alloc_bel _ _).mono (alloc_bel w _).size)
  have b1 : Blk W w.heap.size (xcells a r x) 27 := by rw [hW]; exact (Blk.new _ _ _).alloc _
  have b2 : Blk W (w.heap.size + 1) (xcells a2 r2 x) 27 := by rw [hW]; exact Blk.new_at _ _ _ _ (by simp)
  have HA := Lib.hid (ha.below hbl)
  have HR := Lib.hid (hr.below hbl)
  have HA2 := Lib.hid (ha2.below hbl)
  have HR2 := Lib.hid (hr2.below hbl)
  have HBL := Lib.hid hbl
  have hcf : ∀ w', Below W.heap.size W w' → Hid (Calls Tryz.prog 13 #[a, a2] w' fun e w2 => e = .returned (.bool true) ∧ Below w'.heap.size w' w2) := fun w' h => Lib.hid (sameF_any w' a a2 x.add (HA.out.below h) (HA2.out.below h))
  have hcu : ∀ w', Below W.heap.size W w' → Hid (Calls Tryz.prog 138 #[r, r2] w' fun e w2 => e = .returned (.bool true) ∧ Below w'.heap.size w' w2) := fun w' h => Lib.hid (sameU_any w' r r2 x.rem (HR.out.below h) (HR2.out.below h))
  have HS : Hid (∀ w', Below W.heap.size W w' → (w'.cell? ⟨w.heap.size, 0, none⟩ = some a ∧ w'.cell? ⟨w.heap.size, 1, none⟩ = some r ∧ w'.cell? ⟨w.heap.size, 2, none⟩ = some (.int .u32 x.jo) ∧ w'.cell? ⟨w.heap.size, 3, none⟩ = some (.int .u32 x.nx) ∧ w'.cell? ⟨w.heap.size, 4, none⟩ = some (.int .u64 x.sq)) ∧
      w'.cell? ⟨w.heap.size + 1, 0, none⟩ = some a2 ∧ w'.cell? ⟨w.heap.size + 1, 1, none⟩ = some r2 ∧ w'.cell? ⟨w.heap.size + 1, 2, none⟩ = some (.int .u32 x.jo) ∧ w'.cell? ⟨w.heap.size + 1, 3, none⟩ = some (.int .u32 x.nx) ∧ w'.cell? ⟨w.heap.size + 1, 4, none⟩ = some (.int .u64 x.sq)) := Lib.hid fun w' h =>
    ⟨⟨(b1.below h).cell 0, (b1.below h).cell 1, (b1.below h).cell 2, (b1.below h).cell 3, (b1.below h).cell 4⟩, (b2.below h).cell 0, (b2.below h).cell 1, (b2.below h).cell 2, (b2.below h).cell 3, (b2.below h).cell 4⟩
  have HCF := Lib.hid hcf
  have HCU := Lib.hid hcu
  clear ha hr ha2 hr2 b1 b2 hbl hcf hcu HA HR HA2 HR2
  obtain ⟨⟨c0, c1, c2, c3, c4⟩, d0, d1, d2, d3, d4⟩ := HS.out W (Below.refl _ _)
  simp only [xcells] at hW
  go_enter Tryz.func38, Tryz.ntmps38
  go_wp2_with fail
  rw [← hW]
  clear hW
  refine (HCF.out W (Below.refl _ _)).out.mono ?_
  rintro e w2 ⟨rfl, bel⟩
  clear c0 c1 c2 c3 c4 d0 d1 d2 d3 d4
  obtain ⟨⟨c0, c1, c2, c3, c4⟩, d0, d1, d2, d3, d4⟩ := HS.out w2 bel
  have B2 := Lib.hid bel
  clear bel
  go_wp2_with fail
  refine (HCU.out w2 B2.out).out.mono ?_
  rintro e w3 ⟨rfl, bel⟩
  have B3 := Lib.hid (B2.out.trans (bel.mono B2.out.size))
  clear c0 c1 c2 c3 c4 d0 d1 d2 d3 d4 bel
  obtain ⟨⟨c0, c1, c2, c3, c4⟩, d0, d1, d2, d3, d4⟩ := HS.out w3 B3.out
  go_wp2
  go_ret
  exact ⟨by simp, HBL.out.trans (B3.out.mono HBL.out.size)⟩
--MAY
theorem leq_str (a b : ByteArray) : (Op.bytesLess a.toList b.toList || a.toList == b.toList) = !ltB b.data.toList a.data.toList := by
  rw [less_str, Lib.toList_data, Lib.toList_data]
  cases h : ltB b.data.toList a.data.toList with
  | true =>
    rw [ltB_asymm _ _ h]
    have : a.data.toList ≠ b.data.toList := fun e => by rw [e, ltB_self] at h; cases h
    simpa using this
  | false =>
    cases h2 : ltB a.data.toList b.data.toList with
    | true => rfl
    | false => rw [ltB_total _ _ h2 h]; simp
set_option maxRecDepth 100000 in
set_option maxHeartbeats 1000000 in
theorem mayF_any (w : World) (f : PF) :
    Calls Tryz.prog 150 #[.agg #[.int .u32 f.n, .int .i64 f.lv, .string f.a, .string f.b]] w fun e w' => e = .returned (.bool (mayF f)) ∧ Below w.heap.size w w' := by
  obtain ⟨fn, fl, fa, fb⟩ := f
  simp only
  obtain ⟨B, hB⟩ : ∃ B, B = mayF ⟨fn, fl, fa, fb⟩ := ⟨_, rfl⟩
  rw [← hB]
  have HB := Lib.hid hB
  clear hB
  have HL := Lib.hid (leq_str fa fb)
  by_cases p0 : 0 ≤ fl
  · have d0 : decide (0 ≤ fl) = true := by simpa using p0
    by_cases p1 : fl < 4
    · have d1 : decide (fl < 4) = true := by simpa using p1
      cases p2 : checkK fa.data.toList
      case false =>
        go_enter Tryz.func150, Tryz.ntmps150
        go_wp2_with (go_at_call 189; refine (check_any _ _).mono ?_; rintro e w' ⟨rfl, rfl⟩)
        go_ret
        have e : mayF ⟨fn, fl, fa, fb⟩ = false := by simp only [mayF, d0, d1, p2, Bool.true_and, Bool.false_and, Bool.and_true]
        exact ⟨by rw [HB.out, e]; rfl, alloc_bel _ _⟩
      case true =>
        cases p3 : checkK fb.data.toList
        case false =>
          go_enter Tryz.func150, Tryz.ntmps150
          go_wp2_with (go_at_call 189; refine (check_any _ _).mono ?_; rintro e w' ⟨rfl, rfl⟩)
          go_ret
          have e : mayF ⟨fn, fl, fa, fb⟩ = false := by simp only [mayF, d0, d1, p2, p3, Bool.true_and, Bool.false_and, Bool.and_true]
          exact ⟨by rw [HB.out, e]; rfl, alloc_bel _ _⟩
        case true =>
          go_enter Tryz.func150, Tryz.ntmps150
          go_wp2_with (go_at_call 189; refine (check_any _ _).mono ?_; rintro e w' ⟨rfl, rfl⟩)
          go_ret
          have e : mayF ⟨fn, fl, fa, fb⟩ = (Op.bytesLess fa.toList fb.toList || fa.toList == fb.toList) := by simp only [mayF, d0, d1, p2, p3, Bool.true_and, Bool.and_true]; exact HL.out.symm
          exact ⟨by rw [HB.out, e]; rfl, alloc_bel _ _⟩
    · have d1 : decide (fl < 4) = false := by simpa using p1
      go_enter Tryz.func150, Tryz.ntmps150
      go_wp2_with (go_at_call 189; refine (check_any _ _).mono ?_; rintro e w' ⟨rfl, rfl⟩)
      go_ret
      have e : mayF ⟨fn, fl, fa, fb⟩ = false := by simp only [mayF, d0, d1, Bool.true_and, Bool.false_and]
      exact ⟨by rw [HB.out, e]; rfl, alloc_bel _ _⟩
  · have d0 : decide (0 ≤ fl) = false := by simpa using p0
    go_enter Tryz.func150, Tryz.ntmps150
    go_wp2_with (go_at_call 189; refine (check_any _ _).mono ?_; rintro e w' ⟨rfl, rfl⟩)
    go_ret
    have e : mayF ⟨fn, fl, fa, fb⟩ = false := by simp only [mayF, d0, Bool.false_and]
    exact ⟨by rw [HB.out, e]; rfl, alloc_bel _ _⟩
end Go.Proofs.YtimfcinkjjaigaaGreatDoor

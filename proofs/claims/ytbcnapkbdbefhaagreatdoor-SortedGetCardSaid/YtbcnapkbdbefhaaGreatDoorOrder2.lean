/- Walks: order.Cmp and the reference's Less and Cmp. No condition. -/
import Derived.Test.YtbcnapkbdbefhaaGreatDoorOrder1
namespace Go.Proofs.YtbcnapkbdbefhaaGreatDoor
open Go.RowKit

set_option maxRecDepth 100000 in
theorem cmp1_any (a b : Nat) (k1 k2 : ByteArray) (w : World) (ha : w.cell? ⟨a, 0, none⟩ = some (.string k1)) (hb : w.cell? ⟨b, 0, none⟩ = some (.string k2)) :
    Calls Tryz.prog 153 #[.pointer (some ⟨a, 0, none⟩), .pointer (some ⟨b, 0, none⟩)] w fun e w' => e = .returned (.int .i64 (cmpS k1.data.toList k2.data.toList)) ∧ w = w' := by
  go_enter Tryz.func153, Tryz.ntmps153
  go_wp2_with fail
  refine (cmpString_any _ _ _).mono ?_
  rintro e w' ⟨rfl, rfl⟩
  go_wp2
  go_ret
  exact ⟨rfl, rfl⟩
set_option maxRecDepth 100000 in
theorem cmp2_any (a b : Nat) (s1 s2 : Nat) (w : World) (ha : w.cell? ⟨a, 1, none⟩ = some (.int .u64 s1)) (hb : w.cell? ⟨b, 1, none⟩ = some (.int .u64 s2)) :
    Calls Tryz.prog 155 #[.pointer (some ⟨a, 0, none⟩), .pointer (some ⟨b, 0, none⟩)] w fun e w' => e = .returned (.int .i64 (cmpN s1 s2)) ∧ w = w' := by
  go_enter Tryz.func155, Tryz.ntmps155
  go_wp2_with fail
  refine (cmpU64_any _ _ _).mono ?_
  rintro e w' ⟨rfl, rfl⟩
  go_wp2
  go_ret
  exact ⟨rfl, rfl⟩
set_option maxRecDepth 100000 in
theorem cmp3_any (a b : Nat) (g1 g2 : Bool) (w : World) (ha : w.cell? ⟨a, 2, none⟩ = some (.bool g1)) (hb : w.cell? ⟨b, 2, none⟩ = some (.bool g2)) :
    Calls Tryz.prog 157 #[.pointer (some ⟨a, 0, none⟩), .pointer (some ⟨b, 0, none⟩)] w fun e w' => e = .returned (.int .i64 (cmpN (flagN g1) (flagN g2))) ∧ ∃ n, w' = w.drewN n := by
  go_enter Tryz.func157, Tryz.ntmps157
  go_wp2
  go_quiet (first | (go_at_call 159; exact Calls.quiet_of_same ((flag_any _ _).mono fun _ _ ⟨he, hw⟩ => ⟨he, hw.symm⟩)) | (go_at_call 158; exact Calls.quiet_of_same ((cmpU8_any _ _ _).mono fun _ _ ⟨he, hw⟩ => ⟨he, hw.symm⟩)))
  go_wp2
  go_ret
  exact ⟨rfl, _, rfl⟩

theorem cell_first3 (w : World) (A : Array Value) (t : TypeId) (B C : Obj) (j : Nat) (x : Value) (h : A[j]? = some x) : (((w.alloc (.cells A t)).alloc B).alloc C).cell? ⟨w.heap.size, j, none⟩ = some x := by
  rw [World.cell?_alloc_past _ _ _ (by simp; omega), World.cell?_alloc_past _ _ _ (by simp), World.cell?_alloc_at _ _ _ _ rfl, h]
theorem cell_second3 (w : World) (A : Obj) (B : Array Value) (t : TypeId) (C : Obj) (j : Nat) (x : Value) (h : B[j]? = some x) : (((w.alloc A).alloc (.cells B t)).alloc C).cell? ⟨w.heap.size + 1, j, none⟩ = some x := by
  rw [World.cell?_alloc_past _ _ _ (by simp), World.cell?_alloc_at _ _ _ _ (by simp), h]
theorem below3 (w : World) (A B C : Obj) : Below w.heap.size w (((w.alloc A).alloc B).alloc C) :=
  (((Below.refl _ _).alloc (Nat.le_refl _) _).alloc (by simp) _).alloc (by simp; omega) _
theorem below2' (w : World) (A B : Obj) : Below w.heap.size w ((w.alloc A).alloc B) :=
  ((Below.refl _ _).alloc (Nat.le_refl _) _).alloc (by simp) _

def RetCmp (n : Int) (w : World) (e : Ending) (w' : World) : Prop := e = .returned (.int .i64 n) ∧ Below w.heap.size w w'
set_option maxRecDepth 100000 in
set_option maxHeartbeats 1000000 in
theorem orderCmp_any (k1 k2 : ByteArray) (s1 s2 : Nat) (g1 g2 : Bool) (w : World) :
    Calls Tryz.prog 94 #[.agg #[.string k1, .int .u64 s1, .bool g1], .agg #[.string k2, .int .u64 s2, .bool g2]] w (RetCmp (cmpM k1.data.toList s1 g1 k2.data.toList s2 g2) w) := by
  by_cases h1 : cmpS k1.data.toList k2.data.toList = 0
  · have hb1 : (cmpS k1.data.toList k2.data.toList != 0) = false := by simp [h1]
    by_cases h2 : cmpN s2 s1 = 0
    · have hb2 : (cmpN s2 s1 != 0) = false := by simp [h2]
      have HM : Hid (cmpM k1.data.toList s1 g1 k2.data.toList s2 g2 = cmpN (flagN g2) (flagN g1)) := by show _ = _; simp [cmpM, h1, h2]
      clear h1 h2
      by_cases h3 : cmpN (flagN g2) (flagN g1) = 0
      · have hb3 : (cmpN (flagN g2) (flagN g1) != 0) = false := by simp [h3]
        rw [h3] at HM
        clear h3
        go_enter Tryz.func94, Tryz.ntmps94
        go_wp2
        refine wp_loop_rounds 4 ?_
        rw [rounds_succ]
        go_wp2_with fail
        refine (cmp1_any _ _ k1 k2 _ (cell_first3 _ _ _ _ _ _ _ rfl) (cell_second3 _ _ _ _ _ _ _ rfl)).mono ?_
        rintro e w' ⟨rfl, rfl⟩
        go_wp2_with fail
        rw [rounds_succ]
        go_wp2_with fail
        refine (cmp2_any _ _ s2 s1 _ (cell_second3 _ _ _ _ _ _ _ rfl) (cell_first3 _ _ _ _ _ _ _ rfl)).mono ?_
        rintro e w' ⟨rfl, rfl⟩
        go_wp2_with fail
        rw [rounds_succ]
        go_wp2_with fail
        refine (cmp3_any _ _ g2 g1 _ (cell_second3 _ _ _ _ _ _ _ rfl) (cell_first3 _ _ _ _ _ _ _ rfl)).mono ?_
        rintro e w' ⟨rfl, n, rfl⟩
        go_wp2_with fail
        rw [rounds_succ]
        go_wp2_with fail
        go_ret
        exact ⟨ret_int HM.out.symm, (below3 _ _ _ _).trans ((drewN_below _ _).mono (by simp; omega))⟩
      · have hb3 : (cmpN (flagN g2) (flagN g1) != 0) = true := by simp [h3]
        clear h3
        go_enter Tryz.func94, Tryz.ntmps94
        go_wp2
        refine wp_loop_rounds 3 ?_
        rw [rounds_succ]
        go_wp2_with fail
        refine (cmp1_any _ _ k1 k2 _ (cell_first3 _ _ _ _ _ _ _ rfl) (cell_second3 _ _ _ _ _ _ _ rfl)).mono ?_
        rintro e w' ⟨rfl, rfl⟩
        go_wp2_with fail
        rw [rounds_succ]
        go_wp2_with fail
        refine (cmp2_any _ _ s2 s1 _ (cell_second3 _ _ _ _ _ _ _ rfl) (cell_first3 _ _ _ _ _ _ _ rfl)).mono ?_
        rintro e w' ⟨rfl, rfl⟩
        go_wp2_with fail
        rw [rounds_succ]
        go_wp2_with fail
        refine (cmp3_any _ _ g2 g1 _ (cell_second3 _ _ _ _ _ _ _ rfl) (cell_first3 _ _ _ _ _ _ _ rfl)).mono ?_
        rintro e w' ⟨rfl, n, rfl⟩
        go_wp2_with fail
        go_ret
        exact ⟨ret_int HM.out.symm, (below3 _ _ _ _).trans ((drewN_below _ _).mono (by simp; omega))⟩
    · have hb2 : (cmpN s2 s1 != 0) = true := by simp [h2]
      have HM : Hid (cmpM k1.data.toList s1 g1 k2.data.toList s2 g2 = cmpN s2 s1) := by show _ = _; simp [cmpM, h1, h2]
      clear h1 h2
      go_enter Tryz.func94, Tryz.ntmps94
      go_wp2
      refine wp_loop_rounds 2 ?_
      rw [rounds_succ]
      go_wp2_with fail
      refine (cmp1_any _ _ k1 k2 _ (cell_first3 _ _ _ _ _ _ _ rfl) (cell_second3 _ _ _ _ _ _ _ rfl)).mono ?_
      rintro e w' ⟨rfl, rfl⟩
      go_wp2_with fail
      rw [rounds_succ]
      go_wp2_with fail
      refine (cmp2_any _ _ s2 s1 _ (cell_second3 _ _ _ _ _ _ _ rfl) (cell_first3 _ _ _ _ _ _ _ rfl)).mono ?_
      rintro e w' ⟨rfl, rfl⟩
      go_wp2_with fail
      go_ret
      exact ⟨ret_int HM.out.symm, below3 _ _ _ _⟩
  · have hb1 : (cmpS k1.data.toList k2.data.toList != 0) = true := by simp [h1]
    have HM : Hid (cmpM k1.data.toList s1 g1 k2.data.toList s2 g2 = cmpS k1.data.toList k2.data.toList) := by show _ = _; simp [cmpM, h1]
    clear h1
    go_enter Tryz.func94, Tryz.ntmps94
    go_wp2
    refine wp_loop_rounds 1 ?_
    rw [rounds_succ]
    go_wp2_with fail
    refine (cmp1_any _ _ k1 k2 _ (cell_first3 _ _ _ _ _ _ _ rfl) (cell_second3 _ _ _ _ _ _ _ rfl)).mono ?_
    rintro e w' ⟨rfl, rfl⟩
    go_wp2_with fail
    go_ret
    exact ⟨ret_int HM.out.symm, below3 _ _ _ _⟩
end Go.Proofs.YtbcnapkbdbefhaaGreatDoor

/- The order of files: cmp.Or, the closure that edits.Do sorts by, slices.SortFunc at files. The condition: a slice of the call's own. -/
import Derived.Test.YtmonmfamnbfhcaaFl6
import Derived.Sort.Grow
import Derived.Shelf.GgSortFunc.RowK
import Derived.Deep.RegionHeld3
namespace Go.Proofs.Ytmonmfamnbfhcaa
open Go.RowKit Go.Sort

instance : Inhabited PF := ⟨⟨0, 0, .empty, .empty⟩⟩
theorem ret_num {a b : Int} (h : a = b) : Ending.returned (.int .i64 a) = Ending.returned (.int .i64 b) := by rw [h]
def cmpI (a b : Int) : Int := if a < b then -1 else if b < a then 1 else 0
set_option maxRecDepth 100000 in
theorem cmpInt_any (a b : Int) (w : World) : Calls Try.prog 50 #[.int .i64 a, .int .i64 b] w fun e w' => e = .returned (.int .i64 (cmpI a b)) ∧ w = w' := by
  by_cases h : a < b
  · have HC : Hid (cmpI a b = -1) := by show _ = _; simp [cmpI, h]
    go_enter Try.func50, Try.ntmps50
    go_wp2
    go_ret
    exact ⟨ret_num (by rw [HC.out]), rfl⟩
  by_cases h2 : b < a
  · have HC : Hid (cmpI a b = 1) := by show _ = _; simp [cmpI, h, h2]
    go_enter Try.func50, Try.ntmps50
    go_wp2
    go_ret
    exact ⟨ret_num (by rw [HC.out]), rfl⟩
  · have HC : Hid (cmpI a b = 0) := by show _ = _; simp [cmpI, h, h2]
    go_enter Try.func50, Try.ntmps50
    go_wp2
    go_ret
    exact ⟨ret_num (by rw [HC.out]), rfl⟩
set_option maxRecDepth 100000 in
theorem cmpU32_any (a b : Nat) (w : World) : Calls Try.prog 51 #[.int .u32 a, .int .u32 b] w fun e w' => e = .returned (.int .i64 (cmpN a b)) ∧ w = w' := by
  rcases Nat.lt_trichotomy a b with h | h | h
  · have HC : Hid (cmpN a b = -1) := by show _ = _; simp [cmpN, h]
    go_enter Try.func51, Try.ntmps51
    go_wp2
    go_ret
    exact ⟨ret_num (by rw [HC.out]), rfl⟩
  · subst h
    have HC : Hid (cmpN a a = 0) := by show _ = _; simp [cmpN]
    go_enter Try.func51, Try.ntmps51
    go_wp2
    go_ret
    exact ⟨ret_num (by rw [HC.out]), rfl⟩
  · have HC : Hid (cmpN a b = 1) := by show _ = _; simp [cmpN, h]; omega
    go_enter Try.func51, Try.ntmps51
    go_wp2
    go_ret
    exact ⟨ret_num (by rw [HC.out]), rfl⟩
def orI (a b : Int) : Int := if a = 0 then b else a
set_option maxRecDepth 100000 in
theorem cmpOr_any (a b : Int) (w : World) (g : Nat) (h0 : w.cell? ⟨g, 0, none⟩ = some (.int .i64 a)) (h1 : w.cell? ⟨g, 1, none⟩ = some (.int .i64 b)) :
    Calls Try.prog 49 #[.slice (some ⟨g, 0, none⟩) 2 2] w fun e w' => e = .returned (.int .i64 (orI a b)) ∧ w = w' := by
  by_cases ha : a = 0
  · subst ha
    by_cases hb : b = 0
    · subst hb
      go_enter Try.func49, Try.ntmps49
      go_wp2
      refine wp_loop_rounds 3 ?_
      rw [rounds_succ]
      go_wp2
      rw [rounds_succ]
      go_wp2
      rw [rounds_succ]
      go_wp2
      go_ret
      exact ⟨rfl, rfl⟩
    · have hd : (b != 0) = true := by simpa using hb
      have HC : Hid (orI 0 b = b) := by show _ = _; simp [orI]
      clear hb
      go_enter Try.func49, Try.ntmps49
      go_wp2
      refine wp_loop_rounds 2 ?_
      rw [rounds_succ]
      go_wp2
      rw [rounds_succ]
      go_wp2
      go_ret
      exact ⟨ret_num (by rw [HC.out]), rfl⟩
  · have hd : (a != 0) = true := by simpa using ha
    have HC : Hid (orI a b = a) := by show _ = _; simp [orI, ha]
    clear ha
    go_enter Try.func49, Try.ntmps49
    go_wp2
    refine wp_loop_rounds 1 ?_
    rw [rounds_succ]
    go_wp2
    go_ret
    exact ⟨ret_num (by rw [HC.out]), rfl⟩
/-- how two files stand -/
def cfF (x y : PF) : Int := orI (cmpI x.lv y.lv) (cmpN x.n y.n)
instance (x y : PF) : Decidable (ltF x y) := by unfold ltF; infer_instance
end Go.Proofs.Ytmonmfamnbfhcaa

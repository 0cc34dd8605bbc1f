/- Walk of slices.Grow of a nil slice of bytes. The condition: at most 2^47 bytes. -/
import Derived.Test.YtmonmfamnbfhcaaMem
import Derived.Lib.AppendZeros
namespace Go.Proofs.Ytmonmfamnbfhcaa
open Go.RowKit

def RetOwn (l : List UInt8) (w : World) (e : Ending) (w' : World) : Prop := ∃ v, e = .returned v ∧ Own w' w.heap.size 5 1 v l.length (u8s l) ∧ Below w.heap.size w w'
theorem under_i64 : Try.prog.underlying 3 = some (.int .i64) := by kernel_rfl

set_option maxRecDepth 100000 in
set_option maxHeartbeats 1000000 in
theorem grow_any (w : World) (n : Nat) (hn : n ≤ 140737488355328) :
    Calls Try.prog 82 #[.slice none 0 0, .int .i64 n] w (RetOwn [] w) := by
  by_cases h0 : n = 0
  · subst h0
    go_enter Try.func82, Try.ntmps82
    go_wp2
    go_ret
    exact ⟨_, rfl, own_nil _ _ _ _, Below.refl _ _⟩
  · obtain ⟨i, hi, hz, hz1, hz2⟩ := info_parts info_u8
    have hr := Lib.run_append_nil_zeros (P := Try.prog) w 28 3 28 5 i (.int .u8 0) .i64 .i64 Try.underlying28 under_i64 hi hz n (by omega) (by omega) (by omega) (by rw [hz2]; omega)
    have hge := grownCap_ge w n 0 5
    have hcm := grownCap_le_maxLen w n 0 5 (by unfold maxLen; omega)
    generalize grownCap w n 0 5 = cap at *
    have HR := Lib.hid hr
    clear hr hi hz hz1 hz2
    have hcm2 : cap ≤ 9223372036854775807 := by unfold maxLen at hcm; omega
    go_enter Try.func82, Try.ntmps82
    go_wp2_with (at_builtin; go_loud (refine Lib.wpList_append_run _ rfl _ _ 28 3 rfl _ _ rfl rfl _ _ HR.out ?_))
    go_ret
    refine ⟨_, rfl, .inr ⟨rfl, w.heap.size, cap, _, (0, 0), rfl, Nat.le_refl _, heap_alloc_new w.drew _, fun _ _ h => by omega, Nat.zero_le _, hcm, ?_, rfl⟩, (Below.refl _ _).drew.alloc (Nat.le_refl _) _⟩
    simp only [Array.size_append, size_zeroCells]
    show cap * 1 ≤ n * 1 + (cap - n) * 1
    omega
end Go.Proofs.Ytmonmfamnbfhcaa

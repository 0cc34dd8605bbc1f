/- Walks of the sums: the table of all bytes, and the sum over bytes. No condition. -/
import Derived.Test.YtafanohpkbfknaaGreatDoorMem
import Derived.Deep.WholeRow
namespace Go.Proofs.YtafanohpkbfknaaGreatDoor
open Go.RowKit

/-- one bit -/
def cstep (n : Nat) : Nat := if n % 2 = 1 then (n / 2) ^^^ 2197175160 else n / 2
def csteps : Nat → Nat → Nat
  | 0, n => n
  | k + 1, n => csteps k (cstep n)
def ctab (i : Nat) : Nat := csteps 8 i
/-- the table, i of its cells filled -/
def tabCells (i : Nat) : Array Value := ((List.range 256).map fun j => Value.int .u32 (if j < i then (ctab j : Int) else 0)).toArray

theorem cstep_lt (n : Nat) (h : n < 4294967296) : cstep n < 4294967296 := by
  unfold cstep
  split
  · exact Nat.xor_lt_two_pow (n := 32) (by omega) (by omega)
  · omega
theorem csteps_lt : ∀ (k n : Nat), n < 4294967296 → csteps k n < 4294967296 := by
  intro k
  induction k with
  | zero => intro n h; exact h
  | succ k ih => intro n h; exact ih _ (cstep_lt n h)
theorem ctab_lt (i : Nat) (h : i < 4294967296) : ctab i < 4294967296 := csteps_lt 8 i h
theorem step_bits (x : Nat) (hx : x < 4294967296) :
    bits BinOp.xor IntKind.u32 ((x : Int) / 2) (bits BinOp.and IntKind.u32 2197175160 (-bits BinOp.and IntKind.u32 (x : Int) 1 % 4294967296)) = ((cstep x : Nat) : Int) := by
  have e1 : bits BinOp.and IntKind.u32 (x : Int) 1 = ((x % 2 : Nat) : Int) := by
    have := u32_and_nat x 1 hx (by omega)
    rw [show ((1 : Nat) : Int) = 1 from rfl] at this
    rw [this, Nat.and_one_is_mod]
  rw [e1]
  have e2 : ((x : Int) / 2) = ((x / 2 : Nat) : Int) := by omega
  rw [e2]
  unfold cstep
  by_cases h : x % 2 = 1
  · rw [if_pos h, h]
    have e3 : (-((1 : Nat) : Int) % 4294967296) = ((4294967295 : Nat) : Int) := by decide
    rw [e3]
    have e4 := u32_and_nat 2197175160 4294967295 (by omega) (by omega)
    rw [show ((2197175160 : Nat) : Int) = 2197175160 from rfl] at e4
    rw [e4, show (2197175160 &&& 4294967295 : Nat) = 2197175160 from by decide, u32_xor_nat _ _ (by omega) (by omega)]
  · rw [if_neg h, show x % 2 = 0 from by omega]
    have e3 : (-((0 : Nat) : Int) % 4294967296) = ((0 : Nat) : Int) := by decide
    rw [e3]
    have e4 := u32_and_nat 2197175160 0 (by omega) (by omega)
    rw [show ((2197175160 : Nat) : Int) = 2197175160 from rfl] at e4
    rw [e4, show (2197175160 &&& 0 : Nat) = 0 from by decide, u32_xor_nat _ _ (by omega) (by omega), Nat.xor_zero]

theorem tabCells_size (k : Nat) : (tabCells k).size = 256 := by simp [tabCells]
theorem tabCells_get (k j : Nat) (h : j < 256) : (tabCells k)[j]? = some (.int .u32 (if j < k then (ctab j : Int) else 0)) := by
  simp [tabCells, h]
theorem tabCells_next (k : Nat) (h : k < 256) : (tabCells k).setIfInBounds k (.int .u32 (ctab k)) = tabCells (k + 1) := by
  apply Array.ext_getElem?
  intro j
  rw [Array.getElem?_setIfInBounds]
  by_cases e : k = j
  · subst e
    rw [if_pos rfl, if_pos (by rw [tabCells_size]; exact h), tabCells_get _ _ h, if_pos (by omega)]
  · rw [if_neg e]
    by_cases hj : j < 256
    · rw [tabCells_get _ _ hj, tabCells_get _ _ hj]
      by_cases h2 : j < k
      · rw [if_pos h2, if_pos (by omega)]
      · rw [if_neg h2, if_neg (by omega)]
    · rw [Array.getElem?_eq_none (by rw [tabCells_size]; omega), Array.getElem?_eq_none (by rw [tabCells_size]; omega)]
theorem tabCells_one (k : Nat) : (tabCells k).all (·.oneCell') = true := by
  rw [Array.all_eq_true_iff_forall_mem]
  intro v hv
  simp only [tabCells, List.mem_toArray, List.mem_map] at hv
  obtain ⟨j, _, rfl⟩ := hv
  rfl
theorem info_tab : (Tryz.prog.info? 108).map (·.size) = some 256 := by kernel_rfl
theorem zero_tab : Tryz.zeroCells108 = tabCells 0 := by kernel_rfl

set_option maxRecDepth 100000 in
set_option maxHeartbeats 400000 in
theorem table_any (w : World) : Calls Tryz.prog 114 #[] w fun e w' => e = .returned (.agg (tabCells 256)) ∧ Below w.heap.size w w' := by
  go_enter Tryz.func114, Tryz.ntmps114
  go_wp2_with fail
  rw [zero_tab]
  go_loopw [1, 2, 3] (fun _ _ c wr => ∃ k : Nat, k ≤ 256 ∧ c = .int .i64 k ∧ wr = w.alloc (.cells (tabCells k) 108)) (fun _ _ c _ => (256 - intOf c).toNat)
  case atStart => exact ⟨0, by omega, rfl, rfl⟩
  case round =>
    obtain ⟨k, hk, rfl, rfl⟩ := hrel
    by_cases hlt : k < 256
    · have hcell : (w.alloc (.cells (tabCells k) 108)).cell? ⟨w.heap.size, k, none⟩ = some (.int .u32 0) := by
        rw [World.cell?_alloc_at _ _ _ _ rfl, tabCells_get _ _ hlt, if_neg (by omega)]
      have hfree : (w.alloc (.cells (tabCells k) 108)).frozen? ⟨w.heap.size, k, none⟩ = false := World.frozen?_alloc_at _ _ _ _ rfl
      go_wp2_with fail
      go_loop [2, 8] (fun n c => ∃ m x : Nat, m ≤ 8 ∧ c = .int .i64 m ∧ n = .int .u32 x ∧ x < 4294967296 ∧ Hid (csteps (8 - m) x = ctab k)) (fun _ c => (8 - intOf c).toNat)
      case atStart => exact ⟨0, k, by omega, rfl, rfl, by omega, rfl⟩
      case round =>
        obtain ⟨m, x, hm, rfl, rfl, hx, HX⟩ := hrel
        by_cases hm8 : m < 8
        · have hb := step_bits x hx
          go_wp2
          refine ⟨⟨m + 1, cstep x, by omega, by go_num, rfl, cstep_lt x hx, ?_⟩, by simp [intOf]; omega⟩
          · show _ = _
            rw [← HX.out, show 8 - m = (8 - (m + 1)) + 1 from by omega]; rfl
        · have e : Hid (x = ctab k) := by
            show _ = _
            rw [← HX.out, show 8 - m = 0 from by omega]; rfl
          have HT := Lib.hid (tabCells_next k hlt)
          go_wp2
          refine ⟨⟨k + 1, by omega, by go_num, ?_⟩, by simp [intOf]; omega⟩
          rw [e.out, HT.out]
    · obtain rfl : k = 256 := by omega
      have hrow := heap_alloc_last w (.cells (tabCells 256) 108)
      have hst := run_storeCells_new (P := Tryz.prog) w 108 (tabCells 256) (tabCells 256) (by rw [tabCells_size]; exact info_tab) rfl (tabCells_one _)
      go_wp2_with (with_reducible refine wpList_load_row rfl 108 (.tmp 0) rfl w.heap.size rfl 108 (tabCells 256) (0, 0) _ hrow Tryz.underlying108 rfl (by rw [tabCells_size]; exact info_tab) ?_)
      exact bodyPost_ret (v := .agg (tabCells 256)) (results_cell_row (p := 0) (ty := 108) rfl _ _ w.heap.size _ _ _ _ rfl hrow Tryz.underlying108 rfl (by rw [tabCells_size]; exact info_tab)) rfl ⟨rfl, (Below.refl _ _).alloc (Nat.le_refl _) _⟩
end Go.Proofs.YtafanohpkbfknaaGreatDoor

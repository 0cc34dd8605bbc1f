/- Walks of the sums: the table of all bytes, and the sum over bytes. No condition. | Walks of the sum over bytes, of package sums and of its reference. No condition. | Walks of sums.Of and of the reference's Table, On and Own. No condition. -/
import Derived.Test.YtbcnapkbdbefhaaGreatDoorMem
import Derived.Deep.WholeRow
import Derived.Test.YtbcnapkbdbefhaaGreatDoorHelp1
import Derived.Deep.MidRow
namespace Go.Proofs.YtbcnapkbdbefhaaGreatDoor
open Go.RowKit

/-- one bit -/
def cstep (n : Nat) : Nat := if n % 2 = 1 then (n / 2) ^^^ 2197175160 else n / 2
def csteps : Nat → Nat → Nat
  | 0, n => n
  | k + 1, n => csteps k (cstep n)
def ctab (i : Nat) : Nat := csteps 8 i
/-- the table, i of its cells filled -/
def tabCells (i : Nat) : Array Value := ((List.range 256).map fun j => Value.int .u32 (if j < i then (ctab j : Int) else 0)).toArray

theorem cstep_lt (n : Nat) (h : n < 4294967296) : cstep n < 4294967296 := by
  unfold cstep
  split
  · exact Nat.xor_lt_two_pow (n := 32) (by omega) (by omega)
  · omega
theorem csteps_lt : ∀ (k n : Nat), n < 4294967296 → csteps k n < 4294967296 := by
  intro k
  induction k with
  | zero => intro n h; exact h
  | succ k ih => intro n h; exact ih _ (cstep_lt n h)
theorem ctab_lt (i : Nat) (h : i < 4294967296) : ctab i < 4294967296 := csteps_lt 8 i h
theorem step_bits (x : Nat) (hx : x < 4294967296) :
    bits BinOp.xor IntKind.u32 ((x : Int) / 2) (bits BinOp.and IntKind.u32 2197175160 (-bits BinOp.and IntKind.u32 (x : Int) 1 % 4294967296)) = ((cstep x : Nat) : Int) := by
  have e1 : bits BinOp.and IntKind.u32 (x : Int) 1 = ((x % 2 : Nat) : Int) := by
    have := u32_and_nat x 1 hx (by omega)
    rw [show ((1 : Nat) : Int) = 1 from rfl] at this
    rw [this, Nat.and_one_is_mod]
  rw [e1]
  have e2 : ((x : Int) / 2) = ((x / 2 : Nat) : Int) := by omega
  rw [e2]
  unfold cstep
  by_cases h : x % 2 = 1
  · rw [if_pos h, h]
    have e3 : (-((1 : Nat) : Int) % 4294967296) = ((4294967295 : Nat) : Int) := by decide
    rw [e3]
    have e4 := u32_and_nat 2197175160 4294967295 (by omega) (by omega)
    rw [show ((2197175160 : Nat) : Int) = 2197175160 from rfl] at e4
    rw [e4, show (2197175160 &&& 4294967295 : Nat) = 2197175160 from by decide, u32_xor_nat _ _ (by omega) (by omega)]
  · rw [if_neg h, show x % 2 = 0 from by omega]
    have e3 : (-((0 : Nat) : Int) % 4294967296) = ((0 : Nat) : Int) := by decide
    rw [e3]
    have e4 := u32_and_nat 2197175160 0 (by omega) (by omega)
    rw [show ((2197175160 : Nat) : Int) = 2197175160 from rfl] at e4
    rw [e4, show (2197175160 &&& 0 : Nat) = 0 from by decide, u32_xor_nat _ _ (by omega) (by omega), Nat.xor_zero]

theorem tabCells_size (k : Nat) : (tabCells k).size = 256 := by simp [tabCells]
theorem tabCells_get (k j : Nat) (h : j < 256) : (tabCells k)[j]? = some (.int .u32 (if j < k then (ctab j : Int) else 0)) := by
  simp [tabCells, h]
theorem tabCells_next (k : Nat) (h : k < 256) : (tabCells k).setIfInBounds k (.int .u32 (ctab k)) = tabCells (k + 1) := by
  apply Array.ext_getElem?
  intro j
  rw [Array.getElem?_setIfInBounds]
  by_cases e : k = j
  · subst e
    rw [if_pos rfl, if_pos (by rw [tabCells_size]; exact h), tabCells_get _ _ h, if_pos (by omega)]
  · rw [if_neg e]
    by_cases hj : j < 256
    · rw [tabCells_get _ _ hj, tabCells_get _ _ hj]
      by_cases h2 : j < k
      · rw [if_pos h2, if_pos (by omega)]
      · rw [if_neg h2, if_neg (by omega)]
    · rw [Array.getElem?_eq_none (by rw [tabCells_size]; omega), Array.getElem?_eq_none (by rw [tabCells_size]; omega)]
theorem tabCells_one (k : Nat) : (tabCells k).all (·.oneCell') = true := by
  rw [Array.all_eq_true_iff_forall_mem]
  intro v hv
  simp only [tabCells, List.mem_toArray, List.mem_map] at hv
  obtain ⟨j, _, rfl⟩ := hv
  rfl
theorem info_tab : (Tryz.prog.info? 210).map (·.size) = some 256 := by kernel_rfl
theorem zero_tab : Tryz.zeroCells210 = tabCells 0 := by kernel_rfl

set_option maxRecDepth 100000 in
set_option maxHeartbeats 400000 in
theorem table_any (w : World) : Calls Tryz.prog 165 #[] w fun e w' => e = .returned (.agg (tabCells 256)) ∧ Below w.heap.size w w' := by
  go_enter Tryz.func165, Tryz.ntmps165
  go_wp2_with fail
  rw [zero_tab]
  go_loopw [1, 2, 3] (fun _ _ c wr => ∃ k : Nat, k ≤ 256 ∧ c = .int .i64 k ∧ wr = w.alloc (.cells (tabCells k) 210)) (fun _ _ c _ => (256 - intOf c).toNat)
  case atStart => exact ⟨0, by omega, rfl, rfl⟩
  case round =>
    obtain ⟨k, hk, rfl, rfl⟩ := hrel
    by_cases hlt : k < 256
    · have hcell : (w.alloc (.cells (tabCells k) 210)).cell? ⟨w.heap.size, k, none⟩ = some (.int .u32 0) := by
        rw [World.cell?_alloc_at _ _ _ _ rfl, tabCells_get _ _ hlt, if_neg (by omega)]
      have hfree : (w.alloc (.cells (tabCells k) 210)).frozen? ⟨w.heap.size, k, none⟩ = false := World.frozen?_alloc_at _ _ _ _ rfl
      go_wp2_with fail
      go_loop [2, 8] (fun n c => ∃ m x : Nat, m ≤ 8 ∧ c = .int .i64 m ∧ n = .int .u32 x ∧ x < 4294967296 ∧ Hid (csteps (8 - m) x = ctab k)) (fun _ c => (8 - intOf c).toNat)
      case atStart => exact ⟨0, k, by omega, rfl, rfl, by omega, rfl⟩
      case round =>
        obtain ⟨m, x, hm, rfl, rfl, hx, HX⟩ := hrel
        by_cases hm8 : m < 8
        · have hb := step_bits x hx
          go_wp2
          refine ⟨⟨m + 1, cstep x, by omega, by go_num, rfl, cstep_lt x hx, ?_⟩, by simp [intOf]; omega⟩
          · show _ = _
            rw [← HX.out, show 8 - m = (8 - (m + 1)) + 1 from by omega]; rfl
        · have e : Hid (x = ctab k) := by
            show _ = _
            rw [← HX.out, show 8 - m = 0 from by omega]; rfl
          have HT := Lib.hid (tabCells_next k hlt)
          go_wp2
          refine ⟨⟨k + 1, by omega, by go_num, ?_⟩, by simp [intOf]; omega⟩
          rw [e.out, HT.out]
    · obtain rfl : k = 256 := by omega
      have hrow := heap_alloc_last w (.cells (tabCells 256) 210)
      have hst := run_storeCells_new (P := Tryz.prog) w 210 (tabCells 256) (tabCells 256) (by rw [tabCells_size]; exact info_tab) rfl (tabCells_one _)
      go_wp2_with (with_reducible refine wpList_load_row rfl 210 (.tmp 0) rfl w.heap.size rfl 210 (tabCells 256) (0, 0) _ hrow Tryz.underlying210 rfl (by rw [tabCells_size]; exact info_tab) ?_)
      exact bodyPost_ret (v := .agg (tabCells 256)) (results_cell_row (p := 0) (ty := 210) rfl _ _ w.heap.size _ _ _ _ rfl hrow Tryz.underlying210 rfl (by rw [tabCells_size]; exact info_tab)) rfl ⟨rfl, (Below.refl _ _).alloc (Nat.le_refl _) _⟩
end Go.Proofs.YtbcnapkbdbefhaaGreatDoor
namespace Go.Proofs.YtbcnapkbdbefhaaGreatDoor
open Go.RowKit

def cfold (n : Nat) (c : UInt8) : Nat := (n / 256) ^^^ ctab ((n % 256) ^^^ c.toNat)
def crcOn (s : Nat) (l : List UInt8) : Nat := 4294967295 - l.foldl cfold (4294967295 - s)
def TabAt (w : World) (g : Nat) : Prop := w.heap[g]? = some (.cells (tabCells 256) 210 (0, 0))

theorem cfold_lt (n : Nat) (c : UInt8) (h : n < 4294967296) : cfold n c < 4294967296 := by
  have hc := c.toNat_lt
  have hj : (n % 256) ^^^ c.toNat < 2 ^ 8 := Nat.xor_lt_two_pow (by omega) (by omega)
  have := ctab_lt ((n % 256) ^^^ c.toNat) (by omega)
  exact Nat.xor_lt_two_pow (n := 32) (by omega) (by omega)
theorem fold_lt (l : List UInt8) : ∀ n, n < 4294967296 → l.foldl cfold n < 4294967296 := by
  induction l with
  | nil => intro n h; exact h
  | cons c t ih => intro n h; exact ih _ (cfold_lt n c h)
theorem crcOn_lt (s : Nat) (l : List UInt8) : crcOn s l < 4294967296 := by unfold crcOn; omega
theorem fold_next (l : List UInt8) (k x : Nat) (h : k < l.length) : (l.drop k).foldl cfold x = (l.drop (k + 1)).foldl cfold (cfold x l[k]) := by
  rw [List.drop_eq_getElem_cons h]; rfl
/-- what one byte does, in the walk's words -/
theorem fold_words (x d : Nat) (hx : x < 4294967296) (hd : d < 256) : ∃ j : Nat, j < 256 ∧ (bits BinOp.xor IntKind.u8 ((x : Int) % 256) (d : Int) = (j : Int)) ∧
    bits BinOp.xor IntKind.u32 ((x : Int) / 256) ((ctab j : Nat) : Int) = ((cfold x (UInt8.ofNat d) : Nat) : Int) := by
  have hj : (x % 256) ^^^ d < 2 ^ 8 := Nat.xor_lt_two_pow (by omega) (by omega)
  refine ⟨(x % 256) ^^^ d, by omega, ?_, ?_⟩
  · rw [show ((x : Int) % 256) = ((x % 256 : Nat) : Int) from by omega]
    exact u8_xor_nat _ _ (by omega) hd
  · rw [show ((x : Int) / 256) = ((x / 256 : Nat) : Int) from by omega, u32_xor_nat _ _ (by omega) (ctab_lt _ (by omega))]
    simp only [cfold, toNat_ofNat d hd]
theorem not_words (x : Nat) (hx : x < 4294967296) : bits BinOp.xor IntKind.u32 4294967295 (x : Int) = ((4294967295 - x : Nat) : Int) := by
  have e := u32_xor_nat 4294967295 x (by omega) hx
  rw [show ((4294967295 : Nat) : Int) = 4294967295 from rfl] at e
  rw [e]
  congr 1
  have h := BitVec.toNat_not (x := BitVec.ofNat 32 x)
  have h2 : (BitVec.ofNat 32 x).toNat = x := by simp; omega
  have h4 : ∀ y : BitVec 32, ~~~ y = 4294967295#32 ^^^ y := by
    intro y
    apply BitVec.eq_of_getLsbD_eq
    intro i hi
    have h5 : ∀ i, i < 32 → (4294967295#32).getLsbD i = true := by decide
    rw [BitVec.getLsbD_not, BitVec.getLsbD_xor, h5 i hi]
    simp [hi]
  rw [h4, BitVec.toNat_xor, h2] at h
  simpa using h
theorem max_u32 : IntKind.u32.max = 4294967295 := by decide
theorem tab_cell {w : World} {g j : Nat} (h : TabAt w g) (hj : j < 256) : w.cell? ⟨g, j, none⟩ = some (.int .u32 ((ctab j : Nat) : Int)) := by
  rw [cell_of_row w g j _ _ (0, 0) h, tabCells_get _ _ hj, if_pos hj]
theorem tab_below {w w' : World} {g : Nat} (h : TabAt w g) (hb : Below w.heap.size w w') : TabAt w' g := by
  unfold TabAt at *
  rw [hb.block g (Array.getElem?_eq_some_iff.1 h).1]; exact h

set_option maxRecDepth 100000 in
set_option maxHeartbeats 400000 in
theorem sumsOn_any (g s : Nat) (v : Value) (l : List UInt8) (w : World) (hs : s < 4294967296) (ht : TabAt w g) (hv : Rd w v l) :
    Calls Tryz.prog 167 #[.pointer (some ⟨g, 0, none⟩), .int .u32 s, v] w fun e w' => e = .returned (.int .u32 ((crcOn s l : Nat) : Int)) ∧ w = w' := by
  obtain ⟨a, cap, rfl, h1, h2, h3⟩ := hv
  have HC := Lib.hid h3
  have HT := Lib.hid ht
  have hmx := max_u32
  have hnot := not_words s hs
  clear h3 ht
  go_enter Tryz.func167, Tryz.ntmps167
  go_wp2
  clear hnot hmx
  go_loop [7, 9, 16] (fun n _ c => ∃ k x : Nat, k ≤ l.length ∧ c = .int .i64 k ∧ n = .int .u32 x ∧ x < 4294967296 ∧ Hid ((l.drop k).foldl cfold x = l.foldl cfold (4294967295 - s))) (fun _ _ c => l.length - (intOf c).toNat)
  case atStart => exact ⟨0, 4294967295 - s, by omega, rfl, rfl, by omega, rfl⟩
  case round =>
    obtain ⟨k, x, hk, rfl, rfl, hx, HX⟩ := hrel
    by_cases hlt : k < l.length
    · obtain ⟨b, off, rfl, hc⟩ := HC.out k hlt
      obtain ⟨d, hd⟩ : ∃ d : Nat, d = l[k].toNat := ⟨_, rfl⟩
      rw [← hd] at hc
      have HD : Hid (UInt8.ofNat d = l[k]) := by show _ = _; rw [hd]; simp
      have hd256 : d < 256 := by rw [hd]; exact UInt8.toNat_lt _
      clear hd
      obtain ⟨j, hj, hix, hxx⟩ := fold_words x d hx hd256
      have hcj := tab_cell HT.out hj
      go_wp2
      refine ⟨⟨k + 1, cfold x (UInt8.ofNat d), by omega, by go_num, rfl, cfold_lt _ _ hx, ?_⟩, by simp [intOf]; omega⟩
      show _ = _
      rw [HD.out, ← fold_next l k x hlt]; exact HX.out
    · have HE : Hid (x = l.foldl cfold (4294967295 - s)) := by
        show _ = _
        rw [← HX.out, List.drop_of_length_le (by omega)]; rfl
      have hmx := max_u32
      have hnot := not_words x hx
      go_wp2
      go_ret
      exact ⟨ret_int (by rw [HE.out]; rfl), rfl⟩
end Go.Proofs.YtbcnapkbdbefhaaGreatDoor
namespace Go.Proofs.YtbcnapkbdbefhaaGreatDoor
open Go.RowKit

set_option maxRecDepth 100000 in
theorem sumsOf_any (g : Nat) (v : Value) (l : List UInt8) (w : World) (ht : TabAt w g) (hv : Rd w v l) :
    Calls Tryz.prog 166 #[.pointer (some ⟨g, 0, none⟩), v] w fun e w' => e = .returned (.int .u32 ((crcOn 0 l : Nat) : Int)) ∧ w = w' := by
  have H := Lib.hid (sumsOn_any g 0 v l w (by omega) ht hv)
  clear ht hv
  go_enter Tryz.func166, Tryz.ntmps166
  go_wp2_with fail
  refine H.out.mono ?_
  rintro e w' ⟨rfl, rfl⟩
  go_wp2
  go_ret
  exact ⟨rfl, rfl⟩

theorem fold_words32 (x d : Nat) (hx : x < 4294967296) (hd : d < 256) : ∃ j : Nat, j < 256 ∧ (bits BinOp.xor IntKind.u32 ((x : Int) % 256) (d : Int) = (j : Int)) ∧
    bits BinOp.xor IntKind.u32 ((x : Int) / 256) ((ctab j : Nat) : Int) = ((cfold x (UInt8.ofNat d) : Nat) : Int) := by
  have hj : (x % 256) ^^^ d < 2 ^ 8 := Nat.xor_lt_two_pow (by omega) (by omega)
  refine ⟨(x % 256) ^^^ d, by omega, ?_, ?_⟩
  · rw [show ((x : Int) % 256) = ((x % 256 : Nat) : Int) from by omega]
    exact u32_xor_nat _ _ (by omega) (by omega)
  · rw [show ((x : Int) / 256) = ((x / 256 : Nat) : Int) from by omega, u32_xor_nat _ _ (by omega) (ctab_lt _ (by omega))]
    simp only [cfold, toNat_ofNat d hd]

set_option maxRecDepth 100000 in
set_option maxHeartbeats 400000 in
theorem refOn_any (g s : Nat) (v : Value) (l : List UInt8) (w : World) (hs : s < 4294967296) (ht : TabAt w g) (hv : Rd w v l) :
    Calls Tryz.prog 176 #[.pointer (some ⟨g, 0, none⟩), .int .u32 s, v] w fun e w' => e = .returned (.int .u32 ((crcOn s l : Nat) : Int)) ∧ w = w' := by
  obtain ⟨a, cap, rfl, h1, h2, h3⟩ := hv
  have HC := Lib.hid h3
  have HT := Lib.hid ht
  clear h3 ht
  go_enter Tryz.func176, Tryz.ntmps176
  go_wp2
  go_loop [7, 8, 9] (fun n c _ => ∃ k x : Nat, k ≤ l.length ∧ c = .int .i64 k ∧ n = .int .u32 x ∧ x < 4294967296 ∧ Hid ((l.drop k).foldl cfold x = l.foldl cfold (4294967295 - s))) (fun _ c _ => l.length - (intOf c).toNat)
  case atStart => exact ⟨0, 4294967295 - s, by omega, rfl, by congr 1; omega, by omega, rfl⟩
  case round =>
    obtain ⟨k, x, hk, rfl, rfl, hx, HX⟩ := hrel
    by_cases hlt : k < l.length
    · obtain ⟨b, off, rfl, hc⟩ := HC.out k hlt
      obtain ⟨d, hd⟩ : ∃ d : Nat, d = l[k].toNat := ⟨_, rfl⟩
      rw [← hd] at hc
      have HD : Hid (UInt8.ofNat d = l[k]) := by show _ = _; rw [hd]; simp
      have hd256 : d < 256 := by rw [hd]; exact UInt8.toNat_lt _
      clear hd
      obtain ⟨j, hj, hix, hxx⟩ := fold_words32 x d hx hd256
      have hcj := tab_cell HT.out hj
      go_wp2
      refine ⟨⟨k + 1, cfold x (UInt8.ofNat d), by omega, by go_num, rfl, cfold_lt _ _ hx, ?_⟩, by simp [intOf]; omega⟩
      show _ = _
      rw [HD.out, ← fold_next l k x hlt]; exact HX.out
    · have HE : Hid (x = l.foldl cfold (4294967295 - s)) := by
        show _ = _
        rw [← HX.out, List.drop_of_length_le (by omega)]; rfl
      go_wp2
      go_ret
      exact ⟨ret_int (by unfold crcOn; rw [← HE.out]; omega), rfl⟩
theorem refStep_bits (x : Nat) (hx : x < 4294967296) (h : x % 2 = 1) : bits BinOp.xor IntKind.u32 ((x : Int) / 2) 2197175160 = ((cstep x : Nat) : Int) := by
  rw [show ((x : Int) / 2) = ((x / 2 : Nat) : Int) from by omega]
  have e := u32_xor_nat (x / 2) 2197175160 (by omega) (by omega)
  rw [show ((2197175160 : Nat) : Int) = 2197175160 from rfl] at e
  rw [e, cstep, if_pos h]
theorem cstep_even (x : Nat) (h : ¬ x % 2 = 1) : cstep x = x / 2 := by rw [cstep, if_neg h]

set_option maxRecDepth 100000 in
set_option maxHeartbeats 800000 in
theorem refTable_any (w : World) : Calls Tryz.prog 175 #[] w fun e w' => e = .returned (.agg (tabCells 256)) ∧ Below w.heap.size w w' := by
  go_enter Tryz.func175, Tryz.ntmps175
  go_wp2_with fail
  rw [zero_tab]
  go_loopw [2, 3, 4, 5] (fun c _ _ _ wr => ∃ k : Nat, k ≤ 256 ∧ c = .int .i64 k ∧ wr = (w.alloc (.cells (tabCells 0) 210)).alloc (.cells (tabCells k) 210)) (fun c _ _ _ _ => (256 - intOf c).toNat)
  case atStart => exact ⟨0, by omega, rfl, rfl⟩
  case round =>
    obtain ⟨k, hk, rfl, rfl⟩ := hrel
    by_cases hlt : k < 256
    · have hcell : ((w.alloc (.cells (tabCells 0) 210)).alloc (.cells (tabCells k) 210)).cell? ⟨w.heap.size + 1, k, none⟩ = some (.int .u32 0) := by
        rw [World.cell?_alloc_at _ _ _ _ (by simp), tabCells_get _ _ hlt, if_neg (by omega)]
      have hfree : ((w.alloc (.cells (tabCells 0) 210)).alloc (.cells (tabCells k) 210)).frozen? ⟨w.heap.size + 1, k, none⟩ = false := World.frozen?_alloc_at _ _ _ _ (by simp)
      go_wp2_with fail
      go_loop [3, 4, 5] (fun n c _ => ∃ m x : Nat, m ≤ 8 ∧ c = .int .i64 m ∧ n = .int .u32 x ∧ x < 4294967296 ∧ Hid (csteps (8 - m) x = ctab k)) (fun _ c _ => (8 - intOf c).toNat)
      case atStart => exact ⟨0, k, by omega, rfl, rfl, by omega, rfl⟩
      case round =>
        obtain ⟨m, x, hm, rfl, rfl, hx, HX⟩ := hrel
        by_cases hm8 : m < 8
        · have hn : Hid (csteps (8 - (m + 1)) (cstep x) = ctab k) := by
            show _ = _
            rw [← HX.out, show 8 - m = (8 - (m + 1)) + 1 from by omega]; rfl
          by_cases hodd : x % 2 = 1
          · have hb := refStep_bits x hx hodd
            have hodd' : (((x : Int) % 2) == 1) = true := by rw [beq_iff_eq]; omega
            clear hodd
            go_wp2
            exact ⟨⟨m + 1, cstep x, by omega, by go_num, rfl, cstep_lt x hx, hn⟩, by simp [intOf]; omega⟩
          · have hb := Lib.hid (cstep_even x hodd)
            have hodd' : (((x : Int) % 2) == 1) = false := by rw [beq_eq_false_iff_ne]; omega
            clear hodd
            go_wp2
            exact ⟨⟨m + 1, cstep x, by omega, by go_num, by rw [hb.out]; congr 1, cstep_lt x hx, hn⟩, by simp [intOf]; omega⟩
        · have e : Hid (x = ctab k) := by
            show _ = _
            rw [← HX.out, show 8 - m = 0 from by omega]; rfl
          have HT := Lib.hid (tabCells_next k hlt)
          go_wp2
          refine ⟨⟨k + 1, by omega, by go_num, ?_⟩, by simp [intOf]; omega⟩
          rw [e.out, HT.out]
    · obtain rfl : k = 256 := by omega
      have hrow := heap_alloc_last (w.alloc (.cells (tabCells 0) 210)) (.cells (tabCells 256) 210)
      rw [World.size_alloc] at hrow
      have hrow0 := heap_alloc2_old w (.cells (tabCells 0) 210) (.cells (tabCells 256) 210)
      have hst := run_storeCells_at (P := Tryz.prog) w.heap.size 0 210 (tabCells 256).toList 0 (tabCells 0) ((w.alloc (.cells (tabCells 0) 210)).alloc (.cells (tabCells 256) 210)) hrow0 (by rw [Array.length_toList, tabCells_size, tabCells_size]; omega) (fun v hv => (Array.all_eq_true_iff_forall_mem.1 (tabCells_one 256)) v (by simpa using hv))
      have hcs : ((tabCells 0).toList.take (0 + 0) ++ (tabCells 256).toList ++ (tabCells 0).toList.drop (0 + 0 + (tabCells 256).toList.length)).toArray = tabCells 256 := by
        rw [Nat.add_zero, List.take_zero, List.nil_append, List.drop_of_length_le (by rw [Array.length_toList, Array.length_toList, tabCells_size, tabCells_size]; omega), List.append_nil]
      rw [hcs] at hst
      clear hcs
      go_wp2_with (with_reducible refine wpList_load_row rfl 210 (.tmp 1) rfl (w.heap.size + 1) rfl 210 (tabCells 256) (0, 0) _ hrow Tryz.underlying210 rfl (by rw [tabCells_size]; exact info_tab) ?_)
      have hfin := setRow_heap _ _ _ (tabCells 256) _ _ hrow0
      refine bodyPost_ret (v := .agg (tabCells 256)) (results_cell_row (p := 0) (ty := 210) rfl _ _ w.heap.size _ _ _ _ rfl hfin Tryz.underlying210 rfl (by rw [tabCells_size]; exact info_tab)) rfl ⟨rfl, ?_⟩
      exact (((Below.refl _ w).alloc (Nat.le_refl _) _).alloc (by simp) _).trans ⟨rfl, rfl, rfl, by simp, fun k hk => setRow_other _ _ _ _ (by omega)⟩
set_option maxRecDepth 100000 in
theorem refOwn_any (v : Value) (l : List UInt8) (w : World) (hv : Rd w v l) :
    Calls Tryz.prog 160 #[v] w fun e w' => e = .returned (.int .u32 ((crcOn 0 l : Nat) : Int)) ∧ Below w.heap.size w w' := by
  have HV := Lib.hid hv
  clear hv
  go_enter Tryz.func160, Tryz.ntmps160
  go_wp2_with fail
  refine (refTable_any _).mono ?_
  rintro e w1 ⟨rfl, hb⟩
  have hst := run_storeCells_new (P := Tryz.prog) w1 210 Tryz.zeroCells210 (tabCells 256) (by rw [tabCells_size]; exact info_tab) (by rw [zero_tab, tabCells_size, tabCells_size]) (tabCells_one _)
  go_wp2_with fail
  have hb2 : Below w.heap.size w (w1.alloc (.cells (tabCells 256) 210)) := hb.alloc hb.size _
  refine (refOn_any _ 0 _ l _ (by omega) (heap_alloc_last w1 _) (HV.out.below hb2)).mono ?_
  rintro e w' ⟨rfl, rfl⟩
  go_wp2
  go_ret
  exact ⟨rfl, hb2⟩
end Go.Proofs.YtbcnapkbdbefhaaGreatDoor

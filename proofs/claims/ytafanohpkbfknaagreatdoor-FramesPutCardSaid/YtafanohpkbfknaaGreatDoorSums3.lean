/- Walks of sums.Of and of the reference's Table, On and Own. No condition. -/
import Derived.Test.YtafanohpkbfknaaGreatDoorSums2
import Derived.Deep.MidRow
namespace Go.Proofs.YtafanohpkbfknaaGreatDoor
open Go.RowKit

set_option maxRecDepth 100000 in
theorem sumsOf_any (g : Nat) (v : Value) (l : List UInt8) (w : World) (ht : TabAt w g) (hv : Rd w v l) :
    Calls Tryz.prog 115 #[.pointer (some ⟨g, 0, none⟩), v] w fun e w' => e = .returned (.int .u32 ((crcOn 0 l : Nat) : Int)) ∧ w = w' := by
  have H := Lib.hid (sumsOn_any g 0 v l w (by omega) ht hv)
  clear ht hv
  go_enter Tryz.func115, Tryz.ntmps115
  go_wp2_with fail
  refine H.out.mono ?_
  rintro e w' ⟨rfl, rfl⟩
  go_wp2
  go_ret
  exact ⟨rfl, rfl⟩

theorem fold_words32 (x d : Nat) (hx : x < 4294967296) (hd : d < 256) : ∃ j : Nat, j < 256 ∧ (bits BinOp.xor IntKind.u32 ((x : Int) % 256) (d : Int) = (j : Int)) ∧
    bits BinOp.xor IntKind.u32 ((x : Int) / 256) ((ctab j : Nat) : Int) = ((cfold x (UInt8.ofNat d) : Nat) : Int) := by
  have hj : (x % 256) ^^^ d < 2 ^ 8 := Nat.xor_lt_two_pow (by omega) (by omega)
  refine ⟨(x % 256) ^^^ d, by omega, ?_, ?_⟩
  · rw [show ((x : Int) % 256) = ((x % 256 : Nat) : Int) from by omega]
    exact u32_xor_nat _ _ (by omega) (by omega)
  · rw [show ((x : Int) / 256) = ((x / 256 : Nat) : Int) from by omega, u32_xor_nat _ _ (by omega) (ctab_lt _ (by omega))]
    simp only [cfold, toNat_ofNat d hd]

set_option maxRecDepth 100000 in
set_option maxHeartbeats 400000 in
theorem refOn_any (g s : Nat) (v : Value) (l : List UInt8) (w : World) (hs : s < 4294967296) (ht : TabAt w g) (hv : Rd w v l) :
    Calls Tryz.prog 147 #[.pointer (some ⟨g, 0, none⟩), .int .u32 s, v] w fun e w' => e = .returned (.int .u32 ((crcOn s l : Nat) : Int)) ∧ w = w' := by
  obtain ⟨a, cap, rfl, h1, h2, h3⟩ := hv
  have HC := Lib.hid h3
  have HT := Lib.hid ht
  clear h3 ht
  go_enter Tryz.func147, Tryz.ntmps147
  go_wp2
  go_loop [7, 8, 9] (fun n c _ => ∃ k x : Nat, k ≤ l.length ∧ c = .int .i64 k ∧ n = .int .u32 x ∧ x < 4294967296 ∧ Hid ((l.drop k).foldl cfold x = l.foldl cfold (4294967295 - s))) (fun _ c _ => l.length - (intOf c).toNat)
  case atStart => exact ⟨0, 4294967295 - s, by omega, rfl, by congr 1; omega, by omega, rfl⟩
  case round =>
    obtain ⟨k, x, hk, rfl, rfl, hx, HX⟩ := hrel
    by_cases hlt : k < l.length
    · obtain ⟨b, off, rfl, hc⟩ := HC.out k hlt
      obtain ⟨d, hd⟩ : ∃ d : Nat, d = l[k].toNat := ⟨_, rfl⟩
      rw [← hd] at hc
      have HD : Hid (UInt8.ofNat d = l[k]) := by show _ = _; rw [hd]; simp
      have hd256 : d < 256 := by rw [hd]; exact UInt8.toNat_lt _
      clear hd
      obtain ⟨j, hj, hix, hxx⟩ := fold_words32 x d hx hd256
      have hcj := tab_cell HT.out hj
      go_wp2
      refine ⟨⟨k + 1, cfold x (UInt8.ofNat d), by omega, by go_num, rfl, cfold_lt _ _ hx, ?_⟩, by simp [intOf]; omega⟩
      show _ = _
      rw [HD.out, ← fold_next l k x hlt]; exact HX.out
    · have HE : Hid (x = l.foldl cfold (4294967295 - s)) := by
        show _ = _
        rw [← HX.out, List.drop_of_length_le (by omega)]; rfl
      go_wp2
      go_ret
      exact ⟨ret_int (by unfold crcOn; rw [← HE.out]; omega), rfl⟩
theorem refStep_bits (x : Nat) (hx : x < 4294967296) (h : x % 2 = 1) : bits BinOp.xor IntKind.u32 ((x : Int) / 2) 2197175160 = ((cstep x : Nat) : Int) := by
  rw [show ((x : Int) / 2) = ((x / 2 : Nat) : Int) from by omega]
  have e := u32_xor_nat (x / 2) 2197175160 (by omega) (by omega)
  rw [show ((2197175160 : Nat) : Int) = 2197175160 from rfl] at e
  rw [e, cstep, if_pos h]
theorem cstep_even (x : Nat) (h : ¬ x % 2 = 1) : cstep x = x / 2 := by rw [cstep, if_neg h]

set_option maxRecDepth 100000 in
set_option maxHeartbeats 800000 in
theorem refTable_any (w : World) : Calls Tryz.prog 146 #[] w fun e w' => e = .returned (.agg (tabCells 256)) ∧ Below w.heap.size w w' := by
  go_enter Tryz.func146, Tryz.ntmps146
  go_wp2_with fail
  rw [zero_tab]
  go_loopw [2, 3, 4, 5] (fun c _ _ _ wr => ∃ k : Nat, k ≤ 256 ∧ c = .int .i64 k ∧ wr = (w.alloc (.cells (tabCells 0) 108)).alloc (.cells (tabCells k) 108)) (fun c _ _ _ _ => (256 - intOf c).toNat)
  case atStart => exact ⟨0, by omega, rfl, rfl⟩
  case round =>
    obtain ⟨k, hk, rfl, rfl⟩ := hrel
    by_cases hlt : k < 256
    · have hcell : ((w.alloc (.cells (tabCells 0) 108)).alloc (.cells (tabCells k) 108)).cell? ⟨w.heap.size + 1, k, none⟩ = some (.int .u32 0) := by
        rw [World.cell?_alloc_at _ _ _ _ (by simp), tabCells_get _ _ hlt, if_neg (by omega)]
      have hfree : ((w.alloc (.cells (tabCells 0) 108)).alloc (.cells (tabCells k) 108)).frozen? ⟨w.heap.size + 1, k, none⟩ = false := World.frozen?_alloc_at _ _ _ _ (by simp)
      go_wp2_with fail
      go_loop [3, 4, 5] (fun n c _ => ∃ m x : Nat, m ≤ 8 ∧ c = .int .i64 m ∧ n = .int .u32 x ∧ x < 4294967296 ∧ Hid (csteps (8 - m) x = ctab k)) (fun _ c _ => (8 - intOf c).toNat)
      case atStart => exact ⟨0, k, by omega, rfl, rfl, by omega, rfl⟩
      case round =>
        obtain ⟨m, x, hm, rfl, rfl, hx, HX⟩ := hrel
        by_cases hm8 : m < 8
        · have hn : Hid (csteps (8 - (m + 1)) (cstep x) = ctab k) := by
            show _ = _
            rw [← HX.out, show 8 - m = (8 - (m + 1)) + 1 from by omega]; rfl
          by_cases hodd : x % 2 = 1
          · have hb := refStep_bits x hx hodd
            have hodd' : (((x : Int) % 2) == 1) = true := by rw [beq_iff_eq]; omega
            clear hodd
            go_wp2
            exact ⟨⟨m + 1, cstep x, by omega, by go_num, rfl, cstep_lt x hx, hn⟩, by simp [intOf]; omega⟩
          · have hb := Lib.hid (cstep_even x hodd)
            have hodd' : (((x : Int) % 2) == 1) = false := by rw [beq_eq_false_iff_ne]; omega
            clear hodd
            go_wp2
            exact ⟨⟨m + 1, cstep x, by omega, by go_num, by rw [hb.out]; congr 1, cstep_lt x hx, hn⟩, by simp [intOf]; omega⟩
        · have e : Hid (x = ctab k) := by
            show _ = _
            rw [← HX.out, show 8 - m = 0 from by omega]; rfl
          have HT := Lib.hid (tabCells_next k hlt)
          go_wp2
          refine ⟨⟨k + 1, by omega, by go_num, ?_⟩, by simp [intOf]; omega⟩
          rw [e.out, HT.out]
    · obtain rfl : k = 256 := by omega
      have hrow := heap_alloc_last (w.alloc (.cells (tabCells 0) 108)) (.cells (tabCells 256) 108)
      rw [World.size_alloc] at hrow
      have hrow0 := heap_alloc2_old w (.cells (tabCells 0) 108) (.cells (tabCells 256) 108)
      have hst := run_storeCells_at (P := Tryz.prog) w.heap.size 0 108 (tabCells 256).toList 0 (tabCells 0) ((w.alloc (.cells (tabCells 0) 108)).alloc (.cells (tabCells 256) 108)) hrow0 (by rw [Array.length_toList, tabCells_size, tabCells_size]; omega) (fun v hv => (Array.all_eq_true_iff_forall_mem.1 (tabCells_one 256)) v (by simpa using hv))
      have hcs : ((tabCells 0).toList.take (0 + 0) ++ (tabCells 256).toList ++ (tabCells 0).toList.drop (0 + 0 + (tabCells 256).toList.length)).toArray = tabCells 256 := by
        rw [Nat.add_zero, List.take_zero, List.nil_append, List.drop_of_length_le (by rw [Array.length_toList, Array.length_toList, tabCells_size, tabCells_size]; omega), List.append_nil]
      rw [hcs] at hst
      clear hcs
      go_wp2_with (with_reducible refine wpList_load_row rfl 108 (.tmp 1) rfl (w.heap.size + 1) rfl 108 (tabCells 256) (0, 0) _ hrow Tryz.underlying108 rfl (by rw [tabCells_size]; exact info_tab) ?_)
      have hfin := setRow_heap _ _ _ (tabCells 256) _ _ hrow0
      refine bodyPost_ret (v := .agg (tabCells 256)) (results_cell_row (p := 0) (ty := 108) rfl _ _ w.heap.size _ _ _ _ rfl hfin Tryz.underlying108 rfl (by rw [tabCells_size]; exact info_tab)) rfl ⟨rfl, ?_⟩
      exact (((Below.refl _ w).alloc (Nat.le_refl _) _).alloc (by simp) _).trans ⟨rfl, rfl, rfl, by simp, fun k hk => setRow_other _ _ _ _ (by omega)⟩
set_option maxRecDepth 100000 in
theorem refOwn_any (v : Value) (l : List UInt8) (w : World) (hv : Rd w v l) :
    Calls Tryz.prog 94 #[v] w fun e w' => e = .returned (.int .u32 ((crcOn 0 l : Nat) : Int)) ∧ Below w.heap.size w w' := by
  have HV := Lib.hid hv
  clear hv
  go_enter Tryz.func94, Tryz.ntmps94
  go_wp2_with fail
  refine (refTable_any _).mono ?_
  rintro e w1 ⟨rfl, hb⟩
  have hst := run_storeCells_new (P := Tryz.prog) w1 108 Tryz.zeroCells108 (tabCells 256) (by rw [tabCells_size]; exact info_tab) (by rw [zero_tab, tabCells_size, tabCells_size]) (tabCells_one _)
  go_wp2_with fail
  have hb2 : Below w.heap.size w (w1.alloc (.cells (tabCells 256) 108)) := hb.alloc hb.size _
  refine (refOn_any _ 0 _ l _ (by omega) (heap_alloc_last w1 _) (HV.out.below hb2)).mono ?_
  rintro e w' ⟨rfl, rfl⟩
  go_wp2
  go_ret
  exact ⟨rfl, hb2⟩
end Go.Proofs.YtafanohpkbfknaaGreatDoor

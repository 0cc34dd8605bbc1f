/- Walks of law01.TwinIds, law01.LeftIds. The condition: lists of 100000 elements at most. -/
import Derived.Test.YtimfcinkjjaigaaGreatDoorTw0
import Derived.Test.YtimfcinkjjaigaaGreatDoorFl0
namespace Go.Proofs.YtimfcinkjjaigaaGreatDoor
open Go.RowKit

set_option maxRecDepth 100000 in
theorem infoTId : (Tryz.prog.info? 24).map (fun i => (i.zero, i.size, i.bytes)) = some (some (.int .u32 0), 1, 4) := by kernel_rfl
theorem rdId_sl {w : World} {v : Value} {l : List Nat} (h : RdU w v l) : ∃ a n c, v = .slice a n c ∧ Hid (n = l.length) ∧ n ≤ c ∧ c ≤ 9223372036854775807 := by
  obtain ⟨a, c, h1, h2, h3, _⟩ := h
  exact ⟨a, _, c, h1, rfl, h2, h3⟩
def spareId : List Value := ucells [77]
set_option maxRecDepth 100000 in
set_option maxHeartbeats 1000000 in
theorem twId_any (w : World) (v : Value) (l : List Nat) (hv : RdU w v l) (hl : l.length ≤ 100000) :
    Calls Tryz.prog 47 #[v] w fun e w' => ∃ g n, e = .returned (.slice (some ⟨g, 0, none⟩) n (n + 1)) ∧ Hid (n = l.length) ∧ Hid (TwG w' w.heap.size 24 1 g n (ucells l) spareId) ∧ Below w.heap.size w w' := by
  obtain ⟨la, n, lc, rfl, HN, hlc, hlm⟩ := rdId_sl hv
  have HV : Hid (∀ w', Below w.heap.size w w' → RdU w' (.slice la n lc) l) := Lib.hid fun w' hb => hv.below hb
  obtain ⟨i0, hi, hz, hz1, hz2⟩ := info_parts infoTId
  have hn : n ≤ 100000 := by rw [HN.out]; exact hl
  have hmk := run_make (P := Tryz.prog) w 23 24 i0 _ Tryz.underlying23 hi hz .i64 .i64 0 ((n : Int) + 1) (by omega) (by omega) (by rw [hz2]; omega) (by omega)
  rw [hz1, show ((n : Int) + 1).toNat = n + 1 from by omega, show (0 : Int).toNat = 0 from rfl] at hmk
  obtain ⟨C, hC⟩ : ∃ C, C = madeCells (Value.cells (.int .u32 0)) ((n + 1) * 1) := ⟨_, rfl⟩
  have hCs : C.size = (n + 1) * 1 := by rw [hC, size_madeCells]
  rw [← hC] at hmk
  have HO0 : Hid (Own (w.alloc (.cells C 24)) w.heap.size 24 1 (.slice (some ⟨w.heap.size, 0, none⟩) 0 (n + 1)) 0 []) := Lib.hid (own_of (World.ownsRow_made w C (e := 24) (size := 1) (base := w.heap.size) (n + 1) (Nat.le_refl _) (by unfold maxLen; omega) (by omega)))
  have HB0 : Hid (Below w.heap.size w (w.alloc (.cells C 24))) := Lib.hid ((Below.refl _ _).alloc (Nat.le_refl _) _)
  have HL0 : Hid (w.heap.size < (w.alloc (.cells C 24)).heap.size) := Lib.hid (by simp)
  clear hC hCs hv hl
  go_enter Tryz.func47, Tryz.ntmps47
  go_upto_region 3 with (fail)
  clear hmk
  try show Code.wp _ _ _ _ _
  go_loopw [3, 4] (fun t i wr => ∃ k : Nat, k ≤ n ∧ i = .int .i64 k ∧ t = .slice (some ⟨w.heap.size, 0, none⟩) k (n + 1) ∧ Hid (Own wr w.heap.size 24 1 (.slice (some ⟨w.heap.size, 0, none⟩) k (n + 1)) k (ucells (l.take k))) ∧ Hid (w.heap.size < wr.heap.size) ∧ Below w.heap.size w wr) (fun _ i _ => n - (intOf i).toNat)
  case atStart => exact ⟨0, Nat.zero_le _, rfl, rfl, HO0, HL0, HB0.out⟩
  case round =>
    obtain ⟨k, hk, rfl, rfl, hO, hLT, bel⟩ := hrel
    have HB := Lib.hid bel
    clear bel
    by_cases hlt : k < n
    · have hkl : k < l.length := by rw [← HN.out]; exact hlt
      obtain ⟨_, _, he, _, _, hc⟩ := HV.out wr HB.out
      simp only [Value.slice.injEq] at he
      obtain ⟨rfl, hx1, hx2⟩ := he
      clear hx1 hx2
      obtain ⟨b, off, rfl, c0⟩ := hc k hkl
      have HTK := Lib.hid (List.take_succ_eq_append_getElem hkl)
      obtain ⟨f, hf⟩ : ∃ f, f = l[k] := ⟨_, rfl⟩
      rw [← hf] at c0 HTK
      clear hf hc
      have hal : Below wr.heap.size wr (wr.alloc (.cells #[.int .u32 (f : Int)] 24)) := (Below.refl _ _).alloc (Nat.le_refl _) _
      have HO2 := Lib.hid (own_below hO.out hal)
      have HB3 := Lib.hid (HB.out.trans (hal.mono HB.out.size))
      have HLT3 := Lib.hid (Nat.lt_of_lt_of_le hLT.out hal.size)
      have HRF : Hid (Reads (wr.alloc (.cells #[.int .u32 (f : Int)] 24)) 1 (.slice (some ⟨wr.heap.size, 0, none⟩) 1 1) 1 (ucells [f])) := Lib.hid (reads_new wr _ 24 1 1 rfl (by decide))
      clear hal
      go_wp2_with (at_builtin; go_loud (refine wp_fitsO rfl _ _ rfl Tryz.underlying23 hi hz1 (by omega) w.heap.size w.heap.size k (n + 1) 1 (ucells (l.take k)) (ucells [f]) (ucells (l.take (k + 1))) _ (k + 1) rfl rfl HO2.out HRF.out (one_ucells _) rfl (by rw [HTK.out, ucells_app]) (by omega) (by omega) ?_); intro w3 HX3 HG3)
      have hlt3 : Hid (w.heap.size < w3.heap.size) := Lib.hid (Nat.lt_of_lt_of_le HLT3.out HG3.out.size)
      have hbel3 : Below w.heap.size w w3 := HB3.out.grown HG3.out HB3.out.size (fun j e => by cases e; exact Nat.le_refl _)
      exact ⟨⟨k + 1, by omega, by go_num, rfl, HX3, hlt3, hbel3⟩, by simp [intOf]; omega⟩
    · have hkn : l.take k = l := List.take_of_length_le (by rw [← HN.out]; omega)
      rw [hkn] at hO
      obtain ⟨ko, hko⟩ : ∃ x, x = k := ⟨_, rfl⟩
      have hkn2 : k = n := by omega
      subst hkn2
      clear hkn hko
      have hal : Below wr.heap.size wr (wr.alloc (.cells #[.int .u32 77] 24)) := (Below.refl _ _).alloc (Nat.le_refl _) _
      have HO2 := Lib.hid (own_below hO.out hal)
      have HB3 := Lib.hid (HB.out.trans (hal.mono HB.out.size))
      have HLT3 := Lib.hid (Nat.lt_of_lt_of_le hLT.out hal.size)
      have HRF : Hid (Reads (wr.alloc (.cells #[.int .u32 77] 24)) 1 (.slice (some ⟨wr.heap.size, 0, none⟩) 1 1) 1 spareId) := Lib.hid (reads_new wr _ 24 1 1 rfl (by decide))
      clear hal
      go_upto_region 6 with (fail)
      go_wp2_with (at_builtin; go_loud (refine wp_fitsO rfl _ _ rfl Tryz.underlying23 hi hz1 (by omega) w.heap.size w.heap.size k (k + 1) 1 (ucells l) spareId (ucells l ++ spareId) _ (k + 1) rfl rfl HO2.out HRF.out (one_ucells _) rfl rfl (by omega) (by omega) ?_); intro w3 HX3 HG3)
      have hlt3 : w.heap.size < w3.heap.size := Nat.lt_of_lt_of_le HLT3.out HG3.out.size
      have hbel3 : Below w.heap.size w w3 := HB3.out.grown HG3.out HB3.out.size (fun j e => by cases e; exact Nat.le_refl _)
      go_ret
      exact ⟨w.heap.size, k, rfl, HN, Lib.hid ⟨Nat.le_refl _, hlt3, by rw [ucells_length, HN.out, Nat.mul_one], HX3.out⟩, hbel3⟩
set_option maxRecDepth 100000 in
set_option maxHeartbeats 1000000 in
theorem leftId_any (w : World) (base g n : Nat) (v : Value) (l : List Nat) (hn : n = l.length) (ht : TwG w base 24 1 g n (ucells l) spareId) (hv : RdU w v l) (hl : l.length ≤ 100000) :
    Calls Tryz.prog 62 #[.slice (some ⟨g, 0, none⟩) n (n + 1), v] w fun e w' => e = .returned (.bool true) ∧ Below w.heap.size w w' := by
  obtain ⟨la, n2, lc, rfl, HN2, hlc, hlm⟩ := rdId_sl hv
  obtain rfl : n2 = n := HN2.out.trans hn.symm
  have HN := Lib.hid hn
  have hn3 : n2 ≤ 100000 := by rw [hn]; exact hl
  have hvt : RdU w (.slice (some ⟨g, 0, none⟩) n2 (n2 + 1)) l := (rdU_of (reads_of_own ht.own)).2
  have HV := Lib.hid hv
  have HT := Lib.hid hvt
  have HTW := Lib.hid ht
  clear hv hvt ht hl hn
  have hb : ((n2 : Int) != (n2 : Int)) = false := by simp
  have hq : decide ((n2 : Int) + 1 ≤ (n2 : Int)) = false := by simp; omega
  have hq2 : decide ((n2 + 1 : Nat) ≤ n2) = false := by simp
  go_enter Tryz.func62, Tryz.ntmps62
  go_upto_region 4 with (fail)
  try show Code.wp _ _ _ _ _
  go_loopw [5] (fun i wr => ∃ k : Nat, k ≤ n2 ∧ i = .int .i64 k ∧ Below w.heap.size w wr) (fun i _ => n2 - (intOf i).toNat)
  case atStart => exact ⟨0, Nat.zero_le _, rfl, Below.refl _ _⟩
  case round =>
    obtain ⟨k, hk, rfl, bel⟩ := hrel
    have HB := Lib.hid bel
    clear bel
    by_cases hlt : k < n2
    · have hkl : k < l.length := by rw [← HN.out]; exact hlt
      obtain ⟨_, _, he, _, _, hc⟩ := HV.out.below HB.out
      simp only [Value.slice.injEq] at he
      obtain ⟨rfl, hx1, hx2⟩ := he
      clear hx1 hx2
      obtain ⟨b, off, rfl, c0⟩ := hc k hkl
      obtain ⟨_, _, he, _, _, hc2⟩ := HT.out.below HB.out
      simp only [Value.slice.injEq] at he
      obtain ⟨he, hx1, hx2⟩ := he
      clear hx1 hx2
      obtain ⟨b2, off2, he2, d0⟩ := hc2 k hkl
      rw [← he] at he2
      simp only [Option.some.injEq, Addr.mk.injEq, and_true] at he2
      obtain ⟨rfl, rfl⟩ := he2
      obtain ⟨f, hf⟩ : ∃ f, f = l[k] := ⟨_, rfl⟩
      rw [← hf] at c0 d0
      rw [Nat.zero_add] at d0
      clear hf hc hc2 he
      go_wp2
      go_quiet (fail)
      have HBQ := Lib.hid (HB.out.trans ((drewN_below wr nq).mono HB.out.size))
      go_wp2
      go_roundw
      case rel => exact ⟨k + 1, by omega, by go_num, HBQ.out⟩
      case measure => simp [intOf]; omega
    · obtain rfl : k = n2 := by omega
      have s0 : wr.cell? ⟨g, k, none⟩ = some (.int .u32 77) := by
        have := (HTW.out.below HB.out).spare 0 (by omega) (.int .u32 77) rfl
        simpa using this
      have hbz : (0 : Int) ≤ (k : Int) := by omega
      go_wp2
      go_ret
      exact ⟨by first | rfl | (simp; done), by first | exact HB.out | exact HB.out.alloc HB.out.size _⟩
end Go.Proofs.YtimfcinkjjaigaaGreatDoor

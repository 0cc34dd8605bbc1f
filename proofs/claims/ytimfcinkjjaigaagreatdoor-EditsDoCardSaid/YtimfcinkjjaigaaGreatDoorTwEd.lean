/- Walks of law01.TwinFiles, law01.LeftFiles. The condition: lists of 100000 elements at most. | Walks of law01.TwinIds, law01.LeftIds. The condition: lists of 100000 elements at most. | Walks of law01.TwinEdit, law01.LeftEdit. The condition: lists of 100000 elements at most. -/
import Derived.Test.YtimfcinkjjaigaaGreatDoorTw0
import Derived.Test.YtimfcinkjjaigaaGreatDoorFl0
import Derived.Test.YtimfcinkjjaigaaGreatDoorFlRead
import Derived.Laws.ResultCell
namespace Go.Proofs.YtimfcinkjjaigaaGreatDoor
open Go.RowKit

set_option maxRecDepth 100000 in
theorem infoTFile : (Tryz.prog.info? 86).map (fun i => (i.zero, i.size, i.bytes)) = some (some (.agg #[.int .u32 0, .int .i64 0, .string .empty, .string .empty]), 4, 48) := by kernel_rfl
theorem rdFile_sl {w : World} {v : Value} {l : List PF} (h : RdF w v l) : ∃ a n c, v = .slice a n c ∧ Hid (n = l.length) ∧ n ≤ c ∧ c ≤ 9223372036854775807 := by
  obtain ⟨a, c, h1, h2, h3, _⟩ := h
  exact ⟨a, _, c, h1, rfl, h2, h3⟩
def spareFile : List Value := fcells [⟨0, 0, ⟨#[115, 112, 97, 114, 101]⟩, ⟨#[]⟩⟩]
set_option maxRecDepth 100000 in
set_option maxHeartbeats 1000000 in
theorem twFile_any (w : World) (v : Value) (l : List PF) (hv : RdF w v l) (hl : l.length ≤ 100000) :
    Calls Tryz.prog 9 #[v] w fun e w' => ∃ g n, e = .returned (.slice (some ⟨g, 0, none⟩) n (n + 1)) ∧ Hid (n = l.length) ∧ Hid (TwG w' w.heap.size 86 4 g n (fcells l) spareFile) ∧ Below w.heap.size w w' := by
  obtain ⟨la, n, lc, rfl, HN, hlc, hlm⟩ := rdFile_sl hv
  have HV : Hid (∀ w', Below w.heap.size w w' → RdF w' (.slice la n lc) l) := Lib.hid fun w' hb => hv.below hb
  obtain ⟨i0, hi, hz, hz1, hz2⟩ := info_parts infoTFile
  have hn : n ≤ 100000 := by rw [HN.out]; exact hl
  have hmk := run_make (P := Tryz.prog) w 22 86 i0 _ Tryz.underlying22 hi hz .i64 .i64 0 ((n : Int) + 1) (by omega) (by omega) (by rw [hz2]; omega) (by omega)
  rw [hz1, show ((n : Int) + 1).toNat = n + 1 from by omega, show (0 : Int).toNat = 0 from rfl] at hmk
  obtain ⟨C, hC⟩ : ∃ C, C = madeCells (Value.cells (.agg #[.int .u32 0, .int .i64 0, .string .empty, .string .empty])) ((n + 1) * 4) := ⟨_, rfl⟩
  have hCs : C.size = (n + 1) * 4 := by rw [hC, size_madeCells]
  rw [← hC] at hmk
  have HO0 : Hid (Own (w.alloc (.cells C 86)) w.heap.size 86 4 (.slice (some ⟨w.heap.size, 0, none⟩) 0 (n + 1)) 0 []) := Lib.hid (own_of (World.ownsRow_made w C (e := 86) (size := 4) (base := w.heap.size) (n + 1) (Nat.le_refl _) (by unfold maxLen; omega) (by omega)))
  have HB0 : Hid (Below w.heap.size w (w.alloc (.cells C 86))) := Lib.hid ((Below.refl _ _).alloc (Nat.le_refl _) _)
  have HL0 : Hid (w.heap.size < (w.alloc (.cells C 86)).heap.size) := Lib.hid (by simp)
  clear hC hCs hv hl
  go_enter Tryz.func9, Tryz.ntmps9
  go_upto_region 3 with (fail)
  clear hmk
  try show Code.wp _ _ _ _ _
  go_loopw [3, 4] (fun t i wr => ∃ k : Nat, k ≤ n ∧ i = .int .i64 k ∧ t = .slice (some ⟨w.heap.size, 0, none⟩) k (n + 1) ∧ Hid (Own wr w.heap.size 86 4 (.slice (some ⟨w.heap.size, 0, none⟩) k (n + 1)) k (fcells (l.take k))) ∧ Hid (w.heap.size < wr.heap.size) ∧ Below w.heap.size w wr) (fun _ i _ => n - (intOf i).toNat)
  case atStart => exact ⟨0, Nat.zero_le _, rfl, rfl, HO0, HL0, HB0.out⟩
  case round =>
    obtain ⟨k, hk, rfl, rfl, hO, hLT, bel⟩ := hrel
    have HB := Lib.hid bel
    clear bel
    by_cases hlt : k < n
    · have hkl : k < l.length := by rw [← HN.out]; exact hlt
      obtain ⟨_, _, he, _, _, hc⟩ := HV.out wr HB.out
      simp only [Value.slice.injEq] at he
      obtain ⟨rfl, hx1, hx2⟩ := he
      clear hx1 hx2
      obtain ⟨b, off, rfl, c0, c1, c2, c3⟩ := hc k hkl
      have HTK := Lib.hid (List.take_succ_eq_append_getElem hkl)
      obtain ⟨f, hf⟩ : ∃ f, f = l[k] := ⟨_, rfl⟩
      rw [← hf] at c0 c1 c2 c3 HTK
      clear hf hc
      have hal : Below wr.heap.size wr (wr.alloc (.cells #[.int .u32 f.n, .int .i64 f.lv, .string f.a, .string f.b] 86)) := (Below.refl _ _).alloc (Nat.le_refl _) _
      have HO2 := Lib.hid (own_below hO.out hal)
      have HB3 := Lib.hid (HB.out.trans (hal.mono HB.out.size))
      have HLT3 := Lib.hid (Nat.lt_of_lt_of_le hLT.out hal.size)
      have HRF : Hid (Reads (wr.alloc (.cells #[.int .u32 f.n, .int .i64 f.lv, .string f.a, .string f.b] 86)) 4 (.slice (some ⟨wr.heap.size, 0, none⟩) 1 1) 1 (fcells [f])) := Lib.hid (reads_new wr _ 86 1 4 rfl (by decide))
      clear hal
      go_wp2_with (at_builtin; go_loud (refine wp_fitsO rfl _ _ rfl Tryz.underlying22 hi hz1 (by omega) w.heap.size w.heap.size k (n + 1) 1 (fcells (l.take k)) (fcells [f]) (fcells (l.take (k + 1))) _ (k + 1) rfl rfl HO2.out HRF.out (one_fcells _) rfl (by rw [HTK.out, fcells_app]) (by omega) (by omega) ?_); intro w3 HX3 HG3)
      have hlt3 : Hid (w.heap.size < w3.heap.size) := Lib.hid (Nat.lt_of_lt_of_le HLT3.out HG3.out.size)
      have hbel3 : Below w.heap.size w w3 := HB3.out.grown HG3.out HB3.out.size (fun j e => by cases e; exact Nat.le_refl _)
      exact ⟨⟨k + 1, by omega, by go_num, rfl, HX3, hlt3, hbel3⟩, by simp [intOf]; omega⟩
    · have hkn : l.take k = l := List.take_of_length_le (by rw [← HN.out]; omega)
      rw [hkn] at hO
      obtain ⟨ko, hko⟩ : ∃ x, x = k := ⟨_, rfl⟩
      have hkn2 : k = n := by omega
      subst hkn2
      clear hkn hko
      have hal : Below wr.heap.size wr (wr.alloc (.cells #[.int .u32 0, .int .i64 0, .string ⟨#[115, 112, 97, 114, 101]⟩, .string ⟨#[]⟩] 86)) := (Below.refl _ _).alloc (Nat.le_refl _) _
      have HO2 := Lib.hid (own_below hO.out hal)
      have HB3 := Lib.hid (HB.out.trans (hal.mono HB.out.size))
      have HLT3 := Lib.hid (Nat.lt_of_lt_of_le hLT.out hal.size)
      have HRF : Hid (Reads (wr.alloc (.cells #[.int .u32 0, .int .i64 0, .string ⟨#[115, 112, 97, 114, 101]⟩, .string ⟨#[]⟩] 86)) 4 (.slice (some ⟨wr.heap.size, 0, none⟩) 1 1) 1 spareFile) := Lib.hid (reads_new wr _ 86 1 4 rfl (by decide))
      clear hal
      go_upto_region 6 with (fail)
      go_wp2_with (at_builtin; go_loud (refine wp_fitsO rfl _ _ rfl Tryz.underlying22 hi hz1 (by omega) w.heap.size w.heap.size k (k + 1) 1 (fcells l) spareFile (fcells l ++ spareFile) _ (k + 1) rfl rfl HO2.out HRF.out (one_fcells _) rfl rfl (by omega) (by omega) ?_); intro w3 HX3 HG3)
      have hlt3 : w.heap.size < w3.heap.size := Nat.lt_of_lt_of_le HLT3.out HG3.out.size
      have hbel3 : Below w.heap.size w w3 := HB3.out.grown HG3.out HB3.out.size (fun j e => by cases e; exact Nat.le_refl _)
      go_ret
      exact ⟨w.heap.size, k, rfl, HN, Lib.hid ⟨Nat.le_refl _, hlt3, by rw [fcells_length, HN.out], HX3.out⟩, hbel3⟩
set_option maxRecDepth 100000 in
set_option maxHeartbeats 1000000 in
theorem leftFile_any (w : World) (base g n : Nat) (v : Value) (l : List PF) (hn : n = l.length) (ht : TwG w base 86 4 g n (fcells l) spareFile) (hv : RdF w v l) (hl : l.length ≤ 100000) :
    Calls Tryz.prog 14 #[.slice (some ⟨g, 0, none⟩) n (n + 1), v] w fun e w' => e = .returned (.bool true) ∧ Below w.heap.size w w' := by
  obtain ⟨la, n2, lc, rfl, HN2, hlc, hlm⟩ := rdFile_sl hv
  obtain rfl : n2 = n := HN2.out.trans hn.symm
  have HN := Lib.hid hn
  have hn3 : n2 ≤ 100000 := by rw [hn]; exact hl
  have hvt : RdF w (.slice (some ⟨g, 0, none⟩) n2 (n2 + 1)) l := (rdF_of (reads_of_own ht.own)).2
  have HV := Lib.hid hv
  have HT := Lib.hid hvt
  have HTW := Lib.hid ht
  clear hv hvt ht hl hn
  have hb : ((n2 : Int) != (n2 : Int)) = false := by simp
  have hq : decide ((n2 : Int) + 1 ≤ (n2 : Int)) = false := by simp; omega
  have hq2 : decide ((n2 + 1 : Nat) ≤ n2) = false := by simp
  go_enter Tryz.func14, Tryz.ntmps14
  go_upto_region 4 with (fail)
  try show Code.wp _ _ _ _ _
  go_loopw [5] (fun i wr => ∃ k : Nat, k ≤ n2 ∧ i = .int .i64 k ∧ Below w.heap.size w wr) (fun i _ => n2 - (intOf i).toNat)
  case atStart => exact ⟨0, Nat.zero_le _, rfl, Below.refl _ _⟩
  case round =>
    obtain ⟨k, hk, rfl, bel⟩ := hrel
    have HB := Lib.hid bel
    clear bel
    by_cases hlt : k < n2
    · have hkl : k < l.length := by rw [← HN.out]; exact hlt
      obtain ⟨_, _, he, _, _, hc⟩ := HV.out.below HB.out
      simp only [Value.slice.injEq] at he
      obtain ⟨rfl, hx1, hx2⟩ := he
      clear hx1 hx2
      obtain ⟨b, off, rfl, c0, c1, c2, c3⟩ := hc k hkl
      obtain ⟨_, _, he, _, _, hc2⟩ := HT.out.below HB.out
      simp only [Value.slice.injEq] at he
      obtain ⟨he, hx1, hx2⟩ := he
      clear hx1 hx2
      obtain ⟨b2, off2, he2, d0, d1, d2, d3⟩ := hc2 k hkl
      rw [← he] at he2
      simp only [Option.some.injEq, Addr.mk.injEq, and_true] at he2
      obtain ⟨rfl, rfl⟩ := he2
      obtain ⟨f, hf⟩ : ∃ f, f = l[k] := ⟨_, rfl⟩
      rw [← hf] at c0 c1 c2 c3 d0 d1 d2 d3
      rw [Nat.zero_add] at d0 d1 d2 d3
      clear hf hc hc2 he
      obtain ⟨xn, xl, xa, xb⟩ := f
      simp only at c0 c1 c2 c3 d0 d1 d2 d3
      go_wp2
      go_quiet (fail)
      have HBQ := Lib.hid (HB.out.trans ((drewN_below wr nq).mono HB.out.size))
      go_wp2
      go_roundw
      case rel => exact ⟨k + 1, by omega, by go_num, HBQ.out⟩
      case measure => simp [intOf]; omega
    · obtain rfl : k = n2 := by omega
      have s0 : wr.cell? ⟨g, k * 4, none⟩ = some (.int .u32 0) := by
        have := (HTW.out.below HB.out).spare 0 (by omega) (.int .u32 0) rfl
        simpa using this
      have s1 : wr.cell? ⟨g, k * 4 + 1, none⟩ = some (.int .i64 0) := by
        have := (HTW.out.below HB.out).spare 1 (by omega) (.int .i64 0) rfl
        exact this
      have s2 : wr.cell? ⟨g, k * 4 + 2, none⟩ = some (.string ⟨#[115, 112, 97, 114, 101]⟩) := by
        have := (HTW.out.below HB.out).spare 2 (by omega) (.string ⟨#[115, 112, 97, 114, 101]⟩) rfl
        exact this
      have s3 : wr.cell? ⟨g, k * 4 + 3, none⟩ = some (.string ⟨#[]⟩) := by
        have := (HTW.out.below HB.out).spare 3 (by omega) (.string ⟨#[]⟩) rfl
        exact this
      have hbz : (0 : Int) ≤ (k : Int) := by omega
      go_wp2
      go_ret
      exact ⟨by first | rfl | (simp; done), by first | exact HB.out | exact HB.out.alloc HB.out.size _⟩
end Go.Proofs.YtimfcinkjjaigaaGreatDoor
namespace Go.Proofs.YtimfcinkjjaigaaGreatDoor
open Go.RowKit

set_option maxRecDepth 100000 in
theorem infoTId : (Tryz.prog.info? 24).map (fun i => (i.zero, i.size, i.bytes)) = some (some (.int .u32 0), 1, 4) := by kernel_rfl
theorem rdId_sl {w : World} {v : Value} {l : List Nat} (h : RdU w v l) : ∃ a n c, v = .slice a n c ∧ Hid (n = l.length) ∧ n ≤ c ∧ c ≤ 9223372036854775807 := by
  obtain ⟨a, c, h1, h2, h3, _⟩ := h
  exact ⟨a, _, c, h1, rfl, h2, h3⟩
def spareId : List Value := ucells [77]
set_option maxRecDepth 100000 in
set_option maxHeartbeats 1000000 in
theorem twId_any (w : World) (v : Value) (l : List Nat) (hv : RdU w v l) (hl : l.length ≤ 100000) :
    Calls Tryz.prog 47 #[v] w fun e w' => ∃ g n, e = .returned (.slice (some ⟨g, 0, none⟩) n (n + 1)) ∧ Hid (n = l.length) ∧ Hid (TwG w' w.heap.size 24 1 g n (ucells l) spareId) ∧ Below w.heap.size w w' := by
  obtain ⟨la, n, lc, rfl, HN, hlc, hlm⟩ := rdId_sl hv
  have HV : Hid (∀ w', Below w.heap.size w w' → RdU w' (.slice la n lc) l) := Lib.hid fun w' hb => hv.below hb
  obtain ⟨i0, hi, hz, hz1, hz2⟩ := info_parts infoTId
  have hn : n ≤ 100000 := by rw [HN.out]; exact hl
  have hmk := run_make (P := Tryz.prog) w 23 24 i0 _ Tryz.underlying23 hi hz .i64 .i64 0 ((n : Int) + 1) (by omega) (by omega) (by rw [hz2]; omega) (by omega)
  rw [hz1, show ((n : Int) + 1).toNat = n + 1 from by omega, show (0 : Int).toNat = 0 from rfl] at hmk
  obtain ⟨C, hC⟩ : ∃ C, C = madeCells (Value.cells (.int .u32 0)) ((n + 1) * 1) := ⟨_, rfl⟩
  have hCs : C.size = (n + 1) * 1 := by rw [hC, size_madeCells]
  rw [← hC] at hmk
  have HO0 : Hid (Own (w.alloc (.cells C 24)) w.heap.size 24 1 (.slice (some ⟨w.heap.size, 0, none⟩) 0 (n + 1)) 0 []) := Lib.hid (own_of (World.ownsRow_made w C (e := 24) (size := 1) (base := w.heap.size) (n + 1) (Nat.le_refl _) (by unfold maxLen; omega) (by omega)))
  have HB0 : Hid (Below w.heap.size w (w.alloc (.cells C 24))) := Lib.hid ((Below.refl _ _).alloc (Nat.le_refl _) _)
  have HL0 : Hid (w.heap.size < (w.alloc (.cells C 24)).heap.size) := Lib.hid (by simp)
  clear hC hCs hv hl
  go_enter Tryz.func47, Tryz.ntmps47
  go_upto_region 3 with (fail)
  clear hmk
  try show Code.wp _ _ _ _ _
  go_loopw [3, 4] (fun t i wr => ∃ k : Nat, k ≤ n ∧ i = .int .i64 k ∧ t = .slice (some ⟨w.heap.size, 0, none⟩) k (n + 1) ∧ Hid (Own wr w.heap.size 24 1 (.slice (some ⟨w.heap.size, 0, none⟩) k (n + 1)) k (ucells (l.take k))) ∧ Hid (w.heap.size < wr.heap.size) ∧ Below w.heap.size w wr) (fun _ i _ => n - (intOf i).toNat)
  case atStart => exact ⟨0, Nat.zero_le _, rfl, rfl, HO0, HL0, HB0.out⟩
  case round =>
    obtain ⟨k, hk, rfl, rfl, hO, hLT, bel⟩ := hrel
    have HB := Lib.hid bel
    clear bel
    by_cases hlt : k < n
    · have hkl : k < l.length := by rw [← HN.out]; exact hlt
      obtain ⟨_, _, he, _, _, hc⟩ := HV.out wr HB.out
      simp only [Value.slice.injEq] at he
      obtain ⟨rfl, hx1, hx2⟩ := he
      clear hx1 hx2
      obtain ⟨b, off, rfl, c0⟩ := hc k hkl
      have HTK := Lib.hid (List.take_succ_eq_append_getElem hkl)
      obtain ⟨f, hf⟩ : ∃ f, f = l[k] := ⟨_, rfl⟩
      rw [← hf] at c0 HTK
      clear hf hc
      have hal : Below wr.heap.size wr (wr.alloc (.cells #[.int .u32 (f : Int)] 24)) := (Below.refl _ _).alloc (Nat.le_refl _) _
      have HO2 := Lib.hid (own_below hO.out hal)
      have HB3 := Lib.hid (HB.out.trans (hal.mono HB.out.size))
      have HLT3 := Lib.hid (Nat.lt_of_lt_of_le hLT.out hal.size)
      have HRF : Hid (Reads (wr.alloc (.cells #[.int .u32 (f : Int)] 24)) 1 (.slice (some ⟨wr.heap.size, 0, none⟩) 1 1) 1 (ucells [f])) := Lib.hid (reads_new wr _ 24 1 1 rfl (by decide))
      clear hal
      go_wp2_with (at_builtin; go_loud (refine wp_fitsO rfl _ _ rfl Tryz.underlying23 hi hz1 (by omega) w.heap.size w.heap.size k (n + 1) 1 (ucells (l.take k)) (ucells [f]) (ucells (l.take (k + 1))) _ (k + 1) rfl rfl HO2.out HRF.out (one_ucells _) rfl (by rw [HTK.out, ucells_app]) (by omega) (by omega) ?_); intro w3 HX3 HG3)
      have hlt3 : Hid (w.heap.size < w3.heap.size) := Lib.hid (Nat.lt_of_lt_of_le HLT3.out HG3.out.size)
      have hbel3 : Below w.heap.size w w3 := HB3.out.grown HG3.out HB3.out.size (fun j e => by cases e; exact Nat.le_refl _)
      exact ⟨⟨k + 1, by omega, by go_num, rfl, HX3, hlt3, hbel3⟩, by simp [intOf]; omega⟩
    · have hkn : l.take k = l := List.take_of_length_le (by rw [← HN.out]; omega)
      rw [hkn] at hO
      obtain ⟨ko, hko⟩ : ∃ x, x = k := ⟨_, rfl⟩
      have hkn2 : k = n := by omega
      subst hkn2
      clear hkn hko
      have hal : Below wr.heap.size wr (wr.alloc (.cells #[.int .u32 77] 24)) := (Below.refl _ _).alloc (Nat.le_refl _) _
      have HO2 := Lib.hid (own_below hO.out hal)
      have HB3 := Lib.hid (HB.out.trans (hal.mono HB.out.size))
      have HLT3 := Lib.hid (Nat.lt_of_lt_of_le hLT.out hal.size)
      have HRF : Hid (Reads (wr.alloc (.cells #[.int .u32 77] 24)) 1 (.slice (some ⟨wr.heap.size, 0, none⟩) 1 1) 1 spareId) := Lib.hid (reads_new wr _ 24 1 1 rfl (by decide))
      clear hal
      go_upto_region 6 with (fail)
      go_wp2_with (at_builtin; go_loud (refine wp_fitsO rfl _ _ rfl Tryz.underlying23 hi hz1 (by omega) w.heap.size w.heap.size k (k + 1) 1 (ucells l) spareId (ucells l ++ spareId) _ (k + 1) rfl rfl HO2.out HRF.out (one_ucells _) rfl rfl (by omega) (by omega) ?_); intro w3 HX3 HG3)
      have hlt3 : w.heap.size < w3.heap.size := Nat.lt_of_lt_of_le HLT3.out HG3.out.size
      have hbel3 : Below w.heap.size w w3 := HB3.out.grown HG3.out HB3.out.size (fun j e => by cases e; exact Nat.le_refl _)
      go_ret
      exact ⟨w.heap.size, k, rfl, HN, Lib.hid ⟨Nat.le_refl _, hlt3, by rw [ucells_length, HN.out, Nat.mul_one], HX3.out⟩, hbel3⟩
set_option maxRecDepth 100000 in
set_option maxHeartbeats 1000000 in
theorem leftId_any (w : World) (base g n : Nat) (v : Value) (l : List Nat) (hn : n = l.length) (ht : TwG w base 24 1 g n (ucells l) spareId) (hv : RdU w v l) (hl : l.length ≤ 100000) :
    Calls Tryz.prog 62 #[.slice (some ⟨g, 0, none⟩) n (n + 1), v] w fun e w' => e = .returned (.bool true) ∧ Below w.heap.size w w' := by
  obtain ⟨la, n2, lc, rfl, HN2, hlc, hlm⟩ := rdId_sl hv
  obtain rfl : n2 = n := HN2.out.trans hn.symm
  have HN := Lib.hid hn
  have hn3 : n2 ≤ 100000 := by rw [hn]; exact hl
  have hvt : RdU w (.slice (some ⟨g, 0, none⟩) n2 (n2 + 1)) l := (rdU_of (reads_of_own ht.own)).2
  have HV := Lib.hid hv
  have HT := Lib.hid hvt
  have HTW := Lib.hid ht
  clear hv hvt ht hl hn
  have hb : ((n2 : Int) != (n2 : Int)) = false := by simp
  have hq : decide ((n2 : Int) + 1 ≤ (n2 : Int)) = false := by simp; omega
  have hq2 : decide ((n2 + 1 : Nat) ≤ n2) = false := by simp
  go_enter Tryz.func62, Tryz.ntmps62
  go_upto_region 4 with (fail)
  try show Code.wp _ _ _ _ _
  go_loopw [5] (fun i wr => ∃ k : Nat, k ≤ n2 ∧ i = .int .i64 k ∧ Below w.heap.size w wr) (fun i _ => n2 - (intOf i).toNat)
  case atStart => exact ⟨0, Nat.zero_le _, rfl, Below.refl _ _⟩
  case round =>
    obtain ⟨k, hk, rfl, bel⟩ := hrel
    have HB := Lib.hid bel
    clear bel
    by_cases hlt : k < n2
    · have hkl : k < l.length := by rw [← HN.out]; exact hlt
      obtain ⟨_, _, he, _, _, hc⟩ := HV.out.below HB.out
      simp only [Value.slice.injEq] at he
      obtain ⟨rfl, hx1, hx2⟩ := he
      clear hx1 hx2
      obtain ⟨b, off, rfl, c0⟩ := hc k hkl
      obtain ⟨_, _, he, _, _, hc2⟩ := HT.out.below HB.out
      simp only [Value.slice.injEq] at he
      obtain ⟨he, hx1, hx2⟩ := he
      clear hx1 hx2
      obtain ⟨b2, off2, he2, d0⟩ := hc2 k hkl
      rw [← he] at he2
      simp only [Option.some.injEq, Addr.mk.injEq, and_true] at he2
      obtain ⟨rfl, rfl⟩ := he2
      obtain ⟨f, hf⟩ : ∃ f, f = l[k] := ⟨_, rfl⟩
      rw [← hf] at c0 d0
      rw [Nat.zero_add] at d0
      clear hf hc hc2 he
      go_wp2
      go_quiet (fail)
      have HBQ := Lib.hid (HB.out.trans ((drewN_below wr nq).mono HB.out.size))
      go_wp2
      go_roundw
      case rel => exact ⟨k + 1, by omega, by go_num, HBQ.out⟩
      case measure => simp [intOf]; omega
    · obtain rfl : k = n2 := by omega
      have s0 : wr.cell? ⟨g, k, none⟩ = some (.int .u32 77) := by
        have := (HTW.out.below HB.out).spare 0 (by omega) (.int .u32 77) rfl
        simpa using this
      have hbz : (0 : Int) ≤ (k : Int) := by omega
      go_wp2
      go_ret
      exact ⟨by first | rfl | (simp; done), by first | exact HB.out | exact HB.out.alloc HB.out.size _⟩
end Go.Proofs.YtimfcinkjjaigaaGreatDoor
namespace Go.Proofs.YtimfcinkjjaigaaGreatDoor
open Go.RowKit

set_option maxRecDepth 100000 in
theorem info_edit_size2 : (Tryz.prog.info? 27).map (·.size) = some 5 := by kernel_rfl
theorem TwG.low {w : World} {base base' g n sz : Nat} {e : TypeId} {xs sp : List Value} (h : TwG w base e sz g n xs sp) (hb : base' ≤ base) : TwG w base' e sz g n xs sp := ⟨Nat.le_trans hb h.1, h.2.1, h.2.2.1, own_mono h.2.2.2 hb⟩
theorem TwG.set {w : World} {base g n sz : Nat} {e : TypeId} {xs sp : List Value} (h : TwG w base e sz g n xs sp) (p : Addr) (hp : p.block < base) (v : Value) : TwG (w.setCell p v) base e sz g n xs sp := ⟨h.1, by simpa using h.2.1, h.2.2.1, own_set h.2.2.2 p hp v⟩
/-- the twin of an edit -/
def TwX (x : PX) (w : World) (e : Ending) (w' : World) : Prop :=
  ∃ tg ug n m, e = .returned (.agg #[.slice (some ⟨tg, 0, none⟩) n (n + 1), .slice (some ⟨ug, 0, none⟩) m (m + 1), .int .u32 x.jo, .int .u32 x.nx, .int .u64 x.sq]) ∧ Hid (n = x.add.length) ∧ Hid (m = x.rem.length) ∧
    Hid (TwG w' w.heap.size 86 4 tg n (fcells x.add) spareFile) ∧ Hid (TwG w' w.heap.size 24 1 ug m (ucells x.rem) spareId) ∧ Hid (tg ≠ ug) ∧ Below w.heap.size w w'
set_option maxRecDepth 100000 in
set_option maxHeartbeats 4000000 in
theorem twEdit_any (w : World) (vx : Value) (x : PX) (hx : RdX w vx x) (h1 : x.add.length ≤ 100000) (h2 : x.rem.length ≤ 100000) :
    Calls Tryz.prog 10 #[vx] w (TwX x w) := by
  obtain ⟨va, vr, rfl, hva, hvr⟩ := hx
  obtain ⟨aa, ac, hae, ha1, ha2, -⟩ := id hva
  obtain ⟨ra, rc, hre, hr1, hr2, -⟩ := id hvr
  obtain ⟨an, han⟩ : ∃ n, n = x.add.length := ⟨_, rfl⟩
  obtain ⟨rn, hrn⟩ : ∃ n, n = x.rem.length := ⟨_, rfl⟩
  rw [← han] at hae ha1 h1
  rw [← hrn] at hre hr1 h2
  subst hae
  subst hre
  have HAN := Lib.hid han
  have HRN := Lib.hid hrn
  have HV : Hid (∀ w', Below w.heap.size w w' → RdF w' (.slice aa an ac) x.add ∧ RdU w' (.slice ra rn rc) x.rem) := Lib.hid fun w' hb => ⟨hva.below hb, hvr.below hb⟩
  unfold TwX
  obtain ⟨jo, hjo⟩ : ∃ j, j = x.jo := ⟨_, rfl⟩
  obtain ⟨nx, hnx⟩ : ∃ j, j = x.nx := ⟨_, rfl⟩
  obtain ⟨sq, hsq⟩ : ∃ j, j = x.sq := ⟨_, rfl⟩
  rw [← hjo, ← hnx, ← hsq]
  clear hjo hnx hsq han hrn hva hvr
  obtain ⟨W0, hW0⟩ : ∃ W, W = w.alloc (.cells #[.slice aa an ac, .slice ra rn rc, .int .u32 jo, .int .u32 nx, .int .u64 sq] 27) := ⟨_, rfl⟩
  obtain ⟨W, hW⟩ : ∃ W, W = W0.alloc (.cells #[.slice none 0 0, .slice none 0 0, .int .u32 0, .int .u32 0, .int .u64 0] 27) := ⟨_, rfl⟩
  have hz0 : W0.heap.size = w.heap.size + 1 := by rw [hW0]; simp
  have hz1 : W.heap.size = w.heap.size + 2 := by rw [hW]; simp [hz0]
  have hB0 : Below w.heap.size w W0 := by rw [hW0]; exact alloc_bel _ _
  have hB1 : Below W0.heap.size W0 W := by rw [hW]; exact alloc_bel _ _
  have hbx : Blk W0 w.heap.size #[.slice aa an ac, .slice ra rn rc, .int .u32 jo, .int .u32 nx, .int .u64 sq] 27 := by rw [hW0]; exact Blk.new _ _ _
  have hbr : Blk W W0.heap.size #[.slice none 0 0, .slice none 0 0, .int .u32 0, .int .u32 0, .int .u64 0] 27 := by rw [hW]; exact Blk.new _ _ _
  rw [hz0] at hbr
  have hBW := hB0.trans (hB1.mono hB0.size)
  obtain ⟨gx, hgx⟩ : ∃ g, g = w.heap.size := ⟨_, rfl⟩
  obtain ⟨gr, hgr⟩ : ∃ g, g = w.heap.size + 1 := ⟨_, rfl⟩
  rw [← hgr] at hbr
  rw [← hgx] at hbx
  have hb1 := hbx.below hB1
  have HSW : Hid ((fun w' => w'.cell? ⟨gx, 0, none⟩ = some (.slice aa an ac) ∧ w'.cell? ⟨gx, 1, none⟩ = some (.slice ra rn rc) ∧ w'.cell? ⟨gx, 2, none⟩ = some (.int .u32 jo) ∧ w'.cell? ⟨gx, 3, none⟩ = some (.int .u32 nx) ∧ w'.cell? ⟨gx, 4, none⟩ = some (.int .u64 sq) ∧ Below w.heap.size w w') W.drew) := Lib.hid ⟨hb1.cellv 0 _ rfl, hb1.cellv 1 _ rfl, hb1.cellv 2 _ rfl, hb1.cellv 3 _ rfl, hb1.cellv 4 _ rfl, hBW.drew⟩
  have hgxg : gx ≠ gr := by omega
  have hgw : w.heap.size ≤ gr := by omega
  have hgrW : gr < W.heap.size := by omega
  have hwW : w.heap.size ≤ W.heap.size := by omega
  have HSB : Hid (∀ w1 w2, (fun w' => w'.cell? ⟨gx, 0, none⟩ = some (.slice aa an ac) ∧ w'.cell? ⟨gx, 1, none⟩ = some (.slice ra rn rc) ∧ w'.cell? ⟨gx, 2, none⟩ = some (.int .u32 jo) ∧ w'.cell? ⟨gx, 3, none⟩ = some (.int .u32 nx) ∧ w'.cell? ⟨gx, 4, none⟩ = some (.int .u64 sq) ∧ Below w.heap.size w w') w1 → Below w1.heap.size w1 w2 → (fun w' => w'.cell? ⟨gx, 0, none⟩ = some (.slice aa an ac) ∧ w'.cell? ⟨gx, 1, none⟩ = some (.slice ra rn rc) ∧ w'.cell? ⟨gx, 2, none⟩ = some (.int .u32 jo) ∧ w'.cell? ⟨gx, 3, none⟩ = some (.int .u32 nx) ∧ w'.cell? ⟨gx, 4, none⟩ = some (.int .u64 sq) ∧ Below w.heap.size w w') w2) := Lib.hid fun w1 w2 ⟨p0, p1, p2, p3, p4, p5⟩ hb => ⟨Below.keeps hb _ _ _ p0, Below.keeps hb _ _ _ p1, Below.keeps hb _ _ _ p2, Below.keeps hb _ _ _ p3, Below.keeps hb _ _ _ p4, p5.trans (hb.mono p5.size)⟩
  have HSG : Hid (∀ w1, (fun w' => w'.cell? ⟨gx, 0, none⟩ = some (.slice aa an ac) ∧ w'.cell? ⟨gx, 1, none⟩ = some (.slice ra rn rc) ∧ w'.cell? ⟨gx, 2, none⟩ = some (.int .u32 jo) ∧ w'.cell? ⟨gx, 3, none⟩ = some (.int .u32 nx) ∧ w'.cell? ⟨gx, 4, none⟩ = some (.int .u64 sq) ∧ Below w.heap.size w w') w1 → ∀ a b c d e, (fun w' => w'.cell? ⟨gx, 0, none⟩ = some (.slice aa an ac) ∧ w'.cell? ⟨gx, 1, none⟩ = some (.slice ra rn rc) ∧ w'.cell? ⟨gx, 2, none⟩ = some (.int .u32 jo) ∧ w'.cell? ⟨gx, 3, none⟩ = some (.int .u32 nx) ∧ w'.cell? ⟨gx, 4, none⟩ = some (.int .u64 sq) ∧ Below w.heap.size w w') (((((w1.setCell ⟨gr, 0, none⟩ a).setCell ⟨gr, 1, none⟩ b).setCell ⟨gr, 2, none⟩ c).setCell ⟨gr, 3, none⟩ d).setCell ⟨gr, 4, none⟩ e)) := Lib.hid fun w1 ⟨p0, p1, p2, p3, p4, p5⟩ a b c d e => by
    refine ⟨?_, ?_, ?_, ?_, ?_, ((((p5.setCell (p := ⟨gr, 0, none⟩) hgw a).setCell (p := ⟨gr, 1, none⟩) hgw b).setCell (p := ⟨gr, 2, none⟩) hgw c).setCell (p := ⟨gr, 3, none⟩) hgw d).setCell (p := ⟨gr, 4, none⟩) hgw e⟩ <;>
      (rw [World.cell?_setCell_other _ _ _ _ (by simp <;> omega), World.cell?_setCell_other _ _ _ _ (by simp <;> omega), World.cell?_setCell_other _ _ _ _ (by simp <;> omega), World.cell?_setCell_other _ _ _ _ (by simp <;> omega), World.cell?_setCell_other _ _ _ _ (by simp <;> omega)]; assumption)
  have HRD : Hid (Blk W.drew gr #[.slice none 0 0, .slice none 0 0, .int .u32 0, .int .u32 0, .int .u64 0] 27) := Lib.hid (hbr.below (Below.drew (Below.refl _ _)))
  have hwd : W.heap.size ≤ W.drew.heap.size := Nat.le_refl _
  clear hB0 hB1 hbx hbr hBW hb1
  go_enter Tryz.func10, Tryz.ntmps10
  go_upto_region 1 with (fail)
  rw [← hW0, ← hW, ← hgr, ← hgx]
  clear hW hW0 hz0 hz1 hgx hgr
  refine wp_region_held_drew (S := fun w' => w'.cell? ⟨gx, 0, none⟩ = some (.slice aa an ac) ∧ w'.cell? ⟨gx, 1, none⟩ = some (.slice ra rn rc) ∧ w'.cell? ⟨gx, 2, none⟩ = some (.int .u32 jo) ∧ w'.cell? ⟨gx, 3, none⟩ = some (.int .u32 nx) ∧ w'.cell? ⟨gx, 4, none⟩ = some (.int .u64 sq) ∧ Below w.heap.size w w') (by kernel_rfl) (HSW.out) (fun hHeld => ?_)
  refine wpAnyH_take (i := 0) (v := ?vq3) (by simp only [List.getElem?_toArray]; rfl) (by kernel_rfl) (by kernel_rfl) (by kernel_rfl) (by exact fun _ _ _ h => h) (Or.inl ⟨by rfl, ?yq3⟩) (by assumption) ?rq3
  case yq3 => (intro w hSw; (try dsimp only at hSw); go_simp; try with_reducible rfl)
  try simp only [Act.put, List.setIfInBounds_toArray, List.set_cons_zero, List.set_cons_succ]
  refine wpAnyH_take (i := 1) (v := ?vq4) (by simp only [List.getElem?_toArray]; rfl) (by kernel_rfl) (by kernel_rfl) (by kernel_rfl) (by exact fun _ _ _ h => h) (Or.inl ⟨by rfl, ?yq4⟩) (by assumption) ?rq4
  case yq4 => (intro w hSw; (try dsimp only at hSw); go_simp; try with_reducible rfl)
  try simp only [Act.put, List.setIfInBounds_toArray, List.set_cons_zero, List.set_cons_succ]
  refine wpAnyH_take (i := 3) (v := ?vq5) (by simp only [List.getElem?_toArray]; rfl) (by kernel_rfl) (by kernel_rfl) (by kernel_rfl) (by exact fun _ _ _ h => h) (Or.inl ⟨by rfl, ?yq5⟩) (by assumption) ?rq5
  case yq5 => (intro w hSw; (try dsimp only at hSw); go_simp; try with_reducible rfl)
  try simp only [Act.put, List.setIfInBounds_toArray, List.set_cons_zero, List.set_cons_succ]
  refine wpAnyH_take (i := 4) (v := ?vq6) (by simp only [List.getElem?_toArray]; rfl) (by kernel_rfl) (by kernel_rfl) (by kernel_rfl) (by exact fun _ _ _ h => h) (Or.inl ⟨by rfl, ?yq6⟩) (by assumption) ?rq6
  case yq6 => (intro w hSw; (try dsimp only at hSw); go_simp; try with_reducible rfl)
  try simp only [Act.put, List.setIfInBounds_toArray, List.set_cons_zero, List.set_cons_succ]
  refine wpAnyH_take (i := 6) (v := ?vq7) (by simp only [List.getElem?_toArray]; rfl) (by kernel_rfl) (by kernel_rfl) (by kernel_rfl) (by exact fun _ _ _ h => h) (Or.inl ⟨by rfl, ?yq7⟩) (by assumption) ?rq7
  case yq7 => (intro w hSw; (try dsimp only at hSw); go_simp; try with_reducible rfl)
  try simp only [Act.put, List.setIfInBounds_toArray, List.set_cons_zero, List.set_cons_succ]
  refine wpAnyH_take (i := 7) (v := ?vq8) (by simp only [List.getElem?_toArray]; rfl) (by kernel_rfl) (by kernel_rfl) (by kernel_rfl) (by exact fun _ _ _ h => h) (Or.inl ⟨by rfl, ?yq8⟩) (by assumption) ?rq8
  case yq8 => (intro w hSw; (try dsimp only at hSw); go_simp; try with_reducible rfl)
  try simp only [Act.put, List.setIfInBounds_toArray, List.set_cons_zero, List.set_cons_succ]
  refine wpAnyH_take (i := 8) (v := ?vq9) (by simp only [List.getElem?_toArray]; rfl) (by kernel_rfl) (by kernel_rfl) (by kernel_rfl) (by exact fun _ _ _ h => h) (Or.inl ⟨by rfl, ?yq9⟩) (by assumption) ?rq9
  case yq9 => (intro w hSw; (try dsimp only at hSw); go_simp; try with_reducible rfl)
  try simp only [Act.put, List.setIfInBounds_toArray, List.set_cons_zero, List.set_cons_succ]
  refine wpAnyH_take (i := 9) (v := ?vq10) (by simp only [List.getElem?_toArray]; rfl) (by kernel_rfl) (by kernel_rfl) (by kernel_rfl) (by exact fun _ _ _ h => h) (Or.inl ⟨by rfl, ?yq10⟩) (by assumption) ?rq10
  case yq10 => (intro w hSw; (try dsimp only at hSw); go_simp; try with_reducible rfl)
  try simp only [Act.put, List.setIfInBounds_toArray, List.set_cons_zero, List.set_cons_succ]
  refine wpAnyH_take (i := 10) (v := ?vq11) (by simp only [List.getElem?_toArray]; rfl) (by kernel_rfl) (by kernel_rfl) (by kernel_rfl) (by exact fun _ _ _ h => h) (Or.inl ⟨by rfl, ?yq11⟩) (by assumption) ?rq11
  case yq11 => (intro w hSw; (try dsimp only at hSw); go_simp; try with_reducible rfl)
  try simp only [Act.put, List.setIfInBounds_toArray, List.set_cons_zero, List.set_cons_succ]
  refine wpAnyH_take (i := 11) (v := ?vq12) (by simp only [List.getElem?_toArray]; rfl) (by kernel_rfl) (by kernel_rfl) (by kernel_rfl) (by exact fun _ _ _ h => h) (Or.inl ⟨by rfl, ?yq12⟩) (by assumption) ?rq12
  case yq12 => (intro w hSw; (try dsimp only at hSw); go_simp; try with_reducible rfl)
  try simp only [Act.put, List.setIfInBounds_toArray, List.set_cons_zero, List.set_cons_succ]
  refine wpAnyH_ready (rs := [2]) (by kernel_rfl) (by simp) ?_
  refine AllReadyH.cons (by simp only [List.getElem?_toArray]; rfl) (fun K hK => ?_) AllReadyH.nil
  go_simp
  refine (twFile_any _ _ x.add (HV.out _ hHeld.2.2.2.2.2).1 (by rw [← HAN.out]; omega)).mono ?_
  rintro e w3 ⟨tg, n2, rfl, HN2, HTF, b3⟩
  obtain rfl : n2 = an := HN2.out.trans HAN.out.symm
  refine hK.out _ _ (HSB.out _ _ hHeld b3) (fun hHeld => ?_)
  clear hK K
  try simp only [Act.put, List.setIfInBounds_toArray, List.set_cons_zero, List.set_cons_succ]
  refine wpAnyH_ready (rs := [5]) (by kernel_rfl) (by simp) ?_
  refine AllReadyH.cons (by simp only [List.getElem?_toArray]; rfl) (fun K hK => ?_) AllReadyH.nil
  go_simp
  refine (twId_any _ _ x.rem (HV.out _ hHeld.2.2.2.2.2).2 (by rw [← HRN.out]; omega)).mono ?_
  rintro e w4 ⟨ug, m2, rfl, HM2, HTU, b4⟩
  obtain rfl : m2 = rn := HM2.out.trans HRN.out.symm
  refine hK.out _ _ (HSB.out _ _ hHeld b4) (fun hHeld => ?_)
  clear hK K
  try simp only [Act.put, List.setIfInBounds_toArray, List.set_cons_zero, List.set_cons_succ]
  have HB4 : Hid (Below w.heap.size w w4) := Lib.hid hHeld.2.2.2.2.2
  have HR4 := Lib.hid ((HRD.out.below b3).below b4)
  have y0 := HR4.out.cellv 0 _ rfl
  have y1 := HR4.out.cellv 1 _ rfl
  have y2 := HR4.out.cellv 2 _ rfl
  have y3 := HR4.out.cellv 3 _ rfl
  have y4 := HR4.out.cellv 4 _ rfl
  have u0 := HR4.out.free 0
  have u1 := HR4.out.free 1
  have u2 := HR4.out.free 2
  have u3 := HR4.out.free 3
  have u4 := HR4.out.free 4
  refine wpAnyH_take (i := 12) (v := ?vq1) (by simp only [List.getElem?_toArray]; rfl) (by kernel_rfl) (by kernel_rfl) (by kernel_rfl) (by exact fun _ _ _ h => h) (Or.inl ⟨by rfl, ?yq1⟩) (by assumption) ?rq1
  case yq1 => (intro w hSw; (try dsimp only at hSw); go_simp; try with_reducible rfl)
  try simp only [Act.put, List.setIfInBounds_toArray, List.set_cons_zero, List.set_cons_succ]
  refine wpAnyH_ready (rs := [13]) (by kernel_rfl) (by simp) ?_
  refine AllReadyH.cons (by simp only [List.getElem?_toArray]; rfl) (fun K hK => ?_) AllReadyH.nil
  go_simp
  refine hK.out _ _ (HSG.out _ hHeld _ _ _ _ _) (fun hHeld => ?_)
  clear hK K
  try simp only [Act.put, List.setIfInBounds_toArray, List.set_cons_zero, List.set_cons_succ]
  refine wpAnyH_done (by kernel_rfl) ?_ _
  have HRX := Lib.hid (((((HR4.out.set 0 (.slice (some ⟨tg, 0, none⟩) n2 (n2 + 1))).set 1 (.slice (some ⟨ug, 0, none⟩) m2 (m2 + 1))).set 2 (.int .u32 jo)).set 3 (.int .u32 nx)).set 4 (.int .u64 sq))
  have HBX := Lib.hid (((((HB4.out.setCell (p := ⟨gr, 0, none⟩) hgw (.slice (some ⟨tg, 0, none⟩) n2 (n2 + 1))).setCell (p := ⟨gr, 1, none⟩) hgw (.slice (some ⟨ug, 0, none⟩) m2 (m2 + 1))).setCell (p := ⟨gr, 2, none⟩) hgw (.int .u32 jo)).setCell (p := ⟨gr, 3, none⟩) hgw (.int .u32 nx)).setCell (p := ⟨gr, 4, none⟩) hgw (.int .u64 sq))
  have HRX' : Hid (Blk (((((w4.setCell ⟨gr, 0, none⟩ (.slice (some ⟨tg, 0, none⟩) n2 (n2 + 1))).setCell ⟨gr, 1, none⟩ (.slice (some ⟨ug, 0, none⟩) m2 (m2 + 1))).setCell ⟨gr, 2, none⟩ (.int .u32 jo)).setCell ⟨gr, 3, none⟩ (.int .u32 nx)).setCell ⟨gr, 4, none⟩ (.int .u64 sq)) gr #[.slice (some ⟨tg, 0, none⟩) n2 (n2 + 1), .slice (some ⟨ug, 0, none⟩) m2 (m2 + 1), .int .u32 jo, .int .u32 nx, .int .u64 sq] 27) := Lib.hid HRX.out
  have HTF4 := Lib.hid ((HTF.out.below b4).low hwd)
  have HTU4 := Lib.hid (HTU.out.low (Nat.le_trans hwd b3.size))
  have HNE : Hid (tg ≠ ug) := Lib.hid (by have h1 := HTF.out.2.1; have h2 := HTU.out.1; omega)
  have HTF5 := Lib.hid ((((((HTF4.out.set ⟨gr, 0, none⟩ hgrW (.slice (some ⟨tg, 0, none⟩) n2 (n2 + 1))).set ⟨gr, 1, none⟩ hgrW (.slice (some ⟨ug, 0, none⟩) m2 (m2 + 1))).set ⟨gr, 2, none⟩ hgrW (.int .u32 jo)).set ⟨gr, 3, none⟩ hgrW (.int .u32 nx)).set ⟨gr, 4, none⟩ hgrW (.int .u64 sq)).low hwW)
  have HTU5 := Lib.hid ((((((HTU4.out.set ⟨gr, 0, none⟩ hgrW (.slice (some ⟨tg, 0, none⟩) n2 (n2 + 1))).set ⟨gr, 1, none⟩ hgrW (.slice (some ⟨ug, 0, none⟩) m2 (m2 + 1))).set ⟨gr, 2, none⟩ hgrW (.int .u32 jo)).set ⟨gr, 3, none⟩ hgrW (.int .u32 nx)).set ⟨gr, 4, none⟩ hgrW (.int .u64 sq)).low hwW)
  go_wp2
  refine bodyPost_ret (v := .agg #[.slice (some ⟨tg, 0, none⟩) n2 (n2 + 1), .slice (some ⟨ug, 0, none⟩) m2 (m2 + 1), .int .u32 jo, .int .u32 nx, .int .u64 sq]) (results_cell_row (p := 2) (ty := 27) rfl _ _ gr _ _ _ _ rfl HRX'.out Tryz.underlying27 rfl info_edit_size2) rfl ⟨tg, ug, n2, m2, rfl, HAN, HRN, HTF5, HTU5, HNE, HBX.out⟩
set_option maxRecDepth 100000 in
set_option maxHeartbeats 2000000 in
theorem leftEdit_any (w : World) (base tg ug n m : Nat) (vx : Value) (x : PX) (hn : n = x.add.length) (hm : m = x.rem.length) (ht : TwG w base 86 4 tg n (fcells x.add) spareFile) (hu : TwG w base 24 1 ug m (ucells x.rem) spareId)
    (hx : RdX w vx x) (h1 : x.add.length ≤ 100000) (h2 : x.rem.length ≤ 100000) :
    Calls Tryz.prog 15 #[.agg #[.slice (some ⟨tg, 0, none⟩) n (n + 1), .slice (some ⟨ug, 0, none⟩) m (m + 1), .int .u32 x.jo, .int .u32 x.nx, .int .u64 x.sq], vx] w fun e w' => e = .returned (.bool true) ∧ Below w.heap.size w w' := by
  obtain ⟨va, vr, rfl, hva, hvr⟩ := hx
  have HL1 : Hid (∀ w', Below w.heap.size w w' → Calls Tryz.prog 14 #[.slice (some ⟨tg, 0, none⟩) n (n + 1), va] w' fun e w2 => e = .returned (.bool true) ∧ Below w'.heap.size w' w2) := Lib.hid fun w' hb => leftFile_any w' base tg n va x.add hn (ht.below hb) (hva.below hb) h1
  have HL2 : Hid (∀ w', Below w.heap.size w w' → Calls Tryz.prog 62 #[.slice (some ⟨ug, 0, none⟩) m (m + 1), vr] w' fun e w2 => e = .returned (.bool true) ∧ Below w'.heap.size w' w2) := Lib.hid fun w' hb => leftId_any w' base ug m vr x.rem hm (hu.below hb) (hvr.below hb) h2
  obtain ⟨jo, hjo⟩ : ∃ j, j = x.jo := ⟨_, rfl⟩
  obtain ⟨nx, hnx⟩ : ∃ j, j = x.nx := ⟨_, rfl⟩
  obtain ⟨sq, hsq⟩ : ∃ j, j = x.sq := ⟨_, rfl⟩
  rw [← hjo, ← hnx, ← hsq]
  obtain ⟨aa, ac, rfl, -, -, -⟩ := id hva
  obtain ⟨ra, rc, rfl, -, -, -⟩ := id hvr
  rw [← hn] at HL1
  rw [← hm] at HL2
  rw [← hn, ← hm]
  clear hjo hnx hsq hva hvr ht hu hn hm h1 h2
  obtain ⟨W0, hW0⟩ : ∃ W, W = w.alloc (.cells #[.slice (some ⟨tg, 0, none⟩) n (n + 1), .slice (some ⟨ug, 0, none⟩) m (m + 1), .int .u32 jo, .int .u32 nx, .int .u64 sq] 27) := ⟨_, rfl⟩
  obtain ⟨W, hW⟩ : ∃ W, W = W0.alloc (.cells #[.slice aa n ac, .slice ra m rc, .int .u32 jo, .int .u32 nx, .int .u64 sq] 27) := ⟨_, rfl⟩
  have hz0 : W0.heap.size = w.heap.size + 1 := by rw [hW0]; simp
  have hB0 : Below w.heap.size w W0 := by rw [hW0]; exact alloc_bel _ _
  have hB1 : Below W0.heap.size W0 W := by rw [hW]; exact alloc_bel _ _
  have hbt : Blk W0 w.heap.size #[.slice (some ⟨tg, 0, none⟩) n (n + 1), .slice (some ⟨ug, 0, none⟩) m (m + 1), .int .u32 jo, .int .u32 nx, .int .u64 sq] 27 := by rw [hW0]; exact Blk.new _ _ _
  have hbx : Blk W W0.heap.size #[.slice aa n ac, .slice ra m rc, .int .u32 jo, .int .u32 nx, .int .u64 sq] 27 := by rw [hW]; exact Blk.new _ _ _
  rw [hz0] at hbx
  have HBW := Lib.hid (hB0.trans (hB1.mono hB0.size))
  have hbt1 := hbt.below hB1
  obtain ⟨gt, hgt⟩ : ∃ g, g = w.heap.size := ⟨_, rfl⟩
  obtain ⟨gx, hgx⟩ : ∃ g, g = w.heap.size + 1 := ⟨_, rfl⟩
  rw [← hgt] at hbt1
  rw [← hgx] at hbx
  have HC : Hid (∀ w', Below W.heap.size W w' → (w'.cell? ⟨gt, 0, none⟩ = some (.slice (some ⟨tg, 0, none⟩) n (n + 1)) ∧ w'.cell? ⟨gt, 1, none⟩ = some (.slice (some ⟨ug, 0, none⟩) m (m + 1)) ∧ w'.cell? ⟨gt, 2, none⟩ = some (.int .u32 jo) ∧ w'.cell? ⟨gt, 3, none⟩ = some (.int .u32 nx) ∧ w'.cell? ⟨gt, 4, none⟩ = some (.int .u64 sq)) ∧ (w'.cell? ⟨gx, 0, none⟩ = some (.slice aa n ac) ∧ w'.cell? ⟨gx, 1, none⟩ = some (.slice ra m rc) ∧ w'.cell? ⟨gx, 2, none⟩ = some (.int .u32 jo) ∧ w'.cell? ⟨gx, 3, none⟩ = some (.int .u32 nx) ∧ w'.cell? ⟨gx, 4, none⟩ = some (.int .u64 sq))) := Lib.hid fun w' hb =>
    have p := hbt1.below hb
    have q := hbx.below hb
    ⟨⟨p.cellv 0 _ rfl, p.cellv 1 _ rfl, p.cellv 2 _ rfl, p.cellv 3 _ rfl, p.cellv 4 _ rfl⟩, q.cellv 0 _ rfl, q.cellv 1 _ rfl, q.cellv 2 _ rfl, q.cellv 3 _ rfl, q.cellv 4 _ rfl⟩
  clear hB0 hB1 hbt hbx hbt1 hz0
  go_enter Tryz.func15, Tryz.ntmps15
  go_upto_region 1 with (fail)
  rw [← hW0, ← hW, ← hgx, ← hgt]
  clear hW hW0 hgt hgx
  obtain ⟨⟨a0, -, -, -, -⟩, b0, -, -, -, -⟩ := HC.out W (Below.refl _ _)
  go_wp2_with fail
  refine (HL1.out W HBW.out).mono ?_
  rintro e w1 ⟨rfl, c1⟩
  have HC1 := Lib.hid c1
  have HB1 := Lib.hid (HBW.out.trans (c1.mono HBW.out.size))
  obtain ⟨⟨-, a1, -, -, -⟩, -, b1, -, -, -⟩ := HC.out w1 c1
  clear a0 b0 c1
  go_wp2_with fail
  refine (HL2.out w1 HB1.out).mono ?_
  rintro e w2 ⟨rfl, c2⟩
  have HB2 := Lib.hid (HB1.out.trans (c2.mono HB1.out.size))
  obtain ⟨⟨-, -, a2, a3, a4⟩, -, -, b2, b3, b4⟩ := HC.out w2 (HC1.out.trans (c2.mono HC1.out.size))
  clear a1 b1 c2
  go_wp2
  go_ret
  exact ⟨rfl, HB2.out⟩
end Go.Proofs.YtimfcinkjjaigaaGreatDoor

/- Walks of law01.TwinEntries, law01.LeftEntries. The condition: lists of 100000 elements at most. -/
import Derived.Test.YtbcnapkbdbefhaaGreatDoorTw0
import Derived.Test.YtbcnapkbdbefhaaGreatDoorBlkV
namespace Go.Proofs.YtbcnapkbdbefhaaGreatDoor
open Go.RowKit

set_option maxRecDepth 100000 in
theorem infoTEntry : (Tryz.prog.info? 34).map (fun i => (i.zero, i.size, i.bytes)) = some (some (.agg #[.string .empty, .int .u64 0, .bool false, .string .empty]), 4, 48) := by kernel_rfl
theorem rdEntry_sl {w : World} {v : Value} {l : List PE} (h : RdE w v l) : ∃ a n c, v = .slice a n c ∧ Hid (n = l.length) ∧ n ≤ c ∧ c ≤ 9223372036854775807 := by
  obtain ⟨a, c, h1, h2, h3, _⟩ := h
  exact ⟨a, _, c, h1, rfl, h2, h3⟩
def spareEntry : List Value := pcells [⟨⟨#[115, 112, 97, 114, 101]⟩, 0, false, ⟨#[]⟩⟩]
set_option maxRecDepth 100000 in
set_option maxHeartbeats 1000000 in
theorem twEntry_any (w : World) (v : Value) (l : List PE) (hv : RdE w v l) (hl : l.length ≤ 100000) :
    Calls Tryz.prog 18 #[v] w fun e w' => ∃ g n, e = .returned (.slice (some ⟨g, 0, none⟩) n (n + 1)) ∧ Hid (n = l.length) ∧ Hid (TwG w' w.heap.size 34 4 g n (pcells l) spareEntry) ∧ Below w.heap.size w w' := by
  obtain ⟨la, n, lc, rfl, HN, hlc, hlm⟩ := rdEntry_sl hv
  have HV : Hid (∀ w', Below w.heap.size w w' → RdE w' (.slice la n lc) l) := Lib.hid fun w' hb => hv.below hb
  obtain ⟨i0, hi, hz, hz1, hz2⟩ := info_parts infoTEntry
  have hn : n ≤ 100000 := by rw [HN.out]; exact hl
  have hmk := run_make (P := Tryz.prog) w 29 34 i0 _ Tryz.underlying29 hi hz .i64 .i64 0 ((n : Int) + 1) (by omega) (by omega) (by rw [hz2]; omega) (by omega)
  rw [hz1, show ((n : Int) + 1).toNat = n + 1 from by omega, show (0 : Int).toNat = 0 from rfl] at hmk
  obtain ⟨C, hC⟩ : ∃ C, C = madeCells (Value.cells (.agg #[.string .empty, .int .u64 0, .bool false, .string .empty])) ((n + 1) * 4) := ⟨_, rfl⟩
  have hCs : C.size = (n + 1) * 4 := by rw [hC, size_madeCells]
  rw [← hC] at hmk
  have HO0 : Hid (Own (w.alloc (.cells C 34)) w.heap.size 34 4 (.slice (some ⟨w.heap.size, 0, none⟩) 0 (n + 1)) 0 []) := Lib.hid (own_of (World.ownsRow_made w C (e := 34) (size := 4) (base := w.heap.size) (n + 1) (Nat.le_refl _) (by unfold maxLen; omega) (by omega)))
  have HB0 : Hid (Below w.heap.size w (w.alloc (.cells C 34))) := Lib.hid ((Below.refl _ _).alloc (Nat.le_refl _) _)
  have HL0 : Hid (w.heap.size < (w.alloc (.cells C 34)).heap.size) := Lib.hid (by simp)
  clear hC hCs hv hl
  go_enter Tryz.func18, Tryz.ntmps18
  go_upto_region 3 with (fail)
  clear hmk
  try show Code.wp _ _ _ _ _
  go_loopw [3, 4] (fun t i wr => ∃ k : Nat, k ≤ n ∧ i = .int .i64 k ∧ t = .slice (some ⟨w.heap.size, 0, none⟩) k (n + 1) ∧ Hid (Own wr w.heap.size 34 4 (.slice (some ⟨w.heap.size, 0, none⟩) k (n + 1)) k (pcells (l.take k))) ∧ Hid (w.heap.size < wr.heap.size) ∧ Below w.heap.size w wr) (fun _ i _ => n - (intOf i).toNat)
  case atStart => exact ⟨0, Nat.zero_le _, rfl, rfl, HO0, HL0, HB0.out⟩
  case round =>
    obtain ⟨k, hk, rfl, rfl, hO, hLT, bel⟩ := hrel
    have HB := Lib.hid bel
    clear bel
    by_cases hlt : k < n
    · have hkl : k < l.length := by rw [← HN.out]; exact hlt
      obtain ⟨_, _, he, _, _, hc⟩ := HV.out wr HB.out
      simp only [Value.slice.injEq] at he
      obtain ⟨rfl, hx1, hx2⟩ := he
      clear hx1 hx2
      obtain ⟨b, off, rfl, c0, c1, c2, c3⟩ := hc k hkl
      have HTK := Lib.hid (List.take_succ_eq_append_getElem hkl)
      obtain ⟨f, hf⟩ : ∃ f, f = l[k] := ⟨_, rfl⟩
      rw [← hf] at c0 c1 c2 c3 HTK
      clear hf hc
      have hal : Below wr.heap.size wr (wr.alloc (.cells #[.string f.k, .int .u64 f.s, .bool f.g, .string f.u] 34)) := (Below.refl _ _).alloc (Nat.le_refl _) _
      have HO2 := Lib.hid (own_below hO.out hal)
      have HB3 := Lib.hid (HB.out.trans (hal.mono HB.out.size))
      have HLT3 := Lib.hid (Nat.lt_of_lt_of_le hLT.out hal.size)
      have HRF : Hid (Reads (wr.alloc (.cells #[.string f.k, .int .u64 f.s, .bool f.g, .string f.u] 34)) 4 (.slice (some ⟨wr.heap.size, 0, none⟩) 1 1) 1 (pcells [f])) := Lib.hid (reads_new wr _ 34 1 4 rfl (by decide))
      clear hal
      go_wp2_with (at_builtin; go_loud (refine wp_fitsO rfl _ _ rfl Tryz.underlying29 hi hz1 (by omega) w.heap.size w.heap.size k (n + 1) 1 (pcells (l.take k)) (pcells [f]) (pcells (l.take (k + 1))) _ (k + 1) rfl rfl HO2.out HRF.out (one_pcells _) rfl (by rw [HTK.out, pcells_app]) (by omega) (by omega) ?_); intro w3 HX3 HG3)
      have hlt3 : Hid (w.heap.size < w3.heap.size) := Lib.hid (Nat.lt_of_lt_of_le HLT3.out HG3.out.size)
      have hbel3 : Below w.heap.size w w3 := HB3.out.grown HG3.out HB3.out.size (fun j e => by cases e; exact Nat.le_refl _)
      exact ⟨⟨k + 1, by omega, by go_num, rfl, HX3, hlt3, hbel3⟩, by simp [intOf]; omega⟩
    · have hkn : l.take k = l := List.take_of_length_le (by rw [← HN.out]; omega)
      rw [hkn] at hO
      obtain ⟨ko, hko⟩ : ∃ x, x = k := ⟨_, rfl⟩
      have hkn2 : k = n := by omega
      subst hkn2
      clear hkn hko
      have hal : Below wr.heap.size wr (wr.alloc (.cells #[.string ⟨#[115, 112, 97, 114, 101]⟩, .int .u64 0, .bool false, .string ⟨#[]⟩] 34)) := (Below.refl _ _).alloc (Nat.le_refl _) _
      have HO2 := Lib.hid (own_below hO.out hal)
      have HB3 := Lib.hid (HB.out.trans (hal.mono HB.out.size))
      have HLT3 := Lib.hid (Nat.lt_of_lt_of_le hLT.out hal.size)
      have HRF : Hid (Reads (wr.alloc (.cells #[.string ⟨#[115, 112, 97, 114, 101]⟩, .int .u64 0, .bool false, .string ⟨#[]⟩] 34)) 4 (.slice (some ⟨wr.heap.size, 0, none⟩) 1 1) 1 spareEntry) := Lib.hid (reads_new wr _ 34 1 4 rfl (by decide))
      clear hal
      go_upto_region 6 with (fail)
      go_wp2_with (at_builtin; go_loud (refine wp_fitsO rfl _ _ rfl Tryz.underlying29 hi hz1 (by omega) w.heap.size w.heap.size k (k + 1) 1 (pcells l) spareEntry (pcells l ++ spareEntry) _ (k + 1) rfl rfl HO2.out HRF.out (one_pcells _) rfl rfl (by omega) (by omega) ?_); intro w3 HX3 HG3)
      have hlt3 : w.heap.size < w3.heap.size := Nat.lt_of_lt_of_le HLT3.out HG3.out.size
      have hbel3 : Below w.heap.size w w3 := HB3.out.grown HG3.out HB3.out.size (fun j e => by cases e; exact Nat.le_refl _)
      go_ret
      exact ⟨w.heap.size, k, rfl, HN, Lib.hid ⟨Nat.le_refl _, hlt3, by rw [pcells_length, HN.out], HX3.out⟩, hbel3⟩
set_option maxRecDepth 100000 in
set_option maxHeartbeats 1000000 in
theorem leftEntry_any (w : World) (base g n : Nat) (v : Value) (l : List PE) (hn : n = l.length) (ht : TwG w base 34 4 g n (pcells l) spareEntry) (hv : RdE w v l) (hl : l.length ≤ 100000) :
    Calls Tryz.prog 22 #[.slice (some ⟨g, 0, none⟩) n (n + 1), v] w fun e w' => e = .returned (.bool true) ∧ Below w.heap.size w w' := by
  obtain ⟨la, n2, lc, rfl, HN2, hlc, hlm⟩ := rdEntry_sl hv
  obtain rfl : n2 = n := HN2.out.trans hn.symm
  have HN := Lib.hid hn
  have hn3 : n2 ≤ 100000 := by rw [hn]; exact hl
  have hvt : RdE w (.slice (some ⟨g, 0, none⟩) n2 (n2 + 1)) l := (rdE_of (reads_of_own ht.own)).2
  have HV := Lib.hid hv
  have HT := Lib.hid hvt
  have HTW := Lib.hid ht
  clear hv hvt ht hl hn
  have hb : ((n2 : Int) != (n2 : Int)) = false := by simp
  have hq : decide ((n2 : Int) + 1 ≤ (n2 : Int)) = false := by simp; omega
  have hq2 : decide ((n2 + 1 : Nat) ≤ n2) = false := by simp
  go_enter Tryz.func22, Tryz.ntmps22
  go_upto_region 4 with (fail)
  try show Code.wp _ _ _ _ _
  go_loopw [5] (fun i wr => ∃ k : Nat, k ≤ n2 ∧ i = .int .i64 k ∧ Below w.heap.size w wr) (fun i _ => n2 - (intOf i).toNat)
  case atStart => exact ⟨0, Nat.zero_le _, rfl, Below.refl _ _⟩
  case round =>
    obtain ⟨k, hk, rfl, bel⟩ := hrel
    have HB := Lib.hid bel
    clear bel
    by_cases hlt : k < n2
    · have hkl : k < l.length := by rw [← HN.out]; exact hlt
      obtain ⟨_, _, he, _, _, hc⟩ := HV.out.below HB.out
      simp only [Value.slice.injEq] at he
      obtain ⟨rfl, hx1, hx2⟩ := he
      clear hx1 hx2
      obtain ⟨b, off, rfl, c0, c1, c2, c3⟩ := hc k hkl
      obtain ⟨_, _, he, _, _, hc2⟩ := HT.out.below HB.out
      simp only [Value.slice.injEq] at he
      obtain ⟨he, hx1, hx2⟩ := he
      clear hx1 hx2
      obtain ⟨b2, off2, he2, d0, d1, d2, d3⟩ := hc2 k hkl
      rw [← he] at he2
      simp only [Option.some.injEq, Addr.mk.injEq, and_true] at he2
      obtain ⟨rfl, rfl⟩ := he2
      obtain ⟨f, hf⟩ : ∃ f, f = l[k] := ⟨_, rfl⟩
      rw [← hf] at c0 c1 c2 c3 d0 d1 d2 d3
      rw [Nat.zero_add] at d0 d1 d2 d3
      clear hf hc hc2 he
      obtain ⟨xk, xs, xg, xu⟩ := f
      simp only at c0 c1 c2 c3 d0 d1 d2 d3
      go_wp2
      go_quiet (fail)
      have HBQ := Lib.hid (HB.out.trans ((drewN_below wr nq).mono HB.out.size))
      go_wp2
      go_roundw
      case rel => exact ⟨k + 1, by omega, by go_num, HBQ.out⟩
      case measure => simp [intOf]; omega
    · obtain rfl : k = n2 := by omega
      have s0 : wr.cell? ⟨g, k * 4, none⟩ = some (.string ⟨#[115, 112, 97, 114, 101]⟩) := by
        have := (HTW.out.below HB.out).spare 0 (by omega) (.string ⟨#[115, 112, 97, 114, 101]⟩) rfl
        simpa using this
      have s1 : wr.cell? ⟨g, k * 4 + 1, none⟩ = some (.int .u64 0) := by
        have := (HTW.out.below HB.out).spare 1 (by omega) (.int .u64 0) rfl
        exact this
      have s2 : wr.cell? ⟨g, k * 4 + 2, none⟩ = some (.bool false) := by
        have := (HTW.out.below HB.out).spare 2 (by omega) (.bool false) rfl
        exact this
      have s3 : wr.cell? ⟨g, k * 4 + 3, none⟩ = some (.string ⟨#[]⟩) := by
        have := (HTW.out.below HB.out).spare 3 (by omega) (.string ⟨#[]⟩) rfl
        exact this
      have hbz : (0 : Int) ≤ (k : Int) := by omega
      go_wp2
      go_ret
      exact ⟨by first | rfl | (simp; done), by first | exact HB.out | exact HB.out.alloc HB.out.size _⟩
end Go.Proofs.YtbcnapkbdbefhaaGreatDoor

/- Walk of the lists of package edits, read. The condition: a reader of bytes that a slice holds, less than 2^40 of them. -/
import Derived.Test.YtmonmfamnbfhcaaFlL
namespace Go.Proofs.Ytmonmfamnbfhcaa
open Go.RowKit

theorem own_other {w w' : World} {base c : Nat} {e : TypeId} {sz n : Nat} {v : Value} {xs : List Value} (h : Own w base e sz v n xs) (hO : Only w w' c) (hc : c < base) : Own w' base e sz v n xs := by
  rcases h with h | ⟨h1, g, cap, cur, fr, rfl, h3, h4, h5⟩
  · exact .inl h
  · refine .inr ⟨h1, g, cap, cur, fr, rfl, h3, ?_, h5⟩
    rw [hO.block g (Array.getElem?_eq_some_iff.1 h4).1 (by simp; omega)]; exact h4
theorem RS.under {w0 w w' : World} {g b : Nat} {bad : Bool} {l : List UInt8} (h : RS w0 w g bad l) (hb : Below b w w') (hg : g < b) : RS w0 w' g bad l := by
  obtain ⟨a, n, c, h1, h2, h3, h4⟩ := h
  have : Blk w' g #[.slice a n c, .bool bad] 65 := by
    unfold Blk at *
    rw [hb.block g hg]; exact h1
  exact ⟨a, n, c, this, h2, h3.trans (hb.mono (by omega)), h4⟩
theorem Only.under {w w1 w2 : World} {g : Nat} (h : Only w w1 g) (hb : Below w.heap.size w1 w2) : Only w w2 g := by
  obtain ⟨a1, a2, a3, a4, a5⟩ := h
  obtain ⟨b1, b2, b3, b4, b5⟩ := hb
  exact ⟨b1.trans a1, b2.trans a2, b3.trans a3, Nat.le_trans a4 b4, fun j hj hne => (b5 j hj).trans (a5 j hj hne)⟩
theorem reads_file (w : World) (f : PF) (ty : TypeId) : Reads (w.alloc (.cells #[.int .u32 f.n, .int .i64 f.lv, .string f.a, .string f.b] ty)) 4 (.slice (some ⟨w.heap.size, 0, none⟩) 1 1) 1 (fcells [f]) :=
  reads_new w #[.int .u32 f.n, .int .i64 f.lv, .string f.a, .string f.b] ty 1 4 rfl (by decide)
set_option maxRecDepth 100000 in
set_option maxHeartbeats 2000000 in
theorem sevF_any (w0 w : World) (g : Nat) (bad : Bool) (l : List UInt8) (h : RS w0 w g bad l) (hl : l.length ≤ 1000000) :
    Calls Try.prog 35 #[.pointer (some ⟨g, 0, none⟩), .func (.func 36) #[.pointer (some ⟨g, 0, none⟩)] #[]] w fun en w' => ∃ (xs : List PF) (a : Option Addr) (k c : Nat) (bad' : Bool) (l' : List UInt8), en = .returned (.slice a k c) ∧ Hid (k = xs.length) ∧ Hid (k ≤ l.length + 1) ∧ Hid (Own w' w.heap.size 33 4 (.slice a k c) k (fcells xs)) ∧
      Hid (∀ f ∈ xs, f.n < 4294967296) ∧ Hid (RS w0 w' g bad' l') ∧ Hid (Only w w' g) ∧ Hid (Step (manyP fput) (fun xs => xs.length ≤ 18446744073709551615 ∧ ∀ x ∈ xs, PFread x) bad l xs bad' l') := by
  have HN := Lib.hid (numberE_any w0 w g bad l 18446744073709551615 h (by omega))
  obtain ⟨hgl, hg0, hw0⟩ := h.lt
  obtain ⟨i0, hi, hz, hz1, hz2⟩ := info_parts info_file
  clear h
  go_enter Try.func35, Try.ntmps35
  go_wp2_with fail
  refine HN.out.mono ?_
  rintro e1 w1 ⟨n0, b0, l0, rfl, hn0, R1, O1, S1⟩
  have HL0 := Lib.hid S1.out.2.2
  clear HN
  go_upto_region 2 with (fail)
  go_loopw [4, 5] (fun lv nv wr => ∃ (m k c : Nat) (a : Option Addr) (xs : List PF) (b : Bool) (r : List UInt8), nv = .int .u64 m ∧ lv = .slice a k c ∧ m + k = n0 ∧ Hid (k = xs.length) ∧ Hid (Own wr w.heap.size 33 4 (.slice a k c) k (fcells xs)) ∧ Hid (∀ f ∈ xs, f.n < 4294967296) ∧
      Hid (RS w0 wr g b r) ∧ Hid (Only w wr g) ∧ Hid (Sev fput PFread n0 b0 l0 xs b r))
    (fun _ i _ => (intOf i).toNat)
  case atStart => exact ⟨n0, 0, 0, none, [], b0, l0, rfl, rfl, rfl, rfl, own_nil _ _ _ _, Lib.hid (fun _ h => by cases h), R1, O1, Lib.hid Sev.start⟩
  case round =>
    obtain ⟨m, k, c, a, xs, b, r, rfl, rfl, hmk, HK, HO, HX, HR, HOn, HS⟩ := hrel
    obtain ⟨ra, rn, rc, hB, _, _, _⟩ := HR.out
    have c1 := hB.cellv 1 _ rfl
    clear hB
    by_cases hm : m = 0
    · subst hm
      go_wp2
      go_ret
      exact ⟨xs, a, k, c, b, r, rfl, HK, Lib.hid (by have := HS.out.2.2.2.1; have := HL0.out; have := HK.out; omega), HO, HX, HR, HOn, Lib.hid (HS.out.done (.inl (by have := HK.out; omega)) S1.out)⟩
    · have hd : decide ((m : Int) > 0) = true := by simp; omega
      cases b with
      | true =>
        go_wp2
        go_ret
        exact ⟨xs, a, k, c, true, r, rfl, HK, Lib.hid (by have := HS.out.2.2.2.1; have := HL0.out; have := HK.out; omega), HO, HX, HR, HOn, Lib.hid (HS.out.done (.inr rfl) S1.out)⟩
      | false =>
        have HF := Lib.hid (fileE_any w0 wr g false r HR.out)
        go_wp2_with fail
        refine HF.out.mono ?_
        rintro e2 w2 ⟨f, b', r', rfl, hfn, R2, O2, S2⟩
        have HO2 := Lib.hid (own_below (own_other HO.out O2.out hgl) (alloc_bel w2 (.cells #[.int .u32 f.n, .int .i64 f.lv, .string f.a, .string f.b] 33)))
        have R3 := Lib.hid (R2.out.other (alloc_bel w2 (.cells #[.int .u32 f.n, .int .i64 f.lv, .string f.a, .string f.b] 33)))
        have O3 := Lib.hid ((HOn.out.trans O2.out).under ((alloc_bel w2 (.cells #[.int .u32 f.n, .int .i64 f.lv, .string f.a, .string f.b] 33)).mono (HOn.out.trans O2.out).size))
        have HSZ : Hid (w.heap.size ≤ (w2.alloc (.cells #[.int .u32 f.n, .int .i64 f.lv, .string f.a, .string f.b] 33)).heap.size) := Lib.hid O3.out.size
        have hk : k ≤ 1000000 := by have := HS.out.2.2.2.2.1 rfl; have := HL0.out; have := HK.out; omega
        have HS2 := Lib.hid (HS.out.step (x := f) (by have := HK.out; omega) fput_ge S2.out)
        have HRF := Lib.hid (reads_file w2 f 33)
        obtain ⟨m', rfl⟩ : ∃ m', m = m' + 1 := ⟨m - 1, by omega⟩
        have hw : IntKind.u64.wrap (m' : Int) = m' := wrapU m' (by omega)
        clear c1 HF S2 R2 O2
        go_wp2_with (at_builtin; go_loud (refine wp_app_el2 rfl _ _ rfl Try.underlying22 hi hz hz1 hz2 rfl (by omega) w.heap.size k 1 (.slice a k c) _ (fcells xs) (fcells [f]) (fcells (xs ++ [f])) (k + 1) rfl rfl HO2.out HRF.out (one_fcells _) rfl (by rw [fcells_app]) (by omega) (by omega) HSZ.out ?_); intro ua uc w3 HX3 HG3)
        go_roundw
        case rel => exact ⟨m', k + 1, uc, ua, xs ++ [f], b', r', by first | rfl | go_num, rfl, by omega, Lib.hid (by rw [List.length_append, HK.out]; rfl), HX3, Lib.hid (fun y hy => by rcases List.mem_append.1 hy with h | h; exact HX.out y h; rw [List.mem_singleton.1 h]; exact hfn), Lib.hid (R3.out.under HG3.out.below hgl), Lib.hid (O3.out.under HG3.out.below), HS2⟩
        case measure => simp [intOf]
theorem reads_u32 (w : World) (f : Nat) (ty : TypeId) : Reads (w.alloc (.cells #[.int .u32 f] ty)) 1 (.slice (some ⟨w.heap.size, 0, none⟩) 1 1) 1 (ucells [f]) :=
  reads_new w #[.int .u32 f] ty 1 1 rfl (by decide)
set_option maxRecDepth 100000 in
set_option maxHeartbeats 2000000 in
theorem sevU_any (w0 w : World) (g : Nat) (bad : Bool) (l : List UInt8) (h : RS w0 w g bad l) (hl : l.length ≤ 1000000) :
    Calls Try.prog 37 #[.pointer (some ⟨g, 0, none⟩), .func (.func 38) #[.pointer (some ⟨g, 0, none⟩)] #[]] w fun en w' => ∃ (xs : List Nat) (a : Option Addr) (k c : Nat) (bad' : Bool) (l' : List UInt8), en = .returned (.slice a k c) ∧ Hid (k = xs.length) ∧ Hid (k ≤ l.length + 1) ∧ Hid (Own w' w.heap.size 24 1 (.slice a k c) k (ucells xs)) ∧
      Hid (∀ f ∈ xs, f < 4294967296) ∧ Hid (RS w0 w' g bad' l') ∧ Hid (Only w w' g) ∧ Hid (Step (manyP vint) (fun xs => xs.length ≤ 18446744073709551615 ∧ ∀ x ∈ xs, x ≤ 4294967295) bad l xs bad' l') := by
  have HN := Lib.hid (numberE_any w0 w g bad l 18446744073709551615 h (by omega))
  obtain ⟨hgl, hg0, hw0⟩ := h.lt
  obtain ⟨i0, hi, hz, hz1, hz2⟩ := info_parts info_u32
  clear h
  go_enter Try.func37, Try.ntmps37
  go_wp2_with fail
  refine HN.out.mono ?_
  rintro e1 w1 ⟨n0, b0, l0, rfl, hn0, R1, O1, S1⟩
  have HL0 := Lib.hid S1.out.2.2
  clear HN
  go_upto_region 2 with (fail)
  go_loopw [4, 5] (fun lv nv wr => ∃ (m k c : Nat) (a : Option Addr) (xs : List Nat) (b : Bool) (r : List UInt8), nv = .int .u64 m ∧ lv = .slice a k c ∧ m + k = n0 ∧ Hid (k = xs.length) ∧ Hid (Own wr w.heap.size 24 1 (.slice a k c) k (ucells xs)) ∧ Hid (∀ f ∈ xs, f < 4294967296) ∧
      Hid (RS w0 wr g b r) ∧ Hid (Only w wr g) ∧ Hid (Sev vint (fun x => x ≤ 4294967295) n0 b0 l0 xs b r))
    (fun _ i _ => (intOf i).toNat)
  case atStart => exact ⟨n0, 0, 0, none, [], b0, l0, rfl, rfl, rfl, rfl, own_nil _ _ _ _, Lib.hid (fun _ h => by cases h), R1, O1, Lib.hid Sev.start⟩
  case round =>
    obtain ⟨m, k, c, a, xs, b, r, rfl, rfl, hmk, HK, HO, HX, HR, HOn, HS⟩ := hrel
    obtain ⟨ra, rn, rc, hB, _, _, _⟩ := HR.out
    have c1 := hB.cellv 1 _ rfl
    clear hB
    by_cases hm : m = 0
    · subst hm
      go_wp2
      go_ret
      exact ⟨xs, a, k, c, b, r, rfl, HK, Lib.hid (by have := HS.out.2.2.2.1; have := HL0.out; have := HK.out; omega), HO, HX, HR, HOn, Lib.hid (HS.out.done (.inl (by have := HK.out; omega)) S1.out)⟩
    · have hd : decide ((m : Int) > 0) = true := by simp; omega
      cases b with
      | true =>
        go_wp2
        go_ret
        exact ⟨xs, a, k, c, true, r, rfl, HK, Lib.hid (by have := HS.out.2.2.2.1; have := HL0.out; have := HK.out; omega), HO, HX, HR, HOn, Lib.hid (HS.out.done (.inr rfl) S1.out)⟩
      | false =>
        have HF := Lib.hid (numE_any w0 wr g false r HR.out)
        go_wp2_with fail
        refine HF.out.mono ?_
        rintro e2 w2 ⟨f, b', r', rfl, hfn, R2, O2, S2⟩
        have HO2 := Lib.hid (own_below (own_other HO.out O2.out hgl) (alloc_bel w2 (.cells #[.int .u32 f] 24)))
        have R3 := Lib.hid (R2.out.other (alloc_bel w2 (.cells #[.int .u32 f] 24)))
        have O3 := Lib.hid ((HOn.out.trans O2.out).under ((alloc_bel w2 (.cells #[.int .u32 f] 24)).mono (HOn.out.trans O2.out).size))
        have HSZ : Hid (w.heap.size ≤ (w2.alloc (.cells #[.int .u32 f] 24)).heap.size) := Lib.hid O3.out.size
        have hk : k ≤ 1000000 := by have := HS.out.2.2.2.2.1 rfl; have := HL0.out; have := HK.out; omega
        have HS2 := Lib.hid (HS.out.step (x := f) (by have := HK.out; omega) vint_ge S2.out)
        have HRF := Lib.hid (reads_u32 w2 f 24)
        obtain ⟨m', rfl⟩ : ∃ m', m = m' + 1 := ⟨m - 1, by omega⟩
        have hw : IntKind.u64.wrap (m' : Int) = m' := wrapU m' (by omega)
        clear c1 HF S2 R2 O2
        go_wp2_with (at_builtin; go_loud (refine wp_app_el2 rfl _ _ rfl Try.underlying23 hi hz hz1 hz2 rfl (by omega) w.heap.size k 1 (.slice a k c) _ (ucells xs) (ucells [f]) (ucells (xs ++ [f])) (k + 1) rfl rfl HO2.out HRF.out (one_ucells _) rfl (by rw [ucells_app]) (by omega) (by omega) HSZ.out ?_); intro ua uc w3 HX3 HG3)
        go_roundw
        case rel => exact ⟨m', k + 1, uc, ua, xs ++ [f], b', r', by first | rfl | go_num, rfl, by omega, Lib.hid (by rw [List.length_append, HK.out]; rfl), HX3, Lib.hid (fun y hy => by rcases List.mem_append.1 hy with h | h; exact HX.out y h; rw [List.mem_singleton.1 h]; exact hfn), Lib.hid (R3.out.under HG3.out.below hgl), Lib.hid (O3.out.under HG3.out.below), HS2⟩
        case measure => simp [intOf]
end Go.Proofs.Ytmonmfamnbfhcaa

/- Walk of edits.Put: the lists, an edit. The conditions: lists of 100000 elements at most. -/
import Derived.Test.YtmonmfamnbfhcaaFlH
namespace Go.Proofs.Ytmonmfamnbfhcaa
open Go.RowKit

theorem flatTake {α : Type} (enc : α → List UInt8) (l : List α) (k : Nat) (hk : k < l.length) : (l.take (k + 1)).flatMap enc = (l.take k).flatMap enc ++ enc l[k] := by
  rw [List.take_succ_eq_append_getElem hk, List.flatMap_append, List.flatMap_singleton]
set_option maxRecDepth 100000 in
set_option maxHeartbeats 2000000 in
theorem putF_any (w : World) (v vl : Value) (b : List UInt8) (l : List PF) (hv : Rd w v b) (hl : RdF w vl l) (hb : b.length ≤ 1000000) (hn : l.length ≤ 100000) (hm : l.all mayF = true) (hok : ∀ f ∈ l, f.n < 4294967296) :
    Calls Try.prog 29 #[v, vl, .func (.func 30) #[] #[]] w (RetMy (b ++ manyP fput l) w) := by
  obtain ⟨a0, c0, rfl, g1, g2, _⟩ := id hl
  have HL : Hid (∀ w', Below w.heap.size w w' → RdF w' (.slice a0 l.length c0) l) := Lib.hid fun w' hb => hl.below hb
  have HM := Lib.hid hm
  have HOK := Lib.hid hok
  obtain ⟨n, hnl⟩ : ∃ n, n = l.length := ⟨_, rfl⟩
  rw [← hnl] at g1 hn HL ⊢
  have HN := Lib.hid hnl
  have HP := Lib.hid (put_my w v b n hv (by omega) (by omega))
  have hw1 : IntKind.u64.wrap (n : Int) = n := wrapU n (by omega)
  have q1 := vint_le n
  clear hl hm hok hnl hv
  go_enter Try.func29, Try.ntmps29
  go_wp2_with fail
  refine HP.out.mono ?_
  rintro e1 w1 ⟨a1, n1, k1, rfl, HN1, HQ1, b1⟩
  have HB1 := Lib.hid b1
  clear b1
  go_upto_region 3 with (fail)
  go_loopw [0, 16] (fun lv i wr => ∃ (k : Nat) (a : Option Addr) (m c : Nat), k ≤ n ∧ i = .int .i64 k ∧ lv = .slice a m c ∧ Hid (m = (b ++ vint n ++ (l.take k).flatMap fput).length) ∧ Hid (Own wr w.heap.size 5 1 (.slice a m c) m (u8s (b ++ vint n ++ (l.take k).flatMap fput))) ∧ Below w.heap.size w wr)
    (fun _ i _ => n - (intOf i).toNat)
  case atStart => exact ⟨0, a1, n1, k1, Nat.zero_le _, rfl, rfl, by simpa using HN1, by simpa using HQ1, HB1.out⟩
  case round =>
    obtain ⟨k, a, m, c, hk, rfl, rfl, hm, hO, bel⟩ := hrel
    have HB := Lib.hid bel
    clear bel
    by_cases hlt : k < n
    · have hkl : k < l.length := by rw [← HN.out]; exact hlt
      obtain ⟨a', c', he, _, _, hc⟩ := HL.out wr HB.out
      simp only [Value.slice.injEq] at he
      obtain ⟨rfl, hnl, rfl⟩ := he
      clear hnl
      obtain ⟨g, off, rfl, d0, d1, d2, d3⟩ := hc k hkl
      have hmay : mayF l[k] = true := List.all_eq_true.1 HM.out _ (List.getElem_mem hkl)
      have hfo := HOK.out _ (List.getElem_mem hkl)
      obtain ⟨⟨p1, p2⟩, p3, p4⟩ := may_len hmay
      have hle : (b ++ vint n ++ (l.take k).flatMap fput).length ≤ 1000000000 := by
        have := flatMap_le fput 104 (l.take k) (fun x hx => fput_le (List.all_eq_true.1 HM.out _ (List.mem_of_mem_take hx)))
        rw [List.length_take] at this
        simp only [List.length_append]
        omega
      have hft := flatTake fput l k hkl
      obtain ⟨x, hx⟩ : ∃ x, x = l[k] := ⟨_, rfl⟩
      rw [← hx] at d0 d1 d2 d3 hfo p1 p2 p3 p4 hft
      clear hx hc hmay
      obtain ⟨xn, xl, xa, xb⟩ := x
      simp only at d0 d1 d2 d3 p1 p2 p3 p4
      obtain ⟨ln, rfl⟩ : ∃ ln : Nat, xl = ln := ⟨xl.toNat, by omega⟩
      have hxn : xn < 4294967296 := hfo
      have HF : Hid (∀ o, Calls Try.prog 30 #[.slice a m c, .agg #[.int .u32 xn, .int .i64 ln, .string xa, .string xb]] (wr.alloc o) (RetMy (b ++ vint n ++ (l.take k).flatMap fput ++ fput ⟨xn, ln, xa, xb⟩) (wr.alloc o))) :=
        Lib.hid fun o => put1_file (wr.alloc o) _ _ xn ln xa xb (rd_of_own (own_below hO.out (alloc_bel wr o))).2 hle hxn (by omega) p3 p4
      have HFT : Hid (b ++ vint n ++ (l.take k).flatMap fput ++ fput ⟨xn, ln, xa, xb⟩ = b ++ vint n ++ (l.take (k + 1)).flatMap fput) := Lib.hid (by rw [hft, List.append_assoc])
      clear hft hfo hle
      go_wp2_with fail
      refine (HF.out _).mono ?_
      rintro e2 w2 ⟨a2, n2, k2, rfl, HN2, HQ2, b2⟩
      have HB2 := Lib.hid ((HB.out.trans ((alloc_bel wr _).mono HB.out.size)).trans (b2.mono (Nat.le_trans HB.out.size (alloc_bel wr _).size)))
      clear b2
      rw [HFT.out] at HN2 HQ2
      go_wp2_with fail
      go_roundw
      case rel => exact ⟨k + 1, a2, n2, k2, by omega, by go_num, rfl, HN2, own_mono HQ2.out (Nat.le_trans HB.out.size (alloc_bel wr _).size), HB2.out⟩
      case measure => simp [intOf]; omega
    · have hkn : k = n := by omega
      subst hkn
      have e : l.take k = l := List.take_of_length_le (by rw [← HN.out]; exact Nat.le_refl _)
      rw [e] at hm hO
      have e2 : b ++ vint k ++ l.flatMap fput = b ++ manyP fput l := by unfold manyP; rw [← HN.out, List.append_assoc]
      rw [e2] at hm hO
      go_wp2
      go_ret
      exact ⟨a, m, c, rfl, hm, hO, HB.out⟩
set_option maxRecDepth 100000 in
set_option maxHeartbeats 2000000 in
theorem putU_any (w : World) (v vl : Value) (b : List UInt8) (l : List Nat) (hv : Rd w v b) (hl : RdU w vl l) (hb : b.length ≤ 100000000) (hn : l.length ≤ 100000) (hok : ∀ k ∈ l, k < 4294967296) :
    Calls Try.prog 33 #[v, vl, .func (.func 34) #[] #[]] w (RetMy (b ++ manyP vint l) w) := by
  obtain ⟨a0, c0, rfl, g1, g2, _⟩ := id hl
  have HL : Hid (∀ w', Below w.heap.size w w' → RdU w' (.slice a0 l.length c0) l) := Lib.hid fun w' hb => hl.below hb
  have HOK := Lib.hid hok
  obtain ⟨n, hnl⟩ : ∃ n, n = l.length := ⟨_, rfl⟩
  rw [← hnl] at g1 hn HL ⊢
  have HN := Lib.hid hnl
  have HP := Lib.hid (put_my w v b n hv (by omega) (by omega))
  have hw1 : IntKind.u64.wrap (n : Int) = n := wrapU n (by omega)
  have q1 := vint_le n
  clear hl hok hnl hv
  go_enter Try.func33, Try.ntmps33
  go_wp2_with fail
  refine HP.out.mono ?_
  rintro e1 w1 ⟨a1, n1, k1, rfl, HN1, HQ1, b1⟩
  have HB1 := Lib.hid b1
  clear b1
  go_upto_region 3 with (fail)
  go_loopw [0, 16] (fun lv i wr => ∃ (k : Nat) (a : Option Addr) (m c : Nat), k ≤ n ∧ i = .int .i64 k ∧ lv = .slice a m c ∧ Hid (m = (b ++ vint n ++ (l.take k).flatMap vint).length) ∧ Hid (Own wr w.heap.size 5 1 (.slice a m c) m (u8s (b ++ vint n ++ (l.take k).flatMap vint))) ∧ Below w.heap.size w wr)
    (fun _ i _ => n - (intOf i).toNat)
  case atStart => exact ⟨0, a1, n1, k1, Nat.zero_le _, rfl, rfl, by simpa using HN1, by simpa using HQ1, HB1.out⟩
  case round =>
    obtain ⟨k, a, m, c, hk, rfl, rfl, hm, hO, bel⟩ := hrel
    have HB := Lib.hid bel
    clear bel
    by_cases hlt : k < n
    · have hkl : k < l.length := by rw [← HN.out]; exact hlt
      obtain ⟨a', c', he, _, _, hc⟩ := HL.out wr HB.out
      simp only [Value.slice.injEq] at he
      obtain ⟨rfl, hnl, rfl⟩ := he
      clear hnl
      obtain ⟨g, off, rfl, d0⟩ := hc k hkl
      have hxn := HOK.out _ (List.getElem_mem hkl)
      have hle : (b ++ vint n ++ (l.take k).flatMap vint).length ≤ 1000000000 := by
        have := flatMap_le vint 10 (l.take k) (fun x _ => vint_le x)
        rw [List.length_take] at this
        simp only [List.length_append]
        omega
      have hft := flatTake vint l k hkl
      obtain ⟨x, hx⟩ : ∃ x, x = l[k] := ⟨_, rfl⟩
      rw [← hx] at d0 hxn hft
      clear hx hc
      have HF : Hid (Calls Try.prog 34 #[.slice a m c, .int .u32 x] wr (RetMy (b ++ vint n ++ (l.take k).flatMap vint ++ vint x) wr)) :=
        Lib.hid (put2_any wr _ _ x (rd_of_own hO.out).2 hle hxn)
      have HFT : Hid (b ++ vint n ++ (l.take k).flatMap vint ++ vint x = b ++ vint n ++ (l.take (k + 1)).flatMap vint) := Lib.hid (by rw [hft, List.append_assoc])
      clear hft hle
      go_wp2_with fail
      refine HF.out.mono ?_
      rintro e2 w2 ⟨a2, n2, k2, rfl, HN2, HQ2, b2⟩
      have HB2 := Lib.hid (HB.out.trans (b2.mono HB.out.size))
      clear b2
      rw [HFT.out] at HN2 HQ2
      go_wp2_with fail
      go_roundw
      case rel => exact ⟨k + 1, a2, n2, k2, by omega, by go_num, rfl, HN2, own_mono HQ2.out HB.out.size, HB2.out⟩
      case measure => simp [intOf]; omega
    · have hkn : k = n := by omega
      subst hkn
      have e : l.take k = l := List.take_of_length_le (by rw [← HN.out]; exact Nat.le_refl _)
      rw [e] at hm hO
      have e2 : b ++ vint k ++ l.flatMap vint = b ++ manyP vint l := by unfold manyP; rw [← HN.out, List.append_assoc]
      rw [e2] at hm hO
      go_wp2
      go_ret
      exact ⟨a, m, c, rfl, hm, hO, HB.out⟩
end Go.Proofs.Ytmonmfamnbfhcaa

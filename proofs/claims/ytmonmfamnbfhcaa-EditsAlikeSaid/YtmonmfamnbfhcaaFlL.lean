/- Walk of the reader of a file. The condition: a reader of bytes that a slice holds. -/
import Derived.Test.YtmonmfamnbfhcaaFlK
import Derived.Deep.Cut
namespace Go.Proofs.Ytmonmfamnbfhcaa
open Go.RowKit

theorem RS.set {w0 w : World} {g : Nat} {bad : Bool} {l : List UInt8} (h : RS w0 w g bad l) (p : Addr) (hp : p.block ≠ g) (hb : w0.heap.size ≤ p.block) (u : Value) : RS w0 (w.setCell p u) g bad l := by
  obtain ⟨a, n, c, h1, h2, h3, h4⟩ := h
  exact ⟨a, n, c, h1.set_other p hp u, h2, h3.setCell hb u, h4⟩
theorem RS.lt {w0 w : World} {g : Nat} {bad : Bool} {l : List UInt8} (h : RS w0 w g bad l) : g < w.heap.size ∧ w0.heap.size ≤ g ∧ w0.heap.size ≤ w.heap.size := by
  obtain ⟨a, n, c, h1, h2, h3, h4⟩ := h
  exact ⟨h1.lt, h4, h3.size⟩
theorem Only.later {w w1 w2 : World} {g F : Nat} (h : Only w w1 g) (k : Only w1 w2 F) (hF : w.heap.size ≤ F) : Only w w2 g := by
  obtain ⟨a1, a2, a3, a4, a5⟩ := h
  obtain ⟨b1, b2, b3, b4, b5⟩ := k
  exact ⟨b1.trans a1, b2.trans a2, b3.trans a3, Nat.le_trans a4 b4, fun j hj hne => (b5 j (Nat.lt_of_lt_of_le hj a4) (fun e => by simp at e; omega)).trans (a5 j hj hne)⟩
theorem Blk.same {w : World} {g : Nat} {cs : Array Value} {t : TypeId} (h : Blk w g cs t) (i : Nat) (x : Value) (hx : cs[i]? = some x) : w.setCell ⟨g, i, none⟩ x = w := by
  rw [setCell_eq_setRow w g i cs t (0, 0) x h]
  have : cs.setIfInBounds i x = cs := by
    apply Array.ext_getElem?
    intro j
    rw [Array.getElem?_setIfInBounds]
    split
    · rename_i e; subst e; rw [hx]; split
      · rfl
      · rename_i hn; rw [Array.getElem?_eq_none (by omega)] at hx; cases hx
    · rfl
  rw [this, setRow_self w g cs t (0, 0) h]
theorem wrap64_small (n : Nat) (h : n ≤ 4) : wrap64 (n : Int) = n := by unfold wrap64; omega
def PFread (f : PF) : Prop := f.n < 4294967296 ∧ (0 ≤ f.lv ∧ f.lv ≤ 4) ∧ f.a.size < 18446744073709551616 ∧ f.b.size < 18446744073709551616
set_option maxRecDepth 100000 in
theorem info_file_size : (Try.prog.info? 33).map (·.size) = some 4 := by kernel_rfl
set_option maxRecDepth 100000 in
set_option maxHeartbeats 2000000 in
theorem fileE_any (w0 w : World) (g : Nat) (bad : Bool) (l : List UInt8) (h : RS w0 w g bad l) :
    Calls Try.prog 36 #[.pointer (some ⟨g, 0, none⟩)] w fun en w' => ∃ (f : PF) (bad' : Bool) (l' : List UInt8), en = .returned (.agg #[.int .u32 f.n, .int .i64 f.lv, .string f.a, .string f.b]) ∧ f.n < 4294967296 ∧ Hid (RS w0 w' g bad' l') ∧ Hid (Only w w' g) ∧ Hid (Step fput PFread bad l f bad' l') := by
  have HR := Lib.hid h
  obtain ⟨hgl, hg0, hw0⟩ := h.lt
  clear h
  obtain ⟨WA, hWA⟩ : ∃ W, W = w.alloc (.cells #[.int .u32 0, .int .i64 0, .string ⟨#[]⟩, .string ⟨#[]⟩] 33) := ⟨_, rfl⟩
  have HFA : Hid (Blk WA w.heap.size #[.int .u32 0, .int .i64 0, .string ⟨#[]⟩, .string ⟨#[]⟩] 33) := Lib.hid (by rw [hWA]; exact Blk.new _ _ _)
  have HOA : Hid (Only w WA g) := Lib.hid (by rw [hWA]; exact Only.of_below (alloc_bel _ _))
  have HRA : Hid (RS w0 WA g bad l) := Lib.hid (by rw [hWA]; exact HR.out.other (alloc_bel _ _))
  have hFg : w.heap.size ≠ g := by omega
  have hF0 : w0.heap.size ≤ w.heap.size := by omega
  have HN1 := Lib.hid (numE_any w0 WA g bad l HRA.out)
  go_enter Try.func36, Try.ntmps36
  go_wp2_with fail
  rw [← hWA]
  clear hWA
  refine HN1.out.mono ?_
  rintro e1 w1 ⟨n1, b1, l1, rfl, hn1, R1, O1, S1⟩
  have HF1 := Lib.hid (HFA.out.only O1.out hFg)
  have HO1 := Lib.hid (HOA.out.trans O1.out)
  have HN2 := Lib.hid (numberE_any w0 w1 g b1 l1 4 R1.out (by omega))
  clear HN1 HFA HRA HOA O1
  go_wp2_with fail
  refine HN2.out.mono ?_
  rintro e2 w2 ⟨n2, b2, l2, rfl, hn2, R2, O2, S2⟩
  have HF2 := Lib.hid (HF1.out.only O2.out hFg)
  have HO2 := Lib.hid (HO1.out.trans O2.out)
  have k0 := HF2.out.cellv 0 _ rfl
  have k1 := HF2.out.cellv 1 _ rfl
  have u0 := HF2.out.free 0
  have u1 := HF2.out.free 1
  obtain ⟨lv, hlv⟩ : ∃ lv, lv = wrap64 (n2 : Int) := ⟨_, rfl⟩
  have hw : wrap64 (n2 : Int) = lv := hlv.symm
  clear HN2 HF1 HO1 O2 hlv
  go_wp2_with fail
  have HF3 := Lib.hid ((HF2.out.set 0 (.int .u32 n1)).set 1 (.int .i64 lv))
  have R3 := Lib.hid ((R2.out.set ⟨w.heap.size, 0, none⟩ hFg hF0 (.int .u32 n1)).set ⟨w.heap.size, 1, none⟩ hFg hF0 (.int .i64 lv))
  have HO3 := Lib.hid (HO2.out.later (Only.set w2 w.heap.size 0 (.int .u32 n1)) (Nat.le_refl _))
  have HO3 := Lib.hid (HO3.out.later (Only.set _ w.heap.size 1 (.int .i64 lv)) (Nat.le_refl _))
  generalize (w2.setCell ⟨w.heap.size, 0, none⟩ (.int .u32 n1)).setCell ⟨w.heap.size, 1, none⟩ (.int .i64 lv) = w3 at HF3 R3 HO3 ⊢
  have HT1 := Lib.hid (textE_any w0 w3 g b2 l2 R3.out)
  clear k0 k1 u0 u1 HF2 HO2 R2
  refine HT1.out.mono ?_
  rintro e4 w4 ⟨s4, b4, l4, rfl, R4, O4, S4⟩
  have HF4 := Lib.hid (HF3.out.only O4.out hFg)
  have HO4 := Lib.hid (HO3.out.trans O4.out)
  have HT2 := Lib.hid (textE_any w0 w4 g b4 l4 R4.out)
  clear HT1 HF3 HO3 O4
  go_wp2_with fail
  refine HT2.out.mono ?_
  rintro e5 w5 ⟨s5, b5, l5, rfl, R5, O5, S5⟩
  have HF5 := Lib.hid (HF4.out.only O5.out hFg)
  have HO5 := Lib.hid (HO4.out.trans O5.out)
  have k2 := HF5.out.cellv 2 _ rfl
  have k3 := HF5.out.cellv 3 _ rfl
  have u2 := HF5.out.free 2
  have u3 := HF5.out.free 3
  clear HT2 HF4 HO4 O5
  go_upto_region 3 with (fail)
  have HF6 := Lib.hid ((HF5.out.set 2 (.string s4)).set 3 (.string s5))
  have R6 := Lib.hid ((R5.out.set ⟨w.heap.size, 2, none⟩ hFg hF0 (.string s4)).set ⟨w.heap.size, 3, none⟩ hFg hF0 (.string s5))
  have HO6 := Lib.hid (HO5.out.later (Only.set w5 w.heap.size 2 (.string s4)) (Nat.le_refl _))
  have HO6 := Lib.hid (HO6.out.later (Only.set _ w.heap.size 3 (.string s5)) (Nat.le_refl _))
  generalize (w5.setCell ⟨w.heap.size, 2, none⟩ (.string s4)).setCell ⟨w.heap.size, 3, none⟩ (.string s5) = w6 at HF6 R6 HO6 ⊢
  clear k2 k3 u2 u3 HF5 HO5 R5
  have HF7 : Hid (Blk w6 w.heap.size #[.int .u32 n1, .int .i64 lv, .string s4, .string s5] 33) := Lib.hid HF6.out
  have k0 : w6.cell? ⟨w.heap.size, 0, none⟩ = some (.int .u32 n1) := HF7.out.cellv 0 _ rfl
  have u0 := HF7.out.free 0
  have e0 : w6.setCell ⟨w.heap.size, 0, none⟩ (.int .u32 n1) = w6 := HF7.out.same 0 _ rfl
  have k1 : w6.cell? ⟨w.heap.size, 1, none⟩ = some (.int .i64 lv) := HF7.out.cellv 1 _ rfl
  have u1 := HF7.out.free 1
  have e1 : w6.setCell ⟨w.heap.size, 1, none⟩ (.int .i64 lv) = w6 := HF7.out.same 1 _ rfl
  have k2 : w6.cell? ⟨w.heap.size, 2, none⟩ = some (.string s4) := HF7.out.cellv 2 _ rfl
  have u2 := HF7.out.free 2
  have e2 : w6.setCell ⟨w.heap.size, 2, none⟩ (.string s4) = w6 := HF7.out.same 2 _ rfl
  have k3 : w6.cell? ⟨w.heap.size, 3, none⟩ = some (.string s5) := HF7.out.cellv 3 _ rfl
  have u3 := HF7.out.free 3
  have e3 : w6.setCell ⟨w.heap.size, 3, none⟩ (.string s5) = w6 := HF7.out.same 3 _ rfl
  go_wp2
  refine bodyPost_ret (v := .agg #[.int .u32 n1, .int .i64 lv, .string s4, .string s5]) (results_cell_row (p := 2) (ty := 33) rfl _ _ w.heap.size _ _ _ _ rfl HF7.out Try.underlying33 rfl info_file_size) rfl ⟨⟨n1, lv, s4, s5⟩, b5, l5, rfl, hn1, R6, HO6, ?_⟩
  refine Step.map (((S1.out.then S2.out).then S4.out).then S5.out) (PF.mk n1 lv s4 s5) (fun hp => ?_) (fun y hy => ?_)
  · obtain ⟨⟨⟨p1, p2⟩, p3⟩, p4⟩ := hp
    simp only at p1 p2 p3 p4
    have hl2 : lv = n2 := by rw [← hw]; exact wrap64_small n2 (by omega)
    refine ⟨⟨hn1, show 0 ≤ lv ∧ lv ≤ 4 by omega, p3, p4⟩, ?_⟩
    show vint n1 ++ (vint lv.toNat ++ (tx s4 ++ tx s5)) = vint n1 ++ vint n2 ++ tx s4 ++ tx s5
    rw [hl2, Int.toNat_natCast]
    simp
  · obtain ⟨yn, yl, ya, yb⟩ := y
    obtain ⟨p1, p2, p3, p4⟩ := hy
    simp only at p1 p2 p3 p4
    refine ⟨(((yn, yl.toNat), ya), yb), ?_, ?_, fun e => ?_⟩
    · show ((yn ≤ 4294967295 ∧ yl.toNat ≤ 4) ∧ ya.size < 18446744073709551616) ∧ yb.size < 18446744073709551616
      exact ⟨⟨⟨by omega, by omega⟩, p3⟩, p4⟩
    · show vint yn ++ vint yl.toNat ++ tx ya ++ tx yb = vint yn ++ (vint yl.toNat ++ (tx ya ++ tx yb))
      simp
    simp only [Prod.mk.injEq] at e
    obtain ⟨⟨⟨rfl, q2⟩, rfl⟩, rfl⟩ := e
    have hl2 : lv = n2 := by rw [← hw]; exact wrap64_small n2 (by omega)
    have : lv = yl := by omega
    rw [this]
end Go.Proofs.Ytmonmfamnbfhcaa

/- Plain: the answers that law11.alive asks; and law11.file. No condition. -/
import Derived.Test.YtmonmfamnbfhcaaFlO
namespace Go.Proofs.Ytmonmfamnbfhcaa
open Go.RowKit

def fA (n : Nat) (lv : Int) (a b : List UInt8) : PF := ⟨n, lv, ⟨a.toArray⟩, ⟨b.toArray⟩⟩
def xA : PX := ⟨[fA 300 1 [97] [98, 99]], [5], 6, 7, 200⟩
theorem xA_may : xA.add.all mayF = true := by decide
theorem xA_put : ePut xA = [1, 172, 2, 1, 1, 97, 2, 98, 99, 1, 5, 6, 7, 200, 1] := by decide
theorem xA_fit : xA.fit := by
  refine ⟨by decide, by decide, ?_, ?_, by decide, by decide, by decide⟩
  · intro f hf
    simp only [xA, List.mem_singleton] at hf
    subst hf; decide
  · intro f hf
    simp only [xA, List.mem_singleton] at hf
    subst hf; decide
theorem fA_ok (n : Nat) (lv : Int) (a b : List UInt8) (h : (decide (n < 4294967296) && decide (-9223372036854775808 ≤ lv ∧ lv ≤ 9223372036854775807) && decide (a.length ≤ 100) && decide (b.length ≤ 100)) = true) : (fA n lv a b).ok := by
  simp only [Bool.and_eq_true, decide_eq_true_eq] at h
  refine ⟨h.1.1.1, h.1.1.2, ?_, ?_⟩
  · show a.toArray.size ≤ _; simp; omega
  · show b.toArray.size ≤ _; simp; omega
theorem do_1 {r : List PF} {q : Nat} (h : DoR [fA 5 0 [97] [98], fA 3 1 [97] [99]] xA.add xA.rem r q) : q = 0 ∧ r = [fA 3 1 [97] [99], fA 300 1 [97] [98, 99]] := by
  have hc : Can [fA 5 0 [97] [98], fA 3 1 [97] [99]] xA.add xA.rem := ⟨by decide, by decide, by decide, by decide, by decide, by decide⟩
  obtain ⟨h0, h1, h2⟩ := doR_is h hc
  refine ⟨h0, sorted_one h2 ?_ h1⟩
  refine List.Pairwise.cons (fun y hy => ?_) (List.Pairwise.cons (fun y hy => by cases hy) List.Pairwise.nil)
  rw [List.mem_singleton.1 hy]
  decide
theorem do_2 {r : List PF} {q : Nat} (h : DoR [] [] [5] r q) : q = 1 := by
  rcases h with ⟨_, c, _⟩ | ⟨h, _⟩
  · have := c.2.2.2.2.1 5 (by simp)
    cases this
  · exact h
theorem do_3 {r : List PF} {q : Nat} (h : DoR [fA 5 0 [97] [98]] [fA 5 1 [97] [98]] [] r q) : q = 1 := by
  rcases h with ⟨_, c, _⟩ | ⟨h, _⟩
  · exact absurd c.2.2.2.2.2 (by decide)
  · exact h
theorem may_4 : [fA 1 4 [97] [98]].all mayF = false := by decide
theorem may_5 : [fA 1 0 [98] [97]].all mayF = false := by decide
theorem get_1 {x : PX} {q : Nat} (h : GetR [0, 0, 0, 0] x q) : q = 4 := by
  rcases h.1 with ⟨_, _, _, e⟩ | ⟨h, _⟩
  · have := ePut_ge x
    rw [e] at this
    simp at this
  · exact h
set_option maxRecDepth 100000 in
set_option maxHeartbeats 1000000 in
theorem file_any (w : World) (n : Nat) (lv : Int) (a b : ByteArray) : Calls Try.prog 24 #[.int .u32 n, .int .i64 lv, .string a, .string b] w fun e w' => e = .returned (.agg #[.int .u32 n, .int .i64 lv, .string a, .string b]) ∧ Below w.heap.size w w' := by
  go_enter Try.func24, Try.ntmps24
  go_wp2
  exact bodyPost_ret (v := .agg #[.int .u32 n, .int .i64 lv, .string a, .string b]) (results_cell_row (p := 8) (ty := 33) rfl _ _ w.heap.size _ _ _ _ rfl (heap_alloc_last _ _) Try.underlying33 rfl info_file_size) rfl ⟨rfl, alloc_bel _ _⟩
theorem rdF_lit (w : World) (cs : Array Value) (l : List PF) (t : TypeId) (n : Nat) (h : cs.toList = fcells l) (hn : n = l.length) (hl : l.length ≤ 1000) : RdF (w.alloc (.cells cs t)) (.slice (some ⟨w.heap.size, 0, none⟩) n n) l := by
  subst hn
  have hs : cs.size = l.length * 4 := by rw [← Array.length_toList, h, fcells_length]
  have := reads_new w cs t l.length 4 hs (by unfold maxLen; omega)
  rw [h] at this
  exact (rdF_of this).2
theorem rdU_lit (w : World) (cs : Array Value) (l : List Nat) (t : TypeId) (n : Nat) (h : cs.toList = ucells l) (hn : n = l.length) (hl : l.length ≤ 1000) : RdU (w.alloc (.cells cs t)) (.slice (some ⟨w.heap.size, 0, none⟩) n n) l := by
  subst hn
  have hs : cs.size = l.length * 1 := by rw [← Array.length_toList, h, ucells_length, Nat.mul_one]
  have := reads_new w cs t l.length 1 hs (by unfold maxLen; omega)
  rw [h] at this
  exact (rdU_of this).2
end Go.Proofs.Ytmonmfamnbfhcaa

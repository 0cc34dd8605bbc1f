/- Helpers of the laws of edits: slices with their lengths as variables; edits.Do's answer. No condition. -/
import Derived.Test.YtmonmfamnbfhcaaFlQ
namespace Go.Proofs.Ytmonmfamnbfhcaa
open Go.RowKit
theorem rdF_sl {w : World} {v : Value} {l : List PF} (h : RdF w v l) : ∃ a n c, v = .slice a n c ∧ Hid (n = l.length) ∧ n ≤ c ∧ c ≤ 9223372036854775807 := by
  obtain ⟨a, c, h1, h2, h3, _⟩ := h
  exact ⟨a, _, c, h1, rfl, h2, h3⟩
theorem rdU_sl {w : World} {v : Value} {l : List Nat} (h : RdU w v l) : ∃ a n c, v = .slice a n c ∧ Hid (n = l.length) ∧ n ≤ c ∧ c ≤ 9223372036854775807 := by
  obtain ⟨a, c, h1, h2, h3, _⟩ := h
  exact ⟨a, _, c, h1, rfl, h2, h3⟩
/-- a file of a slice, its cells -/
theorem rdF_at {w : World} {a : Option Addr} {n c : Nat} {l : List PF} (h : RdF w (.slice a n c) l) (k : Nat) (hk : k < l.length) : ∃ b off, a = some ⟨b, off, none⟩ ∧ w.cell? ⟨b, off + k * 4, none⟩ = some (.int .u32 l[k].n) ∧ w.cell? ⟨b, off + k * 4 + 1, none⟩ = some (.int .i64 l[k].lv) ∧
      w.cell? ⟨b, off + k * 4 + 2, none⟩ = some (.string l[k].a) ∧ w.cell? ⟨b, off + k * 4 + 3, none⟩ = some (.string l[k].b) := by
  obtain ⟨a', c', he, _, _, hc⟩ := h
  simp only [Value.slice.injEq] at he
  obtain ⟨rfl, _, _⟩ := he
  exact hc k hk
theorem rdU_at {w : World} {a : Option Addr} {n c : Nat} {l : List Nat} (h : RdU w (.slice a n c) l) (k : Nat) (hk : k < l.length) : ∃ b off, a = some ⟨b, off, none⟩ ∧ w.cell? ⟨b, off + k, none⟩ = some (.int .u32 l[k]) := by
  obtain ⟨a', c', he, _, _, hc⟩ := h
  simp only [Value.slice.injEq] at he
  obtain ⟨rfl, _, _⟩ := he
  exact hc k hk
def RetDoN (l : List PF) (x : PX) (w : World) (e : Ending) (w' : World) : Prop :=
  ∃ (r : List PF) (q n : Nat) (a : Option Addr) (c : Nat), e = .returned (.tuple #[.slice a n c, .int .i64 q]) ∧ Hid (n = r.length) ∧ (q = 0 ∨ q = 1) ∧ Hid (DoR l x.add x.rem r q) ∧ Hid (RdF w' (.slice a n c) r) ∧ n ≤ c ∧ c ≤ 9223372036854775807 ∧ Hid (∀ f ∈ r, f.ok) ∧ Hid (n ≤ l.length + x.add.length) ∧ Below w.heap.size w w'
theorem do_n (w : World) (v vx : Value) (l : List PF) (x : PX) (hv : RdF w v l) (hx : RdX w vx x) (hl : l.length ≤ 100000) (ha : x.add.length ≤ 100000) (hr : x.rem.length ≤ 100000) (hlo : ∀ f ∈ l, f.ok) (hao : ∀ f ∈ x.add, f.ok) :
    Calls Try.prog 18 #[v, vx] w (RetDoN l x w) := by
  refine (do_any w v vx l x hv hx hl ha hr hlo hao).mono ?_
  rintro e w' ⟨r, q, a, c, rfl, hd, ho, hb⟩
  have hrd := (rdF_of (reads_of_own ho.out)).2
  obtain ⟨a', c', he, g1, g2, _⟩ := id hrd
  simp only [Value.slice.injEq] at he
  obtain ⟨rfl, _, rfl⟩ := he
  refine ⟨r, q, r.length, a, c, rfl, rfl, ?_, hd, hrd, g1, g2, Lib.hid fun f hf => ?_, Lib.hid (doR_len hd.out), hb⟩
  · rcases hd.out with ⟨h, _⟩ | ⟨h, _⟩
    · exact .inl h
    · exact .inr h
  · rcases doR_mem hd.out f hf with h | h
    · exact hlo f h
    · exact hao f h
theorem px_small {x : PX} (h : x.ok) : ∀ f ∈ x.add, f.ok := h.1.2
end Go.Proofs.Ytmonmfamnbfhcaa

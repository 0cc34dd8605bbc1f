/- Walk of law10.great, and the ways a law of layer 10 begins. The condition: entries as the row gives them. -/
import Derived.Test.YtbcnapkbdbefhaaAliveS
import Derived.Test.YtbcnapkbdbefhaaHeld
namespace Go.Proofs.Ytbcnapkbdbefhaa
open Go.RowKit

def RetGr (n : Nat) (w : World) (e : Ending) (w' : World) : Prop := ∃ g : Bool, e = .returned (.bool g) ∧ (g = false → n ≤ 300) ∧ Below w.heap.size w w'
set_option maxRecDepth 100000 in
set_option maxHeartbeats 1000000 in
theorem great10_any (w : World) (v : Value) (l : List PE) (hv : RdE w v l) (hn : l.length ≤ 2932031007402) (hk : ∀ x ∈ l, x.ok) :
    Calls Try.prog 11 #[v] w (RetGr l.length w) := by
  have HE := Lib.hid (entriesSize_any w v l hv (by omega) hk)
  obtain ⟨va, vc, rfl, h1, h2, h3⟩ := hv
  obtain ⟨vn, hvn⟩ : ∃ n, n = l.length := ⟨_, rfl⟩
  rw [← hvn] at h1 HE ⊢
  clear h3 hvn hn
  go_enter Try.func11, Try.ntmps11
  by_cases hb : 300 < vn
  · go_wp2_with fail
    go_ret
    exact ⟨_, rfl, by simp, Below.refl _ _⟩
  · have hle : vn ≤ 300 := by omega
    go_wp2_with (go_at_call 29; refine HE.out.mono ?_; rintro e w2 ⟨z, rfl, -, bel2⟩)
    go_ret
    exact ⟨_, rfl, fun _ => hle, bel2⟩
theorem isS_zero {b : List UInt8} {X : List Ent} (h : IsS b X) : errS X = 0 ∧ outS X = b := by
  have h1 := errS_ok h.1 h.2.2.1
  exact ⟨h1, by rw [outS_ok h1]; exact h.2.2.2⟩
theorem seqs_toPE {X : List Ent} (h : ∀ x ∈ X, x.seq < 18446744073709551616) : ∀ x ∈ X.map toPE, x.s < 18446744073709551616 := fun x hx => by
  obtain ⟨y, hy, rfl⟩ := List.mem_map.1 hx
  exact h y hy
theorem seqs_ok {l : List PE} (h : ∀ x ∈ l, x.ok) : (∀ x ∈ l, x.s < 18446744073709551616) ∧ ∀ x ∈ entsOf l, x.seq < 18446744073709551616 :=
  ⟨fun x hx => (h x hx).2.1, fun x hx => by obtain ⟨y, hy, rfl⟩ := List.mem_map.1 hx; exact (h y hy).2.1⟩
/-- what a small list's file is -/
theorem file_of {l : List PE} (hs : ∀ x ∈ l, x.ok) (h : errS (entsOf l) = 0) : IsS (fileS (entsOf l)) (entsOf l) ∧ 12 ≤ (fileS (entsOf l)).length ∧ (fileS (entsOf l)).length ≤ 17000000 ∧ 0 < l.length ∧ l.length ≤ 4096 := by
  have h1 := isS_put (seqs_ok hs).2 h
  rw [outS_ok h] at h1
  obtain ⟨h2, h3⟩ := errS_zero.1 h
  refine ⟨h1, fileS_len _, fileS_small h2 h3, ?_, by rw [entsOf_length] at h3; exact h3⟩
  have := ((mayS_iff _).1 h2).1
  rw [entsOf_length] at this
  exact this
end Go.Proofs.Ytbcnapkbdbefhaa

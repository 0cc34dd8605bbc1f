/- Slices that read as numbers and as texts. No condition. -/
import Derived.Test.YtafgioidneohhaaBlk
namespace Go.Proofs.Ytafgioidneohhaa
open Go.RowKit
/-- a slice that reads as numbers -/
def RdN (w : World) (v : Value) (l : List Nat) : Prop :=
  ∃ a cap, v = .slice a l.length cap ∧ l.length ≤ cap ∧ cap ≤ 9223372036854775807 ∧
    ∀ j, (h : j < l.length) → ∃ b off, a = some ⟨b, off, none⟩ ∧ w.cell? ⟨b, off + j, none⟩ = some (.int .u64 l[j])
/-- a slice that reads as texts -/
def RdT (w : World) (v : Value) (l : List ByteArray) : Prop :=
  ∃ a cap, v = .slice a l.length cap ∧ l.length ≤ cap ∧ cap ≤ 9223372036854775807 ∧
    ∀ j, (h : j < l.length) → ∃ b off, a = some ⟨b, off, none⟩ ∧ w.cell? ⟨b, off + j, none⟩ = some (.string l[j])
theorem RdN.below {w w' : World} {v : Value} {l : List Nat} (h : RdN w v l) (hb : Below w.heap.size w w') : RdN w' v l := by
  obtain ⟨a, cap, h1, h2, h3, h4⟩ := h
  exact ⟨a, cap, h1, h2, h3, fun j hj => let ⟨b, off, e, c⟩ := h4 j hj; ⟨b, off, e, Below.keeps hb _ _ _ c⟩⟩
theorem RdT.below {w w' : World} {v : Value} {l : List ByteArray} (h : RdT w v l) (hb : Below w.heap.size w w') : RdT w' v l := by
  obtain ⟨a, cap, h1, h2, h3, h4⟩ := h
  exact ⟨a, cap, h1, h2, h3, fun j hj => let ⟨b, off, e, c⟩ := h4 j hj; ⟨b, off, e, Below.keeps hb _ _ _ c⟩⟩
end Go.Proofs.Ytafgioidneohhaa

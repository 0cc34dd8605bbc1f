/- Slices of records (each a slice of bytes). No condition. -/
import Derived.Test.YtafgioidneohhaaBlk
namespace Go.Proofs.Ytafgioidneohhaa
open Go.RowKit
/-- a slice that reads as records -/
def RdR (w : World) (v : Value) (l : List (List UInt8)) : Prop :=
  ∃ a cap, v = .slice a l.length cap ∧ l.length ≤ cap ∧ cap ≤ 9223372036854775807 ∧
    ∀ j, (h : j < l.length) → ∃ b off x, a = some ⟨b, off, none⟩ ∧ w.cell? ⟨b, off + j, none⟩ = some x ∧ Rd w x l[j]
theorem RdR.below {w w' : World} {v : Value} {l : List (List UInt8)} (h : RdR w v l) (hb : Below w.heap.size w w') : RdR w' v l := by
  obtain ⟨a, cap, h1, h2, h3, h4⟩ := h
  exact ⟨a, cap, h1, h2, h3, fun j hj => let ⟨b, off, x, e, c, r⟩ := h4 j hj; ⟨b, off, x, e, Below.keeps hb _ _ _ c, r.below hb⟩⟩
end Go.Proofs.Ytafgioidneohhaa

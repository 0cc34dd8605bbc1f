/- Plain: one block is of one list of entries alone. No condition. -/
import Derived.Test.YtbcnapkbdbefhaaBlkQ
namespace Go.Proofs.Ytbcnapkbdbefhaa
open Go.RowKit

/-- one block is of one list alone -/
theorem blk_unique {E F : List Ent} (hE : mayL E = true) (hF : mayL F = true) (sE : ∀ x ∈ E, x.seq < 18446744073709551616) (sF : ∀ x ∈ F, x.seq < 18446744073709551616) (h : blkPut E = blkPut F) : E = F := by
  obtain ⟨a1, a2⟩ := (mayL_iff E).1 hE
  obtain ⟨b1, b2⟩ := (mayL_iff F).1 hF
  have c := (blk_cut hE rfl).2.2
  rw [h, (blk_cut hF rfl).2.2] at c
  have pE := pst_body E a2 sE
  have pF := pst_body F b2 sF
  rw [c] at pF
  rcases Nat.lt_trichotomy E.length F.length with hl | hl | hl
  · have e1 := pE E.length (Nat.le_refl _)
    have e2 := pF E.length (Nat.le_of_lt hl)
    rw [e1] at e2
    simp only [Prod.mk.injEq, and_true] at e2
    have g := e2.2.2
    rw [List.drop_length] at g
    have g2 := body_grows F E.length F.length hl
    rw [c] at g2
    have g3 := congrArg List.length g
    rw [List.length_drop] at g3
    simp at g3; omega
  · have e1 := pE E.length (Nat.le_refl _)
    have e2 := pF F.length (Nat.le_refl _)
    rw [← hl, e1] at e2
    simp only [Prod.mk.injEq, and_true] at e2
    have g := e2.1
    rw [List.take_length, hl, List.take_length] at g
    exact g
  · have e1 := pE F.length (Nat.le_of_lt hl)
    have e2 := pF F.length (Nat.le_refl _)
    rw [e1] at e2
    simp only [Prod.mk.injEq, and_true] at e2
    have g := e2.2.2
    have g2 := body_grows E F.length E.length hl
    have g3 := congrArg List.length g
    rw [List.length_drop, List.length_drop, c] at g3
    omega
end Go.Proofs.Ytbcnapkbdbefhaa

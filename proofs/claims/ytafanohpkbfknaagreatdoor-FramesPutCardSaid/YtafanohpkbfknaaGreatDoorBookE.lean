/- The book of lists: three or four lists of bytes that calls of one's own have made, one behind the other. No condition. -/
import Derived.Test.YtafanohpkbfknaaGreatDoorBook9
namespace Go.Proofs.YtafanohpkbfknaaGreatDoor
open Go.RowKit

theorem ap_of_ranges {M : Nat} {L : Nat → Value} (S : Nat → Nat) (hmono : ∀ j k, j ≤ k → k ≤ M → S j ≤ S k) (hr : ∀ j, j < M → ∀ b, (L j).ownBlock = some b → S j ≤ b ∧ b < S (j + 1)) :
    ∀ j k, j < M → k < M → j ≠ k → ∀ b, (L j).ownBlock = some b → (L k).ownBlock ≠ some b := by
  intro j k hj hk hne b e e2
  have a := hr j hj b e
  have c := hr k hk b e2
  rcases Nat.lt_or_gt_of_ne hne with h | h
  · have := hmono (j + 1) k h (by omega); omega
  · have := hmono (k + 1) j h (by omega); omega
/-- three of them -/
def three3 {α : Type} (a b c : α) : Nat → α
  | 0 => a
  | 1 => b
  | _ => c
theorem all3 {P : Nat → Prop} (h0 : P 0) (h1 : P 1) (h2 : P 2) : ∀ j, j < 3 → P j
  | 0, _ => h0
  | 1, _ => h1
  | 2, _ => h2
  | j + 3, h => absurd h (by omega)
theorem book3 {wc : World} {base s0 s1 s2 s3 : Nat} {v0 v1 v2 : Value} {n0 n1 n2 : Nat} {l0 l1 l2 : List UInt8} (h01 : s0 ≤ s1) (h12 : s1 ≤ s2) (h23 : s2 ≤ s3) (h3 : s3 ≤ wc.heap.size)
    (o0 : Own wc base 5 1 v0 n0 (u8s l0)) (o1 : Own wc base 5 1 v1 n1 (u8s l1)) (o2 : Own wc base 5 1 v2 n2 (u8s l2))
    (r0 : ∀ b, v0.ownBlock = some b → s0 ≤ b ∧ b < s1) (r1 : ∀ b, v1.ownBlock = some b → s1 ≤ b ∧ b < s2) (r2 : ∀ b, v2.ownBlock = some b → s2 ≤ b ∧ b < s3)
    (m0 : n0 ≤ 1000000000000) (m1 : n1 ≤ 1000000000000) (m2 : n2 ≤ 1000000000000) :
    Hid (KeepSt (wc.alloc (.cells (bkC 0 (.slice none 0 0) (.slice none 0 0)) 43)) base wc.heap.size 0 3 (.slice none 0 0) (.slice none 0 0) (three3 v0 v1 v2) (three3 n0 n1 n2) (three3 l0 l1 l2)) ∧
    Hid (∀ j k, j < 3 → k < 3 → j ≠ k → ∀ b, (three3 v0 v1 v2 j).ownBlock = some b → (three3 v0 v1 v2 k).ownBlock ≠ some b) ∧ Hid (∀ j, j < 3 → three3 n0 n1 n2 j ≤ 1000000000000) := by
  refine ⟨KeepSt.new (all3 o0 o1 o2) (all3 (fun b hb => by have := r0 b hb; omega) (fun b hb => by have := r1 b hb; omega) (fun b hb => by have := r2 b hb; omega)), ?_, all3 m0 m1 m2⟩
  refine ap_of_ranges (fun j => if j = 0 then s0 else if j = 1 then s1 else if j = 2 then s2 else s3) ?_ ?_
  · intro j k h1 h2
    show (if _ then _ else _) ≤ (if _ then _ else _)
    repeat' split
    all_goals omega
  · exact all3 r0 r1 r2
end Go.Proofs.YtafanohpkbfknaaGreatDoor

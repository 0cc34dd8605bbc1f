/- Numbers with needless bytes behind, plain: none of them is got. No condition. -/
import Derived.Test.YtdamfcldkaidjaaCut
namespace Go.Proofs.Ytdamfcldkaidjaa
open Go.RowKit

/-- all bytes go on -/
def More (l : List UInt8) : Prop := ∀ j (h : j < l.length), 128 ≤ l[j].toNat
theorem more_app {l m : List UInt8} (h1 : More l) (h2 : More m) : More (l ++ m) := by
  intro j h
  by_cases hj : j < l.length
  · rw [List.getElem_append_left hj]; exact h1 j hj
  · rw [List.getElem_append_right (by omega)]; exact h2 _ _
theorem more_one {c : UInt8} (h : 128 ≤ c.toNat) : More [c] := by
  intro j hj
  have : j = 0 := by simp at hj; omega
  subst this
  exact h
theorem more_rep (k : Nat) : More (List.replicate k 128) := by
  intro j hj
  rw [List.getElem_replicate]; decide
/-- a needless byte behind -/
theorem vget_needless {l : List UInt8} (h : More l) (h0 : l ≠ []) : vget (l ++ [0]) = (0, 0, 4) := by
  have hp : 0 < l.length := List.length_pos_iff.2 h0
  by_cases h10 : l.length < 10
  · have hl : (l ++ [0])[l.length]'(by simp) = (0 : UInt8) := by simp
    rw [vget_at (l ++ [0]) l.length (by simp) h10 (by
      intro j hj hjl
      rw [List.getElem_append_left hjl]; exact h j hjl) (by rw [hl]; decide), if_pos (.inl ⟨hp, by rw [hl]; rfl⟩)]
  · rw [vget_none (l ++ [0]) (by
      intro j hj hj10
      rw [List.getElem_append_left (by omega)]; exact h j (by omega)), if_neg (by simp; omega)]
/-- ten bytes that go on -/
theorem vget_ten {l : List UInt8} (h : More l) (h0 : 10 ≤ l.length) : vget l = (0, 0, 4) := by
  rw [vget_none l (fun j hj _ => h j hj), if_neg (by omega)]
/-- nine bytes that go on, and one -/
theorem vget_nine_two {l : List UInt8} (h : More l) (h0 : l.length = 9) : vget (l ++ [2]) = (0, 0, 4) := by
  have hl : (l ++ [2])[9]'(by simp; omega) = (2 : UInt8) := by simp [List.getElem_append_right, h0]
  rw [vget_at (l ++ [2]) 9 (by simp; omega) (by omega) (by
    intro j hj hjl
    rw [List.getElem_append_left (by omega)]; exact h j (by omega)) (by rw [hl]; decide), if_pos (.inr ⟨rfl, by rw [hl]; decide⟩)]
theorem vget_nine_one {l : List UInt8} (h : More l) (h0 : l.length = 9) : ∃ n, vget (l ++ [1]) = (n, 10, 0) ∧ 9223372036854775808 ≤ n ∧ n < 18446744073709551616 := by
  have hl : (l ++ [1])[9]'(by simp; omega) = (1 : UInt8) := by simp [List.getElem_append_right, h0]
  have hv := vget_at (l ++ [1]) 9 (by simp; omega) (by omega) (by
    intro j hj hjl
    rw [List.getElem_append_left (by omega)]; exact h j (by omega)) (by rw [hl]; decide)
  rw [if_neg (by rw [hl]; rintro (⟨_, h⟩ | ⟨_, h⟩) <;> revert h <;> decide)] at hv
  refine ⟨_, hv, ?_, ?_⟩
  · rw [List.take_of_length_le (by simp; omega), vval_snoc, h0, show ((1 : UInt8).toNat % 128) = 1 from rfl]
    omega
  · rw [List.take_of_length_le (by simp; omega), vval_snoc, h0, show ((1 : UInt8).toNat % 128) = 1 from rfl]
    have := vval_lt l
    rw [h0] at this
    omega
/-- the last byte of a number made to go on -/
theorem more_last (n : Nat) (c : UInt8) (hc : 128 ≤ c.toNat) : More ((vint n).set ((vint n).length - 1) c) := by
  intro j hj
  rw [List.length_set] at hj
  rw [List.getElem_set]
  split
  · exact hc
  · exact vintF_more 9 n j (by show j + 1 < (vint n).length; omega)
end Go.Proofs.Ytdamfcldkaidjaa

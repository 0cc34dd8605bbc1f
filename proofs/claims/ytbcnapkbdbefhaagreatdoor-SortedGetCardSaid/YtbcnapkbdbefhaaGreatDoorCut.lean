/- Cuts of put numbers and texts, plain; and the cut of a slice that reads as bytes. -/
import Derived.Test.YtbcnapkbdbefhaaGreatDoorNum
import Derived.Test.YtbcnapkbdbefhaaGreatDoorHelp1
namespace Go.Proofs.YtbcnapkbdbefhaaGreatDoor
open Go.RowKit

theorem rd_len {w : World} {v : Value} {l : List UInt8} (h : Rd w v l) : ∃ a n c, v = .slice a n c ∧ n = l.length := by
  obtain ⟨a, c, rfl, _⟩ := h
  exact ⟨_, _, _, rfl, rfl⟩
def RetB (b : Bool) (w : World) (e : Ending) (w' : World) : Prop := e = .returned (.bool b) ∧ Below w.heap.size w w'
/-- v[:k] -/
theorem cut_to {w : World} {v : Value} {l : List UInt8} (h : Rd w v l) (k : Nat) (hk : k ≤ l.length) :
    ∃ a c, (∀ (w' : World) (kh : IntKind), (Instr.slice 22 v none (some (.int kh k)) none).run Tryz.prog w' = .ok (.slice a k c) w') ∧ Rd w (.slice a k c) (l.take k) := by
  obtain ⟨a0, n, c0, rfl, hn⟩ := rd_len h
  subst hn
  obtain ⟨a, c, h1, h2⟩ := run_cut h 0 k (Nat.zero_le _) hk
  obtain ⟨a1, c1, e, hc, hm, hr⟩ := h
  simp only [Value.slice.injEq, true_and] at e
  obtain ⟨rfl, rfl⟩ := e
  refine ⟨a, c, fun w' kh => ?_, by simpa using h2⟩
  have h5 := h1 w' .i64 kh
  rw [run_slice_lh w' 22 a0 l.length c0 (by kernel_rfl) .i64 kh ((0 : Nat) : Int) k (by omega) (by omega) (by omega), Nat.sub_zero] at h5
  rw [run_slice_h w' 22 a0 l.length c0 (by kernel_rfl) kh k (by omega) (by omega)]
  exact h5
/-- v[k:] -/
theorem cut_from {w : World} {v : Value} {l : List UInt8} (h : Rd w v l) (k : Nat) (hk : k ≤ l.length) :
    ∃ a c, (∀ (w' : World) (kl : IntKind), (Instr.slice 22 v (some (.int kl k)) none none).run Tryz.prog w' = .ok (.slice a (l.length - k) c) w') ∧ Rd w (.slice a (l.length - k) c) (l.drop k) := by
  obtain ⟨a0, n, c0, rfl, hn⟩ := rd_len h
  subst hn
  exact run_cut_from h k hk

theorem vintF_more (f : Nat) : ∀ n j (h : j + 1 < (vintF f n).length), 128 ≤ ((vintF f n)[j]'(by omega)).toNat := by
  induction f with
  | zero => intro n j h; simp [vintF] at h
  | succ f ih =>
    intro n j h
    by_cases hn : n < 128
    · have e : vintF (f + 1) n = [UInt8.ofNat n] := by unfold vintF; rw [if_pos hn]
      rw [e] at h; simp at h
    · have e : vintF (f + 1) n = UInt8.ofNat (n % 128 + 128) :: vintF f (n / 128) := by conv => lhs; unfold vintF; rw [if_neg hn]
      simp only [e] at h ⊢
      cases j with
      | zero => rw [List.getElem_cons_zero, toNat_ofNat _ (by omega)]; omega
      | succ j => rw [List.getElem_cons_succ]; exact ih _ j (by simpa using h)
/-- of a number the last bytes missing -/
theorem vget_cut (n k : Nat) (hk : k < (vint n).length) : vget ((vint n).take k) = (0, 0, 5) := by
  have h10 := vint_le n
  rw [vget_none _ (by
    intro j hj _
    rw [List.getElem_take]
    exact vintF_more 9 n j (by simp at hj; show j + 1 < (vint n).length; omega))]
  rw [if_pos (by simp; omega)]
/-- of a text the last bytes missing -/
theorem tget_cut (s : List UInt8) (k : Nat) (hs : s.length < 18446744073709551616) (hk : k < (vint s.length ++ s).length) : tget ((vint s.length ++ s).take k) = ([], 0, 5) := by
  by_cases h : k < (vint s.length).length
  · rw [List.take_append_of_le_length (by omega)]
    exact tget_bad (vget_cut _ _ h) (by decide)
  · rw [List.take_append, List.take_of_length_le (by omega)]
    simp only [List.length_append] at hk
    refine tget_short (vget_put _ hs _) ?_
    simp
    omega
theorem fget_cut (n k : Nat) (hk : k < 4) : fget ((four n).take k) = (0, 5) := by
  unfold fget
  rw [if_pos (by simp; omega)]
end Go.Proofs.YtbcnapkbdbefhaaGreatDoor

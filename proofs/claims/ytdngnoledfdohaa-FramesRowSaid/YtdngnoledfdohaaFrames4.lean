/- Frames, plain: what is put is got, what is got was put; an answer's length as a variable. No condition. -/
import Derived.Test.YtdngnoledfdohaaAlive3
namespace Go.Proofs.Ytdngnoledfdohaa
open Go.RowKit

theorem fval_four' (n : Nat) (h : n < 4294967296) : fval (four n) = n := by
  simp only [fval, four, List.foldl_cons, List.foldl_nil, UInt8.toNat_ofNat']
  omega
theorem fput_take4 (r m : List UInt8) : (fput r ++ m).take 4 = four r.length := rfl
theorem fput_drop4 (r m : List UInt8) : ((fput r ++ m).drop 4).take 4 = four (crcOn 0 (four r.length ++ r)) := rfl
theorem fput_drop8 (r m : List UInt8) : (fput r ++ m).drop 8 = r ++ m := rfl
theorem fgetR_put (r m : List UInt8) (h : r.length ≤ 65536) : fgetR (fput r ++ m) = (r, r.length + 8, 0) := by
  unfold fgetR
  rw [fput_take4, fput_drop4, fput_drop8, fval_four' _ (by omega), fval_four' _ (crcOn_lt _ _)]
  rw [if_neg (by simp [fput_length]; omega), if_neg (by omega), if_neg (by simp [fput_length]; omega), List.take_left, if_pos rfl]
  rw [Nat.add_comm]
theorem four_fval (l : List UInt8) (h : l.length = 4) : four (fval l) = l := by
  match l, h with
  | [a, b, c, d], _ =>
    have ha := a.toNat_lt
    have hb := b.toNat_lt
    have hc := c.toNat_lt
    have hd := d.toNat_lt
    simp only [fval, four, List.foldl_cons, List.foldl_nil]
    congr 1
    · apply UInt8.toNat_inj.1; rw [UInt8.toNat_ofNat']; omega
    · congr 1
      · apply UInt8.toNat_inj.1; rw [UInt8.toNat_ofNat']; omega
      · congr 1
        · apply UInt8.toNat_inj.1; rw [UInt8.toNat_ofNat']; omega
        · congr 1
          apply UInt8.toNat_inj.1; rw [UInt8.toNat_ofNat']; omega
theorem fgetR_got {l r : List UInt8} {k : Nat} (h : fgetR l = (r, k, 0)) : r.length ≤ 65536 ∧ k = r.length + 8 ∧ k ≤ l.length ∧ fput r = l.take k := by
  unfold fgetR at h
  split at h
  · simp at h
  · rename_i h1
    split at h
    · simp at h
    · rename_i h2
      split at h
      · simp at h
      · rename_i h3
        split at h
        · rename_i h4
          simp only [Prod.mk.injEq, and_true] at h
          obtain ⟨rfl, rfl⟩ := h
          generalize hn : fval (l.take 4) = n at *
          have hl : ((l.drop 8).take n).length = n := by simp; omega
          refine ⟨by omega, by omega, by omega, ?_⟩
          have e4 : four n = l.take 4 := by rw [← hn]; exact four_fval _ (by simp; omega)
          have e5 : four (crcOn 0 (l.take 4 ++ (l.drop 8).take n)) = (l.drop 4).take 4 := by rw [h4]; exact four_fval _ (by simp; omega)
          unfold fput
          rw [hl, e4, e5, show 8 + n = 4 + (4 + n) from by omega, List.take_add, List.take_add, List.drop_drop]
        · simp at h
theorem fgetR_bad {l r : List UInt8} {k er : Nat} (h : fgetR l = (r, k, er)) (he : er ≠ 0) : r = [] ∧ k = 0 ∧ (er = 4 ∨ er = 5) := by
  unfold fgetR at h
  repeat' split at h
  all_goals
    simp only [Prod.mk.injEq] at h
    obtain ⟨rfl, rfl, rfl⟩ := h
    first | exact absurd rfl he | exact ⟨rfl, rfl, by simp⟩
theorem fgetR_cut (r : List UInt8) (h : r.length ≤ 65536) (k : Nat) (hk : k < r.length + 8) : fgetR ((fput r).take k) = ([], 0, 5) := by
  have hl : ((fput r).take k).length = k := by rw [List.length_take, fput_length]; omega
  by_cases h8 : k < 8
  · unfold fgetR; rw [if_pos (by omega)]
  · have e4 : ((fput r).take k).take 4 = four r.length := by
      rw [List.take_take, Nat.min_eq_left (by omega)]; rfl
    unfold fgetR
    rw [if_neg (by omega), e4, fval_four' _ (by omega), if_neg (by omega), if_pos (by omega)]
/-- frames.Put, its answer with the length as a variable -/
def RetPutF (r : List UInt8) (w : World) (e : Ending) (w' : World) : Prop :=
  ∃ a n c, e = .returned (.tuple #[.slice a n c, .int .i64 0]) ∧ n = r.length + 8 ∧ Hid (Own w' w.heap.size 5 1 (.slice a n c) n (u8s (fput r))) ∧ Below w.heap.size w w'
theorem put_var (w : World) (v : Value) (l : List UInt8) (hv : Rd w v l) (hl : l.length ≤ 65536) : Calls Try.prog 25 #[v] w (RetPutF l w) := by
  refine (framesPut_any w v l hv hl).mono ?_
  rintro e w' ⟨a, n, c, rfl, h1, h2, h3⟩
  exact ⟨a, n, c, rfl, by rw [h1.out, fput_length], h2, h3⟩
end Go.Proofs.Ytdngnoledfdohaa

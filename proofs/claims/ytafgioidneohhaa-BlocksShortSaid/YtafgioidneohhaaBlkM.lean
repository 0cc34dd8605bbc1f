/- Blocks, plain: entries of which the keys rise by their last byte. No program stands in this text; no condition. -/
import Derived.Test.YtafgioidneohhaaBlkR
namespace Go.Proofs.Ytafgioidneohhaa
open Go.RowKit

theorem ltB_app (l a b : List UInt8) : ltB (l ++ a) (l ++ b) = ltB a b := by
  induction l with
  | nil => rfl
  | cons x l ih => simp [ltB, ih]
/-- the entry i of such ones -/
def rowE (p : List UInt8) (s b i : Nat) : Ent := ⟨p ++ [UInt8.ofNat (b + i)], s, false, [118]⟩
def rowL (p : List UInt8) (s b n : Nat) : List Ent := (List.range n).map (rowE p s b)
theorem rowL_length (p : List UInt8) (s b n : Nat) : (rowL p s b n).length = n := by simp [rowL]
theorem rowL_at (p : List UInt8) (s b n k : Nat) (h : k < n) : atE (rowL p s b n) k = rowE p s b k := by
  rw [atE_get _ _ (by rw [rowL_length]; exact h)]; simp [rowL]
theorem row_fit (p : List UInt8) (s b i : Nat) (hp : p.length ≤ 31) : fitE (rowE p s b i) = true := by
  refine (fitE_iff _).2 ⟨?_, by simp [rowE], fun h => by simp [rowE] at h⟩
  simp only [checkK, rowE, List.length_append, List.length_singleton, decide_eq_true_eq]
  omega
theorem row_rises (p : List UInt8) (s b i j : Nat) (hij : i < j) (hj : b + j < 256) : cmpE (rowE p s b i) (rowE p s b j) < 0 := by
  have h : ltB (p ++ [UInt8.ofNat (b + i)]) (p ++ [UInt8.ofNat (b + j)]) = true := by
    rw [ltB_app]
    simp only [ltB]
    rw [if_pos (by rw [toNat_ofNat _ (by omega), toNat_ofNat _ (by omega)]; omega)]
  have hc : cmpS (p ++ [UInt8.ofNat (b + i)]) (p ++ [UInt8.ofNat (b + j)]) = -1 := by unfold cmpS; rw [if_pos h]
  show cmpM (p ++ [UInt8.ofNat (b + i)]) s false (p ++ [UInt8.ofNat (b + j)]) s false < 0
  unfold cmpM
  rw [hc, if_pos (by decide)]
  decide
theorem row_may (p : List UInt8) (s b n : Nat) (hp : p.length ≤ 31) (h1 : 0 < n) (h2 : n ≤ 64) (hb : b + n ≤ 256) : mayL (rowL p s b n) = true := by
  refine (mayL_iff _).2 ⟨by rw [rowL_length]; exact ⟨h1, h2⟩, fun k hk => ?_⟩
  rw [rowL_length] at hk
  unfold okAt
  rw [rowL_at _ _ _ _ _ hk, row_fit p s b k hp, Bool.true_and]
  by_cases h0 : k = 0
  · subst h0; rfl
  · rw [rowL_at _ _ _ _ _ (by omega : k - 1 < n), Bool.or_eq_true]
    exact .inr (decide_eq_true (row_rises p s b (k - 1) k (by omega) (by omega)))
theorem row_long (p : List UInt8) (s b n : Nat) (h : 64 < n) : mayL (rowL p s b n) = false := by
  cases hm : mayL (rowL p s b n)
  · rfl
  · have := ((mayL_iff _).1 hm).1.2
    rw [rowL_length] at this
    omega
theorem row_seqs (p : List UInt8) (s b n : Nat) (hs : s < 18446744073709551616) : (∀ x ∈ rowL p s b n, x.seq < 18446744073709551616) := by
  intro x hx
  obtain ⟨i, _, rfl⟩ := List.mem_map.1 hx
  exact hs
theorem alike_row (p : List UInt8) (x y : UInt8) (h : x ≠ y) : alikeL (p ++ [x]) (p ++ [y]) = p.length := by
  induction p with
  | nil => simp [alikeL, h]
  | cons a p ih => simp [alikeL, ih]
theorem row_alike (p : List UInt8) (s b n k : Nat) (hk : k < n) (hb : b + n ≤ 256) : alikeAt (rowL p s b n) k = if k % 4 = 0 then 0 else p.length := by
  unfold alikeAt
  by_cases h : k % 4 = 0
  · rw [if_pos h, if_pos h]
  · have hk0 : k ≠ 0 := fun e => by subst e; simp at h
    rw [if_neg h, if_neg h, rowL_at _ _ _ _ _ hk, rowL_at _ _ _ _ _ (by omega : k - 1 < n)]
    refine alike_row p _ _ fun e => ?_
    have := congrArg UInt8.toNat e
    rw [toNat_ofNat _ (by omega), toNat_ofNat _ (by omega)] at this
    omega
theorem row_enc (p : List UInt8) (s b n k : Nat) (hp : p.length ≤ 31) (hk : k < n) (hb : b + n ≤ 256) : (encAt (rowL p s b n) k).length = 6 + (vint s).length + (if k % 4 = 0 then p.length else 0) := by
  unfold encAt
  rw [row_alike p s b n k hk hb, rowL_at _ _ _ _ _ hk]
  have hv : ∀ m, m < 128 → (vint m).length = 1 := fun m hm => by rw [vint_small m hm]; rfl
  by_cases h : k % 4 = 0
  · rw [if_pos h, if_pos h]
    simp only [eput, tput, cutE, rowE, flagB, List.drop_zero, List.length_append, List.length_cons, List.length_nil, Bool.false_eq_true, if_false]
    rw [hv 0 (by omega), hv (p.length + (0 + 1)) (by omega), hv (0 + 1) (by omega)]
    omega
  · rw [if_neg h, if_neg h]
    simp only [eput, tput, cutE, rowE, flagB, List.drop_left, List.length_append, List.length_cons, List.length_nil, Bool.false_eq_true, if_false]
    rw [hv p.length (by omega), hv (0 + 1) (by omega)]
    omega
theorem row_body (p : List UInt8) (s b n k : Nat) (hp : p.length ≤ 31) (hk : k ≤ n) (hb : b + n ≤ 256) : (bodyN (rowL p s b n) k).length = k * (6 + (vint s).length) + (k + 3) / 4 * p.length := by
  induction k with
  | zero => simp [bodyN]
  | succ k ih =>
    rw [bodyN, List.length_append, ih (by omega), row_enc p s b n k hp (by omega) hb, Nat.succ_mul]
    by_cases h : k % 4 = 0
    · rw [if_pos h, show (k + 1 + 3) / 4 = (k + 3) / 4 + 1 from by omega, Nat.succ_mul]
      omega
    · rw [if_neg h, show (k + 1 + 3) / 4 = (k + 3) / 4 from by omega]
      omega
theorem row_blk (p : List UInt8) (s b n : Nat) (hp : p.length ≤ 31) (hb : b + n ≤ 256) : (blkPut (rowL p s b n)).length = n * (6 + (vint s).length) + (n + 3) / 4 * p.length + 2 * ((n + 3) / 4) + 2 := by
  rw [blkPut_length, rowL_length, row_body p s b n n hp (Nat.le_refl _) hb]
/-- a block's last two bytes -/
theorem blk_last (E : List Ent) (h : E.length ≤ 64) : ∃ c : List UInt8, blkPut E = c ++ [0, UInt8.ofNat ((E.length + 3) / 4)] := by
  refine ⟨bodyN E E.length ++ twos (placesN E E.length), ?_⟩
  unfold blkPut two
  rw [placesN_length, show (E.length + 3) / 4 / 256 = 0 from by omega]
  rfl
end Go.Proofs.Ytafgioidneohhaa

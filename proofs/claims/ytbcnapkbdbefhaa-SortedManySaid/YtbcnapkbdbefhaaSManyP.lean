/- Many entries of keys of two bytes: they may be a file; what Get and From find in it. Plain; no condition. -/
import Derived.Test.YtbcnapkbdbefhaaSGreat
namespace Go.Proofs.Ytbcnapkbdbefhaa
open Go.RowKit

def keyM (i : Nat) : List UInt8 := [UInt8.ofNat (i / 256), UInt8.ofNat (i % 256)]
def rowM (u : List UInt8) (i : Nat) : PE := ⟨bs (keyM i), i, false, bs u⟩
def rowsM (u : List UInt8) (n : Nat) : List PE := (List.range n).map (rowM u)
theorem rowsM_len (u : List UInt8) (n : Nat) : (rowsM u n).length = n := by simp [rowsM]
theorem rowsM_get (u : List UInt8) (n i : Nat) (h : i < (rowsM u n).length) : (rowsM u n)[i] = rowM u i := by simp [rowsM]
theorem rowsM_succ (u : List UInt8) (n : Nat) : rowsM u (n + 1) = rowsM u n ++ [rowM u n] := by simp [rowsM, List.range_succ]
theorem rowsM_at (u : List UInt8) (n i : Nat) (h : i < n) : atE (entsOf (rowsM u n)) i = (rowM u i).ent := by
  rw [entsOf_at _ _ (by rw [rowsM_len]; exact h), rowsM_get]
theorem keyM_lt {i j : Nat} (h : i < j) (hj : j < 65536) : ltB (keyM i) (keyM j) = true := by
  unfold keyM
  rw [ltB_cons _ _ _ _ (by omega) (by omega), ltB_cons _ _ _ _ (by omega) (by omega)]
  by_cases h1 : i / 256 < j / 256
  · rw [if_pos h1]
  · rw [if_neg h1, if_neg (by omega), if_pos (by omega)]
theorem rowM_key (u : List UInt8) (i : Nat) : (rowM u i).ent.key = keyM i := bs_data _
theorem rowM_cmp (u : List UInt8) {i j : Nat} (h : i < j) (hj : j < 65536) : cmpE (rowM u i).ent (rowM u j).ent < 0 := by
  unfold cmpE cmpM
  rw [rowM_key, rowM_key, cmpS_lt (keyM_lt h hj), if_pos (by decide)]
  decide
theorem mayM (u : List UInt8) (n : Nat) (h0 : 0 < n) (hn : n ≤ 65536) (hu : u.length ≤ 256) : mayS (entsOf (rowsM u n)) = true := by
  refine (mayS_iff _).2 ⟨by rw [entsOf_length, rowsM_len]; exact h0, fun k hk => ?_⟩
  rw [entsOf_length, rowsM_len] at hk
  unfold okAt
  rw [rowsM_at u n k hk, Bool.and_eq_true]
  constructor
  · rw [fitE_iff, rowM_key]
    exact ⟨rfl, by show (bs u).data.toList.length ≤ 256; rw [bs_data]; exact hu, fun h => by cases h⟩
  · by_cases hk0 : k = 0
    · subst hk0; rfl
    · rw [rowsM_at u n (k - 1) (by omega), Bool.or_eq_true, decide_eq_true_eq]
      exact .inr (rowM_cmp u (by omega) (by omega))
theorem seqsM (u : List UInt8) (n : Nat) (hn : n ≤ 65536) : ∀ x ∈ rowsM u n, x.s < 18446744073709551616 := by
  intro x hx
  obtain ⟨i, hi, rfl⟩ := List.mem_map.1 hx
  rw [List.mem_range] at hi
  show i < _
  omega
theorem keyM_ne {i j : Nat} (h : i < j) (hj : j < 65536) : keyM i ≠ keyM j := fun e => by
  have := keyM_lt h hj
  rw [e, ltB_self] at this
  cases this
theorem getM (u : List UInt8) (m s : Nat) (hn : m < 65536) (hu : u.length ≤ 256) (hs : m ≤ s) : getS (keyM m) s (entsOf (rowsM u (m + 1))) = some (rowM u m).ent := by
  rw [getS_find ((mayS_iff _).1 (mayM u (m + 1) (by omega) (by omega) hu)).2]
  have e : entsOf (rowsM u (m + 1)) = entsOf (rowsM u m) ++ [(rowM u m).ent] := by rw [rowsM_succ]; simp [entsOf]
  rw [e, List.find?_append]
  have h1 : (entsOf (rowsM u m)).find? (ofK (keyM m) s) = none := by
    rw [List.find?_eq_none]
    intro x hx
    obtain ⟨y, hy, rfl⟩ := List.mem_map.1 hx
    obtain ⟨i, hi, rfl⟩ := List.mem_map.1 hy
    rw [List.mem_range] at hi
    unfold ofK
    rw [rowM_key, decide_eq_false (keyM_ne hi hn)]
    simp
  rw [h1, Option.none_or, List.find?_cons_of_pos]
  unfold ofK
  rw [rowM_key, decide_eq_true rfl, decide_eq_true (show (rowM u m).ent.seq ≤ s from hs)]
  rfl
theorem seekM (u : List UInt8) (m : Nat) (hn : m + 3 ≤ 65536) (h0 : 0 < m) (hu : u.length ≤ 256) : seekAt (keyM m) m false (entsOf (rowsM u (m + 3))) = m := by
  have hok := ((mayS_iff _).1 (mayM u (m + 3) (by omega) hn hu)).2
  have hl : (entsOf (rowsM u (m + 3))).length = m + 3 := by rw [entsOf_length, rowsM_len]
  have h1 := seek_iff hok (keyM m) m false m (by omega)
  have h2 := seek_iff hok (keyM m) m false (m - 1) (by omega)
  rw [rowsM_at u (m + 3) m (by omega)] at h1
  rw [rowsM_at u (m + 3) (m - 1) (by omega)] at h2
  have e1 : ¬ cmpM (rowM u m).ent.key (rowM u m).ent.seq (rowM u m).ent.gone (keyM m) m false < 0 := by
    rw [rowM_key]
    have : cmpM (keyM m) m false (keyM m) m false = 0 := by rw [cmpM_key]; unfold cmpN; simp
    show ¬ cmpM (keyM m) m false (keyM m) m false < 0
    omega
  have e2 : cmpM (rowM u (m - 1)).ent.key (rowM u (m - 1)).ent.seq (rowM u (m - 1)).ent.gone (keyM m) m false < 0 := by
    have := rowM_cmp u (show m - 1 < m by omega) (by omega)
    unfold cmpE at this
    rw [rowM_key u m] at this
    exact this
  have a1 := mt h1.2 e1
  have a2 := h2.1 e2
  omega
/-- four cells are written -/
theorem set_four (P : List Value) (L : List Value) (k : Nat) (a b c d : Value) (hP : L.take k = P) (hk : k + 4 ≤ L.length) : ((((L.set k a).set (k + 1) b).set (k + 2) c).set (k + 3) d).take (k + 4) = P ++ [a, b, c, d] := by
  subst hP
  refine List.ext_getElem? fun i => ?_
  rw [List.getElem?_take]
  rcases Nat.lt_or_ge i k with h | h
  · rw [if_pos (by omega), List.getElem?_append_left (by rw [List.length_take]; omega), List.getElem?_take, if_pos h]
    rw [List.getElem?_set_ne (by omega), List.getElem?_set_ne (by omega), List.getElem?_set_ne (by omega), List.getElem?_set_ne (by omega)]
  · rw [List.getElem?_append_right (by rw [List.length_take]; omega), List.length_take, Nat.min_eq_left (by omega)]
    obtain ⟨j, rfl⟩ : ∃ j, i = k + j := ⟨i - k, by omega⟩
    rw [Nat.add_sub_cancel_left]
    rcases j with _ | _ | _ | _ | j
    · rw [if_pos (by omega)]; simp only [Nat.add_zero]
      rw [List.getElem?_set_ne (by omega), List.getElem?_set_ne (by omega), List.getElem?_set_ne (by omega), List.getElem?_set_self (by omega)]; rfl
    · rw [if_pos (by omega), List.getElem?_set_ne (by omega), List.getElem?_set_ne (by omega), List.getElem?_set_self (by simp; omega)]; rfl
    · rw [if_pos (by omega), List.getElem?_set_ne (by omega), List.getElem?_set_self (by simp; omega)]; rfl
    · rw [if_pos (by omega), List.getElem?_set_self (by simp; omega)]; rfl
    · rw [if_neg (by omega)]; rfl
end Go.Proofs.Ytbcnapkbdbefhaa

/- Plain facts on entries as bytes: put, got, cut. No program stands in this text; no condition. -/
import Derived.Test.YtbcnapkbdbefhaaGreatDoorCut
namespace Go.Proofs.YtbcnapkbdbefhaaGreatDoor
open Go.RowKit

/-- an entry: key, number, gone, value -/
structure Ent where
  key : List UInt8
  seq : Nat
  gone : Bool
  val : List UInt8
def Ent.none : Ent := ⟨[], 0, false, []⟩
def flagB (g : Bool) : UInt8 := if g then 1 else 0
/-- the bytes of an entry -/
def eput (x : Ent) : List UInt8 := tput x.key ++ (vint x.seq ++ (flagB x.gone :: (if x.gone then [] else tput x.val)))
/-- the bytes behind the flag -/
def egetV (k : List UInt8) (s at_ : Nat) (r : List UInt8) : Ent × Nat × Nat :=
  if (tget r).2.2 = 0 then (if (tget r).1.length ≤ 256 then (⟨k, s, false, (tget r).1⟩, at_ + (tget r).2.1, 0) else (Ent.none, 0, 4)) else (Ent.none, 0, (tget r).2.2)
/-- the flag, and what is behind -/
def egetF (k : List UInt8) (s at_ : Nat) (r : List UInt8) : Ent × Nat × Nat :=
  match r with
  | [] => (Ent.none, 0, 5)
  | c :: t => if 1 < c.toNat then (Ent.none, 0, 4) else if c.toNat = 1 then (⟨k, s, true, []⟩, at_ + 1, 0) else egetV k s (at_ + 1) t
/-- the number, and what is behind -/
def egetS (k : List UInt8) (at_ : Nat) (r : List UInt8) : Ent × Nat × Nat :=
  if (vget r).2.2 = 0 then egetF k (vget r).1 (at_ + (vget r).2.1) (r.drop (vget r).2.1) else (Ent.none, 0, (vget r).2.2)
/-- the entry that bytes begin with: (entry, how many it took, error) -/
def eget (l : List UInt8) : Ent × Nat × Nat :=
  if (tget l).2.2 = 0 then (if checkK (tget l).1 then egetS (tget l).1 (tget l).2.1 (l.drop (tget l).2.1) else (Ent.none, 0, 4)) else (Ent.none, 0, (tget l).2.2)

theorem tget_got {l s : List UInt8} {k : Nat} (h : tget l = (s, k, 0)) : 1 ≤ k ∧ k ≤ l.length ∧ s.length < 18446744073709551616 ∧ s.length < k ∧ tput s = l.take k := by
  unfold tget at h
  split at h
  · rename_i hz
    obtain ⟨a1, a2, a3, a4, a5⟩ := vget_got (l := l) (n := (vget l).1) (k := (vget l).2.1) (by ext <;> simp [hz])
    split at h
    · simp at h
    · rename_i hlt
      simp only [Prod.mk.injEq, and_true] at h
      obtain ⟨rfl, rfl⟩ := h
      have hlen : ((l.drop (vget l).2.1).take (vget l).1).length = (vget l).1 := by simp; omega
      refine ⟨by omega, by omega, by rw [hlen]; exact a1, by rw [hlen]; omega, ?_⟩
      unfold tput
      rw [hlen, a5, List.take_add]
  · rename_i hz
    simp only [Prod.mk.injEq] at h
    exact absurd h.2.2 hz
theorem tget_err {l : List UInt8} (h : (tget l).2.2 ≠ 0) : (tget l = ([], 0, 4) ∨ tget l = ([], 0, 5)) := by
  unfold tget at h ⊢
  split at h
  · rename_i hz
    rw [if_pos hz]
    split at h
    · rename_i h2
      rw [if_pos h2]
      exact .inr rfl
    · simp at h
  · rename_i hz
    rw [if_neg hz]
    rcases vget_bad hz with ⟨e, _⟩ | ⟨e, _⟩
    · rw [e]; exact .inr rfl
    · rw [e]; exact .inl rfl
theorem tget_tput (s b : List UInt8) (hs : s.length < 18446744073709551616) : tget (tput s ++ b) = (s, (tput s).length, 0) := by
  unfold tput
  rw [List.append_assoc]
  have h := vget_put s.length hs (s ++ b)
  rw [tget_ok h (by simp)]
  rw [List.drop_left, List.take_left, List.length_append]
theorem eget_put (x : Ent) (b : List UInt8) (hk : checkK x.key = true) (hs : x.seq < 18446744073709551616) (hv : x.val.length ≤ 256) (hg : x.gone = true → x.val = []) :
    eget (eput x ++ b) = (x, (eput x).length, 0) := by
  have hkl : x.key.length < 18446744073709551616 := by simp [checkK] at hk; omega
  unfold eget eput
  rw [List.append_assoc, tget_tput _ _ hkl, if_pos rfl, if_pos hk, List.drop_left]
  unfold egetS
  rw [List.append_assoc, vget_put _ hs, if_pos rfl, List.drop_left]
  unfold egetF
  cases hgo : x.gone
  · simp only [flagB, Bool.false_eq_true, if_false, List.cons_append]
    rw [if_neg (by decide), if_neg (by decide)]
    unfold egetV
    rw [tget_tput _ _ (by omega), if_pos rfl, if_pos hv]
    simp only [List.length_append, List.length_cons, Prod.mk.injEq, and_true]
    refine ⟨?_, by omega⟩
    cases x; simp_all
  · simp only [flagB, if_true, List.cons_append, List.nil_append]
    rw [if_neg (by decide), if_pos (by decide)]
    simp only [List.length_append, List.length_cons, List.length_nil, Prod.mk.injEq, and_true]
    refine ⟨?_, by omega⟩
    have := hg hgo
    cases x; simp_all
/-- an entry whose key may not be, or whose value is too long -/
theorem eget_put_bad (x : Ent) (b : List UInt8) (hkl : x.key.length < 18446744073709551616) (hvl : x.val.length < 18446744073709551616) (hs : x.seq < 18446744073709551616)
    (hb : checkK x.key = false ∨ (x.gone = false ∧ 256 < x.val.length)) : eget (eput x ++ b) = (Ent.none, 0, 4) := by
  unfold eget eput
  rw [List.append_assoc, tget_tput _ _ hkl, if_pos rfl]
  by_cases hk : checkK x.key = true
  · have hb2 : x.gone = false ∧ 256 < x.val.length := by
      rcases hb with h | h
      · rw [hk] at h; cases h
      · exact h
    rw [if_pos hk, List.drop_left]
    unfold egetS
    rw [List.append_assoc, vget_put _ hs, if_pos rfl, List.drop_left]
    unfold egetF
    simp only [hb2.1, flagB, Bool.false_eq_true, if_false, List.cons_append]
    rw [if_neg (by decide), if_neg (by decide)]
    unfold egetV
    rw [tget_tput _ _ hvl, if_pos rfl, if_neg (by show ¬ x.val.length ≤ 256; omega)]
  · rw [if_neg hk]
/-- a gone entry with a value: the value is let go -/
theorem eput_gone (x : Ent) (h : x.gone = true) : eput x = eput ⟨x.key, x.seq, true, []⟩ := by
  unfold eput; simp [h]
/-- what is got -/
theorem eget_got {l : List UInt8} {x : Ent} {n : Nat} (h : eget l = (x, n, 0)) :
    3 ≤ n ∧ n ≤ l.length ∧ checkK x.key = true ∧ x.val.length ≤ 256 ∧ (x.gone = true → x.val = []) ∧ x.seq < 18446744073709551616 ∧ eput x = l.take n := by
  unfold eget at h
  split at h
  · rename_i hz
    rcases ht : tget l with ⟨k, a, e⟩
    rw [ht] at h hz
    simp only at h hz
    subst hz
    obtain ⟨t1, t2, t3, t4, t5⟩ := tget_got ht
    split at h
    · rename_i hk
      unfold egetS at h
      split at h
      · rename_i hz2
        rcases hs : vget (l.drop a) with ⟨s, b, e2⟩
        rw [hs] at h hz2
        simp only at h hz2
        subst hz2
        obtain ⟨s1, s2, s3, s4, s5⟩ := vget_got hs
        rw [List.length_drop] at s3
        rw [List.drop_drop] at h
        unfold egetF at h
        split at h
        · simp at h
        · rename_i c t hct
          have hdl : (l.drop (a + b)).length = (c :: t).length := by rw [hct]
          simp only [List.length_drop, List.length_cons] at hdl
          have htk : l.take (a + b) = tput k ++ vint s := by rw [List.take_add, ← t5, ← s5]
          split at h
          · simp at h
          · rename_i hc1
            split at h
            · rename_i hc2
              simp only [Prod.mk.injEq, and_true] at h
              obtain ⟨rfl, rfl⟩ := h
              refine ⟨by omega, by omega, hk, by simp, fun _ => rfl, s1, ?_⟩
              rw [show a + b + 1 = (a + b) + 1 from rfl, List.take_add, htk, hct]
              have : c = 1 := UInt8.toNat_inj.1 (by rw [hc2]; rfl)
              simp [eput, flagB, this]
            · rename_i hc2
              have hc0 : c = 0 := UInt8.toNat_inj.1 (by show _ = 0; omega)
              unfold egetV at h
              split at h
              · rename_i hz3
                rcases hv : tget t with ⟨v, d, e3⟩
                rw [hv] at h hz3
                simp only at h hz3
                subst hz3
                obtain ⟨v1, v2, v3, v4, v5⟩ := tget_got hv
                split at h
                · rename_i hv256
                  simp only [Prod.mk.injEq, and_true] at h
                  obtain ⟨rfl, rfl⟩ := h
                  refine ⟨by omega, by omega, hk, hv256, (fun h => by cases h), s1, ?_⟩
                  rw [show a + b + 1 + d = (a + b) + (d + 1) from by omega, List.take_add, htk, hct, List.take_succ_cons, ← v5]
                  simp [eput, flagB, hc0]
                · simp at h
              · rename_i hz3
                simp only [Prod.mk.injEq] at h
                exact absurd h.2.2 hz3
      · rename_i hz2
        simp only [Prod.mk.injEq] at h
        exact absurd h.2.2 hz2
    · simp at h
  · rename_i hz
    simp only [Prod.mk.injEq] at h
    exact absurd h.2.2 hz
theorem eget_bad {l : List UInt8} (h : (eget l).2.2 ≠ 0) : eget l = (Ent.none, 0, 4) ∨ eget l = (Ent.none, 0, 5) := by
  have ht := @tget_err
  have hv := fun (l : List UInt8) (h : (vget l).2.2 ≠ 0) => vget_bad h
  unfold eget at h ⊢
  split at h
  · rename_i h1
    rw [if_pos h1]
    split at h
    · rename_i h2
      rw [if_pos h2]
      unfold egetS at h ⊢
      split at h
      · rename_i h3
        rw [if_pos h3]
        unfold egetF at h ⊢
        split at h
        · exact .inr rfl
        · split at h
          · rename_i h5; rw [if_pos h5]; exact .inl rfl
          · rename_i h5
            rw [if_neg h5]
            split at h
            · simp at h
            · rename_i h6
              rw [if_neg h6]
              unfold egetV at h ⊢
              split at h
              · rename_i h7
                rw [if_pos h7]
                split at h
                · simp at h
                · rename_i h8; rw [if_neg h8]; exact .inl rfl
              · rename_i h7
                rw [if_neg h7]
                rcases ht h7 with e | e <;> rw [e] <;> simp
      · rename_i h3
        rw [if_neg h3]
        rcases hv _ h3 with ⟨e, _⟩ | ⟨e, _⟩ <;> rw [e] <;> simp
    · rename_i h2; rw [if_neg h2]; exact .inl rfl
  · rename_i h1
    rw [if_neg h1]
    rcases ht h1 with e | e <;> rw [e] <;> simp

/-- got of a beginning: a number, a text and an entry of which the last bytes are missing -/
theorem vget_take {l : List UInt8} {n k m : Nat} (h : vget l = (n, k, 0)) (hm : m < k) : vget (l.take m) = (0, 0, 5) := by
  obtain ⟨a1, a2, a3, a4, a5⟩ := vget_got h
  have e : l.take m = (vint n).take m := by rw [a5, List.take_take, Nat.min_eq_left (by omega)]
  rw [e]
  exact vget_cut n m (by rw [a5, List.length_take]; omega)
theorem tget_take {l s : List UInt8} {k m : Nat} (h : tget l = (s, k, 0)) (hm : m < k) : tget (l.take m) = ([], 0, 5) := by
  obtain ⟨a1, a2, a3, a4, a5⟩ := tget_got h
  have e : l.take m = (vint s.length ++ s).take m := by
    have : vint s.length ++ s = l.take k := a5
    rw [this, List.take_take, Nat.min_eq_left (by omega)]
  rw [e]
  exact tget_cut s m a3 (by have : vint s.length ++ s = l.take k := a5; rw [this, List.length_take]; omega)
theorem vget_more {l : List UInt8} {n k : Nat} (h : vget l = (n, k, 0)) (m : Nat) (hm : k ≤ m) : vget (l.take m) = (n, k, 0) := by
  obtain ⟨a1, a2, a3, a4, a5⟩ := vget_got h
  have e : l.take m = vint n ++ (l.drop k).take (m - k) := by
    rw [a5, ← List.take_add]; congr 1; omega
  rw [e, vget_put n a1]
  rw [a5, List.length_take]
  congr 2
  omega
theorem tget_more {l s : List UInt8} {k : Nat} (h : tget l = (s, k, 0)) (m : Nat) (hm : k ≤ m) : tget (l.take m) = (s, k, 0) := by
  obtain ⟨a1, a2, a3, a4, a5⟩ := tget_got h
  have e : l.take m = tput s ++ (l.drop k).take (m - k) := by
    rw [a5, ← List.take_add]; congr 1; omega
  rw [e, tget_tput s _ a3]
  rw [a5, List.length_take]
  congr 2
  omega
theorem eget_take {l : List UInt8} {x : Ent} {n m : Nat} (h : eget l = (x, n, 0)) (hm : m < n) : eget (l.take m) = (Ent.none, 0, 5) := by
  unfold eget at h
  split at h
  · rename_i hz
    rcases ht : tget l with ⟨k, a, e⟩
    rw [ht] at h hz
    simp only at h hz
    subst hz
    obtain ⟨t1, t2, t3, t4, t5⟩ := tget_got ht
    by_cases hma : m < a
    · unfold eget; rw [tget_take ht hma]; rfl
    · split at h
      · rename_i hk
        unfold eget
        rw [tget_more ht m (by omega)]
        simp only [if_true]
        rw [if_pos hk]
        unfold egetS at h ⊢
        split at h
        · rename_i hz2
          rcases hs : vget (l.drop a) with ⟨s, b, e2⟩
          rw [hs] at h hz2
          simp only at h hz2
          subst hz2
          rw [List.drop_take]
          by_cases hmb : m - a < b
          · rw [vget_take hs hmb]; rfl
          · rw [vget_more hs _ (by omega)]
            simp only [if_true]
            rw [List.drop_drop] at h
            rw [List.drop_take, List.drop_drop, show m - a - b = m - (a + b) from by omega]
            unfold egetF at h ⊢
            split at h
            · simp at h
            · rename_i c t hct
              rw [hct]
              by_cases hm0 : m - (a + b) = 0
              · rw [hm0]; rfl
              · obtain ⟨j, hj⟩ : ∃ j, m - (a + b) = j + 1 := ⟨m - (a + b) - 1, by omega⟩
                rw [hj, List.take_succ_cons]
                simp only
                split at h
                · simp at h
                · rename_i hc1
                  rw [if_neg hc1]
                  split at h
                  · simp only [Prod.mk.injEq, and_true] at h; omega
                  · rename_i hc2
                    rw [if_neg hc2]
                    unfold egetV at h ⊢
                    split at h
                    · rename_i hz3
                      rcases hv : tget t with ⟨v, d, e3⟩
                      rw [hv] at h hz3
                      simp only at h hz3
                      subst hz3
                      split at h
                      · simp only [Prod.mk.injEq, and_true] at h
                        rw [tget_take hv (by omega)]; rfl
                      · simp at h
                    · rename_i hz3
                      simp only [Prod.mk.injEq] at h
                      exact absurd h.2.2 hz3
        · rename_i hz2
          simp only [Prod.mk.injEq] at h
          exact absurd h.2.2 hz2
      · simp at h
  · rename_i hz
    simp only [Prod.mk.injEq] at h
    exact absurd h.2.2 hz
end Go.Proofs.YtbcnapkbdbefhaaGreatDoor

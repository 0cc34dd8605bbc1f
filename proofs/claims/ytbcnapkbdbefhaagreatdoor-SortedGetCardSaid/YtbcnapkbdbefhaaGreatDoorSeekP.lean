/- Where a mark stands among entries, plain. No program stands in this text; no condition. -/
import Derived.Test.YtbcnapkbdbefhaaGreatDoorBlkP
import Derived.Test.YtbcnapkbdbefhaaGreatDoorListsA
namespace Go.Proofs.YtbcnapkbdbefhaaGreatDoor
open Go.RowKit

/-- the first entry whose mark is not ahead of one -/
def seekAt (k : List UInt8) (s : Nat) (g : Bool) : List Ent → Nat
  | [] => 0
  | x :: l => if cmpM x.key x.seq x.gone k s g ≥ 0 then 0 else seekAt k s g l + 1
theorem seekAt_le (k : List UInt8) (s : Nat) (g : Bool) (l : List Ent) : seekAt k s g l ≤ l.length := by
  induction l with
  | nil => exact Nat.le_refl _
  | cons x l ih => simp only [seekAt, List.length_cons]; split <;> omega
theorem seekAt_lt (k : List UInt8) (s : Nat) (g : Bool) (l : List Ent) (i : Nat) (hi : i < seekAt k s g l) : cmpM (atE l i).key (atE l i).seq (atE l i).gone k s g < 0 := by
  induction l generalizing i with
  | nil => simp [seekAt] at hi
  | cons x l ih =>
    simp only [seekAt] at hi
    split at hi
    · omega
    · rename_i h
      cases i with
      | zero => show cmpM x.key x.seq x.gone k s g < 0; omega
      | succ i => exact ih i (by omega)
theorem seekAt_at (k : List UInt8) (s : Nat) (g : Bool) (l : List Ent) (h : seekAt k s g l < l.length) : cmpM (atE l (seekAt k s g l)).key (atE l (seekAt k s g l)).seq (atE l (seekAt k s g l)).gone k s g ≥ 0 := by
  induction l with
  | nil => simp at h
  | cons x l ih =>
    simp only [seekAt] at h ⊢
    split
    · rename_i hx; exact hx
    · rename_i hx
      rw [if_neg hx] at h
      exact ih (by simpa using h)
def mkOf (x : Ent) : Mk := ⟨x.key, x.seq, x.gone⟩
theorem rise_ge {E : List Ent} (hm : ∀ k, k < E.length → okAt E k = true) (m : Mk) (q : Nat) (hq : 0 ≤ cmpK (mkOf (atE E q)) m) (i : Nat) (h1 : q ≤ i) (h2 : i < E.length) : 0 ≤ cmpK (mkOf (atE E i)) m := by
  induction i with
  | zero => obtain rfl : q = 0 := by omega
            exact hq
  | succ i ih =>
    by_cases e : q = i + 1
    · rw [← e]; exact hq
    · have hi := ih (by omega) (by omega)
      have hok := hm (i + 1) h2
      unfold okAt at hok
      simp only [Bool.and_eq_true, Bool.or_eq_true, beq_iff_eq, decide_eq_true_eq, Nat.add_sub_cancel] at hok
      have hlt : cmpK (mkOf (atE E i)) (mkOf (atE E (i + 1))) < 0 := by
        rcases hok.2 with h | h
        · omega
        · exact h
      by_cases hn : cmpK (mkOf (atE E (i + 1))) m < 0
      · have := cmpK_tr (mkOf (atE E i)) (mkOf (atE E (i + 1))) m (by omega) (by omega)
        have h0 := this.2.1 (by omega)
        omega
      · omega
theorem seek_iff {E : List Ent} (hm : ∀ k, k < E.length → okAt E k = true) (k : List UInt8) (s : Nat) (g : Bool) (i : Nat) (hi : i < E.length) : (cmpM (atE E i).key (atE E i).seq (atE E i).gone k s g < 0) ↔ i < seekAt k s g E := by
  constructor
  · intro h
    by_cases hq : i < seekAt k s g E
    · exact hq
    · have h1 := seekAt_at k s g E (by omega)
      have := rise_ge hm ⟨k, s, g⟩ (seekAt k s g E) h1 i (by omega) hi
      have h2 : cmpK (mkOf (atE E i)) ⟨k, s, g⟩ < 0 := h
      omega
  · exact seekAt_lt k s g E i
/-- those whose marks are not ahead of one -/
def fromE (k : List UInt8) (s : Nat) (g : Bool) (x : Ent) : Bool := decide (0 ≤ cmpM x.key x.seq x.gone k s g)
theorem from_seek {E : List Ent} (hm : ∀ k, k < E.length → okAt E k = true) (k : List UInt8) (s : Nat) (g : Bool) : E.filter (fromE k s g) = E.drop (seekAt k s g E) := by
  have hq := seekAt_le k s g E
  have h := seek_iff hm k s g
  generalize seekAt k s g E = q at hq h
  conv => lhs; rw [← List.take_append_drop q E]
  rw [List.filter_append]
  have h1 : (E.take q).filter (fromE k s g) = [] := by
    rw [List.filter_eq_nil_iff]
    intro x hx
    obtain ⟨i, hi, rfl⟩ := List.getElem_of_mem hx
    rw [List.length_take] at hi
    rw [List.getElem_take, fromE, ← atE_get E i (by omega)]
    have := (h i (by omega)).2 (by omega)
    simp; omega
  have h2 : (E.drop q).filter (fromE k s g) = E.drop q := by
    rw [List.filter_eq_self]
    intro x hx
    obtain ⟨i, hi, rfl⟩ := List.getElem_of_mem hx
    rw [List.length_drop] at hi
    rw [List.getElem_drop, fromE, ← atE_get E (q + i) (by omega)]
    have := mt (h (q + i) (by omega)).1 (by omega)
    simp; omega
  rw [h1, h2, List.nil_append]
/-- whether an entry is one of a key, up to a number -/
def ofK (k : List UInt8) (s : Nat) (x : Ent) : Bool := decide (x.key = k) && decide (x.seq ≤ s)
/-- what Get finds -/
def getS (k : List UInt8) (s : Nat) (E : List Ent) : Option Ent := match E.drop (seekAt k s true E) with
  | [] => none
  | x :: _ => if x.key = k then some x else none
theorem cmpM_key (k : List UInt8) (s1 s2 : Nat) (g1 g2 : Bool) : cmpM k s1 g1 k s2 g2 = if cmpN s2 s1 ≠ 0 then cmpN s2 s1 else cmpN (flagN g2) (flagN g1) := by
  unfold cmpM
  rw [cmpS_self]
  simp
theorem cmpM_top (k : List UInt8) (s1 s2 : Nat) (g1 : Bool) : cmpM k s1 g1 k s2 true < 0 ↔ s2 < s1 := by
  rw [cmpM_key]
  cases g1 <;> (unfold cmpN flagN; repeat' split) <;> simp_all <;> omega
theorem cmpM_low (k : List UInt8) (s1 : Nat) (g1 : Bool) : cmpM k s1 g1 k 0 false ≤ 0 := by
  rw [cmpM_key]
  cases g1 <;> (unfold cmpN flagN; repeat' split) <;> simp_all
theorem getS_find {E : List Ent} (hm : ∀ k, k < E.length → okAt E k = true) (k : List UInt8) (s : Nat) : getS k s E = E.find? (ofK k s) := by
  have hq := seekAt_le k s true E
  have h := seek_iff hm k s true
  unfold getS
  generalize seekAt k s true E = q at hq h
  have h1 : (E.take q).find? (ofK k s) = none := by
    rw [List.find?_eq_none]
    intro x hx
    obtain ⟨i, hi, rfl⟩ := List.getElem_of_mem hx
    rw [List.length_take] at hi
    rw [List.getElem_take, ← atE_get E i (by omega)]
    have h2 := (h i (by omega)).2 (by omega)
    unfold ofK
    by_cases hk : (atE E i).key = k
    · rw [hk, cmpM_top] at h2
      simp; intro _; omega
    · simp [hk]
  conv => rhs; rw [← List.take_append_drop q E, List.find?_append, h1, Option.none_or]
  rcases Nat.lt_or_ge q E.length with hlt | hge
  · have hd : E.drop q = E[q] :: E.drop (q + 1) := List.drop_eq_getElem_cons hlt
    have h2 := mt (h q hlt).1 (by omega)
    rw [atE_get E q hlt] at h2
    rw [hd]
    simp only
    by_cases hk : E[q].key = k
    · rw [if_pos hk]
      rw [hk, cmpM_top] at h2
      rw [List.find?_cons_of_pos (by unfold ofK; simp [hk]; omega)]
    · rw [if_neg hk]
      symm
      rw [List.find?_eq_none]
      intro x hx
      obtain ⟨i, hi, rfl⟩ := List.getElem_of_mem hx
      have hn : ∃ j, q ≤ j ∧ ∃ hj : j < E.length, (E[q] :: E.drop (q + 1))[i] = E[j] := by
        have h5 : i < (E.drop q).length := by rw [hd]; exact hi
        refine ⟨q + i, by omega, by rw [List.length_drop] at h5; omega, ?_⟩
        have : (E.drop q)[i] = E[q + i]'(by rw [List.length_drop] at h5; omega) := List.getElem_drop ..
        rw [← this]; simp only [hd]
      obtain ⟨j, hqj, hj, hx2⟩ := hn
      rw [hx2]
      unfold ofK
      by_cases hkj : E[j].key = k
      · exfalso
        have hr := rise_ge hm (mkOf (atE E q)) q (by rw [cmpK_self]; exact Int.le_refl _) j hqj hj
        have a1 := cmpK_neg (mkOf (atE E j)) (mkOf (atE E q))
        have a2 : cmpK ⟨k, 0, false⟩ (mkOf (atE E q)) < 0 := by
          have b0 : cmpK (mkOf (atE E q)) ⟨k, s, true⟩ ≥ 0 := by
            have : cmpK (mkOf (atE E q)) ⟨k, s, true⟩ = cmpM E[q].key E[q].seq E[q].gone k s true := by rw [atE_get E q hlt]; rfl
            omega
          have b1 := cmpK_neg ⟨k, 0, false⟩ (mkOf (atE E q))
          have b2 := cmpS_rng E[q].key k
          have b3 : cmpS E[q].key k ≠ 0 := fun e => hk (cmpS_eq e)
          have b4 : cmpK (mkOf (atE E q)) ⟨k, s, true⟩ = cmpS E[q].key k := by rw [atE_get E q hlt]; unfold cmpK cmpM mkOf; simp only; rw [if_pos b3]
          have b5 : cmpK (mkOf (atE E q)) ⟨k, 0, false⟩ = cmpS E[q].key k := by rw [atE_get E q hlt]; unfold cmpK cmpM mkOf; simp only; rw [if_pos b3]
          omega
        have a3 := cmpK_tr ⟨k, 0, false⟩ (mkOf (atE E q)) (mkOf (atE E j)) (by omega) (by omega)
        have a4 : cmpK (mkOf (atE E j)) ⟨k, 0, false⟩ ≤ 0 := by
          rw [atE_get E j hj]
          have := cmpM_low k E[j].seq E[j].gone
          unfold cmpK mkOf
          simp only
          rw [hkj]; exact this
        have a5 := cmpK_neg ⟨k, 0, false⟩ (mkOf (atE E j))
        have a6 := a3.2.1 (by omega)
        omega
      · simp [hkj]
  · rw [List.drop_of_length_le hge]
    rfl
end Go.Proofs.YtbcnapkbdbefhaaGreatDoor

/- Blocks, plain: how entries are bytes, and what is read of bytes. No program stands in this text; no condition. -/
import Derived.Test.YtbcnapkbdbefhaaGreatDoorMore
import Derived.Test.YtbcnapkbdbefhaaGreatDoorListsA
namespace Go.Proofs.YtbcnapkbdbefhaaGreatDoor
open Go.RowKit

def alikeL : List UInt8 → List UInt8 → Nat
  | a :: s, b :: t => if a = b then alikeL s t + 1 else 0
  | _, _ => 0
theorem alikeL_le1 : ∀ s t : List UInt8, alikeL s t ≤ s.length
  | [], _ => by simp [alikeL]
  | _ :: _, [] => by simp [alikeL]
  | a :: s, b :: t => by
    simp only [alikeL]
    split
    · have := alikeL_le1 s t; simp only [List.length_cons]; omega
    · simp
theorem alikeL_le2 : ∀ s t : List UInt8, alikeL s t ≤ t.length
  | [], _ => by simp [alikeL]
  | _ :: _, [] => by simp [alikeL]
  | a :: s, b :: t => by
    simp only [alikeL]
    split
    · have := alikeL_le2 s t; simp only [List.length_cons]; omega
    · simp
theorem alikeL_take : ∀ s t : List UInt8, s.take (alikeL s t) = t.take (alikeL s t)
  | [], _ => by simp [alikeL]
  | _ :: _, [] => by simp [alikeL]
  | a :: s, b :: t => by
    simp only [alikeL]
    split
    · rename_i h
      rw [List.take_succ_cons, List.take_succ_cons, h, alikeL_take s t]
    · simp
/-- where they begin to differ -/
theorem alikeL_end : ∀ (s t : List UInt8) (n : Nat), n < alikeL s t → (h1 : n < s.length) → (h2 : n < t.length) → s[n] = t[n]
  | a :: s, b :: t, n, h, h1, h2 => by
    simp only [alikeL] at h
    split at h
    · rename_i e
      cases n with
      | zero => simpa using e
      | succ n => simpa using alikeL_end s t n (by omega) (by simpa using h1) (by simpa using h2)
    · omega
theorem alikeL_stop : ∀ (s t : List UInt8), (h1 : alikeL s t < s.length) → (h2 : alikeL s t < t.length) → s[alikeL s t] ≠ t[alikeL s t]
  | a :: s, b :: t, h1, h2 => by
    by_cases e : a = b
    · have hn : alikeL (a :: s) (b :: t) = alikeL s t + 1 := by simp [alikeL, e]
      simp only [hn, List.getElem_cons_succ]
      exact alikeL_stop s t (by simp [hn] at h1; omega) (by simp [hn] at h2; omega)
    · have hn : alikeL (a :: s) (b :: t) = 0 := by simp [alikeL, e]
      simp only [hn, List.getElem_cons_zero]
      exact e

def cmpE (x y : Ent) : Int := cmpM x.key x.seq x.gone y.key y.seq y.gone
def atE (E : List Ent) (k : Nat) : Ent := E.getD k Ent.none
theorem atE_get (E : List Ent) (k : Nat) (h : k < E.length) : atE E k = E[k] := by
  unfold atE; rw [List.getD_eq_getElem?_getD, List.getElem?_eq_getElem h]; rfl
def fitE (x : Ent) : Bool := checkK x.key && (decide (x.val.length ≤ 256) && (!x.gone || x.val.isEmpty))
def okAt (E : List Ent) (k : Nat) : Bool := fitE (atE E k) && (k == 0 || decide (cmpE (atE E (k - 1)) (atE E k) < 0))
def mayN (E : List Ent) : Nat → Bool
  | 0 => decide (0 < E.length ∧ E.length ≤ 64)
  | k + 1 => mayN E k && okAt E k
def mayL (E : List Ent) : Bool := mayN E E.length
def risesN (E : List Ent) : Nat → Bool
  | 0 => true
  | k + 1 => risesN E k && okAt E k
theorem mayN_eq (E : List Ent) (k : Nat) : mayN E k = (decide (0 < E.length ∧ E.length ≤ 64) && risesN E k) := by
  induction k with
  | zero => simp [mayN, risesN]
  | succ k ih => simp only [mayN, risesN, ih, Bool.and_assoc]
theorem risesN_iff (E : List Ent) (n : Nat) : risesN E n = true ↔ ∀ k, k < n → okAt E k = true := by
  induction n with
  | zero => simp [risesN]
  | succ n ih =>
    simp only [risesN, Bool.and_eq_true, ih]
    constructor
    · rintro ⟨h1, h2⟩ k hk
      by_cases e : k = n
      · rw [e]; exact h2
      · exact h1 k (by omega)
    · intro h
      exact ⟨fun k hk => h k (by omega), h n (by omega)⟩
theorem mayL_iff (E : List Ent) : mayL E = true ↔ (0 < E.length ∧ E.length ≤ 64) ∧ ∀ k, k < E.length → okAt E k = true := by
  unfold mayL
  rw [mayN_eq, Bool.and_eq_true, risesN_iff, decide_eq_true_iff]
theorem fitE_iff (x : Ent) : fitE x = true ↔ checkK x.key = true ∧ x.val.length ≤ 256 ∧ (x.gone = true → x.val = []) := by
  unfold fitE
  simp only [Bool.and_eq_true, decide_eq_true_iff, Bool.or_eq_true, Bool.not_eq_true', List.isEmpty_iff]
  constructor
  · rintro ⟨h1, h2, h3⟩
    exact ⟨h1, h2, fun hg => by rcases h3 with h | h; · rw [hg] at h; cases h
                                · exact h⟩
  · rintro ⟨h1, h2, h3⟩
    refine ⟨h1, h2, ?_⟩
    cases hg : x.gone
    · exact .inl rfl
    · exact .inr (h3 hg)

def alikeAt (E : List Ent) (k : Nat) : Nat := if k % 4 = 0 then 0 else alikeL (atE E (k - 1)).key (atE E k).key
def cutE (n : Nat) (x : Ent) : Ent := ⟨x.key.drop n, x.seq, x.gone, x.val⟩
def encAt (E : List Ent) (k : Nat) : List UInt8 := vint (alikeAt E k) ++ eput (cutE (alikeAt E k) (atE E k))
def bodyN (E : List Ent) : Nat → List UInt8
  | 0 => []
  | k + 1 => bodyN E k ++ encAt E k
def placesN (E : List Ent) : Nat → List Nat
  | 0 => []
  | k + 1 => placesN E k ++ (if k % 4 = 0 then [(bodyN E k).length] else [])
def two (n : Nat) : List UInt8 := [UInt8.ofNat (n / 256), UInt8.ofNat n]
def twos (l : List Nat) : List UInt8 := l.flatMap two
def blkPut (E : List Ent) : List UInt8 := bodyN E E.length ++ twos (placesN E E.length) ++ two (placesN E E.length).length
theorem twos_app (l m : List Nat) : twos (l ++ m) = twos l ++ twos m := by simp [twos]
theorem twos_length (l : List Nat) : (twos l).length = 2 * l.length := by
  induction l with
  | nil => rfl
  | cons x l ih => simp only [twos, List.flatMap_cons, List.length_append, List.length_cons] at *; rw [ih]; simp [two]; omega
theorem placesN_length (E : List Ent) (k : Nat) : (placesN E k).length = (k + 3) / 4 := by
  induction k with
  | zero => rfl
  | succ k ih =>
    simp only [placesN, List.length_append, ih]
    split <;> simp <;> omega
theorem blkPut_length (E : List Ent) : (blkPut E).length = (bodyN E E.length).length + 2 * ((E.length + 3) / 4) + 2 := by
  unfold blkPut
  rw [List.length_append, List.length_append, twos_length, placesN_length]; rfl

/-- what is read of an entry: it, what is behind, is it bad? -/
def rdE (last r : List UInt8) (bad : Bool) : Ent × List UInt8 × Bool :=
  if last.length < (vget r).1 then (Ent.none, r.drop (vget r).2.1, true) else
  let r1 := r.drop (vget r).2.1
  let b1 := bad || decide ((vget r).2.2 ≠ 0)
  let r2 := r1.drop (tget r1).2.1
  let b2 := b1 || decide ((tget r1).2.2 ≠ 0)
  let key := last.take (vget r).1 ++ (tget r1).1
  let r3 := r2.drop (vget r2).2.1
  let b3 := b2 || decide ((vget r2).2.2 ≠ 0)
  match r3 with
  | [] => (⟨key, (vget r2).1, false, []⟩, [], true)
  | c :: r4 => if c.toNat = 1 then (⟨key, (vget r2).1, true, []⟩, r4, b3) else (⟨key, (vget r2).1, false, (tget r4).1⟩, r4.drop (tget r4).2.1, b3 || decide ((tget r4).2.2 ≠ 0))
/-- what is read of bytes behind so many entries: these, the last key, what is behind, is it bad? -/
def pst (r0 : List UInt8) : Nat → List Ent × List UInt8 × List UInt8 × Bool
  | 0 => ([], [], r0, false)
  | i + 1 => ((pst r0 i).1 ++ [(rdE (pst r0 i).2.1 (pst r0 i).2.2.1 (pst r0 i).2.2.2).1], (rdE (pst r0 i).2.1 (pst r0 i).2.2.1 (pst r0 i).2.2.2).1.key, (rdE (pst r0 i).2.1 (pst r0 i).2.2.1 (pst r0 i).2.2.2).2.1, (rdE (pst r0 i).2.1 (pst r0 i).2.2.1 (pst r0 i).2.2.2).2.2)
theorem pst_length (r0 : List UInt8) (i : Nat) : (pst r0 i).1.length = i := by
  induction i with
  | zero => rfl
  | succ i ih => simp only [pst, List.length_append, ih]; rfl
theorem rdE_enc (E : List Ent) (k : Nat) (last rest : List UInt8) (hfit : fitE (atE E k) = true) (hs : (atE E k).seq < 18446744073709551616) (hl : k % 4 ≠ 0 → last = (atE E (k - 1)).key) :
    rdE last (encAt E k ++ rest) false = (atE E k, rest, false) := by
  obtain ⟨f1, f2, f3⟩ := (fitE_iff _).1 hfit
  have hk1 : 1 ≤ (atE E k).key.length ∧ (atE E k).key.length ≤ 32 := by simpa [checkK] using f1
  have hn2 : alikeAt E k ≤ (atE E k).key.length := by
    unfold alikeAt; split
    · omega
    · exact alikeL_le2 _ _
  have hn1 : alikeAt E k ≤ last.length := by
    unfold alikeAt; split
    · omega
    · rename_i h; rw [hl h]; exact alikeL_le1 _ _
  have htk : last.take (alikeAt E k) = (atE E k).key.take (alikeAt E k) := by
    unfold alikeAt; split
    · simp
    · rename_i h; rw [hl h]; exact alikeL_take _ _
  unfold encAt
  obtain ⟨n, hn⟩ : ∃ n, n = alikeAt E k := ⟨_, rfl⟩
  rw [← hn] at hn1 hn2 htk ⊢
  clear hn hl
  obtain ⟨x, hx⟩ : ∃ x, x = atE E k := ⟨_, rfl⟩
  rw [← hx] at hs f1 f2 f3 hk1 hn2 htk ⊢
  clear hx hfit
  have hv1 : vget (vint n ++ (eput (cutE n x) ++ rest)) = (n, (vint n).length, 0) := vget_put n (by omega) _
  have hkey : last.take n ++ x.key.drop n = x.key := by rw [htk, List.take_append_drop]
  unfold rdE
  rw [List.append_assoc, hv1]
  simp only [List.drop_left, ne_eq, not_true_eq_false, decide_false, Bool.or_false]
  rw [if_neg (by omega)]
  have ht : tget (eput (cutE n x) ++ rest) = (x.key.drop n, (tput (x.key.drop n)).length, 0) := by
    unfold eput cutE
    simp only [List.append_assoc]
    exact tget_tput _ _ (by rw [List.length_drop]; omega)
  rw [ht]
  have hd : (eput (cutE n x) ++ rest).drop (tput (x.key.drop n)).length = vint x.seq ++ ((flagB x.gone :: (if x.gone then [] else tput x.val)) ++ rest) := by
    unfold eput cutE
    simp only [List.append_assoc]
    rw [List.drop_left]
  rw [hd]
  simp only [not_true_eq_false, decide_false, Bool.or_false]
  have hv2 : vget (vint x.seq ++ ((flagB x.gone :: (if x.gone then [] else tput x.val)) ++ rest)) = (x.seq, (vint x.seq).length, 0) := vget_put _ hs _
  rw [hv2]
  simp only [List.drop_left, not_true_eq_false, decide_false, Bool.or_false, List.cons_append]
  rw [hkey]
  cases hg : x.gone
  · simp only [flagB, Bool.false_eq_true, if_false]
    rw [if_neg (by decide)]
    rw [tget_tput _ _ (by omega)]
    simp only [List.drop_left, not_true_eq_false, decide_false]
    cases x; simp_all
  · simp only [flagB, if_true, List.nil_append]
    rw [if_pos (by decide)]
    have := f3 hg
    cases x; simp_all
/-- the bytes behind so many entries -/
theorem body_split (E : List Ent) (i n : Nat) (h : i ≤ n) : ∃ rest, bodyN E n = bodyN E i ++ rest := by
  induction n with
  | zero => obtain rfl : i = 0 := by omega
            exact ⟨[], by simp⟩
  | succ n ih =>
    by_cases e : i = n + 1
    · subst e; exact ⟨[], by simp⟩
    · obtain ⟨rest, hr⟩ := ih (by omega)
      exact ⟨rest ++ encAt E n, by rw [bodyN, hr, List.append_assoc]⟩
theorem enc_pos (E : List Ent) (k : Nat) : 1 ≤ (encAt E k).length := by
  have := vint_pos (alikeAt E k)
  unfold encAt; rw [List.length_append]; omega
theorem body_grows (E : List Ent) (i n : Nat) (h : i < n) : (bodyN E i).length < (bodyN E n).length := by
  induction n with
  | zero => omega
  | succ n ih =>
    have := enc_pos E n
    rw [bodyN, List.length_append]
    by_cases e : i = n
    · subst e; omega
    · have := ih (by omega); omega
theorem pst_body (E : List Ent) (hm : ∀ k, k < E.length → okAt E k = true) (hs : ∀ x ∈ E, x.seq < 18446744073709551616) (i : Nat) (hi : i ≤ E.length) :
    pst (bodyN E E.length) i = (E.take i, (if i = 0 then [] else (atE E (i - 1)).key), (bodyN E E.length).drop (bodyN E i).length, false) := by
  induction i with
  | zero => simp [pst, bodyN]
  | succ i ih =>
    have hil : i < E.length := by omega
    rw [pst, ih (by omega)]
    obtain ⟨rest, hr⟩ := body_split E (i + 1) E.length hi
    have hd : (bodyN E E.length).drop (bodyN E i).length = encAt E i ++ rest := by
      rw [hr, bodyN, List.append_assoc, List.drop_left]
    have hok := hm i hil
    unfold okAt at hok
    rw [Bool.and_eq_true] at hok
    have hrd := rdE_enc E i (if i = 0 then [] else (atE E (i - 1)).key) rest hok.1 (by rw [atE_get E i hil]; exact hs _ (List.getElem_mem hil)) (fun h => by rw [if_neg (by intro e; subst e; simp at h)])
    simp only [hd, hrd]
    refine Prod.ext ?_ (Prod.ext ?_ (Prod.ext ?_ rfl))
    · simp only; rw [List.take_succ_eq_append_getElem hil, atE_get E i hil]
    · simp
    · simp only; rw [hr, List.drop_left]
end Go.Proofs.YtbcnapkbdbefhaaGreatDoor

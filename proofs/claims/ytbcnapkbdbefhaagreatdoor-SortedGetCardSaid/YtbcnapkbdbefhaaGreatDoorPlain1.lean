/- Plain facts on numbers as bytes (varints), four bytes and texts. No program stands in this text; no condition. -/
import Derived.KernelRfl
namespace Go.Proofs.YtbcnapkbdbefhaaGreatDoor

/-- a number's bytes, seven bits each, the lowest first -/
def vintF : Nat → Nat → List UInt8
  | 0, n => [UInt8.ofNat n]
  | f + 1, n => if n < 128 then [UInt8.ofNat n] else UInt8.ofNat (n % 128 + 128) :: vintF f (n / 128)
def vint (n : Nat) : List UInt8 := vintF 9 n

/-- the value of seven bits a byte -/
def vval : List UInt8 → Nat
  | [] => 0
  | c :: t => vval t * 128 + c.toNat % 128

/-- what is got: (number, how many bytes, error) -/
def vgetF : Nat → Bool → List UInt8 → Nat × Nat × Nat
  | 0, _, _ => (0, 0, 4)
  | _ + 1, _, [] => (0, 0, 5)
  | f + 1, first, c :: t =>
    if c.toNat < 128 then (if (first = false ∧ c.toNat = 0) ∨ (f = 0 ∧ 1 < c.toNat) then (0, 0, 4) else (c.toNat, 1, 0))
    else if (vgetF f false t).2.2 = 0 then ((vgetF f false t).1 * 128 + c.toNat % 128, (vgetF f false t).2.1 + 1, 0) else (0, 0, (vgetF f false t).2.2)
def vget (l : List UInt8) : Nat × Nat × Nat := vgetF 10 true l

/-- a text that bytes begin with: (bytes, how many it took, error) -/
def tget (l : List UInt8) : List UInt8 × Nat × Nat :=
  if (vget l).2.2 = 0 then
    (if l.length - (vget l).2.1 < (vget l).1 then ([], 0, 5) else ((l.drop (vget l).2.1).take (vget l).1, (vget l).2.1 + (vget l).1, 0))
  else ([], 0, (vget l).2.2)
def tput (s : List UInt8) : List UInt8 := vint s.length ++ s

theorem toNat_ofNat (n : Nat) (h : n < 256) : (UInt8.ofNat n).toNat = n := by
  rw [UInt8.toNat_ofNat']; omega

theorem vintF_ne (f n : Nat) : vintF f n ≠ [] := by
  cases f with
  | zero => simp [vintF]
  | succ f => unfold vintF; split <;> simp
theorem vint_ne (n : Nat) : vint n ≠ [] := vintF_ne 9 n
theorem vint_pos (n : Nat) : 1 ≤ (vint n).length := by
  have := vint_ne n
  cases h : vint n with
  | nil => exact absurd h this
  | cons a b => simp

/-- one more number: more fuel makes no difference -/
theorem vintF_le (f : Nat) : ∀ n, (vintF f n).length ≤ f + 1 := by
  induction f with
  | zero => intro n; simp [vintF]
  | succ f ih =>
    intro n
    unfold vintF
    split
    · simp
    · have := ih (n / 128); simp only [List.length_cons]; omega
theorem vint_le (n : Nat) : (vint n).length ≤ 10 := vintF_le 9 n

theorem vint_step (n : Nat) (h : 128 ≤ n) (hn : n < 128 ^ 9 * 2) : vint n = UInt8.ofNat (n % 128 + 128) :: vint (n / 128) := by
  have key : ∀ f m, m < 128 ^ f * 128 → vintF (f + 1) m = vintF f m := by
    intro f
    induction f with
    | zero => intro m hm; unfold vintF; rw [if_pos (by omega)]
    | succ f ih =>
      intro m hm
      conv => lhs; unfold vintF
      conv => rhs; unfold vintF
      by_cases h1 : m < 128
      · rw [if_pos h1, if_pos h1]
      · rw [if_neg h1, if_neg h1, ih (m / 128) (by rw [Nat.pow_succ] at hm; exact Nat.div_lt_of_lt_mul (by omega))]
  show vintF (8 + 1) n = _
  conv => lhs; unfold vintF
  rw [if_neg (by omega)]
  show _ :: vintF 8 (n / 128) = _ :: vintF (8 + 1) (n / 128)
  rw [key 8 (n / 128) (by omega)]
theorem vint_small (n : Nat) (h : n < 128) : vint n = [UInt8.ofNat n] := by
  show vintF (8 + 1) n = _
  unfold vintF
  rw [if_pos h]

/-- got of what was put -/
theorem vgetF_put (more : List UInt8) : ∀ (f n : Nat) (first : Bool), (first = false → 0 < n) → n < 128 ^ f * 2 →
    vgetF (f + 1) first (vintF f n ++ more) = (n, (vintF f n).length, 0) := by
  intro f
  induction f with
  | zero =>
    intro n first h1 h2
    have h3 : (UInt8.ofNat n).toNat = n := toNat_ofNat n (by omega)
    simp only [vintF, List.cons_append, List.nil_append, vgetF, h3]
    rw [if_pos (by omega), if_neg]
    · rfl
    · rintro (⟨ha, hb⟩ | ⟨_, hb⟩)
      · exact absurd (h1 ha) (by omega)
      · omega
  | succ f ih =>
    intro n first h1 h2
    by_cases hs : n < 128
    · have h3 : (UInt8.ofNat n).toNat = n := toNat_ofNat n (by omega)
      have e : vintF (f + 1) n = [UInt8.ofNat n] := by unfold vintF; rw [if_pos hs]
      rw [e]
      simp only [List.cons_append, List.nil_append, vgetF, h3]
      rw [if_pos hs, if_neg]
      · rfl
      · rintro (⟨ha, hb⟩ | ⟨hb, _⟩)
        · exact absurd (h1 ha) (by omega)
        · omega
    · have h3 : (UInt8.ofNat (n % 128 + 128)).toNat = n % 128 + 128 := toNat_ofNat _ (by omega)
      have e : vintF (f + 1) n = UInt8.ofNat (n % 128 + 128) :: vintF f (n / 128) := if_neg hs
      rw [e, List.cons_append]
      unfold vgetF
      rw [ih (n / 128) false (fun _ => by omega) (by rw [Nat.pow_succ] at h2; omega), h3, if_neg (by omega), if_pos rfl]
      simp only [List.length_cons]
      congr 1
      omega
theorem vget_put (n : Nat) (h : n < 18446744073709551616) (more : List UInt8) : vget (vint n ++ more) = (n, (vint n).length, 0) :=
  vgetF_put more 9 n true (by simp) (by omega)
theorem vget_put' (n : Nat) (h : n < 18446744073709551616) : vget (vint n) = (n, (vint n).length, 0) := by
  have := vget_put n h []
  rwa [List.append_nil] at this

/-- what is got is put as the bytes that it took -/
theorem vgetF_got : ∀ (f : Nat) (first : Bool) (l : List UInt8) (n k : Nat), vgetF (f + 1) first l = (n, k, 0) →
    n < 128 ^ f * 2 ∧ (first = false → 0 < n) ∧ 1 ≤ k ∧ k ≤ l.length ∧ k ≤ f + 1 ∧ vintF f n = l.take k := by
  intro f
  induction f with
  | zero =>
    intro first l n k h
    cases l with
    | nil => simp [vgetF] at h
    | cons c t =>
      simp only [vgetF] at h
      split at h
      · split at h
        · simp at h
        · rename_i h1 h2
          simp only [Prod.mk.injEq, and_true] at h
          obtain ⟨rfl, rfl⟩ := h
          have h3 : ¬ 1 < c.toNat := fun h => h2 (.inr ⟨trivial, h⟩)
          refine ⟨by omega, fun hf => ?_, by omega, by simp, by omega, ?_⟩
          · apply Nat.pos_of_ne_zero; intro h0; exact h2 (.inl ⟨hf, h0⟩)
          · simp [vintF]
      · simp at h
  | succ f ih =>
    intro first l n k h
    cases l with
    | nil => simp [vgetF] at h
    | cons c t =>
      unfold vgetF at h
      split at h
      · split at h
        · simp at h
        · rename_i h1 h2
          simp only [Prod.mk.injEq, and_true] at h
          obtain ⟨rfl, rfl⟩ := h
          have hp : 0 < 128 ^ (f + 1) := Nat.pow_pos (by omega)
          refine ⟨?_, fun hf => ?_, by omega, by simp, by omega, ?_⟩
          · rw [Nat.pow_succ]; have : 0 < 128 ^ f := Nat.pow_pos (by omega)
            omega
          · apply Nat.pos_of_ne_zero; intro h0; exact h2 (.inl ⟨hf, h0⟩)
          · unfold vintF; rw [if_pos h1]; simp
      · rename_i hc
        have hlt := c.toNat_lt
        split at h
        · rename_i hz
          simp only [Prod.mk.injEq, and_true] at h
          obtain ⟨rfl, rfl⟩ := h
          obtain ⟨a1, a2, a3, a4, a5, a6⟩ := ih false t (vgetF (f + 1) false t).1 (vgetF (f + 1) false t).2.1 (by ext <;> simp [hz])
          generalize vgetF (f + 1) false t = r at *
          have hn := a2 rfl
          refine ⟨by rw [Nat.pow_succ]; omega, fun _ => by omega, by omega, by simp; omega, by omega, ?_⟩
          rw [List.take_succ_cons, ← a6]
          have e : ¬ r.1 * 128 + c.toNat % 128 < 128 := by omega
          show (if r.1 * 128 + c.toNat % 128 < 128 then _ else _) = _
          rw [if_neg e]
          congr 1
          · apply UInt8.toNat_inj.1
            rw [toNat_ofNat _ (by omega)]; omega
          · rw [show (r.1 * 128 + c.toNat % 128) / 128 = r.1 from by omega]
        · rename_i hz
          simp only [Prod.mk.injEq] at h
          exact absurd h.2.2 hz
theorem vgetF_bad : ∀ (f : Nat) (first : Bool) (l : List UInt8), (vgetF f first l).2.2 ≠ 0 →
    ((vgetF f first l) = (0, 0, 5) ∧ l.length < f) ∨ ((vgetF f first l) = (0, 0, 4) ∧ (f = 0 ∨ (first = false ∧ 1 ≤ l.length) ∨ 2 ≤ l.length ∨ (f = 1 ∧ 1 ≤ l.length))) := by
  intro f
  induction f with
  | zero => intro first l h; exact .inr ⟨rfl, .inl rfl⟩
  | succ f ih =>
    intro first l h
    cases l with
    | nil => exact .inl ⟨rfl, by simp⟩
    | cons c t =>
      unfold vgetF at h ⊢
      split at h
      · rename_i h1
        rw [if_pos h1]
        split at h
        · rename_i h2
          rw [if_pos h2]
          refine .inr ⟨rfl, ?_⟩
          rcases h2 with ⟨a, _⟩ | ⟨a, _⟩
          · exact .inr (.inl ⟨a, by simp⟩)
          · exact .inr (.inr (.inr ⟨by omega, by simp⟩))
        · simp at h
      · rename_i h1
        rw [if_neg h1]
        split at h
        · simp at h
        · rename_i hz
          rw [if_neg hz]
          have hb := ih false t hz
          rcases hb with ⟨b1, b2⟩ | ⟨b1, b2⟩
          · exact .inl ⟨by rw [b1], by simp; omega⟩
          · refine .inr ⟨by rw [b1], ?_⟩
            rcases b2 with b2 | ⟨_, b2⟩ | b2 | ⟨_, b2⟩
            · exact .inr (.inr (.inr ⟨by omega, by simp⟩))
            · exact .inr (.inr (.inl (by simp; omega)))
            · exact .inr (.inr (.inl (by simp; omega)))
            · exact .inr (.inr (.inl (by simp; omega)))
theorem vget_got {l : List UInt8} {n k : Nat} (h : vget l = (n, k, 0)) :
    n < 18446744073709551616 ∧ 1 ≤ k ∧ k ≤ l.length ∧ k ≤ 10 ∧ vint n = l.take k := by
  obtain ⟨a1, _, a3, a4, a5, a6⟩ := vgetF_got 9 true l n k h
  exact ⟨by omega, a3, a4, a5, a6⟩
theorem vget_bad {l : List UInt8} (h : (vget l).2.2 ≠ 0) : (vget l = (0, 0, 5) ∧ l.length < 10) ∨ (vget l = (0, 0, 4) ∧ 2 ≤ l.length) := by
  rcases vgetF_bad 10 true l h with ⟨a, b⟩ | ⟨a, b⟩
  · exact .inl ⟨a, b⟩
  · refine .inr ⟨a, ?_⟩
    rcases b with b | ⟨b, _⟩ | b | ⟨b, _⟩
    · cases b
    · cases b
    · exact b
    · omega

/-- what the text's loops find: the first byte below 128 -/
theorem vgetF_at : ∀ (f : Nat) (first : Bool) (l : List UInt8) (i : Nat) (hi : i < l.length), i < f → (∀ j (hj : j < l.length), j < i → 128 ≤ l[j].toNat) → l[i].toNat < 128 →
    vgetF f first l = if ((first = false ∨ 0 < i) ∧ l[i].toNat = 0) ∨ (i + 1 = f ∧ 1 < l[i].toNat) then (0, 0, 4) else (vval (l.take (i + 1)), i + 1, 0) := by
  intro f
  induction f with
  | zero => intro _ _ i _ h; omega
  | succ f ih =>
    intro first l i hi hif hall hend
    cases l with
    | nil => simp at hi
    | cons c t =>
      cases i with
      | zero =>
        simp only [List.getElem_cons_zero] at hend ⊢
        unfold vgetF
        rw [if_pos hend]
        have hm : c.toNat % 128 = c.toNat := by omega
        simp [vval, hm]
      | succ i =>
        have hc : 128 ≤ c.toNat := hall 0 (by simp) (by omega)
        simp only [List.getElem_cons_succ] at hend ⊢
        unfold vgetF
        rw [if_neg (by omega)]
        have hv := ih false t i (by simpa using hi) (by omega) (fun j hj hji => hall (j + 1) (by simpa using hj) (by omega)) hend
        have hi' : i < t.length := by simpa using hi
        by_cases hb : ((false = false ∨ 0 < i) ∧ (t[i]'hi').toNat = 0) ∨ (i + 1 = f ∧ 1 < (t[i]'hi').toNat)
        · have hb2 : ((first = false ∨ 0 < i + 1) ∧ (t[i]'hi').toNat = 0) ∨ (i + 1 + 1 = f + 1 ∧ 1 < (t[i]'hi').toNat) := by
            rcases hb with ⟨_, h⟩ | ⟨h, h'⟩
            · exact .inl ⟨.inr (by omega), h⟩
            · exact .inr ⟨by omega, h'⟩
          rw [if_pos hb] at hv; rw [if_pos hb2, hv]; rfl
        · have hb2 : ¬ (((first = false ∨ 0 < i + 1) ∧ (t[i]'hi').toNat = 0) ∨ (i + 1 + 1 = f + 1 ∧ 1 < (t[i]'hi').toNat)) := by
            rintro (⟨_, h⟩ | ⟨h, h'⟩)
            · exact hb (.inl ⟨.inl rfl, h⟩)
            · exact hb (.inr ⟨by omega, h'⟩)
          rw [if_neg hb] at hv; rw [if_neg hb2, hv]; simp [vval]
theorem vgetF_none : ∀ (f : Nat) (first : Bool) (l : List UInt8), (∀ j (hj : j < l.length), j < f → 128 ≤ l[j].toNat) →
    vgetF f first l = if l.length < f then (0, 0, 5) else (0, 0, 4) := by
  intro f
  induction f with
  | zero => intro _ l _; simp [vgetF]
  | succ f ih =>
    intro first l hall
    cases l with
    | nil => simp [vgetF]
    | cons c t =>
      have hc : 128 ≤ c.toNat := hall 0 (by simp) (by omega)
      unfold vgetF
      rw [if_neg (by omega), ih false t (fun j hj hji => hall (j + 1) (by simpa using hj) (by omega))]
      by_cases h : t.length < f
      · simp [h]
      · simp [h]
theorem vget_at (l : List UInt8) (i : Nat) (hi : i < l.length) (h10 : i < 10) (hall : ∀ j (hj : j < l.length), j < i → 128 ≤ l[j].toNat) (hend : l[i].toNat < 128) :
    vget l = if (0 < i ∧ l[i].toNat = 0) ∨ (i = 9 ∧ 1 < l[i].toNat) then (0, 0, 4) else (vval (l.take (i + 1)), i + 1, 0) := by
  show vgetF 10 true l = _
  rw [vgetF_at 10 true l i hi h10 hall hend]
  have e : ((true = false ∨ 0 < i) ∧ l[i].toNat = 0 ∨ i + 1 = 10 ∧ 1 < l[i].toNat) = ((0 < i ∧ l[i].toNat = 0) ∨ (i = 9 ∧ 1 < l[i].toNat)) := by
    apply propext
    constructor
    · rintro (⟨a | a, b⟩ | ⟨a, b⟩)
      · cases a
      · exact .inl ⟨a, b⟩
      · exact .inr ⟨by omega, b⟩
    · rintro (⟨a, b⟩ | ⟨a, b⟩)
      · exact .inl ⟨.inr a, b⟩
      · exact .inr ⟨by omega, b⟩
  simp only [e]
theorem vget_none (l : List UInt8) (hall : ∀ j (hj : j < l.length), j < 10 → 128 ≤ l[j].toNat) : vget l = if l.length < 10 then (0, 0, 5) else (0, 0, 4) :=
  vgetF_none 10 true l hall

theorem vval_lt : ∀ (l : List UInt8), vval l < 128 ^ l.length := by
  intro l
  induction l with
  | nil => simp [vval]
  | cons c t ih => simp only [vval, List.length_cons, Nat.pow_succ]; omega
end Go.Proofs.YtbcnapkbdbefhaaGreatDoor

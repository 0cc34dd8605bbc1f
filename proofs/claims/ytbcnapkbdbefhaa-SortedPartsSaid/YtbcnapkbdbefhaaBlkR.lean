/- Blocks, plain: no block begins another one; the parts of a block behind fours. No program stands in this text; no condition. -/
import Derived.Test.YtbcnapkbdbefhaaBlkQ
namespace Go.Proofs.Ytbcnapkbdbefhaa
open Go.RowKit

theorem atE_take (E : List Ent) (i k : Nat) (h : k < i) : atE (E.take i) k = atE E k := by
  unfold atE
  rw [List.getD_eq_getElem?_getD, List.getD_eq_getElem?_getD, List.getElem?_take_of_lt h]
theorem atE_drop (E : List Ent) (i k : Nat) : atE (E.drop i) k = atE E (i + k) := by
  unfold atE
  rw [List.getD_eq_getElem?_getD, List.getD_eq_getElem?_getD, List.getElem?_drop]
/-- entries that may be a block -/
def OkE (E : List Ent) : Prop := (∀ k, k < E.length → okAt E k = true) ∧ ∀ x ∈ E, x.seq < 18446744073709551616
theorem okE_of {E : List Ent} (hm : mayL E = true) (hs : ∀ x ∈ E, x.seq < 18446744073709551616) : OkE E := ⟨((mayL_iff E).1 hm).2, hs⟩
theorem OkE.fit {E : List Ent} (h : OkE E) (k : Nat) (hk : k < E.length) : fitE (atE E k) = true := by
  have := h.1 k hk
  unfold okAt at this
  rw [Bool.and_eq_true] at this
  exact this.1
theorem OkE.seq {E : List Ent} (h : OkE E) (k : Nat) (hk : k < E.length) : (atE E k).seq < 18446744073709551616 := by
  rw [atE_get E k hk]; exact h.2 _ (List.getElem_mem hk)
/-- the same bytes begin with the same entries -/
theorem same_head {E F : List Ent} (hE : OkE E) (hF : OkE F) {R S : List UInt8} (h : bodyN E E.length ++ R = bodyN F F.length ++ S) (i : Nat) (hi : i ≤ E.length) (hj : i ≤ F.length) :
    E.take i = F.take i ∧ bodyN E i = bodyN F i := by
  induction i with
  | zero => exact ⟨by simp, rfl⟩
  | succ i ih =>
    obtain ⟨h1, h2⟩ := ih (by omega) (by omega)
    obtain ⟨r1, e1⟩ := body_split E (i + 1) E.length hi
    obtain ⟨r2, e2⟩ := body_split F (i + 1) F.length hj
    have h3 : encAt E i ++ (r1 ++ R) = encAt F i ++ (r2 ++ S) := by
      rw [e1, e2, bodyN, bodyN, h2] at h
      simp only [List.append_assoc] at h
      exact List.append_cancel_left h
    have hlast : i % 4 ≠ 0 → (atE E (i - 1)).key = (atE F (i - 1)).key := fun h0 => by
      have hi0 : i - 1 < i := by
        rcases Nat.eq_zero_or_pos i with e | e
        · subst e; simp at h0
        · omega
      rw [← atE_take E i _ hi0, ← atE_take F i _ hi0, h1]
    have a1 := rdE_enc E i (atE E (i - 1)).key (r1 ++ R) (hE.fit i (by omega)) (hE.seq i (by omega)) (fun _ => rfl)
    have a2 := rdE_enc F i (atE E (i - 1)).key (r2 ++ S) (hF.fit i (by omega)) (hF.seq i (by omega)) hlast
    rw [h3, a2] at a1
    simp only [Prod.mk.injEq, and_true] at a1
    obtain ⟨b1, b2⟩ := a1
    rw [← b2] at h3
    have h4 := List.append_cancel_right h3
    refine ⟨?_, by rw [bodyN, bodyN, h2, h4]⟩
    rw [List.take_succ_eq_append_getElem (by omega), List.take_succ_eq_append_getElem (by omega), h1, ← atE_get E i (by omega), ← atE_get F i (by omega), b1]
/-- no entry's bytes begin with two zeros -/
theorem enc_head (E : List Ent) (k : Nat) (hf : fitE (atE E k) = true) (rest X : List UInt8) : encAt E k ++ rest ≠ 0 :: 0 :: X := by
  intro h
  obtain ⟨f1, _, _⟩ := (fitE_iff _).1 hf
  have hk1 : 1 ≤ (atE E k).key.length ∧ (atE E k).key.length ≤ 32 := by simpa [checkK] using f1
  have hn2 : alikeAt E k ≤ (atE E k).key.length := by
    unfold alikeAt; split
    · omega
    · exact alikeL_le2 _ _
  unfold encAt at h
  rw [vint_small _ (by omega)] at h
  simp only [List.cons_append, List.nil_append, List.cons.injEq] at h
  obtain ⟨h1, h2⟩ := h
  have h0 : alikeAt E k = 0 := by
    have := congrArg UInt8.toNat h1
    rw [toNat_ofNat _ (by omega)] at this
    exact this
  rw [h0] at h2
  unfold eput tput cutE at h2
  simp only [List.drop_zero] at h2
  rw [vint_small _ (by omega)] at h2
  simp only [List.cons_append, List.nil_append, List.cons.injEq] at h2
  have := congrArg UInt8.toNat h2.1
  rw [toNat_ofNat _ (by omega)] at this
  simp at this
  rw [this] at hk1
  simp at hk1
theorem places_head (E : List Ent) (n : Nat) : ∃ t, placesN E (n + 1) = 0 :: t := by
  induction n with
  | zero => exact ⟨[], rfl⟩
  | succ n ih =>
    obtain ⟨t, ht⟩ := ih
    exact ⟨_, by rw [placesN, ht, List.cons_append]⟩
theorem twos_head (E : List Ent) (h : 0 < E.length) (R : List UInt8) : ∃ X, twos (placesN E E.length) ++ R = 0 :: 0 :: X := by
  obtain ⟨n, hn⟩ : ∃ n, E.length = n + 1 := ⟨E.length - 1, by omega⟩
  obtain ⟨t, ht⟩ := places_head E n
  rw [hn, ht]
  exact ⟨twos t ++ R, rfl⟩
theorem not_fewer {E F : List Ent} (hE : OkE E) (hF : OkE F) {R S X : List UInt8} (h : bodyN E E.length ++ R = bodyN F F.length ++ S) (hR : R = 0 :: 0 :: X) : ¬ E.length < F.length := by
  intro hlt
  obtain ⟨_, h2⟩ := same_head hE hF h E.length (Nat.le_refl _) (by omega)
  obtain ⟨r, hr⟩ := body_split F (E.length + 1) F.length hlt
  rw [hr, bodyN, h2, hR] at h
  simp only [List.append_assoc] at h
  exact enc_head F E.length (hF.fit _ hlt) _ _ (List.append_cancel_left h).symm
/-- entries whose bytes are followed by two zeros -/
theorem body_eq {E F : List Ent} (hE : OkE E) (hF : OkE F) {R S X Y : List UInt8} (h : bodyN E E.length ++ R = bodyN F F.length ++ S) (hR : R = 0 :: 0 :: X) (hS : S = 0 :: 0 :: Y) : E = F := by
  have h1 := not_fewer hE hF h hR
  have h2 := not_fewer hF hE h.symm hS
  have h3 : E.length = F.length := by omega
  obtain ⟨h4, _⟩ := same_head hE hF h E.length (Nat.le_refl _) (by omega)
  rw [List.take_length, h3, List.take_length] at h4
  exact h4
/-- no block begins another one -/
theorem blk_prefix {E F : List Ent} (hm : mayL E = true) (hs : ∀ x ∈ E, x.seq < 18446744073709551616) (hm2 : mayL F = true) (hs2 : ∀ x ∈ F, x.seq < 18446744073709551616) (S : List UInt8) (h : blkPut E ++ S = blkPut F) : E = F := by
  obtain ⟨X, hX⟩ := twos_head E ((mayL_iff E).1 hm).1.1 (two (placesN E E.length).length ++ S)
  obtain ⟨Y, hY⟩ := twos_head F ((mayL_iff F).1 hm2).1.1 (two (placesN F F.length).length)
  refine body_eq (okE_of hm hs) (okE_of hm2 hs2) ?_ hX hY
  unfold blkPut at h
  simpa only [List.append_assoc] using h
theorem blk_inj {E F : List Ent} (hm : mayL E = true) (hs : ∀ x ∈ E, x.seq < 18446744073709551616) (hm2 : mayL F = true) (hs2 : ∀ x ∈ F, x.seq < 18446744073709551616) (h : blkPut E = blkPut F) : E = F :=
  blk_prefix hm hs hm2 hs2 [] (by rw [List.append_nil]; exact h)
theorem enc_five (E : List Ent) (k : Nat) (hk : alikeAt E k = 0) (hf : fitE (atE E k) = true) : 5 ≤ (encAt E k).length := by
  obtain ⟨f1, _, _⟩ := (fitE_iff _).1 hf
  have hk1 : 1 ≤ (atE E k).key.length ∧ (atE E k).key.length ≤ 32 := by simpa [checkK] using f1
  have h1 := vint_pos (alikeAt E k)
  have h2 := vint_pos (atE E k).key.length
  have h3 := vint_pos (atE E k).seq
  unfold encAt
  rw [hk]
  unfold eput tput cutE
  simp only [List.drop_zero, List.length_append, List.length_cons]
  have := vint_pos 0
  omega
/-- a block has nine bytes at least -/
theorem blk_nine {E : List Ent} (hm : mayL E = true) : 9 ≤ (blkPut E).length := by
  obtain ⟨h1, h2⟩ := (mayL_iff E).1 hm
  have h0 := h2 0 h1.1
  unfold okAt at h0
  rw [Bool.and_eq_true] at h0
  have h5 := enc_five E 0 rfl h0.1
  obtain ⟨r, hr⟩ := body_split E 1 E.length h1.1
  rw [blkPut_length, hr, List.length_append]
  have : (bodyN E 1).length = (encAt E 0).length := by simp [bodyN]
  omega

/-- the parts behind a four -/
theorem enc_take (E : List Ent) (i k : Nat) (h : i < k) : encAt (E.take k) i = encAt E i := by
  unfold encAt alikeAt
  rw [atE_take E k i h, atE_take E k (i - 1) (by omega)]
theorem body_take (E : List Ent) (k n : Nat) (h : n ≤ k) : bodyN (E.take k) n = bodyN E n := by
  induction n with
  | zero => rfl
  | succ n ih => rw [bodyN, bodyN, ih (by omega), enc_take E n k (by omega)]
theorem enc_drop (E : List Ent) (i k : Nat) (hk : k % 4 = 0) : encAt (E.drop k) i = encAt E (k + i) := by
  unfold encAt alikeAt
  rw [atE_drop, atE_drop, show (k + i) % 4 = i % 4 from by omega]
  by_cases h : i % 4 = 0
  · rw [if_pos h, if_pos h]
  · rw [if_neg h, if_neg h, show k + i - 1 = k + (i - 1) from by
      have : i ≠ 0 := fun e => by subst e; simp at h
      omega]
theorem body_drop (E : List Ent) (k n : Nat) (hk : k % 4 = 0) : bodyN E (k + n) = bodyN E k ++ bodyN (E.drop k) n := by
  induction n with
  | zero => simp [bodyN]
  | succ n ih => rw [show k + (n + 1) = k + n + 1 from rfl, bodyN, bodyN, ih, enc_drop E n k hk, List.append_assoc]
theorem may_take {E : List Ent} (hm : mayL E = true) (k : Nat) (h1 : 0 < k) (h2 : k ≤ E.length) : mayL (E.take k) = true := by
  obtain ⟨g1, g2⟩ := (mayL_iff E).1 hm
  have hl : (E.take k).length = k := by rw [List.length_take]; omega
  refine (mayL_iff _).2 ⟨by omega, fun i hi => ?_⟩
  rw [hl] at hi
  have := g2 i (by omega)
  unfold okAt at this ⊢
  rw [atE_take E k i hi, atE_take E k (i - 1) (by omega)]
  exact this
theorem may_drop {E : List Ent} (hm : mayL E = true) (k : Nat) (h2 : k < E.length) : mayL (E.drop k) = true := by
  obtain ⟨g1, g2⟩ := (mayL_iff E).1 hm
  have hl : (E.drop k).length = E.length - k := List.length_drop
  refine (mayL_iff _).2 ⟨by omega, fun i hi => ?_⟩
  rw [hl] at hi
  have := g2 (k + i) (by omega)
  unfold okAt at this ⊢
  rw [atE_drop, atE_drop]
  rw [Bool.and_eq_true] at this ⊢
  refine ⟨this.1, ?_⟩
  by_cases h : i = 0
  · subst h; rfl
  · have h3 := this.2
    rw [show k + i - 1 = k + (i - 1) from by omega, show (k + i == 0) = false from by simp; omega, Bool.false_or] at h3
    rw [h3, Bool.or_true]
theorem body_parts (E : List Ent) (k : Nat) (hk : k % 4 = 0) (h2 : k ≤ E.length) : bodyN E E.length = bodyN (E.take k) (E.take k).length ++ bodyN (E.drop k) (E.drop k).length := by
  rw [List.length_take, List.length_drop, Nat.min_eq_left h2, body_take E k k (Nat.le_refl _), ← body_drop E k _ hk, show k + (E.length - k) = E.length from by omega]
end Go.Proofs.Ytbcnapkbdbefhaa

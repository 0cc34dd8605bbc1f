/- Marks put into a row one by one: plain laws; slices of marks. No condition. -/
import Derived.Test.YtafgioidneohhaaMarks
import Derived.Test.YtafgioidneohhaaApart
namespace Go.Proofs.Ytafgioidneohhaa
open Go.RowKit

theorem mkB_inj {x y : MkB} (h : x.m = y.m) : x = y := by
  obtain ⟨⟨⟨a⟩⟩, s, g⟩ := x
  obtain ⟨⟨⟨b⟩⟩, t, u⟩ := y
  simp only [MkB.m, Mk.mk.injEq] at h
  obtain ⟨h1, rfl, rfl⟩ := h
  subst h1
  rfl
def leM (x y : MkB) : Prop := cmpK x.m y.m ≤ 0
theorem leM_tr {x y z : MkB} (h1 : leM x y) (h2 : leM y z) : leM x z := (cmpK_tr _ _ _ h1 h2).1
theorem leM_anti {x y : MkB} (h1 : leM x y) (h2 : leM y x) : x = y := by
  unfold leM at *
  have := cmpK_neg x.m y.m
  exact mkB_inj (cmpK_eq (by omega))
/-- where a mark goes -/
def insAt (x : MkB) : List MkB → Nat
  | [] => 0
  | y :: l => if cmpK x.m y.m ≥ 0 then insAt x l + 1 else 0
theorem insAt_le (x : MkB) (l : List MkB) : insAt x l ≤ l.length := by
  induction l with
  | nil => exact Nat.le_refl _
  | cons y l ih => simp only [insAt, List.length_cons]; split <;> omega
theorem insAt_lt (x : MkB) (l : List MkB) (i : Nat) (hi : i < insAt x l) (hl : i < l.length) : cmpK x.m l[i].m ≥ 0 := by
  induction l generalizing i with
  | nil => simp at hl
  | cons y l ih =>
    simp only [insAt] at hi
    split at hi
    · rename_i h
      cases i with
      | zero => exact h
      | succ i => exact ih i (by omega) (by simpa using hl)
    · omega
theorem insAt_at (x : MkB) (l : List MkB) (h : insAt x l < l.length) : cmpK x.m (l[insAt x l]).m < 0 := by
  induction l with
  | nil => simp at h
  | cons y l ih =>
    by_cases hc : cmpK x.m y.m ≥ 0
    · have e : insAt x (y :: l) = insAt x l + 1 := by simp only [insAt]; rw [if_pos hc]
      simp only [e, List.getElem_cons_succ]
      exact ih (by rw [e] at h; simpa using h)
    · have e : insAt x (y :: l) = 0 := by simp only [insAt]; rw [if_neg hc]
      simp only [e, List.getElem_cons_zero]
      omega
def insM (x : MkB) (l : List MkB) : List MkB := (l.take (insAt x l) ++ [x]) ++ l.drop (insAt x l)
theorem insM_nil (x : MkB) : insM x [] = [x] := rfl
theorem insM_cons (x y : MkB) (l : List MkB) : insM x (y :: l) = if cmpK x.m y.m ≥ 0 then y :: insM x l else x :: y :: l := by
  unfold insM
  by_cases hc : cmpK x.m y.m ≥ 0
  · have e : insAt x (y :: l) = insAt x l + 1 := by simp only [insAt]; rw [if_pos hc]
    rw [e, if_pos hc]; simp
  · have e : insAt x (y :: l) = 0 := by simp only [insAt]; rw [if_neg hc]
    rw [e, if_neg hc]; simp
theorem insM_perm (x : MkB) (l : List MkB) : (insM x l).Perm (x :: l) := by
  induction l with
  | nil => exact List.Perm.refl _
  | cons y l ih =>
    rw [insM_cons]
    split
    · exact (ih.cons y).trans (List.Perm.swap x y l)
    · exact List.Perm.refl _
theorem insM_sorted (x : MkB) (l : List MkB) (h : l.Pairwise leM) : (insM x l).Pairwise leM := by
  induction l with
  | nil => rw [insM_nil]; exact List.pairwise_singleton _ _
  | cons y l ih =>
    rw [insM_cons]
    obtain ⟨h1, h2⟩ := List.pairwise_cons.1 h
    split
    · rename_i hc
      refine List.pairwise_cons.2 ⟨fun z hz => ?_, ih h2⟩
      rcases List.mem_cons.1 ((insM_perm x l).mem_iff.1 hz) with rfl | hz
      · have := cmpK_neg z.m y.m
        unfold leM; omega
      · exact h1 z hz
    · rename_i hc
      have hxy : leM x y := by unfold leM; omega
      refine List.pairwise_cons.2 ⟨fun z hz => ?_, h⟩
      rcases List.mem_cons.1 hz with rfl | hz
      · exact hxy
      · exact leM_tr hxy (h1 z hz)
def sortM (l : List MkB) : List MkB := l.foldl (fun out x => insM x out) []
theorem sortM_snoc (l : List MkB) (x : MkB) : sortM (l ++ [x]) = insM x (sortM l) := by simp [sortM]
theorem sortM_take (l : List MkB) (i : Nat) (h : i < l.length) : sortM (l.take (i + 1)) = insM l[i] (sortM (l.take i)) := by
  rw [List.take_succ_eq_append_getElem h, sortM_snoc]
theorem fold_perm (l out : List MkB) : (l.foldl (fun out x => insM x out) out).Perm (l ++ out) := by
  induction l generalizing out with
  | nil => exact List.Perm.refl _
  | cons x l ih =>
    exact (ih (insM x out)).trans (((insM_perm x out).append_left l).trans List.perm_middle)
theorem sortM_perm (l : List MkB) : (sortM l).Perm l := by
  have := fold_perm l []
  rwa [List.append_nil] at this
theorem fold_sorted (l out : List MkB) (h : out.Pairwise leM) : (l.foldl (fun out x => insM x out) out).Pairwise leM := by
  induction l generalizing out with
  | nil => exact h
  | cons x l ih => exact ih _ (insM_sorted x out h)
theorem sortM_sorted (l : List MkB) : (sortM l).Pairwise leM := fold_sorted l [] List.Pairwise.nil
theorem sortM_length (l : List MkB) : (sortM l).length = l.length := (sortM_perm l).length_eq
theorem sorted_eq : ∀ (a b : List MkB), a.Pairwise leM → b.Pairwise leM → a.Perm b → a = b
  | [], b, _, _, hp => (List.nil_perm.1 hp).symm
  | x :: a, [], _, _, hp => absurd hp.length_eq (by simp)
  | x :: a, y :: b, ha, hb, hp => by
    obtain ⟨a1, a2⟩ := List.pairwise_cons.1 ha
    obtain ⟨b1, b2⟩ := List.pairwise_cons.1 hb
    have hxy : x = y := by
      have h1 : x ∈ y :: b := hp.mem_iff.1 (List.mem_cons_self)
      have h2 : y ∈ x :: a := hp.mem_iff.2 (List.mem_cons_self)
      rcases List.mem_cons.1 h1 with e | h1
      · exact e
      · rcases List.mem_cons.1 h2 with e | h2
        · exact e.symm
        · exact leM_anti (a1 y h2) (b1 x h1)
    subst hxy
    rw [sorted_eq a b a2 b2 hp.cons_inv]
theorem sortM_rot (l : List MkB) (k : Nat) : sortM (l.drop k ++ l.take k) = sortM l := by
  refine sorted_eq _ _ (sortM_sorted _) (sortM_sorted _) ?_
  refine (sortM_perm _).trans (List.Perm.trans ?_ (sortM_perm l).symm)
  have h := List.perm_append_comm (l₁ := l.drop k) (l₂ := l.take k)
  rwa [List.take_append_drop] at h
theorem sortM_le (l : List MkB) (i j : Nat) (hij : i < j) (hj : j < (sortM l).length) : cmpK ((sortM l)[i]'(by omega)).m ((sortM l)[j]).m ≤ 0 :=
  List.pairwise_iff_getElem.1 (sortM_sorted l) i j (by omega) hj hij

/-- marks' cells -/
def mcell (x : MkB) : List Value := [.string x.k, .int .u64 x.s, .bool x.g]
def mcells (l : List MkB) : List Value := l.flatMap mcell
theorem mcells_length (l : List MkB) : (mcells l).length = l.length * 3 := flatM_length mcell 3 (fun _ => rfl) l
theorem mcells_app (l m : List MkB) : mcells (l ++ m) = mcells l ++ mcells m := by simp [mcells]
theorem one_mcells (l : List MkB) : ∀ u ∈ mcells l, u.oneCell' = true := by
  intro u hu
  obtain ⟨x, _, h⟩ := List.mem_flatMap.1 hu
  simp only [mcell, List.mem_cons, List.not_mem_nil, or_false] at h
  rcases h with rfl | rfl | rfl <;> rfl
set_option maxRecDepth 100000 in
theorem info_mk : (Try.prog.info? 28).map (fun i => (i.zero, i.size, i.bytes)) = some (some (.agg #[.string ⟨#[]⟩, .int .u64 0, .bool false]), 3, 32) := by kernel_rfl
theorem rdM_of {w : World} {v : Value} {n : Nat} {l : List MkB} (h : Reads w 3 v n (mcells l)) : n = l.length ∧ RdM w v l := by
  obtain ⟨a, cap, rfl, hl, hc, hm, hr⟩ := h
  rw [mcells_length] at hl
  have hn : n = l.length := by omega
  subst hn
  refine ⟨rfl, a, cap, rfl, hc, hm, fun j hj => ?_⟩
  have hg := fun i (hi : i < 3) => flatM_get mcell 3 (fun _ => rfl) l j i hj hi
  have key : ∀ i, i < 3 → ∃ b off, a = some ⟨b, off, none⟩ ∧ w.cell? ⟨b, off + (j * 3 + i), none⟩ = (mcell l[j])[i]? := fun i hi => by
    have hlt : j * 3 + i < (mcells l).length := by rw [mcells_length]; omega
    obtain ⟨b, off, e, c⟩ := hr (j * 3 + i) hlt
    exact ⟨b, off, e, by rw [c, ← hg i hi]; exact (List.getElem?_eq_getElem hlt).symm⟩
  obtain ⟨b, off, e, c0⟩ := key 0 (by omega)
  obtain ⟨b1, off1, e1, c1⟩ := key 1 (by omega)
  obtain ⟨b2, off2, e2, c2⟩ := key 2 (by omega)
  rw [e] at e1 e2
  cases e1; cases e2
  exact ⟨b, off, e, c0, by rw [Nat.add_assoc]; exact c1, by rw [Nat.add_assoc]; exact c2⟩
theorem rdM_reads {w : World} {v : Value} {l : List MkB} (h : RdM w v l) : Reads w 3 v l.length (mcells l) := by
  obtain ⟨a, cap, rfl, h1, h2, h3⟩ := h
  refine ⟨a, cap, rfl, mcells_length l, h1, h2, fun i hi => ?_⟩
  have hil : i < l.length * 3 := by rw [← mcells_length]; exact hi
  have hj : i / 3 < l.length := by omega
  obtain ⟨b, off, e, c0, c1, c2⟩ := h3 (i / 3) hj
  refine ⟨b, off, e, ?_⟩
  have hg := flatM_get mcell 3 (fun _ => rfl) l (i / 3) (i % 3) hj (by omega)
  rw [show i / 3 * 3 + i % 3 = i from by omega] at hg
  rw [← List.getElem?_eq_getElem hi]
  show _ = (l.flatMap mcell)[i]?
  rw [hg]
  have h4 : i % 3 = 0 ∨ i % 3 = 1 ∨ i % 3 = 2 := by omega
  rcases h4 with h | h | h <;> rw [h] <;> simp only [mcell, List.getElem?_cons_zero, List.getElem?_cons_succ]
  · rw [show off + i = off + i / 3 * 3 from by omega]; exact c0
  · rw [show off + i = off + i / 3 * 3 + 1 from by omega]; exact c1
  · rw [show off + i = off + i / 3 * 3 + 2 from by omega]; exact c2
/-- v[k:] -/
theorem cutM_rest {w : World} {v : Value} {l : List MkB} (h : RdM w v l) (k n : Nat) (hk : n + k = l.length) :
    ∃ a c, (∀ (w' : World) (kl : IntKind), (Instr.slice 38 v (some (.int kl k)) none none).run Try.prog w' = .ok (.slice a n c) w') ∧ RdM w (.slice a n c) (l.drop k) := by
  obtain ⟨i0, hi0, hz, hz1, hz2⟩ := info_parts info_mk
  obtain ⟨a, c, _, _, h3, h4⟩ := reads_cut Try.underlying38 hi0 hz1 (by omega) (rdM_reads h) k l.length (by omega) (Nat.le_refl _)
  have e : l.length - k = n := by omega
  rw [e] at h3 h4
  refine ⟨a, c, h3 rfl, ?_⟩
  have h5 : (mcells l).take (l.length * 3) = mcells l := List.take_of_length_le (by rw [mcells_length]; exact Nat.le_refl _)
  rw [h5] at h4
  have h6 : (mcells l).drop (k * 3) = mcells (l.drop k) := flatM_drop mcell 3 (fun _ => rfl) l k (by omega)
  rw [h6] at h4
  exact (rdM_of h4).2
/-- v[:k] -/
theorem cutM_to {w : World} {v : Value} {l : List MkB} (h : RdM w v l) (k : Nat) (hk : k ≤ l.length) :
    ∃ a c, (∀ (w' : World) (kh : IntKind), (Instr.slice 38 v none (some (.int kh k)) none).run Try.prog w' = .ok (.slice a k c) w') ∧ RdM w (.slice a k c) (l.take k) := by
  obtain ⟨i0, hi0, hz, hz1, hz2⟩ := info_parts info_mk
  obtain ⟨a, c, _, h2, _, h4⟩ := reads_cut Try.underlying38 hi0 hz1 (by omega) (rdM_reads h) 0 k (Nat.zero_le _) hk
  have h2 := h2 rfl
  rw [Nat.sub_zero] at h2 h4
  refine ⟨a, c, h2, ?_⟩
  have h5 : ((mcells l).take (k * 3)).drop (0 * 3) = mcells (l.take k) := by rw [Nat.zero_mul, List.drop_zero]; exact flatM_take mcell 3 (fun _ => rfl) l k hk
  rw [h5] at h4
  exact (rdM_of h4).2
theorem rdM_readsN {w : World} {a : Option Addr} {n c : Nat} {l : List MkB} (h : RdM w (.slice a n c) l) : Reads w 3 (.slice a n c) n (mcells l) := by
  have h2 := rdM_reads h
  obtain ⟨a', c', e, _⟩ := h
  simp only [Value.slice.injEq] at e
  rw [e.2.1]
  rw [e.2.1] at h2
  exact h2
theorem reads_mk (w : World) (x : MkB) (ty : TypeId) : Reads (w.alloc (.cells #[.string x.k, .int .u64 x.s, .bool x.g] ty)) 3 (.slice (some ⟨w.heap.size, 0, none⟩) 1 1) 1 (mcell x) :=
  reads_new w _ ty 1 3 rfl (by unfold maxLen; omega)
end Go.Proofs.Ytafgioidneohhaa

/- Edits of files, plain: what an edit makes of files, and the laws of it. No program stands in this text; no condition. -/
import Derived.Test.YtimfcinkjjaigaaGreatDoorMore
import Derived.Test.YtimfcinkjjaigaaGreatDoorOrder1
namespace Go.Proofs.YtimfcinkjjaigaaGreatDoor
open Go.RowKit

/-- a file of the program -/
structure PF where
  n : Nat
  lv : Int
  a : ByteArray
  b : ByteArray
def PF.ok (x : PF) : Prop := x.n < 4294967296 ∧ (-9223372036854775808 ≤ x.lv ∧ x.lv ≤ 9223372036854775807) ∧ x.a.size ≤ 140737488351232 ∧ x.b.size ≤ 140737488351232
def mayF (x : PF) : Bool := decide (0 ≤ x.lv) && decide (x.lv < 4) && checkK x.a.data.toList && checkK x.b.data.toList && !ltB x.b.data.toList x.a.data.toList
def nums (l : List PF) : List Nat := l.map PF.n
/-- the files that are left -/
def keepF (rem : List Nat) (l : List PF) : List PF := l.filter (fun f => decide (f.n ∉ rem))
def eraseN (k : Nat) (l : List PF) : List PF := l.filter (fun f => decide (f.n ≠ k))
/-- removed one by one -/
def remL : List PF → List Nat → Option (List PF)
  | l, [] => some l
  | l, k :: ks => if k ∈ nums l then remL (eraseN k l) ks else none
def ltF (x y : PF) : Prop := x.lv < y.lv ∨ x.lv = y.lv ∧ x.n < y.n
/-- an edit can be done -/
def Can (l add : List PF) (rem : List Nat) : Prop :=
  l.all mayF = true ∧ add.all mayF = true ∧ (nums l).Nodup ∧ rem.Nodup ∧ (∀ k ∈ rem, k ∈ nums l) ∧ (nums (keepF rem l ++ add)).Nodup
/-- what it gives -/
def DoR (l add : List PF) (rem : List Nat) (r : List PF) (q : Nat) : Prop :=
  (q = 0 ∧ Can l add rem ∧ r.Perm (keepF rem l ++ add) ∧ r.Pairwise ltF) ∨ (q = 1 ∧ r = [] ∧ ¬ Can l add rem)

theorem nums_app (l m : List PF) : nums (l ++ m) = nums l ++ nums m := by simp [nums]
theorem nums_mem {l : List PF} {f : PF} (h : f ∈ l) : f.n ∈ nums l := List.mem_map.2 ⟨f, h, rfl⟩
theorem keepF_nil (l : List PF) : keepF [] l = l := by simp [keepF]
theorem keepF_app (rem : List Nat) (l m : List PF) : keepF rem (l ++ m) = keepF rem l ++ keepF rem m := by simp [keepF]
theorem mem_keepF {rem : List Nat} {l : List PF} {f : PF} : f ∈ keepF rem l ↔ f ∈ l ∧ f.n ∉ rem := by simp [keepF]
theorem keepF_eraseN (k : Nat) (ks : List Nat) (l : List PF) : keepF ks (eraseN k l) = keepF (k :: ks) l := by
  unfold keepF eraseN
  rw [List.filter_filter]
  congr 1
  funext f
  by_cases h1 : f.n = k <;> by_cases h2 : f.n ∈ ks <;> simp [h1, h2]
  all_goals (try simp_all)
theorem mem_nums_erase {k j : Nat} {l : List PF} : j ∈ nums (eraseN k l) ↔ j ∈ nums l ∧ j ≠ k := by
  simp only [nums, eraseN, List.mem_map, List.mem_filter, decide_eq_true_eq]
  constructor
  · rintro ⟨f, ⟨h1, h2⟩, rfl⟩; exact ⟨⟨f, h1, rfl⟩, h2⟩
  · rintro ⟨⟨f, h1, rfl⟩, h2⟩; exact ⟨f, ⟨h1, h2⟩, rfl⟩
theorem remL_iff : ∀ (rem : List Nat) (l : List PF) (m : List PF), remL l rem = some m ↔ (rem.Nodup ∧ (∀ k ∈ rem, k ∈ nums l) ∧ m = keepF rem l)
  | [], l, m => by simp [remL, keepF_nil, eq_comm]
  | k :: ks, l, m => by
    simp only [remL]
    by_cases hk : k ∈ nums l
    · rw [if_pos hk, remL_iff ks (eraseN k l) m, keepF_eraseN]
      simp only [List.nodup_cons, List.mem_cons, forall_eq_or_imp]
      constructor
      · rintro ⟨h1, h2, h3⟩
        exact ⟨⟨fun h => (mem_nums_erase.1 (h2 k h)).2 rfl, h1⟩, ⟨hk, fun j hj => (mem_nums_erase.1 (h2 j hj)).1⟩, h3⟩
      · rintro ⟨⟨h0, h1⟩, ⟨_, h2⟩, h3⟩
        exact ⟨h1, fun j hj => mem_nums_erase.2 ⟨h2 j hj, fun e => h0 (e ▸ hj)⟩, h3⟩
    · rw [if_neg hk]
      simp only [reduceCtorEq, List.mem_cons, forall_eq_or_imp, false_iff]
      exact fun h => hk h.2.1.1

theorem sorted_one {r s : List PF} (hr : r.Pairwise ltF) (hs : s.Pairwise ltF) (hp : r.Perm s) : r = s := by
  refine List.Perm.eq_of_pairwise (le := ltF) ?_ hr hs hp
  intro x y _ _ h1 h2
  unfold ltF at h1 h2
  omega
theorem can_perm {l l' add add' : List PF} {rem rem' : List Nat} (h1 : l.Perm l') (h2 : add.Perm add') (h3 : rem.Perm rem') (h : Can l add rem) : Can l' add' rem' := by
  obtain ⟨a1, a2, a3, a4, a5, a6⟩ := h
  have e1 : (nums l).Perm (nums l') := h1.map _
  have e2 : keepF rem l = keepF rem' l := by
    unfold keepF; congr 1; funext f; simp [h3.mem_iff]
  refine ⟨?_, ?_, e1.nodup_iff.1 a3, h3.nodup_iff.1 a4, fun k hk => e1.mem_iff.1 (a5 k (h3.mem_iff.2 hk)), ?_⟩
  · rw [List.all_eq_true] at a1 ⊢; exact fun x hx => a1 x (h1.mem_iff.2 hx)
  · rw [List.all_eq_true] at a2 ⊢; exact fun x hx => a2 x (h2.mem_iff.2 hx)
  · refine (List.Perm.nodup_iff ?_).1 a6
    rw [e2]
    exact List.Perm.map _ ((h1.filter _).append h2)
theorem doR_perm {l l' add add' : List PF} {rem rem' : List Nat} {r r' : List PF} {q q' : Nat} (h1 : l.Perm l') (h2 : add.Perm add') (h3 : rem.Perm rem')
    (h : DoR l add rem r q) (h' : DoR l' add' rem' r' q') : q = q' ∧ r = r' := by
  rcases h with ⟨rfl, c, p, s⟩ | ⟨rfl, rfl, c⟩ <;> rcases h' with ⟨rfl, c', p', s'⟩ | ⟨rfl, rfl, c'⟩
  · refine ⟨rfl, sorted_one s s' (p.trans (List.Perm.trans ?_ p'.symm))⟩
    have e2 : keepF rem l = keepF rem' l := by
      unfold keepF; congr 1; funext f; simp [h3.mem_iff]
    rw [e2]
    exact (h1.filter _).append h2
  · exact absurd (can_perm h1 h2 h3 c) c'
  · exact absurd (can_perm h1.symm h2.symm h3.symm c') c
  · exact ⟨rfl, rfl⟩
theorem doR_one {l add : List PF} {rem : List Nat} {r r' : List PF} {q q' : Nat} (h : DoR l add rem r q) (h' : DoR l add rem r' q') : q = q' ∧ r = r' :=
  doR_perm (.refl _) (.refl _) (.refl _) h h'
theorem doR_ok {l add : List PF} {rem : List Nat} {r : List PF} {q : Nat} (h : DoR l add rem r q) (hq : q = 0) : Can l add rem ∧ r.Perm (keepF rem l ++ add) ∧ r.Pairwise ltF := by
  rcases h with ⟨_, c⟩ | ⟨rfl, _⟩
  · exact c
  · omega
theorem doR_bad {l add : List PF} {rem : List Nat} {r : List PF} {q : Nat} (h : DoR l add rem r q) (hq : q ≠ 0) : q = 1 ∧ r = [] ∧ ¬ Can l add rem := by
  rcases h with ⟨rfl, _⟩ | c
  · exact absurd rfl hq
  · exact c
theorem doR_is {l add : List PF} {rem : List Nat} {r : List PF} {q : Nat} (h : DoR l add rem r q) (c : Can l add rem) : q = 0 ∧ r.Perm (keepF rem l ++ add) ∧ r.Pairwise ltF := by
  rcases h with ⟨h0, _, h1, h2⟩ | ⟨_, _, c'⟩
  · exact ⟨h0, h1, h2⟩
  · exact absurd c c'
theorem doR_mem {l add : List PF} {rem : List Nat} {r : List PF} {q : Nat} (h : DoR l add rem r q) : ∀ x ∈ r, x ∈ l ∨ x ∈ add := by
  intro x hx
  rcases h with ⟨_, _, p, _⟩ | ⟨_, rfl, _⟩
  · rcases List.mem_append.1 (p.mem_iff.1 hx) with h | h
    · exact .inl (mem_keepF.1 h).1
    · exact .inr h
  · cases hx
theorem doR_len {l add : List PF} {rem : List Nat} {r : List PF} {q : Nat} (h : DoR l add rem r q) : r.length ≤ l.length + add.length := by
  rcases h with ⟨_, _, p, _⟩ | ⟨_, rfl, _⟩
  · rw [p.length_eq, List.length_append]
    have := List.length_filter_le (fun f : PF => decide (f.n ∉ rem)) l
    unfold keepF; omega
  · simp
theorem nodup_sub {l : List PF} (h : (nums l).Nodup) (p : PF → Bool) : (nums (l.filter p)).Nodup := h.sublist ((List.filter_sublist).map _)
theorem fine_keep {l : List PF} {p : PF → Bool} (h : l.all mayF = true) : (l.filter p).all mayF = true := by
  rw [List.all_eq_true] at h ⊢; exact fun x hx => h x (List.mem_filter.1 hx).1
theorem fine_app {l m : List PF} (h : l.all mayF = true) (h2 : m.all mayF = true) : (l ++ m).all mayF = true := by simp [h, h2]
theorem fine_perm {l m : List PF} (h : l.Perm m) (h2 : m.all mayF = true) : l.all mayF = true := by
  rw [List.all_eq_true] at h2 ⊢; exact fun x hx => h2 x (h.mem_iff.1 hx)
theorem can_none {l add : List PF} {rem : List Nat} (h : Can l add rem) : Can l [] [] :=
  ⟨h.1, rfl, h.2.2.1, List.nodup_nil, by simp, by rw [keepF_nil, List.append_nil]; exact h.2.2.1⟩
end Go.Proofs.YtimfcinkjjaigaaGreatDoor

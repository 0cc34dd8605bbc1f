/- Edits as bytes, plain: what is put, and what a reader that knows no end tells. No program stands in this text; no condition. -/
import Derived.Test.YtmonmfamnbfhcaaFlD
import Derived.Test.YtmonmfamnbfhcaaFl0
import Derived.Test.YtmonmfamnbfhcaaPlain2
namespace Go.Proofs.Ytmonmfamnbfhcaa
open Go.RowKit

def tx (s : ByteArray) : List UInt8 := tput s.data.toList
def fput (f : PF) : List UInt8 := vint f.n ++ (vint f.lv.toNat ++ (tx f.a ++ tx f.b))
def manyP {α : Type} (enc : α → List UInt8) (l : List α) : List UInt8 := vint l.length ++ l.flatMap enc
def ePut (x : PX) : List UInt8 := manyP fput x.add ++ (manyP vint x.rem ++ (vint x.jo ++ (vint x.nx ++ vint x.sq)))
/-- one thing is read: from (bad, l) to (bad', l') -/
def Step {α : Type} (enc : α → List UInt8) (P : α → Prop) (bad : Bool) (l : List UInt8) (x : α) (bad' : Bool) (l' : List UInt8) : Prop :=
  (bad' = false → bad = false ∧ P x ∧ l = enc x ++ l') ∧ (∀ y r, bad = false → P y → l = enc y ++ r → x = y ∧ bad' = false ∧ l' = r) ∧ l'.length ≤ l.length
theorem Step.then {α β : Type} {e1 : α → List UInt8} {e2 : β → List UInt8} {P1 : α → Prop} {P2 : β → Prop} {b b1 b2 : Bool} {l l1 l2 : List UInt8} {x : α} {y : β} (h1 : Step e1 P1 b l x b1 l1) (h2 : Step e2 P2 b1 l1 y b2 l2) :
    Step (fun p : α × β => e1 p.1 ++ e2 p.2) (fun p => P1 p.1 ∧ P2 p.2) b l (x, y) b2 l2 := by
  obtain ⟨a1, a2, a3⟩ := h1
  obtain ⟨c1, c2, c3⟩ := h2
  refine ⟨fun hb => ?_, ?_, Nat.le_trans c3 a3⟩
  · obtain ⟨d1, d2, d3⟩ := c1 hb
    obtain ⟨f1, f2, f3⟩ := a1 d1
    exact ⟨f1, ⟨f2, d2⟩, by rw [f3, d3, List.append_assoc]⟩
  · rintro ⟨u, v⟩ r hb ⟨p1, p2⟩ hl
    simp only at p1 p2 hl
    obtain ⟨rfl, d2, d3⟩ := a2 u (e2 v ++ r) hb p1 (by rw [hl, List.append_assoc])
    obtain ⟨rfl, f2, f3⟩ := c2 v r d2 p2 d3
    exact ⟨rfl, f2, f3⟩
theorem Step.map {α β : Type} {e1 : α → List UInt8} {e2 : β → List UInt8} {P1 : α → Prop} {P2 : β → Prop} {b b1 : Bool} {l l1 : List UInt8} {x : α} (h : Step e1 P1 b l x b1 l1) (z : β)
    (f : P1 x → P2 z ∧ e2 z = e1 x) (g : ∀ y, P2 y → ∃ u, P1 u ∧ e1 u = e2 y ∧ (x = u → z = y)) : Step e2 P2 b l z b1 l1 := by
  obtain ⟨a1, a2, a3⟩ := h
  refine ⟨fun hb => ?_, fun y r hb hp hl => ?_, a3⟩
  · obtain ⟨d1, d2, d3⟩ := a1 hb
    exact ⟨d1, (f d2).1, by rw [(f d2).2]; exact d3⟩
  · obtain ⟨u, hu, he, hx⟩ := g y hp
    obtain ⟨d1, d2, d3⟩ := a2 u r hb hu (by rw [he]; exact hl)
    exact ⟨hx d1, d2, d3⟩
theorem number_step (l : List UInt8) (bad : Bool) (most : Nat) (hm : most < 18446744073709551616) :
    Step vint (fun n => n ≤ most) bad l (vget l).1 (bad || !decide ((vget l).2.2 = 0 ∧ (vget l).1 ≤ most)) (l.drop (vget l).2.1) := by
  refine ⟨fun hb => ?_, fun y r hb hp hl => ?_, by rw [List.length_drop]; omega⟩
  · simp only [Bool.or_eq_false_iff, Bool.not_eq_false', decide_eq_true_eq] at hb
    obtain ⟨rfl, h0, hn⟩ := hb
    have hg := vget_got (l := l) (n := (vget l).1) (k := (vget l).2.1) (by ext <;> simp [h0])
    exact ⟨rfl, hn, by rw [hg.2.2.2.2, List.take_append_drop]⟩
  · subst hb
    subst hl
    rw [vget_put y (by omega) r]
    refine ⟨rfl, by simp; exact hp, by simp⟩
theorem text_step (l : List UInt8) (bad : Bool) : Step tx (fun s => s.size < 18446744073709551616) bad l (bs (tget l).1) (bad || !decide ((tget l).2.2 = 0)) (l.drop (tget l).2.1) := by
  refine ⟨fun hb => ?_, fun y r hb hp hl => ?_, by rw [List.length_drop]; omega⟩
  · simp only [Bool.or_eq_false_iff, Bool.not_eq_false', decide_eq_true_eq] at hb
    obtain ⟨rfl, h0⟩ := hb
    have hg := tget_got (l := l) (s := (tget l).1) (k := (tget l).2.1) (by ext <;> simp [h0])
    refine ⟨rfl, ?_, ?_⟩
    · show (bs (tget l).1).size < _
      rw [← size_data, bs_data]; exact hg.2.2.1
    · unfold tx
      rw [bs_data, hg.2.2.2.2, List.take_append_drop]
  · subst hb
    subst hl
    unfold tx at *
    rw [tget_tput _ r (by rw [size_data]; exact hp)]
    refine ⟨?_, by simp, by simp⟩
    show bs y.data.toList = y
    unfold bs
    cases y; rfl
/-- several are read, so many are behind -/
def Sev {α : Type} (enc : α → List UInt8) (P : α → Prop) (n0 : Nat) (b0 : Bool) (l0 : List UInt8) (xs : List α) (bad : Bool) (l : List UInt8) : Prop :=
  xs.length ≤ n0 ∧ (bad = false → b0 = false ∧ (∀ x ∈ xs, P x) ∧ l0 = xs.flatMap enc ++ l) ∧
  (∀ (ys : List α) (r : List UInt8), b0 = false → ys.length = n0 → (∀ y ∈ ys, P y) → l0 = ys.flatMap enc ++ r → bad = false ∧ xs = ys.take xs.length ∧ l = (ys.drop xs.length).flatMap enc ++ r) ∧
  xs.length ≤ l0.length + 1 ∧ (bad = false → xs.length + l.length ≤ l0.length) ∧ l.length ≤ l0.length
theorem Sev.start {α : Type} {enc : α → List UInt8} {P : α → Prop} {n0 : Nat} {b0 : Bool} {l0 : List UInt8} : Sev enc P n0 b0 l0 [] b0 l0 :=
  ⟨Nat.zero_le _, fun h => ⟨h, by simp, by simp⟩, fun ys r h1 _ _ h4 => ⟨h1, by simp, by simpa using h4⟩, by simp, fun _ => by simp, Nat.le_refl _⟩
theorem Sev.step {α : Type} {enc : α → List UInt8} {P : α → Prop} {n0 : Nat} {b0 : Bool} {l0 : List UInt8} {xs : List α} {l : List UInt8} (h : Sev enc P n0 b0 l0 xs false l) (hx : xs.length < n0) (he : ∀ x, 1 ≤ (enc x).length)
    {x : α} {bad' : Bool} {l' : List UInt8} (hs : Step enc P false l x bad' l') : Sev enc P n0 b0 l0 (xs ++ [x]) bad' l' := by
  obtain ⟨h1, h2, h3, h4, h5, h6⟩ := h
  obtain ⟨s1, s2, s3⟩ := hs
  have h5' := h5 rfl
  refine ⟨by simp; omega, fun hb => ?_, fun ys r q1 q2 q3 q4 => ?_, by simp; omega, fun hb => ?_, by omega⟩
  · obtain ⟨_, p1, p2⟩ := s1 hb
    obtain ⟨a1, a2, a3⟩ := h2 rfl
    refine ⟨a1, fun y hy => ?_, by rw [a3, p2]; simp⟩
    rcases List.mem_append.1 hy with hy | hy
    · exact a2 y hy
    · rw [List.mem_singleton.1 hy]; exact p1
  · obtain ⟨_, a2, a3⟩ := h3 ys r q1 q2 q3 q4
    have hk : xs.length < ys.length := by omega
    rw [List.drop_eq_getElem_cons hk, List.flatMap_cons, List.append_assoc] at a3
    obtain ⟨rfl, p2, p3⟩ := s2 _ _ rfl (q3 _ (List.getElem_mem hk)) a3
    refine ⟨p2, ?_, ?_⟩
    · rw [List.length_append, List.length_singleton, List.take_succ_eq_append_getElem hk, ← a2]
    · rw [List.length_append, List.length_singleton]; exact p3
  · obtain ⟨_, p1, p2⟩ := s1 hb
    have := he x
    rw [p2, List.length_append] at h5'
    rw [List.length_append, List.length_singleton]
    omega
theorem Sev.done {α : Type} {enc : α → List UInt8} {P : α → Prop} {n0 : Nat} {b b0 : Bool} {l l0 : List UInt8} {xs : List α} {bad : Bool} {l' : List UInt8} (h : Sev enc P n0 b0 l0 xs bad l') (hd : xs.length = n0 ∨ bad = true)
    (hn : Step vint (fun n => n ≤ 18446744073709551615) b l n0 b0 l0) : Step (manyP enc) (fun xs => xs.length ≤ 18446744073709551615 ∧ ∀ x ∈ xs, P x) b l xs bad l' := by
  obtain ⟨h1, h2, h3, h4, h5, h6⟩ := h
  obtain ⟨s1, s2, s3⟩ := hn
  refine ⟨fun hb => ?_, fun y r hb hp hl => ?_, by omega⟩
  · obtain ⟨a1, a2, a3⟩ := h2 hb
    obtain ⟨c1, c2, c3⟩ := s1 a1
    have hd' : xs.length = n0 := by
      rcases hd with h | h
      · exact h
      · rw [h] at hb; cases hb
    exact ⟨c1, ⟨by omega, a2⟩, by unfold manyP; rw [hd', c3, a3, List.append_assoc]⟩
  · unfold manyP at hl
    rw [List.append_assoc] at hl
    obtain ⟨rfl, c2, c3⟩ := s2 _ _ hb hp.1 hl
    obtain ⟨d1, d2, d3⟩ := h3 y r c2 rfl hp.2 c3
    have hd' : xs.length = y.length := by
      rcases hd with h | h
      · exact h
      · rw [h] at d1; cases d1
    rw [hd', List.take_length] at d2
    rw [hd', List.drop_length] at d3
    exact ⟨d2, d1, by simpa using d3⟩
theorem vint_ge (n : Nat) : 1 ≤ (vint n).length := vint_pos n
theorem fput_ge (f : PF) : 1 ≤ (fput f).length := by unfold fput; rw [List.length_append]; have := vint_pos f.n; omega
theorem may_len {f : PF} (h : mayF f = true) : (0 ≤ f.lv ∧ f.lv < 4) ∧ f.a.size ≤ 32 ∧ f.b.size ≤ 32 := by
  unfold mayF checkK at h
  simp only [Bool.and_eq_true, decide_eq_true_eq, size_data] at h
  omega
theorem fput_le {f : PF} (h : mayF f = true) : (fput f).length ≤ 104 := by
  obtain ⟨_, h1, h2⟩ := may_len h
  unfold fput tx tput
  simp only [List.length_append, size_data]
  have := vint_le f.n
  have := vint_le f.lv.toNat
  have := vint_le f.a.size
  have := vint_le f.b.size
  omega
theorem flatMap_le {α : Type} (enc : α → List UInt8) (k : Nat) : ∀ (l : List α), (∀ x ∈ l, (enc x).length ≤ k) → (l.flatMap enc).length ≤ l.length * k
  | [], _ => by simp
  | x :: l, h => by
    have h1 := flatMap_le enc k l fun y hy => h y (by simp [hy])
    have h2 := h x (by simp)
    rw [List.flatMap_cons, List.length_append, List.length_cons, Nat.add_mul]
    omega
theorem ePut_ge (x : PX) : 5 ≤ (ePut x).length := by
  unfold ePut manyP
  simp only [List.length_append]
  have := vint_pos x.add.length
  have := vint_pos x.rem.length
  have := vint_pos x.jo
  have := vint_pos x.nx
  have := vint_pos x.sq
  omega
end Go.Proofs.Ytmonmfamnbfhcaa

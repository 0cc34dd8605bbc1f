/- Plain: what edits.Do gives, along its code. No program stands in this text; no condition. -/
import Derived.Test.YtimfcinkjjaigaaGreatDoorEdP
namespace Go.Proofs.YtimfcinkjjaigaaGreatDoor
open Go.RowKit

theorem eraseN_none {k : Nat} {m : List PF} (h : k ∉ nums m) : eraseN k m = m := by
  unfold eraseN
  rw [List.filter_eq_self]
  intro f hf
  simp only [decide_eq_true_eq]
  exact fun e => h (e ▸ nums_mem hf)
theorem erase_at : ∀ {m : List PF} {z k : Nat} (hz : z < m.length), (nums m).Nodup → m[z].n = k → m.take z ++ m.drop (z + 1) = eraseN k m
  | [], z, k, hz, _, _ => absurd hz (by simp)
  | x :: t, 0, k, _, hn, h => by
    simp only [List.getElem_cons_zero] at h
    subst h
    have h2 : x.n ∉ nums t := (List.nodup_cons.1 hn).1
    have : eraseN x.n (x :: t) = eraseN x.n t := by simp [eraseN]
    rw [this, eraseN_none h2]; rfl
  | x :: t, z + 1, k, hz, hn, h => by
    simp only [List.getElem_cons_succ] at h
    have hz2 : z < t.length := by simpa using hz
    have ih := erase_at (m := t) hz2 (List.nodup_cons.1 hn).2 h
    have hx : x.n ≠ k := fun e => (List.nodup_cons.1 hn).1 (by rw [e, ← h]; exact nums_mem (List.getElem_mem hz2))
    have : eraseN k (x :: t) = x :: eraseN k t := by simp [eraseN, hx]
    rw [this, ← ih]; rfl
theorem nodup_erase {k : Nat} {m : List PF} (h : (nums m).Nodup) : (nums (eraseN k m)).Nodup := nodup_sub h _
/-- what the code knows behind so many of the numbers to be removed -/
def Rem (l : List PF) (rem : List Nat) (k : Nat) (m : List PF) : Prop := remL l rem = remL m (rem.drop k) ∧ (nums m).Nodup ∧ m.length ≤ l.length ∧ ∀ f ∈ m, f ∈ l
theorem Rem.start {l : List PF} {rem : List Nat} (h : (nums l).Nodup) : Rem l rem 0 l := ⟨rfl, h, Nat.le_refl _, fun _ h => h⟩
theorem Rem.step {l m : List PF} {rem : List Nat} {k : Nat} (h : Rem l rem k m) (hk : k < rem.length) (hm : rem[k] ∈ nums m) : Rem l rem (k + 1) (eraseN rem[k] m) := by
  obtain ⟨h1, h2, h3, h4⟩ := h
  refine ⟨?_, nodup_erase h2, Nat.le_trans (List.length_filter_le _ _) h3, fun f hf => h4 f (List.mem_filter.1 hf).1⟩
  rw [h1, List.drop_eq_getElem_cons hk, remL, if_pos hm]
theorem Rem.lost {l m : List PF} {rem : List Nat} {k : Nat} (h : Rem l rem k m) (hk : k < rem.length) (hm : rem[k] ∉ nums m) (add : List PF) : ¬ Can l add rem := by
  intro c
  have h1 := (remL_iff rem l (keepF rem l)).2 ⟨c.2.2.2.1, c.2.2.2.2.1, rfl⟩
  rw [h.1, List.drop_eq_getElem_cons hk, remL, if_neg hm] at h1
  cases h1
theorem Rem.done {l m : List PF} {rem : List Nat} (h : Rem l rem rem.length m) : rem.Nodup ∧ (∀ k ∈ rem, k ∈ nums l) ∧ m = keepF rem l := by
  have h1 := h.1
  rw [List.drop_length, remL] at h1
  exact (remL_iff rem l m).1 h1
theorem doR_no {l add : List PF} {rem : List Nat} (h : ¬ Can l add rem) : DoR l add rem [] 1 := .inr ⟨rfl, rfl, h⟩
theorem can_1 {l add : List PF} {rem : List Nat} (h : l.all mayF = false) : ¬ Can l add rem := fun c => by rw [c.1] at h; cases h
theorem can_2 {l add : List PF} {rem : List Nat} (h : add.all mayF = false) : ¬ Can l add rem := fun c => by rw [c.2.1] at h; cases h
theorem can_3 {l add : List PF} {rem : List Nat} (h : (!decide (nums l).Nodup) = true) : ¬ Can l add rem := fun c => by
  have := c.2.2.1
  simp [this] at h
theorem can_4 {l add m : List PF} {rem : List Nat} (hm : Rem l rem rem.length m) (h : (!decide (nums (m ++ add)).Nodup) = true) : ¬ Can l add rem := fun c => by
  have h2 := c.2.2.2.2.2
  rw [← hm.done.2.2] at h2
  simp [h2] at h
theorem ltF_of {r : List PF} (hn : (nums r).Nodup) (h : r.Pairwise (fun x y => ¬ ltF y x)) : r.Pairwise ltF := by
  have h2 : r.Pairwise (fun x y => x.n ≠ y.n) := by
    unfold nums at hn
    rw [List.nodup_iff_pairwise_ne, List.pairwise_map] at hn
    exact hn
  refine (h.and h2).imp ?_
  intro x y ⟨a, b⟩
  unfold ltF at *
  omega
theorem doR_yes {l add m r : List PF} {rem : List Nat} (h1 : l.all mayF = true) (h2 : add.all mayF = true) (h3 : (!decide (nums l).Nodup) = false) (hm : Rem l rem rem.length m) (h4 : (!decide (nums (m ++ add)).Nodup) = false)
    (hp : r.Perm (m ++ add)) (hs : r.Pairwise (fun x y => ¬ ltF y x)) : DoR l add rem r 0 := by
  obtain ⟨a1, a2, rfl⟩ := hm.done
  have h3' : (nums l).Nodup := by simpa using h3
  have h4' : (nums (keepF rem l ++ add)).Nodup := by simpa using h4
  exact .inl ⟨rfl, ⟨h1, h2, h3', a1, a2, h4'⟩, hp, ltF_of ((hp.map PF.n).nodup_iff.2 h4') hs⟩
end Go.Proofs.YtimfcinkjjaigaaGreatDoor

/- The book of lists, bytes: forty marks more behind each list (growByte). No condition. -/
import Derived.Test.YtafanohpkbfknaaGreatDoorBook3
namespace Go.Proofs.YtafanohpkbfknaaGreatDoor
open Go.RowKit

/-- what stands beside the list that grows -/
def Oth (g hb m i : Nat) (bv : Value) (L G : Nat → Value) (u : Value) : Prop :=
  u = .slice (some ⟨g, 0, none⟩) 0 0 ∨ u = .slice (some ⟨hb, 0, none⟩) 0 0 ∨ u = bv ∨ (∃ j, j < m ∧ j ≠ i ∧ u = L j) ∨ (∃ j, j < i ∧ u = G j)
def marksB (n : Nat → Nat) (j : Nat) : List UInt8 := List.replicate (n j) (mkB j)
/-- the book, i of its lists grown -/
structure Gw (w : World) (base g m : Nat) (bv ev : Value) (L G : Nat → Value) (n : Nat → Nat) (i : Nat) : Prop where
  bk : Bk w base g m bv ev L G n (fun j => List.replicate (n j) (mkB j))
  own : ∀ j, j < i → Own w base 5 1 (G j) (n j + 40) (u8s (List.replicate (n j + 40) (mkB j)))
  nil : ∀ j, i ≤ j → G j = .slice none 0 0
  gg : ∀ j, j < i → (G j).ownBlock ≠ some g
  gb : ∀ j, j < i → ∀ b, (G j).ownBlock = some b → bv.ownBlock ≠ some b
  gl : ∀ j k, j < i → k < m → j ≠ k → ∀ b, (G j).ownBlock = some b → (L k).ownBlock ≠ some b
  gm : ∀ j k, j < i → k < i → j ≠ k → ∀ b, (G j).ownBlock = some b → (G k).ownBlock ≠ some b
theorem Gw.below {w w' : World} {base g m i : Nat} {bv ev : Value} {L G : Nat → Value} {n : Nat → Nat} (h : Gw w base g m bv ev L G n i) (hb : Below w.heap.size w w') : Gw w' base g m bv ev L G n i :=
  ⟨h.bk.below hb, fun j hj => own_below (h.own j hj) hb, h.nil, h.gg, h.gb, h.gl, h.gm⟩
theorem Gw.app {w w' : World} {base g hb m i nn : Nat} {bv ev v v' : Value} {L G : Nat → Value} {n : Nat → Nat} (h : Gw w base g m bv ev L G n i) (hG : Grew w w' base v v')
    (hle : ∀ (base2 : Nat) (u : Value) (n2 : Nat) (ws : List Value), Own w base2 5 1 u n2 ws → n2 ≤ nn → Own w' base2 5 1 u n2 ws) (hnn : n i ≤ nn) (hO : ∀ u, Oth g hb m i bv L G u → Apart w u v) : Gw w' base g m bv ev L G n i := by
  have hgv : some g ≠ v.ownBlock := fun e => (hO _ (.inl rfl) g rfl).2 e.symm
  have hsz : w.heap.size ≤ w'.heap.size := hG.rows.size
  refine ⟨⟨h.bk.blk.grown hG.rows hgv, hG.keep _ _ _ _ _ _ h.bk.own (hO _ (.inr (.inr (.inl rfl)))), fun j hj => ?_, h.bk.bg, h.bk.lg, h.bk.lb, h.bk.ap, fun j hj b e => Nat.lt_of_lt_of_le (h.bk.lw j hj b e) hsz⟩, fun j hj => ?_, h.nil, h.gg, h.gb, h.gl, h.gm⟩
  · by_cases e : j = i
    · subst e
      exact hle _ _ _ _ (h.bk.held j hj) hnn
    · exact hG.keep _ _ _ _ _ _ (h.bk.held j hj) (hO _ (.inr (.inr (.inr (.inl ⟨j, hj, e, rfl⟩)))))
  · exact hG.keep _ _ _ _ _ _ (h.own j hj) (hO _ (.inr (.inr (.inr (.inr ⟨j, hj, rfl⟩)))))
theorem Gw.start {w : World} {base g hb m i : Nat} {bv ev : Value} {L G : Nat → Value} {n : Nat → Nat} (h : Gw w base g m bv ev L G n i) (hi : i < m) (hhb : hb < w.heap.size) (hne : (L i).ownBlock ≠ some hb) : ∀ u, Oth g hb m i bv L G u → Apart w u (L i) := by
  rintro u (rfl | rfl | rfl | ⟨j, hj, hji, rfl⟩ | ⟨j, hj, rfl⟩) k hk
  · simp only [Value.ownBlock, Option.some.injEq] at hk
    subst hk
    exact ⟨h.bk.blk.lt, h.bk.lg i hi⟩
  · simp only [Value.ownBlock, Option.some.injEq] at hk
    subst hk
    exact ⟨hhb, hne⟩
  · exact ⟨(own_lt h.bk.own (by omega) k hk).2, fun e => h.bk.lb i hi k e hk⟩
  · exact ⟨h.bk.lw j hj k hk, h.bk.ap j i hj hi hji k hk⟩
  · exact ⟨(own_lt (h.own j hj) (by omega) k hk).2, h.gl j i hj hi (by omega) k hk⟩
theorem Gw.next {w : World} {base g hb m i b2 c2 : Nat} {ev long : Value} {L G : Nat → Value} {n : Nat → Nat} (h : Gw w base g m (.slice (some ⟨b2, 0, none⟩) m c2) ev L G n i) (hi : i < m)
    (hl : Own w base 5 1 long (n i + 40) (u8s (List.replicate (n i + 40) (mkB i)))) (hO : ∀ u, Oth g hb m i (.slice (some ⟨b2, 0, none⟩) m c2) L G u → Apart w u long) :
    Gw (w.setCell ⟨b2, i * 3 + 1, none⟩ long) base g m (.slice (some ⟨b2, 0, none⟩) m c2) ev L (fun j => if j = i then long else G j) n (i + 1) := by
  have hs := Only.set w b2 (i * 3 + 1) long
  have hbg : g ≠ b2 := fun e => h.bk.bg (by rw [e]; rfl)
  have hlb : long.ownBlock ≠ some b2 := (hO _ (.inr (.inr (.inl rfl))) b2 rfl).2
  have hlL : ∀ k, k < m → k ≠ i → ∀ b, long.ownBlock = some b → (L k).ownBlock ≠ some b := fun k hk hki b e e2 => (hO _ (.inr (.inr (.inr (.inl ⟨k, hk, hki, rfl⟩)))) b e2).2 e
  have hlG : ∀ k, k < i → ∀ b, long.ownBlock = some b → (G k).ownBlock ≠ some b := fun k hk b e e2 => (hO _ (.inr (.inr (.inr (.inr ⟨k, hk, rfl⟩)))) b e2).2 e
  refine ⟨⟨h.bk.blk.only hs hbg, ?_, fun j hj => own_kept (h.bk.held j hj) hs (.inr (fun e => h.bk.lb j hj b2 e rfl)), h.bk.bg, h.bk.lg, h.bk.lb, h.bk.ap, fun j hj b e => Nat.lt_of_lt_of_le (h.bk.lw j hj b e) hs.size⟩, fun j hj => ?_, fun j hj => ?_, fun j hj => ?_, fun j hj b e => ?_, fun j k hj hk hjk b e => ?_, fun j k hj hk hjk b e => ?_⟩
  · rw [← helds_set]
    exact own_storeG h.bk.own (i * 3 + 1) (by omega) long
  · by_cases e : j = i
    · subst e
      simp only [if_true]
      exact own_kept hl hs (.inr hlb)
    · simp only [if_neg e]
      exact own_kept (h.own j (by omega)) hs (.inr (fun e2 => h.gb j (by omega) b2 e2 rfl))
  · simp only [if_neg (by omega : ¬ j = i)]
    exact h.nil j (by omega)
  · by_cases e : j = i
    · simp only [if_pos e]
      exact (hO _ (.inl rfl) g rfl).2
    · simp only [if_neg e]
      exact h.gg j (by omega)
  · by_cases e2 : j = i
    · simp only [if_pos e2] at e
      intro e3
      exact (hO _ (.inr (.inr (.inl rfl))) b e3).2 e
    · simp only [if_neg e2] at e
      exact h.gb j (by omega) b e
  · by_cases e2 : j = i
    · simp only [if_pos e2] at e
      exact hlL k hk (fun e3 => hjk (by rw [e2, e3])) b e
    · simp only [if_neg e2] at e
      exact h.gl j k (by omega) hk hjk b e
  · by_cases e2 : j = i
    · simp only [if_pos e2] at e
      simp only [if_neg (fun e3 => hjk (by rw [e2, e3]) : ¬ k = i)]
      exact hlG k (by omega) b e
    · simp only [if_neg e2] at e
      by_cases e3 : k = i
      · simp only [if_pos e3]
        intro e4
        exact hlG j (by omega) b e4 e
      · simp only [if_neg e3]
        exact h.gm j k (by omega) (by omega) hjk b e
end Go.Proofs.YtafanohpkbfknaaGreatDoor

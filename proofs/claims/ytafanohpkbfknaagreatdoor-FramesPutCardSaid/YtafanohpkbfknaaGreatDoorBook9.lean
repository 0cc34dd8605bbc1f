/- The book of lists: lists of bytes are told one by one. No condition. -/
import Derived.Test.YtafanohpkbfknaaGreatDoorBook8
namespace Go.Proofs.YtafanohpkbfknaaGreatDoor
open Go.RowKit

/-- the book, m of the M lists told -/
structure KeepSt (w : World) (base g m M : Nat) (bv ev : Value) (L : Nat → Value) (n : Nat → Nat) (C : Nat → List UInt8) : Prop where
  blk : Blk w g (bkC m bv ev) 43
  own : Own w base 116 3 bv m (helds m L (fun _ => .slice none 0 0))
  bg : bv.ownBlock ≠ some g
  held : ∀ j, j < M → Own w base 5 1 (L j) (n j) (u8s (C j))
  lg : ∀ j, j < M → (L j).ownBlock ≠ some g
  apart : ∀ j, j < M → Apart w (L j) bv
theorem KeepSt.bk {w : World} {base g M : Nat} {bv ev : Value} {L : Nat → Value} {n : Nat → Nat} {C : Nat → List UInt8} (h : KeepSt w base g M M bv ev L n C) (ap : ∀ j k, j < M → k < M → j ≠ k → ∀ b, (L j).ownBlock = some b → (L k).ownBlock ≠ some b) :
    Bk w base g M bv ev L (fun _ => .slice none 0 0) n C :=
  ⟨h.blk, h.own, h.held, h.bg, h.lg, fun j hj b hb => (h.apart j hj b hb).2, ap, fun j hj b hb => (h.apart j hj b hb).1⟩
theorem KeepSt.new {w : World} {base M : Nat} {L : Nat → Value} {n : Nat → Nat} {C : Nat → List UInt8} (held : ∀ j, j < M → Own w base 5 1 (L j) (n j) (u8s (C j))) (lw : ∀ j, j < M → ∀ b, (L j).ownBlock = some b → b < w.heap.size) :
    KeepSt (w.alloc (.cells (bkC 0 (.slice none 0 0) (.slice none 0 0)) 43)) base w.heap.size 0 M (.slice none 0 0) (.slice none 0 0) L n C := by
  have hal : Below w.heap.size w (w.alloc (.cells (bkC 0 (.slice none 0 0) (.slice none 0 0)) 43)) := (Below.refl _ _).alloc (Nat.le_refl _) _
  refine ⟨Blk.new _ _ _, own_none _ _ _ _, by simp [Value.ownBlock], fun j hj => own_below (held j hj) hal, fun j hj e => by have := lw j hj _ e; omega, fun j hj b hb => ⟨Nat.lt_of_lt_of_le (lw j hj b hb) hal.size, by simp [Value.ownBlock]⟩⟩
set_option maxRecDepth 100000 in
set_option maxHeartbeats 1000000 in
theorem bytes_any (w : World) (base g m M : Nat) (bv ev : Value) (L : Nat → Value) (n : Nat → Nat) (C : Nat → List UInt8) (h : KeepSt w base g m M bv ev L n C) (hm : m ≤ 1000) (hmM : m < M) (hbase : base ≤ g) (l : Value) (hl : l = L m) :
    Calls Tryz.prog 16 #[.pointer (some ⟨g, 0, none⟩), l] w fun e w' => e = .returned (.tuple #[]) ∧ Hid (∃ bv', KeepSt w' base g (m + 1) M bv' ev L n C) ∧ Below base w w' := by
  have hsl : ∃ a k c, l = .slice a k c := by
    obtain ⟨b, c, e⟩ := (reads_of_own (h.held m hmM)).slice
    exact ⟨b, _, c, hl.trans e⟩
  have HKB := Lib.hid (keepByte_any w base g m bv ev L (fun _ => .slice none 0 0) l h.blk h.own h.bg hbase hm hsl)
  have H := Lib.hid h
  have HL := Lib.hid hl
  clear h hl
  obtain ⟨xa, xn, xc, rfl⟩ := hsl
  go_enter Tryz.func16, Tryz.ntmps16
  go_wp2_with fail
  refine HKB.out.mono ?_
  rintro e w' ⟨rfl, ba, bc, hb, ho, hne, hk⟩
  have HF : Hid (∃ bv', KeepSt w' base g (m + 1) M bv' ev L n C) := by
    refine ⟨.slice ba (m + 1) bc, hb.out, ?_, hne.out, fun j hj => ?_, H.out.lg, fun j hj => hk.out.apart _ (H.out.apart j hj)⟩
    · rw [helds_next, ← HL.out]; exact ho.out
    · exact hk.out.keep _ _ _ _ _ _ (H.out.held j hj) (H.out.apart j hj) (H.out.lg j hj)
  have HB := hk.out.below
  clear hb ho hne hk
  go_wp2
  go_end0
  exact ⟨rfl, HF, HB⟩
end Go.Proofs.YtafanohpkbfknaaGreatDoor

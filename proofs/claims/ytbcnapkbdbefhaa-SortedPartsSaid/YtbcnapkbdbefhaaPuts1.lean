/- Walks of the closure that ints.Put hands to digits: one byte more. The condition: fewer than 2^39 bytes. -/
import Derived.Test.YtbcnapkbdbefhaaMem
namespace Go.Proofs.Ytbcnapkbdbefhaa
open Go.RowKit

/-- a block that holds a slice of the call's own, which reads l -/
def Acc (w : World) (g : Nat) (l : List UInt8) : Prop :=
  ∃ v, w.cell? ⟨g, 0, none⟩ = some v ∧ w.frozen? ⟨g, 0, none⟩ = false ∧ v.oneCell' = true ∧ Own w (g + 1) 5 1 v l.length (u8s l)
def RetAcc (b g : Nat) (l : List UInt8) (w : World) (e : Ending) (w' : World) : Prop := e = .returned (.tuple #[]) ∧ Acc w' g l ∧ Below b w w'

theorem own_one {w : World} {base : Nat} {e : TypeId} {size : Nat} {v : Value} {n : Nat} {xs : List Value} (h : Own w base e size v n xs) : v.oneCell' = true := by
  rcases h with ⟨_, _, a, rfl⟩ | ⟨_, g, cap, cur, fr, rfl, _⟩ <;> rfl
theorem own_slice {w : World} {base : Nat} {e : TypeId} {size : Nat} {v : Value} {n : Nat} {xs : List Value} (h : Own w base e size v n xs) : ∃ a c, v = .slice a n c := by
  rcases h with ⟨rfl, _, a, rfl⟩ | ⟨_, g, cap, cur, fr, rfl, _⟩
  · exact ⟨_, _, rfl⟩
  · exact ⟨_, _, rfl⟩
theorem own_set {w : World} {base : Nat} {e : TypeId} {size : Nat} {v : Value} {n : Nat} {xs : List Value} (h : Own w base e size v n xs) (p : Addr) (hp : p.block < base) (u : Value) : Own (w.setCell p u) base e size v n xs := by
  rcases h with h | ⟨h1, g, cap, cur, fr, rfl, h3, h4, h5⟩
  · exact .inl h
  · refine .inr ⟨h1, g, cap, cur, fr, rfl, h3, ?_, h5⟩
    rw [Below.heap_setCell _ _ _ _ (by omega)]; exact h4
theorem cell_lt {w : World} {a : Addr} {v : Value} (h : w.cell? a = some v) : a.block < w.heap.size := by
  unfold World.cell? at h
  split at h
  · rename_i hh; exact (Array.getElem?_eq_some_iff.1 hh).1
  · cases h

set_option maxRecDepth 100000 in
set_option maxHeartbeats 1000000 in
theorem put1_any (w : World) (b g c : Nat) (l : List UInt8) (hc : c < 256) (hb : b ≤ g) (hl : l.length ≤ 549755813888) (ha : Acc w g l) :
    Calls Try.prog 49 #[.int .u8 c, .pointer (some ⟨g, 0, none⟩)] w (RetAcc b g (l ++ [UInt8.ofNat c]) w) := by
  obtain ⟨v, hcell, hfr, h1, hown⟩ := ha
  have hlt : g < w.heap.size := cell_lt hcell
  obtain ⟨sa, sc, rfl⟩ := own_slice hown
  have HO := Lib.hid hown
  clear hown
  go_enter Try.func49, Try.ntmps49
  go_wp2_with (at_builtin; go_loud (refine wp_app rfl _ _ rfl (g + 1) l.length 1 _ _ l [UInt8.ofNat c] rfl rfl (own_below HO.out ((Below.refl _ _).alloc (Nat.le_refl _) _)) (rd_one _ _ _ (by simp; omega) _) rfl (by omega) (by simp; omega) ?_); intro v' w' hown' hg hbel; go_loud (have hcell' := (hbel.cell (Nat.lt_succ_self g)).trans ((((Below.refl w.heap.size w).alloc (Nat.le_refl _) _).cell hlt).trans hcell); have hfr' := (hbel.frozen (Nat.lt_succ_self g)).trans ((((Below.refl w.heap.size w).alloc (Nat.le_refl _) _).frozen hlt).trans hfr); obtain ⟨ta, tc, rfl⟩ := own_slice hown'; have HO2 := Lib.hid hown'; have HG := Lib.hid hg; have HB := Lib.hid hbel; clear hown' hg hbel))
  go_end0
  refine ⟨rfl, ⟨_, World.cell?_setCell_same _ _ _ hcell', by rw [World.frozen?_setCell]; exact hfr', rfl, ?_⟩, ?_⟩
  · have e : (l ++ [UInt8.ofNat c]).length = l.length + 1 := by simp
    rw [e]
    exact own_set HO2.out _ (Nat.lt_succ_self g) _
  · exact Below.setCell (Below.trans ((Below.refl b w).alloc (by omega) _) (HB.out.mono (by omega))) hb _
end Go.Proofs.Ytbcnapkbdbefhaa

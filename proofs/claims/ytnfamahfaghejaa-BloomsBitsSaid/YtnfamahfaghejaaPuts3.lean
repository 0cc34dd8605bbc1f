/- Walks of ints.join and ints.Put: the bytes behind some, in memory of the call's own. The condition: a slice that reads as bytes, at most 2^38 of them. -/
import Derived.Test.YtnfamahfaghejaaConcat2
import Derived.Test.YtnfamahfaghejaaPuts2
namespace Go.Proofs.Ytnfamahfaghejaa
open Go.RowKit

theorem rd_slice {w : World} {v : Value} {l : List UInt8} (h : Rd w v l) : ∃ a c, v = .slice a l.length c := by
  obtain ⟨a, c, rfl, _⟩ := h
  exact ⟨_, _, rfl⟩
set_option maxRecDepth 100000 in
set_option maxHeartbeats 400000 in
theorem join_any (w : World) (g : Nat) (ls : List (List UInt8)) (hp : Parts w g ls) (hn : ls.length ≤ 1000) (hl : ls.flatten.length ≤ 549755813888) :
    Calls Try.prog 77 #[.slice (some ⟨g, 0, none⟩) ls.length ls.length] w (RetOwn ls.flatten w) := by
  go_enter Try.func77, Try.ntmps77
  go_wp2_with fail
  refine (concat_any w g ls hp hn hl).mono ?_
  rintro e w1 ⟨v, rfl, hown, hbel⟩
  have HO := Lib.hid hown
  clear hown
  go_wp2
  go_ret
  exact ⟨_, rfl, HO.out, hbel⟩

/-- two parts, in one new block -/
theorem join_two (w : World) (v1 v2 : Value) (l m : List UInt8) (h1 : Rd w v1 l) (h2 : Rd w v2 m) (hl : l.length + m.length ≤ 549755813888) (t : TypeId) (g : Nat) (hg : g = w.heap.size) :
    Calls Try.prog 77 #[.slice (some ⟨g, 0, none⟩) 2 2] (w.alloc (.cells #[v1, v2] t)) (RetOwn (l ++ m) w) := by
  subst hg
  have hb : Below w.heap.size w (w.alloc (.cells #[v1, v2] t)) := (Below.refl _ _).alloc (Nat.le_refl _) _
  have hj := join_any (w.alloc (.cells #[v1, v2] t)) w.heap.size [l, m] (by
    intro j h
    match j, h with
    | 0, _ => exact ⟨v1, by rw [World.cell?_alloc_at _ _ _ _ rfl]; rfl, h1.below hb⟩
    | 1, _ => exact ⟨v2, by rw [World.cell?_alloc_at _ _ _ _ rfl]; rfl, h2.below hb⟩
    | j + 2, h => exact absurd h (by simp)) (by simp) (by simpa using hl)
  refine hj.mono ?_
  rintro e w' ⟨v, rfl, hown, hbel⟩
  have e : [l, m].flatten = l ++ m := by simp
  rw [e] at hown
  exact ⟨v, rfl, own_mono hown (by simp), Below.trans hb (hbel.mono (by simp))⟩

theorem acc_new (w : World) (t : TypeId) : Acc (w.alloc (.cells #[.slice none 0 0] t)) w.heap.size [] :=
  ⟨.slice none 0 0, by rw [World.cell?_alloc_at _ _ _ _ rfl]; rfl, by simp, rfl, own_nil _ _ _ _⟩
set_option maxRecDepth 100000 in
set_option maxHeartbeats 1000000 in
theorem put_any (w : World) (v : Value) (l : List UInt8) (n : Nat) (hv : Rd w v l) (hn : n < 18446744073709551616) (hl : l.length ≤ 274877906944) :
    Calls Try.prog 47 #[v, .int .u64 n] w (RetOwn (l ++ vint n) w) := by
  obtain ⟨va, vc, rfl⟩ := rd_slice hv
  have hb0 : Below w.heap.size w (w.alloc (.cells #[.slice none 0 0] 25)) := (Below.refl _ _).alloc (Nat.le_refl _) _
  have hvl := vint_le n
  have HA := Lib.hid (acc_new w 25)
  go_enter Try.func47, Try.ntmps47
  go_wp2_with fail
  refine (digits_any _ w.heap.size w.heap.size n [] hn (Nat.le_refl _) (by simp; omega) HA.out).mono ?_
  rintro e w1 ⟨rfl, ⟨x, hc, hfr, h1, hown⟩, hb1⟩
  have hb := Below.trans hb0 hb1
  have hrd := hv.below hb
  have hrx := (rd_of_own hown).2
  rw [List.nil_append] at hrx
  have HR := Lib.hid hrd
  have HX := Lib.hid hrx
  obtain ⟨xa, xc, rfl⟩ := rd_slice hrx
  clear hown hrd hrx hv hb0 hb1 HA
  go_wp2_with fail
  refine (join_two w1 _ _ _ _ HR.out HX.out (by omega) _ _ rfl).mono ?_
  rintro e w2 ⟨y, rfl, hown, hb2⟩
  have HO := Lib.hid hown
  clear hown
  go_wp2
  go_ret
  exact ⟨_, rfl, own_mono HO.out hb.size, Below.trans hb (hb2.mono hb.size)⟩
end Go.Proofs.Ytnfamahfaghejaa

/- Walks of ints.PutFour and ints.PutText. The condition: a slice that reads as bytes, at most 2^37 of them; a text of at most 2^37 bytes. -/
import Derived.Test.YtnfamahfaghejaaPuts3
namespace Go.Proofs.Ytnfamahfaghejaa
open Go.RowKit

theorem rd_slice3 {w : World} {v : Value} {l : List UInt8} (h : Rd w v l) : ∃ a n c, v = .slice a n c := by
  obtain ⟨a, c, rfl, _⟩ := h
  exact ⟨_, _, _, rfl⟩
/-- the bytes of a literal -/
theorem rd_lit (w : World) (l : List UInt8) (cs : Array Value) (ty : TypeId) (n : Nat) (h : cs = (u8s l).toArray) (hn : n = l.length) (hl : l.length ≤ 9223372036854775807) (fr : Nat × Nat := (0, 0)) : Rd (w.alloc (.cells cs ty fr)) (.slice (some ⟨w.heap.size, 0, none⟩) n n) l := by
  subst h hn
  refine ⟨_, _, rfl, Nat.le_refl _, hl, fun j hj => ⟨_, _, rfl, ?_⟩⟩
  rw [cell_of_row _ w.heap.size _ (u8s l).toArray ty fr (heap_alloc_new w _)]
  simp [u8s, hj]

set_option maxRecDepth 100000 in
set_option maxHeartbeats 1000000 in
theorem putText_any (w : World) (v : Value) (l : List UInt8) (s : ByteArray) (hv : Rd w v l) (hs : s.size ≤ 137438953472) (hl : l.length ≤ 137438953472) :
    Calls Try.prog 48 #[v, .string s] w (RetOwn (l ++ (vint s.size ++ s.data.toList)) w) := by
  have HV := Lib.hid hv
  clear hv
  go_enter Try.func48, Try.ntmps48
  go_wp2_with fail
  have hvl := vint_le s.size
  refine (put_any w v l s.size HV.out (by omega) (by omega)).mono ?_
  rintro e w1 ⟨x, rfl, hx, hb1⟩
  have hrx := (rd_of_own hx).2
  obtain ⟨xa, xn, xc, rfl⟩ := rd_slice3 hrx
  have HX := Lib.hid hrx
  clear hx hrx
  go_wp2_with (with_reducible refine wp_bytes rfl _ rfl s rfl (by omega) ?_; intro y w2 hy hb2; have hry := (rd_of_own hy).2; have HY := Lib.hid hry; obtain ⟨ya, yn, yc, rfl⟩ := rd_slice3 hry; clear hy hry)
  refine (join_two w2 _ _ _ _ (HX.out.below hb2) HY.out (by
    have : s.data.toList.length = s.size := by rw [Array.length_toList]; rfl
    simp only [List.length_append]; omega) _ _ rfl).mono ?_
  rintro e w3 ⟨z, rfl, hown, hb3⟩
  rw [List.append_assoc] at hown
  have HO := Lib.hid hown
  clear hown
  go_wp2
  go_ret
  exact ⟨_, rfl, own_mono HO.out (Nat.le_trans hb1.size hb2.size), Below.trans hb1 (Below.trans (hb2.mono hb1.size) (hb3.mono (Nat.le_trans hb1.size hb2.size)))⟩
end Go.Proofs.Ytnfamahfaghejaa

/- Walks of package blooms and of its reference that read: the places of a key, May. The condition: texts of less than 2^40 bytes. -/
import Derived.Test.YtafanohpkbfknaaGreatDoorSums3
namespace Go.Proofs.YtafanohpkbfknaaGreatDoor
open Go.RowKit

/-- the i-th place of a key, of so many bits -/
def placeN (key : List UInt8) (bits i : Nat) : Nat := (crcOn 0 key + i * crcOn (crcOn 0 key) [1]) % 4294967296 % bits
theorem crcOn_more (l m : List UInt8) : crcOn (crcOn 0 l) m = crcOn 0 (l ++ m) := by
  have h := fold_lt l 4294967295 (by omega)
  unfold crcOn
  rw [List.foldl_append, Nat.sub_zero]
  congr 2
  omega
/-- is a bit of bytes set? -/
def bitAt (b : List UInt8) (p : Nat) : Bool := (b.getD (p / 8) 0).toNat / 2 ^ (p % 8) % 2 == 1

theorem rd_lit1 (w : World) (t : TypeId) : Rd (w.alloc (.cells #[.int .u8 1] t)) (.slice (some ⟨w.heap.size, 0, none⟩) 1 1) [1] := rd_one w 1 1 rfl t

theorem bit_words (d r : Nat) (hd : d < 256) : (bits BinOp.and IntKind.u8 ((d : Int) / 2 ^ r) 1 == 1) = (d / 2 ^ r % 2 == 1) := by
  have e : ((d : Int) / 2 ^ r) = ((d / 2 ^ r : Nat) : Int) := by simp
  have hl : d / 2 ^ r < 256 := Nat.lt_of_le_of_lt (Nat.div_le_self _ _) hd
  have h := u8_and_nat (d / 2 ^ r) 1 hl (by omega)
  rw [show ((1 : Nat) : Int) = 1 from rfl] at h
  rw [e, h, Nat.and_one_is_mod, Bool.eq_iff_iff]
  simp
  omega


/-- may a key be there, by n bytes of bits? -/
def mayAll (b key : List UInt8) (n : Nat) : Bool := (List.range 6).all fun i => bitAt b (placeN key (8 * n) i)
theorem placeN_lt (key : List UInt8) (bits i : Nat) (h : 0 < bits) : placeN key bits i < bits := Nat.mod_lt _ h
theorem all_next (f : Nat → Bool) (k : Nat) (h : ((List.range k).all f) = true) (hk : f k = true) : ((List.range (k + 1)).all f) = true := by
  rw [List.range_succ, List.all_append, h]; simp [hk]
theorem all_no (f : Nat → Bool) (k m : Nat) (hkm : k < m) (hk : f k = false) : ((List.range m).all f) = false := by
  rw [List.all_eq_false]
  exact ⟨k, by simpa using hkm, by simp [hk]⟩

end Go.Proofs.YtafanohpkbfknaaGreatDoor

/- Walks of the sum over bytes, of package sums and of its reference. No condition. -/
import Derived.Test.YtafanohpkbfknaaGreatDoorSums1
import Derived.Test.YtafanohpkbfknaaGreatDoorHelp1
namespace Go.Proofs.YtafanohpkbfknaaGreatDoor
open Go.RowKit

def cfold (n : Nat) (c : UInt8) : Nat := (n / 256) ^^^ ctab ((n % 256) ^^^ c.toNat)
def crcOn (s : Nat) (l : List UInt8) : Nat := 4294967295 - l.foldl cfold (4294967295 - s)
def TabAt (w : World) (g : Nat) : Prop := w.heap[g]? = some (.cells (tabCells 256) 108 (0, 0))

theorem cfold_lt (n : Nat) (c : UInt8) (h : n < 4294967296) : cfold n c < 4294967296 := by
  have hc := c.toNat_lt
  have hj : (n % 256) ^^^ c.toNat < 2 ^ 8 := Nat.xor_lt_two_pow (by omega) (by omega)
  have := ctab_lt ((n % 256) ^^^ c.toNat) (by omega)
  exact Nat.xor_lt_two_pow (n := 32) (by omega) (by omega)
theorem fold_lt (l : List UInt8) : ∀ n, n < 4294967296 → l.foldl cfold n < 4294967296 := by
  induction l with
  | nil => intro n h; exact h
  | cons c t ih => intro n h; exact ih _ (cfold_lt n c h)
theorem crcOn_lt (s : Nat) (l : List UInt8) : crcOn s l < 4294967296 := by unfold crcOn; omega
theorem fold_next (l : List UInt8) (k x : Nat) (h : k < l.length) : (l.drop k).foldl cfold x = (l.drop (k + 1)).foldl cfold (cfold x l[k]) := by
  rw [List.drop_eq_getElem_cons h]; rfl
/-- what one byte does, in the walk's words -/
theorem fold_words (x d : Nat) (hx : x < 4294967296) (hd : d < 256) : ∃ j : Nat, j < 256 ∧ (bits BinOp.xor IntKind.u8 ((x : Int) % 256) (d : Int) = (j : Int)) ∧
    bits BinOp.xor IntKind.u32 ((x : Int) / 256) ((ctab j : Nat) : Int) = ((cfold x (UInt8.ofNat d) : Nat) : Int) := by
  have hj : (x % 256) ^^^ d < 2 ^ 8 := Nat.xor_lt_two_pow (by omega) (by omega)
  refine ⟨(x % 256) ^^^ d, by omega, ?_, ?_⟩
  · rw [show ((x : Int) % 256) = ((x % 256 : Nat) : Int) from by omega]
    exact u8_xor_nat _ _ (by omega) hd
  · rw [show ((x : Int) / 256) = ((x / 256 : Nat) : Int) from by omega, u32_xor_nat _ _ (by omega) (ctab_lt _ (by omega))]
    simp only [cfold, toNat_ofNat d hd]
theorem not_words (x : Nat) (hx : x < 4294967296) : bits BinOp.xor IntKind.u32 4294967295 (x : Int) = ((4294967295 - x : Nat) : Int) := by
  have e := u32_xor_nat 4294967295 x (by omega) hx
  rw [show ((4294967295 : Nat) : Int) = 4294967295 from rfl] at e
  rw [e]
  congr 1
  have h := BitVec.toNat_not (x := BitVec.ofNat 32 x)
  have h2 : (BitVec.ofNat 32 x).toNat = x := by simp; omega
  have h4 : ∀ y : BitVec 32, ~~~ y = 4294967295#32 ^^^ y := by
    intro y
    apply BitVec.eq_of_getLsbD_eq
    intro i hi
    have h5 : ∀ i, i < 32 → (4294967295#32).getLsbD i = true := by decide
    rw [BitVec.getLsbD_not, BitVec.getLsbD_xor, h5 i hi]
    simp [hi]
  rw [h4, BitVec.toNat_xor, h2] at h
  simpa using h
theorem max_u32 : IntKind.u32.max = 4294967295 := by decide
theorem tab_cell {w : World} {g j : Nat} (h : TabAt w g) (hj : j < 256) : w.cell? ⟨g, j, none⟩ = some (.int .u32 ((ctab j : Nat) : Int)) := by
  rw [cell_of_row w g j _ _ (0, 0) h, tabCells_get _ _ hj, if_pos hj]
theorem tab_below {w w' : World} {g : Nat} (h : TabAt w g) (hb : Below w.heap.size w w') : TabAt w' g := by
  unfold TabAt at *
  rw [hb.block g (Array.getElem?_eq_some_iff.1 h).1]; exact h

set_option maxRecDepth 100000 in
set_option maxHeartbeats 400000 in
theorem sumsOn_any (g s : Nat) (v : Value) (l : List UInt8) (w : World) (hs : s < 4294967296) (ht : TabAt w g) (hv : Rd w v l) :
    Calls Tryz.prog 116 #[.pointer (some ⟨g, 0, none⟩), .int .u32 s, v] w fun e w' => e = .returned (.int .u32 ((crcOn s l : Nat) : Int)) ∧ w = w' := by
  obtain ⟨a, cap, rfl, h1, h2, h3⟩ := hv
  have HC := Lib.hid h3
  have HT := Lib.hid ht
  have hmx := max_u32
  have hnot := not_words s hs
  clear h3 ht
  go_enter Tryz.func116, Tryz.ntmps116
  go_wp2
  clear hnot hmx
  go_loop [7, 9, 16] (fun n _ c => ∃ k x : Nat, k ≤ l.length ∧ c = .int .i64 k ∧ n = .int .u32 x ∧ x < 4294967296 ∧ Hid ((l.drop k).foldl cfold x = l.foldl cfold (4294967295 - s))) (fun _ _ c => l.length - (intOf c).toNat)
  case atStart => exact ⟨0, 4294967295 - s, by omega, rfl, rfl, by omega, rfl⟩
  case round =>
    obtain ⟨k, x, hk, rfl, rfl, hx, HX⟩ := hrel
    by_cases hlt : k < l.length
    · obtain ⟨b, off, rfl, hc⟩ := HC.out k hlt
      obtain ⟨d, hd⟩ : ∃ d : Nat, d = l[k].toNat := ⟨_, rfl⟩
      rw [← hd] at hc
      have HD : Hid (UInt8.ofNat d = l[k]) := by show _ = _; rw [hd]; simp
      have hd256 : d < 256 := by rw [hd]; exact UInt8.toNat_lt _
      clear hd
      obtain ⟨j, hj, hix, hxx⟩ := fold_words x d hx hd256
      have hcj := tab_cell HT.out hj
      go_wp2
      refine ⟨⟨k + 1, cfold x (UInt8.ofNat d), by omega, by go_num, rfl, cfold_lt _ _ hx, ?_⟩, by simp [intOf]; omega⟩
      show _ = _
      rw [HD.out, ← fold_next l k x hlt]; exact HX.out
    · have HE : Hid (x = l.foldl cfold (4294967295 - s)) := by
        show _ = _
        rw [← HX.out, List.drop_of_length_le (by omega)]; rfl
      have hmx := max_u32
      have hnot := not_words x hx
      go_wp2
      go_ret
      exact ⟨ret_int (by rw [HE.out]; rfl), rfl⟩
end Go.Proofs.YtafanohpkbfknaaGreatDoor

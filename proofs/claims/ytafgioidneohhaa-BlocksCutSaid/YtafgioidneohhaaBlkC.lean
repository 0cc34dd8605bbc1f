/- Blocks, plain: bytes of a block of which some are missing, one stands behind, or the last place is another. No program stands in this text; no condition. -/
import Derived.Test.YtafgioidneohhaaBlkR
namespace Go.Proofs.Ytafgioidneohhaa
open Go.RowKit

theorem no_more {E : List Ent} (hm : mayL E = true) (hs : ∀ x ∈ E, x.seq < 18446744073709551616) (c : UInt8) (F : List Ent) (hm2 : mayL F = true) (hs2 : ∀ x ∈ F, x.seq < 18446744073709551616) : blkPut F ≠ blkPut E ++ [c] := by
  intro h
  have e := blk_prefix hm hs hm2 hs2 [c] h.symm
  rw [← e] at h
  have := congrArg List.length h
  simp at this
theorem no_less {E : List Ent} (hm : mayL E = true) (hs : ∀ x ∈ E, x.seq < 18446744073709551616) (j : Nat) (hj : j < (blkPut E).length) (F : List Ent) (hm2 : mayL F = true) (hs2 : ∀ x ∈ F, x.seq < 18446744073709551616) : blkPut F ≠ (blkPut E).take j := by
  intro h
  have e := blk_prefix hm2 hs2 hm hs ((blkPut E).drop j) (by rw [h, List.take_append_drop])
  rw [e] at h
  have := congrArg List.length h
  rw [List.length_take] at this
  omega
theorem take_set' (l : List UInt8) (i k : Nat) (a : UInt8) (h : k ≤ i) : (l.set i a).take k = l.take k := by
  apply List.ext_getElem?
  intro j
  simp only [List.getElem?_take]
  split
  · rw [List.getElem?_set_ne (by omega)]
  · rfl
theorem getD_set' (l : List UInt8) (i k : Nat) (a : UInt8) (h : k ≠ i) : (l.set i a).getD k 0 = l.getD k 0 := by
  rw [List.getD_eq_getElem?_getD, List.getD_eq_getElem?_getD, List.getElem?_set_ne (fun e => h e.symm)]
theorem no_other {E : List Ent} (hm : mayL E = true) (hs : ∀ x ∈ E, x.seq < 18446744073709551616) (n : Nat) (hn : n = (blkPut E).length) (c1 c2 : UInt8) (F : List Ent) (hm2 : mayL F = true) (hs2 : ∀ x ∈ F, x.seq < 18446744073709551616)
    (h : blkPut F = ((blkPut E).set (n - 4) c1).set (n - 3) c2) : blkPut F = blkPut E := by
  have h9 := blk_nine hm
  have hb := blk_cut hm rfl
  have hf := blk_cut hm2 h
  have hlen : (((blkPut E).set (n - 4) c1).set (n - 3) c2).length = (blkPut E).length := by rw [List.length_set, List.length_set]
  have hnum : numB (((blkPut E).set (n - 4) c1).set (n - 3) c2) = numB (blkPut E) := by
    unfold numB
    rw [hlen, getD_set' _ _ _ _ (by omega), getD_set' _ _ _ _ (by omega), getD_set' _ _ _ _ (by omega), getD_set' _ _ _ _ (by omega)]
  have hE := (mayL_iff E).1 hm
  have hnb : 1 ≤ numB (blkPut E) := by
    have : numB (blkPut E) = (placesN E E.length).length := by rw [blkPut]; exact two_num _ (by rw [placesN_length]; omega) _
    rw [this, placesN_length]
    omega
  have h3 := hf.2.2
  rw [hlen, hnum, take_set' _ _ _ _ (by omega), take_set' _ _ _ _ (by omega), hb.2.2] at h3
  have e : E = F := body_eq (okE_of hm hs) (okE_of hm2 hs2) (R := [0, 0]) (S := [0, 0]) (by rw [h3]) rfl rfl
  rw [e]
end Go.Proofs.Ytafgioidneohhaa

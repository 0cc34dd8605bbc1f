/- Walk of law01.alive: the answers that the document fixes. No condition. -/
import Derived.Test.YtdamfcldkaidjaaPuts4
import Derived.Lib.SlBytesConst
namespace Go.Proofs.Ytdamfcldkaidjaa
open Go.RowKit

def RetTrue (w : World) (e : Ending) (w' : World) : Prop := e = .returned (.bool true) ∧ Below w.heap.size w w'
theorem g1 : vget [172, 2, 7] = (300, 2, 0) := by decide
theorem g2 : vget [128] = (0, 0, 5) := by decide
theorem g3 : vget [128, 0] = (0, 0, 4) := by decide
theorem g4 : fget [0, 0, 1, 2, 9] = (258, 0) := by decide
theorem g5 : tget [2, 97, 98, 99] = ([97, 98], 3, 0) := by decide
theorem g6 : tget [3, 97, 98] = ([], 0, 5) := by decide
theorem u8s_lit (l : List UInt8) (cs : Array Value) (h : cs.toList = u8s l) : cs = (u8s l).toArray := by rw [← h]

theorem rd_nil (w : World) : Rd w (.slice none 0 0) [] := ⟨none, 0, rfl, by simp, by omega, fun j hj => absurd hj (by simp)⟩
set_option maxRecDepth 100000 in
set_option maxHeartbeats 4000000 in
theorem alive01_any (w : World) : Calls Try.prog 61 #[] w (RetTrue w) := by
  have kc := fun (w : World) (C : Array Value) (n c : Nat) => Lib.run_convert_bytes_const (P := Try.prog) w 22 5 C n c Try.underlying22 Try.underlying5
  go_enter Try.func61, Try.ntmps61
  go_wp2_with fail
  refine (intsGet_any _ [172, 2, 7] _ (rd_lit w [172, 2, 7] _ _ 3 (by simp [u8s]) rfl (by decide))).mono ?_
  rintro e w1 ⟨rfl, rfl⟩
  rw [g1]
  have hb : Below w.heap.size w (w.alloc (.cells #[.int .u8 172, .int .u8 2, .int .u8 7] 5)) := (Below.refl _ _).alloc (Nat.le_refl _) _
  generalize w.alloc (.cells #[.int .u8 172, .int .u8 2, .int .u8 7] 5) = w1 at hb ⊢
  go_wp2_with fail
  refine (intsGet_any _ [128] _ (rd_lit w1 [128] _ _ 1 (by simp [u8s]) rfl (by decide))).mono ?_
  rintro e w2 ⟨rfl, rfl⟩
  rw [g2]
  replace hb : Below w.heap.size w _ := hb.alloc hb.size (.cells #[.int .u8 128] 5)
  generalize w1.alloc (.cells #[.int .u8 128] 5) = w2 at hb ⊢
  go_wp2_with fail
  refine (intsGet_any _ [128, 0] _ (rd_lit w2 [128, 0] _ _ 2 (by simp [u8s]) rfl (by decide))).mono ?_
  rintro e w3 ⟨rfl, rfl⟩
  rw [g3]
  replace hb : Below w.heap.size w _ := hb.alloc hb.size (.cells #[.int .u8 128, .int .u8 0] 5)
  generalize w2.alloc (.cells #[.int .u8 128, .int .u8 0] 5) = w3 at hb ⊢
  go_wp2_with fail
  refine (intsGetFour_any _ [0, 0, 1, 2, 9] _ (rd_lit w3 [0, 0, 1, 2, 9] _ _ 5 (by simp [u8s]) rfl (by decide))).mono ?_
  rintro e w4 ⟨rfl, rfl⟩
  rw [g4]
  replace hb : Below w.heap.size w _ := hb.alloc hb.size (.cells #[.int .u8 0, .int .u8 0, .int .u8 1, .int .u8 2, .int .u8 9] 5)
  generalize w3.alloc (.cells #[.int .u8 0, .int .u8 0, .int .u8 1, .int .u8 2, .int .u8 9] 5) = w4 at hb ⊢
  go_wp2_with fail
  refine (intsGetText_any _ [2, 97, 98, 99] _ (rd_lit w4 [2, 97, 98, 99] _ _ 4 (by simp [u8s]) rfl (by decide) (4, 5))).mono ?_
  rintro e w5 ⟨rfl, rfl⟩
  rw [g5]
  replace hb : Below w.heap.size w _ := hb.alloc hb.size (.cells #[.int .u8 2, .int .u8 97, .int .u8 98, .int .u8 99] 5 (4, 5))
  generalize w4.alloc (.cells #[.int .u8 2, .int .u8 97, .int .u8 98, .int .u8 99] 5 (4, 5)) = w5 at hb ⊢
  rw [show bs ([97, 98], 3, 0).fst = ⟨#[97, 98]⟩ from rfl]
  go_wp2_with fail
  refine (intsGetText_any _ [3, 97, 98] _ (rd_lit w5 [3, 97, 98] _ _ 3 (by simp [u8s]) rfl (by decide) (3, 4))).mono ?_
  rintro e w6 ⟨rfl, rfl⟩
  rw [g6]
  replace hb : Below w.heap.size w _ := hb.alloc hb.size (.cells #[.int .u8 3, .int .u8 97, .int .u8 98] 5 (3, 4))
  generalize w5.alloc (.cells #[.int .u8 3, .int .u8 97, .int .u8 98] 5 (3, 4)) = w6 at hb ⊢
  generalize bs ([], 0, 5).fst = none0 at ⊢
  go_wp2_with fail
  refine (put_any _ _ [9] 128 (rd_lit w6 [9] _ _ 1 (by simp [u8s]) rfl (by decide)) (by decide) (by decide)).mono ?_
  rintro e w7 ⟨v, rfl, hown, hb2⟩
  have hs7 := run_str (rd_of_own hown).2
  rw [show bs ([9] ++ vint 128) = ⟨#[9, 128, 1]⟩ from rfl] at hs7
  replace hb := Below.trans (hb.alloc hb.size _) (hb2.mono (hb.alloc hb.size _).size)
  clear hown hb2
  go_wp2_with fail
  clear hs7
  refine (putFour_any _ _ [7] 258 (rd_lit w7 [7] _ _ 1 (by simp [u8s]) rfl (by decide)) (by decide) (by decide)).mono ?_
  rintro e w8 ⟨v8, rfl, hown, hb2⟩
  have hs8 := run_str (rd_of_own hown).2
  rw [show bs ([7] ++ four 258) = ⟨#[7, 0, 0, 1, 2]⟩ from rfl] at hs8
  replace hb := Below.trans (hb.alloc hb.size _) (hb2.mono (hb.alloc hb.size _).size)
  clear hown hb2
  go_wp2_with fail
  clear hs8
  refine (putText_any _ _ [] _ (rd_nil w8) (by decide) (by decide)).mono ?_
  rintro e w9 ⟨v9, rfl, hown, hb2⟩
  have hs9 := run_str (rd_of_own hown).2
  rw [show bs ([] ++ (vint (ByteArray.mk #[97, 98]).size ++ (ByteArray.mk #[97, 98]).data.toList)) = ⟨#[2, 97, 98]⟩ from rfl] at hs9
  replace hb := Below.trans hb (hb2.mono hb.size)
  clear hown hb2
  go_wp2
  go_ret
  exact ⟨rfl, hb⟩
end Go.Proofs.Ytdamfcldkaidjaa

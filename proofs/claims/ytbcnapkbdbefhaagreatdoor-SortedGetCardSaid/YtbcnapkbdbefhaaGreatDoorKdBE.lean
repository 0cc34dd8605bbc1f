/- Walk of law01.Book.Apart: lists of bytes and entries. No condition. -/
import Derived.Test.YtbcnapkbdbefhaaGreatDoorKindA
import Derived.Test.YtbcnapkbdbefhaaGreatDoorKdNone
import Derived.Test.YtbcnapkbdbefhaaGreatDoorKdByte
import Derived.Test.YtbcnapkbdbefhaaGreatDoorKdEntry
namespace Go.Proofs.YtbcnapkbdbefhaaGreatDoor
open Go.RowKit

set_option maxRecDepth 100000 in
set_option maxHeartbeats 400000 in
theorem fillId_none (w : World) (g : Nat) (hc : w.cell? ⟨g, 2, none⟩ = some (.slice none 0 0)) : Calls Tryz.prog 34 #[.pointer (some ⟨g, 0, none⟩)] w fun e w' => e = .returned (.tuple #[]) ∧ w' = w := by
  go_enter Tryz.func34, Tryz.ntmps34
  go_wp2_with fail
  try show Code.wp _ _ _ _ _
  go_loopw [2, 3, 4] (fun iv _ _ wr => iv = .int .i64 0 ∧ wr = w) (fun _ _ _ _ => 0)
  case atStart => exact ⟨rfl, rfl⟩
  case round =>
    obtain ⟨rfl, rfl⟩ := hrel
    go_wp2_with fail
    go_end0
    exact ⟨rfl, rfl⟩
set_option maxRecDepth 100000 in
set_option maxHeartbeats 400000 in
theorem fillText_none (w : World) (g : Nat) (hc : w.cell? ⟨g, 5, none⟩ = some (.slice none 0 0)) : Calls Tryz.prog 37 #[.pointer (some ⟨g, 0, none⟩)] w fun e w' => e = .returned (.tuple #[]) ∧ w' = w := by
  go_enter Tryz.func37, Tryz.ntmps37
  go_wp2_with fail
  try show Code.wp _ _ _ _ _
  go_loopw [2, 3, 4] (fun iv _ _ wr => iv = .int .i64 0 ∧ wr = w) (fun _ _ _ _ => 0)
  case atStart => exact ⟨rfl, rfl⟩
  case round =>
    obtain ⟨rfl, rfl⟩ := hrel
    go_wp2_with fail
    go_end0
    exact ⟨rfl, rfl⟩
set_option maxRecDepth 100000 in
set_option maxHeartbeats 400000 in
theorem fillFile_none (w : World) (g : Nat) (hc : w.cell? ⟨g, 9, none⟩ = some (.slice none 0 0)) : Calls Tryz.prog 41 #[.pointer (some ⟨g, 0, none⟩)] w fun e w' => e = .returned (.tuple #[]) ∧ w' = w := by
  go_enter Tryz.func41, Tryz.ntmps41
  go_wp2_with fail
  try show Code.wp _ _ _ _ _
  go_loopw [2, 3, 4] (fun iv _ _ wr => iv = .int .i64 0 ∧ wr = w) (fun _ _ _ _ => 0)
  case atStart => exact ⟨rfl, rfl⟩
  case round =>
    obtain ⟨rfl, rfl⟩ := hrel
    go_wp2_with fail
    go_end0
    exact ⟨rfl, rfl⟩
set_option maxRecDepth 100000 in
set_option maxHeartbeats 400000 in
theorem growId_none (w : World) (g : Nat) (hc : w.cell? ⟨g, 2, none⟩ = some (.slice none 0 0)) : Calls Tryz.prog 47 #[.pointer (some ⟨g, 0, none⟩)] w fun e w' => e = .returned (.tuple #[]) ∧ w' = w := by
  go_enter Tryz.func47, Tryz.ntmps47
  go_wp2_with fail
  try show Code.wp _ _ _ _ _
  go_loopw [2, 3, 4, 5] (fun iv _ _ _ wr => iv = .int .i64 0 ∧ wr = w) (fun _ _ _ _ _ => 0)
  case atStart => exact ⟨rfl, rfl⟩
  case round =>
    obtain ⟨rfl, rfl⟩ := hrel
    go_wp2_with fail
    go_end0
    exact ⟨rfl, rfl⟩
set_option maxRecDepth 100000 in
set_option maxHeartbeats 400000 in
theorem growText_none (w : World) (g : Nat) (hc : w.cell? ⟨g, 5, none⟩ = some (.slice none 0 0)) : Calls Tryz.prog 50 #[.pointer (some ⟨g, 0, none⟩)] w fun e w' => e = .returned (.tuple #[]) ∧ w' = w := by
  go_enter Tryz.func50, Tryz.ntmps50
  go_wp2_with fail
  try show Code.wp _ _ _ _ _
  go_loopw [2, 3, 4, 5] (fun iv _ _ _ wr => iv = .int .i64 0 ∧ wr = w) (fun _ _ _ _ _ => 0)
  case atStart => exact ⟨rfl, rfl⟩
  case round =>
    obtain ⟨rfl, rfl⟩ := hrel
    go_wp2_with fail
    go_end0
    exact ⟨rfl, rfl⟩
set_option maxRecDepth 100000 in
set_option maxHeartbeats 400000 in
theorem growFile_none (w : World) (g : Nat) (hc : w.cell? ⟨g, 9, none⟩ = some (.slice none 0 0)) : Calls Tryz.prog 54 #[.pointer (some ⟨g, 0, none⟩)] w fun e w' => e = .returned (.tuple #[]) ∧ w' = w := by
  go_enter Tryz.func54, Tryz.ntmps54
  go_wp2_with fail
  try show Code.wp _ _ _ _ _
  go_loopw [2, 3, 4, 5] (fun iv _ _ _ wr => iv = .int .i64 0 ∧ wr = w) (fun _ _ _ _ _ => 0)
  case atStart => exact ⟨rfl, rfl⟩
  case round =>
    obtain ⟨rfl, rfl⟩ := hrel
    go_wp2_with fail
    go_end0
    exact ⟨rfl, rfl⟩
set_option maxRecDepth 100000 in
set_option maxHeartbeats 400000 in
theorem lookId_none (w : World) (g : Nat) (hc : w.cell? ⟨g, 2, none⟩ = some (.slice none 0 0)) : Calls Tryz.prog 60 #[.pointer (some ⟨g, 0, none⟩)] w fun e w' => e = .returned (.bool true) ∧ w' = w := by
  go_enter Tryz.func60, Tryz.ntmps60
  go_wp2_with fail
  try show Code.wp _ _ _ _ _
  go_loopw [3, 4, 5] (fun iv _ _ wr => iv = .int .i64 0 ∧ wr = w) (fun _ _ _ _ => 0)
  case atStart => exact ⟨rfl, rfl⟩
  case round =>
    obtain ⟨rfl, rfl⟩ := hrel
    go_wp2_with fail
    go_ret
    exact ⟨rfl, rfl⟩
set_option maxRecDepth 100000 in
set_option maxHeartbeats 400000 in
theorem lookText_none (w : World) (g : Nat) (hc : w.cell? ⟨g, 5, none⟩ = some (.slice none 0 0)) : Calls Tryz.prog 63 #[.pointer (some ⟨g, 0, none⟩)] w fun e w' => e = .returned (.bool true) ∧ w' = w := by
  go_enter Tryz.func63, Tryz.ntmps63
  go_wp2_with fail
  try show Code.wp _ _ _ _ _
  go_loopw [3, 4, 5] (fun iv _ _ wr => iv = .int .i64 0 ∧ wr = w) (fun _ _ _ _ => 0)
  case atStart => exact ⟨rfl, rfl⟩
  case round =>
    obtain ⟨rfl, rfl⟩ := hrel
    go_wp2_with fail
    go_ret
    exact ⟨rfl, rfl⟩
set_option maxRecDepth 100000 in
set_option maxHeartbeats 400000 in
theorem lookFile_none (w : World) (g : Nat) (hc : w.cell? ⟨g, 9, none⟩ = some (.slice none 0 0)) : Calls Tryz.prog 67 #[.pointer (some ⟨g, 0, none⟩)] w fun e w' => e = .returned (.bool true) ∧ w' = w := by
  go_enter Tryz.func67, Tryz.ntmps67
  go_wp2_with fail
  try show Code.wp _ _ _ _ _
  go_loopw [3, 4, 5] (fun iv _ _ wr => iv = .int .i64 0 ∧ wr = w) (fun _ _ _ _ => 0)
  case atStart => exact ⟨rfl, rfl⟩
  case round =>
    obtain ⟨rfl, rfl⟩ := hrel
    go_wp2_with fail
    go_ret
    exact ⟨rfl, rfl⟩
set_option maxRecDepth 100000 in
set_option maxHeartbeats 8000000 in
theorem apartBE_any (w : World) (base g M : Nat) (f : Nat → Value) (m1 : Nat) (L1 : Nat → Value) (u1 n1 : Nat → Nat) (C1 : Nat → List Value) (S1 : Nat → Prop) (m8 : Nat) (L8 : Nat → Value) (u8 n8 : Nat → Nat) (C8 : Nat → List Value) (S8 : Nat → Prop)
    (hB : Blk w g (bkF M f) 54) (hbw : base ≤ w.heap.size) (z2 : f 2 = .slice none 0 0) (z3 : f 3 = .slice none 0 0) (z4 : f 4 = .slice none 0 0) (z5 : f 5 = .slice none 0 0) (z6 : f 6 = .slice none 0 0) (z7 : f 7 = .slice none 0 0) (z9 : f 9 = .slice none 0 0) (z10 : f 10 = .slice none 0 0) (z11 : f 11 = .slice none 0 0) (z12 : f 12 = .slice none 0 0) (z13 : f 13 = .slice none 0 0)
    (k1 : KSt w base g 100 5 1 m1 (f 1) L1 (fun _ => .slice none 0 0) u1 n1 C1 S1) (hm1 : m1 ≤ 1000) (hu1 : ∀ j, j < m1 → u1 j < 10) (hn1 : ∀ j, j < m1 → n1 j ≤ 1000000000)
    (k8 : KSt w base g 102 34 4 m8 (f 8) L8 (fun _ => .slice none 0 0) u8 n8 C8 S8) (hm8 : m8 ≤ 1000) (hu8 : ∀ j, j < m8 → u8 j < 10) (hn8 : ∀ j, j < m8 → n8 j ≤ 1000000000)
    (d1_8 : ∀ b, S1 b → ¬ S8 b) (d8_1 : ∀ b, S8 b → ¬ S1 b) :
    Calls Tryz.prog 16 #[.pointer (some ⟨g, 0, none⟩)] w fun e w' => e = .returned (.bool true) ∧ Below base w w' := by
  have HU1 := Lib.hid hu1
  have HN1 := Lib.hid hn1
  have HSB1 : Hid (∀ b, S1 b → base ≤ b ∧ b < w.heap.size) := Lib.hid k1.sb
  have HSG1 := Lib.hid k1.sg
  have HK1 := Lib.hid k1
  clear hu1 hn1 k1
  have HU8 := Lib.hid hu8
  have HN8 := Lib.hid hn8
  have HSB8 : Hid (∀ b, S8 b → base ≤ b ∧ b < w.heap.size) := Lib.hid k8.sb
  have HSG8 := Lib.hid k8.sg
  have HK8 := Lib.hid k8
  clear hu8 hn8 k8
  have D1_8 := Lib.hid d1_8
  clear d1_8
  have D8_1 := Lib.hid d8_1
  clear d8_1
  have HBK := Lib.hid hB
  have HBL := Lib.hid (Below.refl base w)
  have HSZ : Hid (w.heap.size ≤ w.heap.size) := Lib.hid (Nat.le_refl _)
  have Z2 : Hid ((bkF M f)[2]? = some (.slice none 0 0)) := Lib.hid (by show some (f 2) = _; rw [z2])
  clear z2
  have Z3 : Hid ((bkF M f)[3]? = some (.slice none 0 0)) := Lib.hid (by show some (f 3) = _; rw [z3])
  clear z3
  have Z4 : Hid ((bkF M f)[4]? = some (.slice none 0 0)) := Lib.hid (by show some (f 4) = _; rw [z4])
  clear z4
  have Z5 : Hid ((bkF M f)[5]? = some (.slice none 0 0)) := Lib.hid (by show some (f 5) = _; rw [z5])
  clear z5
  have Z6 : Hid ((bkF M f)[6]? = some (.slice none 0 0)) := Lib.hid (by show some (f 6) = _; rw [z6])
  clear z6
  have Z7 : Hid ((bkF M f)[7]? = some (.slice none 0 0)) := Lib.hid (by show some (f 7) = _; rw [z7])
  clear z7
  have Z9 : Hid ((bkF M f)[9]? = some (.slice none 0 0)) := Lib.hid (by show some (f 9) = _; rw [z9])
  clear z9
  have Z10 : Hid ((bkF M f)[10]? = some (.slice none 0 0)) := Lib.hid (by show some (f 10) = _; rw [z10])
  clear z10
  have Z11 : Hid ((bkF M f)[11]? = some (.slice none 0 0)) := Lib.hid (by show some (f 11) = _; rw [z11])
  clear z11
  have Z12 : Hid ((bkF M f)[12]? = some (.slice none 0 0)) := Lib.hid (by show some (f 12) = _; rw [z12])
  clear z12
  have Z13 : Hid ((bkF M f)[13]? = some (.slice none 0 0)) := Lib.hid (by show some (f 13) = _; rw [z13])
  clear z13
  have F1 : Hid ((bkF M f)[1]? = some (f 1)) := Lib.hid rfl
  have F8 : Hid ((bkF M f)[8]? = some (f 8)) := Lib.hid rfl
  generalize bkF M f = B at HBK Z2 Z3 Z4 Z5 Z6 Z7 Z9 Z10 Z11 Z12 Z13 F1 F8
  generalize f 1 = bv1 at HK1 F1
  generalize f 8 = bv8 at HK8 F8
  clear hB
  go_enter Tryz.func16, Tryz.ntmps16
  have HC := Lib.hid (fillByte_any w base g m1 B bv1 L1 u1 n1 C1 S1 HBK.out F1.out HK1.out hm1 HU1.out)
  go_wp2_with fail
  refine HC.out.mono ?_
  rintro e w1 ⟨rfl, HKN, HFR⟩
  clear HC HK1
  have HK1 := HKN
  clear HKN
  have HK8 := Lib.hid (HK8.out.fr HFR.out D8_1.out)
  have HBK := Lib.hid (HFR.out.blk HBK.out HSG1.out)
  have HBL := Lib.hid (HBL.out.trans (HFR.out.below (fun b h => (HSB1.out b h).1) (Nat.le_trans hbw HSZ.out)))
  have HSZ := Lib.hid (Nat.le_trans HSZ.out HFR.out.size)
  clear HFR
  go_wp2_with fail
  refine (fillId_none _ g (HBK.out.cellv 2 _ Z2.out)).mono ?_
  rintro e w1 ⟨rfl, rfl⟩
  go_wp2_with fail
  refine (fillNum_none _ g (HBK.out.cellv 3 _ Z3.out)).mono ?_
  rintro e w1 ⟨rfl, rfl⟩
  go_wp2_with fail
  refine (fillInt_none _ g (HBK.out.cellv 4 _ Z4.out)).mono ?_
  rintro e w1 ⟨rfl, rfl⟩
  go_wp2_with fail
  refine (fillText_none _ g (HBK.out.cellv 5 _ Z5.out)).mono ?_
  rintro e w1 ⟨rfl, rfl⟩
  go_wp2_with fail
  refine (fillRow_none _ g (HBK.out.cellv 6 _ Z6.out)).mono ?_
  rintro e w1 ⟨rfl, rfl⟩
  go_wp2_with fail
  refine (fillChange_none _ g (HBK.out.cellv 7 _ Z7.out)).mono ?_
  rintro e w1 ⟨rfl, rfl⟩
  have HC := Lib.hid (fillEntry_any w1 base g m8 B bv8 L8 u8 n8 C8 S8 HBK.out F8.out HK8.out hm8 HU8.out)
  go_wp2_with fail
  refine HC.out.mono ?_
  rintro e w2 ⟨rfl, HKN, HFR⟩
  clear HC HK8
  have HK8 := HKN
  clear HKN
  have HK1 := Lib.hid (HK1.out.fr HFR.out D1_8.out)
  have HBK := Lib.hid (HFR.out.blk HBK.out HSG8.out)
  have HBL := Lib.hid (HBL.out.trans (HFR.out.below (fun b h => (HSB8.out b h).1) (Nat.le_trans hbw HSZ.out)))
  have HSZ := Lib.hid (Nat.le_trans HSZ.out HFR.out.size)
  clear HFR
  go_wp2_with fail
  refine (fillFile_none _ g (HBK.out.cellv 9 _ Z9.out)).mono ?_
  rintro e w2 ⟨rfl, rfl⟩
  go_wp2_with fail
  refine (fillItem_none _ g (HBK.out.cellv 10 _ Z10.out)).mono ?_
  rintro e w2 ⟨rfl, rfl⟩
  go_wp2_with fail
  refine (fillSaid_none _ g (HBK.out.cellv 11 _ Z11.out)).mono ?_
  rintro e w2 ⟨rfl, rfl⟩
  go_wp2_with fail
  refine (fillMsg_none _ g (HBK.out.cellv 12 _ Z12.out)).mono ?_
  rintro e w2 ⟨rfl, rfl⟩
  go_wp2_with fail
  refine (fillEvent_none _ g (HBK.out.cellv 13 _ Z13.out)).mono ?_
  rintro e w2 ⟨rfl, rfl⟩
  have HC := Lib.hid (growByte_any w2 base g m1 B bv1 L1 u1 n1 S1 HBK.out F1.out HK1.out hm1 HU1.out (Nat.le_trans hbw HSZ.out) HN1.out)
  go_wp2_with fail
  refine HC.out.mono ?_
  rintro e w3 ⟨rfl, HKN, HFR⟩
  obtain ⟨G1, hkn, hgs⟩ := HKN.out
  clear HC HK1 HKN
  have HK1 := Lib.hid hkn
  have GS1 : Hid (∀ j, j < m1 → ∀ b, rowOf (G1 j) = some b → S1 b ∨ w.heap.size ≤ b) := Lib.hid fun j hj b e => (hgs j hj b e).imp id (Nat.le_trans HSZ.out)
  clear hkn hgs
  have HK8 := Lib.hid (HK8.out.fr HFR.out D8_1.out)
  have HBK := Lib.hid (HFR.out.blk HBK.out HSG1.out)
  have HBL := Lib.hid (HBL.out.trans (HFR.out.below (fun b h => (HSB1.out b h).1) (Nat.le_trans hbw HSZ.out)))
  have HSZ := Lib.hid (Nat.le_trans HSZ.out HFR.out.size)
  clear HFR
  go_wp2_with fail
  refine (growId_none _ g (HBK.out.cellv 2 _ Z2.out)).mono ?_
  rintro e w3 ⟨rfl, rfl⟩
  go_wp2_with fail
  refine (growNum_none _ g (HBK.out.cellv 3 _ Z3.out)).mono ?_
  rintro e w3 ⟨rfl, rfl⟩
  go_wp2_with fail
  refine (growInt_none _ g (HBK.out.cellv 4 _ Z4.out)).mono ?_
  rintro e w3 ⟨rfl, rfl⟩
  go_wp2_with fail
  refine (growText_none _ g (HBK.out.cellv 5 _ Z5.out)).mono ?_
  rintro e w3 ⟨rfl, rfl⟩
  go_wp2_with fail
  refine (growRow_none _ g (HBK.out.cellv 6 _ Z6.out)).mono ?_
  rintro e w3 ⟨rfl, rfl⟩
  go_wp2_with fail
  refine (growChange_none _ g (HBK.out.cellv 7 _ Z7.out)).mono ?_
  rintro e w3 ⟨rfl, rfl⟩
  have HC := Lib.hid (growEntry_any w3 base g m8 B bv8 L8 u8 n8 S8 HBK.out F8.out HK8.out hm8 HU8.out (Nat.le_trans hbw HSZ.out) HN8.out)
  go_wp2_with fail
  refine HC.out.mono ?_
  rintro e w4 ⟨rfl, HKN, HFR⟩
  obtain ⟨G8, hkn, hgs⟩ := HKN.out
  clear HC HK8 HKN
  have HK8 := Lib.hid hkn
  have GS8 : Hid (∀ j, j < m8 → ∀ b, rowOf (G8 j) = some b → S8 b ∨ w.heap.size ≤ b) := Lib.hid fun j hj b e => (hgs j hj b e).imp id (Nat.le_trans HSZ.out)
  clear hkn hgs
  have HK1 := Lib.hid (HK1.out.fr HFR.out D1_8.out (fun j hj b e h => by
    rcases GS1.out j hj b e with q | q
    · exact D1_8.out b q h
    · have := (HSB8.out b h).2; omega))
  have HBK := Lib.hid (HFR.out.blk HBK.out HSG8.out)
  have HBL := Lib.hid (HBL.out.trans (HFR.out.below (fun b h => (HSB8.out b h).1) (Nat.le_trans hbw HSZ.out)))
  have HSZ := Lib.hid (Nat.le_trans HSZ.out HFR.out.size)
  clear HFR
  go_wp2_with fail
  refine (growFile_none _ g (HBK.out.cellv 9 _ Z9.out)).mono ?_
  rintro e w4 ⟨rfl, rfl⟩
  go_wp2_with fail
  refine (growItem_none _ g (HBK.out.cellv 10 _ Z10.out)).mono ?_
  rintro e w4 ⟨rfl, rfl⟩
  go_wp2_with fail
  refine (growSaid_none _ g (HBK.out.cellv 11 _ Z11.out)).mono ?_
  rintro e w4 ⟨rfl, rfl⟩
  go_wp2_with fail
  refine (growMsg_none _ g (HBK.out.cellv 12 _ Z12.out)).mono ?_
  rintro e w4 ⟨rfl, rfl⟩
  go_wp2_with fail
  refine (growEvent_none _ g (HBK.out.cellv 13 _ Z13.out)).mono ?_
  rintro e w4 ⟨rfl, rfl⟩
  have HC := Lib.hid (lookByte_any w4 base g m1 B bv1 L1 G1 u1 n1 S1 HBK.out F1.out HK1.out hm1 HU1.out HN1.out)
  go_wp2_with fail
  refine HC.out.mono ?_
  rintro e w5 ⟨rfl, bl⟩
  have HK1 := Lib.hid (HK1.out.below bl)
  have HK8 := Lib.hid (HK8.out.below bl)
  have HBK := Lib.hid (HBK.out.below bl)
  have HBL := Lib.hid (HBL.out.trans (bl.mono (Nat.le_trans hbw HSZ.out)))
  have HSZ := Lib.hid (Nat.le_trans HSZ.out bl.size)
  clear bl HC
  go_wp2_with fail
  refine (lookId_none _ g (HBK.out.cellv 2 _ Z2.out)).mono ?_
  rintro e w5 ⟨rfl, rfl⟩
  go_wp2_with fail
  refine (lookNum_none _ g (HBK.out.cellv 3 _ Z3.out)).mono ?_
  rintro e w5 ⟨rfl, rfl⟩
  go_wp2_with fail
  refine (lookInt_none _ g (HBK.out.cellv 4 _ Z4.out)).mono ?_
  rintro e w5 ⟨rfl, rfl⟩
  go_wp2_with fail
  refine (lookText_none _ g (HBK.out.cellv 5 _ Z5.out)).mono ?_
  rintro e w5 ⟨rfl, rfl⟩
  go_wp2_with fail
  refine (lookRow_none _ g (HBK.out.cellv 6 _ Z6.out)).mono ?_
  rintro e w5 ⟨rfl, rfl⟩
  go_wp2_with fail
  refine (lookChange_none _ g (HBK.out.cellv 7 _ Z7.out)).mono ?_
  rintro e w5 ⟨rfl, rfl⟩
  have HC := Lib.hid (lookEntry_any w5 base g m8 B bv8 L8 G8 u8 n8 S8 HBK.out F8.out HK8.out hm8 HU8.out HN8.out)
  go_wp2_with fail
  refine HC.out.mono ?_
  rintro e w6 ⟨rfl, bl⟩
  have HK1 := Lib.hid (HK1.out.below bl)
  have HK8 := Lib.hid (HK8.out.below bl)
  have HBK := Lib.hid (HBK.out.below bl)
  have HBL := Lib.hid (HBL.out.trans (bl.mono (Nat.le_trans hbw HSZ.out)))
  have HSZ := Lib.hid (Nat.le_trans HSZ.out bl.size)
  clear bl HC
  go_wp2_with fail
  refine (lookFile_none _ g (HBK.out.cellv 9 _ Z9.out)).mono ?_
  rintro e w6 ⟨rfl, rfl⟩
  go_wp2_with fail
  refine (lookItem_none _ g (HBK.out.cellv 10 _ Z10.out)).mono ?_
  rintro e w6 ⟨rfl, rfl⟩
  go_wp2_with fail
  refine (lookSaid_none _ g (HBK.out.cellv 11 _ Z11.out)).mono ?_
  rintro e w6 ⟨rfl, rfl⟩
  go_wp2_with fail
  refine (lookMsg_none _ g (HBK.out.cellv 12 _ Z12.out)).mono ?_
  rintro e w6 ⟨rfl, rfl⟩
  go_wp2_with fail
  refine (lookEvent_none _ g (HBK.out.cellv 13 _ Z13.out)).mono ?_
  rintro e w6 ⟨rfl, rfl⟩
  go_wp2
  go_ret
  exact ⟨rfl, HBL.out⟩
end Go.Proofs.YtbcnapkbdbefhaaGreatDoor

/- Walk of law01.Book.ApartR: lists of bytes, numbers, texts, entries, files. No condition. -/
import Derived.Test.YtbcnapkbdbefhaaGreatDoorKindA
import Derived.Test.YtbcnapkbdbefhaaGreatDoorKdNone
import Derived.Test.YtbcnapkbdbefhaaGreatDoorKdByte
import Derived.Test.YtbcnapkbdbefhaaGreatDoorKdId
import Derived.Test.YtbcnapkbdbefhaaGreatDoorKdText
import Derived.Test.YtbcnapkbdbefhaaGreatDoorKdEntry
import Derived.Test.YtbcnapkbdbefhaaGreatDoorKdFile
namespace Go.Proofs.YtbcnapkbdbefhaaGreatDoor
open Go.RowKit

set_option maxRecDepth 100000 in
set_option maxHeartbeats 8000000 in
theorem apartK_any (w : World) (base g M : Nat) (f : Nat → Value) (m1 : Nat) (L1 : Nat → Value) (u1 n1 : Nat → Nat) (C1 : Nat → List Value) (S1 : Nat → Prop) (m2 : Nat) (L2 : Nat → Value) (u2 n2 : Nat → Nat) (C2 : Nat → List Value) (S2 : Nat → Prop) (m5 : Nat) (L5 : Nat → Value) (u5 n5 : Nat → Nat) (C5 : Nat → List Value) (S5 : Nat → Prop) (m8 : Nat) (L8 : Nat → Value) (u8 n8 : Nat → Nat) (C8 : Nat → List Value) (S8 : Nat → Prop) (m9 : Nat) (L9 : Nat → Value) (u9 n9 : Nat → Nat) (C9 : Nat → List Value) (S9 : Nat → Prop)
    (hB : Blk w g (bkF M f) 54) (hbw : base ≤ w.heap.size) (z3 : f 3 = .slice none 0 0) (z4 : f 4 = .slice none 0 0) (z6 : f 6 = .slice none 0 0) (z7 : f 7 = .slice none 0 0) (z10 : f 10 = .slice none 0 0) (z11 : f 11 = .slice none 0 0) (z12 : f 12 = .slice none 0 0) (z13 : f 13 = .slice none 0 0)
    (k1 : KSt w base g 100 5 1 m1 (f 1) L1 (fun _ => .slice none 0 0) u1 n1 C1 S1) (hm1 : m1 ≤ 1000) (hu1 : ∀ j, j < m1 → u1 j < 10) (hn1 : ∀ j, j < m1 → n1 j ≤ 1000000000)
    (k2 : KSt w base g 106 63 1 m2 (f 2) L2 (fun _ => .slice none 0 0) u2 n2 C2 S2) (hm2 : m2 ≤ 1000) (hu2 : ∀ j, j < m2 → u2 j < 10) (hn2 : ∀ j, j < m2 → n2 j ≤ 1000000000)
    (k5 : KSt w base g 116 9 1 m5 (f 5) L5 (fun _ => .slice none 0 0) u5 n5 C5 S5) (hm5 : m5 ≤ 1000) (hu5 : ∀ j, j < m5 → u5 j < 10) (hn5 : ∀ j, j < m5 → n5 j ≤ 1000000000)
    (k8 : KSt w base g 102 34 4 m8 (f 8) L8 (fun _ => .slice none 0 0) u8 n8 C8 S8) (hm8 : m8 ≤ 1000) (hu8 : ∀ j, j < m8 → u8 j < 10) (hn8 : ∀ j, j < m8 → n8 j ≤ 1000000000)
    (k9 : KSt w base g 133 135 4 m9 (f 9) L9 (fun _ => .slice none 0 0) u9 n9 C9 S9) (hm9 : m9 ≤ 1000) (hu9 : ∀ j, j < m9 → u9 j < 10) (hn9 : ∀ j, j < m9 → n9 j ≤ 1000000000)
    (d1_2 : ∀ b, S1 b → ¬ S2 b) (d1_5 : ∀ b, S1 b → ¬ S5 b) (d1_8 : ∀ b, S1 b → ¬ S8 b) (d1_9 : ∀ b, S1 b → ¬ S9 b) (d2_1 : ∀ b, S2 b → ¬ S1 b) (d2_5 : ∀ b, S2 b → ¬ S5 b) (d2_8 : ∀ b, S2 b → ¬ S8 b) (d2_9 : ∀ b, S2 b → ¬ S9 b) (d5_1 : ∀ b, S5 b → ¬ S1 b) (d5_2 : ∀ b, S5 b → ¬ S2 b) (d5_8 : ∀ b, S5 b → ¬ S8 b) (d5_9 : ∀ b, S5 b → ¬ S9 b) (d8_1 : ∀ b, S8 b → ¬ S1 b) (d8_2 : ∀ b, S8 b → ¬ S2 b) (d8_5 : ∀ b, S8 b → ¬ S5 b) (d8_9 : ∀ b, S8 b → ¬ S9 b) (d9_1 : ∀ b, S9 b → ¬ S1 b) (d9_2 : ∀ b, S9 b → ¬ S2 b) (d9_5 : ∀ b, S9 b → ¬ S5 b) (d9_8 : ∀ b, S9 b → ¬ S8 b) :
    Calls Tryz.prog 16 #[.pointer (some ⟨g, 0, none⟩)] w fun e w' => e = .returned (.bool true) ∧ Below base w w' := by
  have HU1 := Lib.hid hu1
  have HN1 := Lib.hid hn1
  have HSB1 : Hid (∀ b, S1 b → base ≤ b ∧ b < w.heap.size) := Lib.hid k1.sb
  have HSG1 := Lib.hid k1.sg
  have HK1 := Lib.hid k1
  clear hu1 hn1 k1
  have HU2 := Lib.hid hu2
  have HN2 := Lib.hid hn2
  have HSB2 : Hid (∀ b, S2 b → base ≤ b ∧ b < w.heap.size) := Lib.hid k2.sb
  have HSG2 := Lib.hid k2.sg
  have HK2 := Lib.hid k2
  clear hu2 hn2 k2
  have HU5 := Lib.hid hu5
  have HN5 := Lib.hid hn5
  have HSB5 : Hid (∀ b, S5 b → base ≤ b ∧ b < w.heap.size) := Lib.hid k5.sb
  have HSG5 := Lib.hid k5.sg
  have HK5 := Lib.hid k5
  clear hu5 hn5 k5
  have HU8 := Lib.hid hu8
  have HN8 := Lib.hid hn8
  have HSB8 : Hid (∀ b, S8 b → base ≤ b ∧ b < w.heap.size) := Lib.hid k8.sb
  have HSG8 := Lib.hid k8.sg
  have HK8 := Lib.hid k8
  clear hu8 hn8 k8
  have HU9 := Lib.hid hu9
  have HN9 := Lib.hid hn9
  have HSB9 : Hid (∀ b, S9 b → base ≤ b ∧ b < w.heap.size) := Lib.hid k9.sb
  have HSG9 := Lib.hid k9.sg
  have HK9 := Lib.hid k9
  clear hu9 hn9 k9
  have D1_2 := Lib.hid d1_2
  clear d1_2
  have D1_5 := Lib.hid d1_5
  clear d1_5
  have D1_8 := Lib.hid d1_8
  clear d1_8
  have D1_9 := Lib.hid d1_9
  clear d1_9
  have D2_1 := Lib.hid d2_1
  clear d2_1
  have D2_5 := Lib.hid d2_5
  clear d2_5
  have D2_8 := Lib.hid d2_8
  clear d2_8
  have D2_9 := Lib.hid d2_9
  clear d2_9
  have D5_1 := Lib.hid d5_1
  clear d5_1
  have D5_2 := Lib.hid d5_2
  clear d5_2
  have D5_8 := Lib.hid d5_8
  clear d5_8
  have D5_9 := Lib.hid d5_9
  clear d5_9
  have D8_1 := Lib.hid d8_1
  clear d8_1
  have D8_2 := Lib.hid d8_2
  clear d8_2
  have D8_5 := Lib.hid d8_5
  clear d8_5
  have D8_9 := Lib.hid d8_9
  clear d8_9
  have D9_1 := Lib.hid d9_1
  clear d9_1
  have D9_2 := Lib.hid d9_2
  clear d9_2
  have D9_5 := Lib.hid d9_5
  clear d9_5
  have D9_8 := Lib.hid d9_8
  clear d9_8
  have HBK := Lib.hid hB
  have HBL := Lib.hid (Below.refl base w)
  have HSZ : Hid (w.heap.size ≤ w.heap.size) := Lib.hid (Nat.le_refl _)
  have Z3 : Hid ((bkF M f)[3]? = some (.slice none 0 0)) := Lib.hid (by show some (f 3) = _; rw [z3])
  clear z3
  have Z4 : Hid ((bkF M f)[4]? = some (.slice none 0 0)) := Lib.hid (by show some (f 4) = _; rw [z4])
  clear z4
  have Z6 : Hid ((bkF M f)[6]? = some (.slice none 0 0)) := Lib.hid (by show some (f 6) = _; rw [z6])
  clear z6
  have Z7 : Hid ((bkF M f)[7]? = some (.slice none 0 0)) := Lib.hid (by show some (f 7) = _; rw [z7])
  clear z7
  have Z10 : Hid ((bkF M f)[10]? = some (.slice none 0 0)) := Lib.hid (by show some (f 10) = _; rw [z10])
  clear z10
  have Z11 : Hid ((bkF M f)[11]? = some (.slice none 0 0)) := Lib.hid (by show some (f 11) = _; rw [z11])
  clear z11
  have Z12 : Hid ((bkF M f)[12]? = some (.slice none 0 0)) := Lib.hid (by show some (f 12) = _; rw [z12])
  clear z12
  have Z13 : Hid ((bkF M f)[13]? = some (.slice none 0 0)) := Lib.hid (by show some (f 13) = _; rw [z13])
  clear z13
  have F1 : Hid ((bkF M f)[1]? = some (f 1)) := Lib.hid rfl
  have F2 : Hid ((bkF M f)[2]? = some (f 2)) := Lib.hid rfl
  have F5 : Hid ((bkF M f)[5]? = some (f 5)) := Lib.hid rfl
  have F8 : Hid ((bkF M f)[8]? = some (f 8)) := Lib.hid rfl
  have F9 : Hid ((bkF M f)[9]? = some (f 9)) := Lib.hid rfl
  generalize bkF M f = B at HBK Z3 Z4 Z6 Z7 Z10 Z11 Z12 Z13 F1 F2 F5 F8 F9
  generalize f 1 = bv1 at HK1 F1
  generalize f 2 = bv2 at HK2 F2
  generalize f 5 = bv5 at HK5 F5
  generalize f 8 = bv8 at HK8 F8
  generalize f 9 = bv9 at HK9 F9
  clear hB
  go_enter Tryz.func16, Tryz.ntmps16
  have HC := Lib.hid (fillByte_any w base g m1 B bv1 L1 u1 n1 C1 S1 HBK.out F1.out HK1.out hm1 HU1.out)
  go_wp2_with fail
  refine HC.out.mono ?_
  rintro e w1 ⟨rfl, HKN, HFR⟩
  clear HC HK1
  have HK1 := HKN
  clear HKN
  have HK2 := Lib.hid (HK2.out.fr HFR.out D2_1.out)
  have HK5 := Lib.hid (HK5.out.fr HFR.out D5_1.out)
  have HK8 := Lib.hid (HK8.out.fr HFR.out D8_1.out)
  have HK9 := Lib.hid (HK9.out.fr HFR.out D9_1.out)
  have HBK := Lib.hid (HFR.out.blk HBK.out HSG1.out)
  have HBL := Lib.hid (HBL.out.trans (HFR.out.below (fun b h => (HSB1.out b h).1) (Nat.le_trans hbw HSZ.out)))
  have HSZ := Lib.hid (Nat.le_trans HSZ.out HFR.out.size)
  clear HFR
  have HC := Lib.hid (fillId_any w1 base g m2 B bv2 L2 u2 n2 C2 S2 HBK.out F2.out HK2.out hm2 HU2.out)
  go_wp2_with fail
  refine HC.out.mono ?_
  rintro e w2 ⟨rfl, HKN, HFR⟩
  clear HC HK2
  have HK2 := HKN
  clear HKN
  have HK1 := Lib.hid (HK1.out.fr HFR.out D1_2.out)
  have HK5 := Lib.hid (HK5.out.fr HFR.out D5_2.out)
  have HK8 := Lib.hid (HK8.out.fr HFR.out D8_2.out)
  have HK9 := Lib.hid (HK9.out.fr HFR.out D9_2.out)
  have HBK := Lib.hid (HFR.out.blk HBK.out HSG2.out)
  have HBL := Lib.hid (HBL.out.trans (HFR.out.below (fun b h => (HSB2.out b h).1) (Nat.le_trans hbw HSZ.out)))
  have HSZ := Lib.hid (Nat.le_trans HSZ.out HFR.out.size)
  clear HFR
  go_wp2_with fail
  refine (fillNum_none _ g (HBK.out.cellv 3 _ Z3.out)).mono ?_
  rintro e w2 ⟨rfl, rfl⟩
  go_wp2_with fail
  refine (fillInt_none _ g (HBK.out.cellv 4 _ Z4.out)).mono ?_
  rintro e w2 ⟨rfl, rfl⟩
  have HC := Lib.hid (fillText_any w2 base g m5 B bv5 L5 u5 n5 C5 S5 HBK.out F5.out HK5.out hm5 HU5.out)
  go_wp2_with fail
  refine HC.out.mono ?_
  rintro e w3 ⟨rfl, HKN, HFR⟩
  clear HC HK5
  have HK5 := HKN
  clear HKN
  have HK1 := Lib.hid (HK1.out.fr HFR.out D1_5.out)
  have HK2 := Lib.hid (HK2.out.fr HFR.out D2_5.out)
  have HK8 := Lib.hid (HK8.out.fr HFR.out D8_5.out)
  have HK9 := Lib.hid (HK9.out.fr HFR.out D9_5.out)
  have HBK := Lib.hid (HFR.out.blk HBK.out HSG5.out)
  have HBL := Lib.hid (HBL.out.trans (HFR.out.below (fun b h => (HSB5.out b h).1) (Nat.le_trans hbw HSZ.out)))
  have HSZ := Lib.hid (Nat.le_trans HSZ.out HFR.out.size)
  clear HFR
  go_wp2_with fail
  refine (fillRow_none _ g (HBK.out.cellv 6 _ Z6.out)).mono ?_
  rintro e w3 ⟨rfl, rfl⟩
  go_wp2_with fail
  refine (fillChange_none _ g (HBK.out.cellv 7 _ Z7.out)).mono ?_
  rintro e w3 ⟨rfl, rfl⟩
  have HC := Lib.hid (fillEntry_any w3 base g m8 B bv8 L8 u8 n8 C8 S8 HBK.out F8.out HK8.out hm8 HU8.out)
  go_wp2_with fail
  refine HC.out.mono ?_
  rintro e w4 ⟨rfl, HKN, HFR⟩
  clear HC HK8
  have HK8 := HKN
  clear HKN
  have HK1 := Lib.hid (HK1.out.fr HFR.out D1_8.out)
  have HK2 := Lib.hid (HK2.out.fr HFR.out D2_8.out)
  have HK5 := Lib.hid (HK5.out.fr HFR.out D5_8.out)
  have HK9 := Lib.hid (HK9.out.fr HFR.out D9_8.out)
  have HBK := Lib.hid (HFR.out.blk HBK.out HSG8.out)
  have HBL := Lib.hid (HBL.out.trans (HFR.out.below (fun b h => (HSB8.out b h).1) (Nat.le_trans hbw HSZ.out)))
  have HSZ := Lib.hid (Nat.le_trans HSZ.out HFR.out.size)
  clear HFR
  have HC := Lib.hid (fillFile_any w4 base g m9 B bv9 L9 u9 n9 C9 S9 HBK.out F9.out HK9.out hm9 HU9.out)
  go_wp2_with fail
  refine HC.out.mono ?_
  rintro e w5 ⟨rfl, HKN, HFR⟩
  clear HC HK9
  have HK9 := HKN
  clear HKN
  have HK1 := Lib.hid (HK1.out.fr HFR.out D1_9.out)
  have HK2 := Lib.hid (HK2.out.fr HFR.out D2_9.out)
  have HK5 := Lib.hid (HK5.out.fr HFR.out D5_9.out)
  have HK8 := Lib.hid (HK8.out.fr HFR.out D8_9.out)
  have HBK := Lib.hid (HFR.out.blk HBK.out HSG9.out)
  have HBL := Lib.hid (HBL.out.trans (HFR.out.below (fun b h => (HSB9.out b h).1) (Nat.le_trans hbw HSZ.out)))
  have HSZ := Lib.hid (Nat.le_trans HSZ.out HFR.out.size)
  clear HFR
  go_wp2_with fail
  refine (fillItem_none _ g (HBK.out.cellv 10 _ Z10.out)).mono ?_
  rintro e w5 ⟨rfl, rfl⟩
  go_wp2_with fail
  refine (fillSaid_none _ g (HBK.out.cellv 11 _ Z11.out)).mono ?_
  rintro e w5 ⟨rfl, rfl⟩
  go_wp2_with fail
  refine (fillMsg_none _ g (HBK.out.cellv 12 _ Z12.out)).mono ?_
  rintro e w5 ⟨rfl, rfl⟩
  go_wp2_with fail
  refine (fillEvent_none _ g (HBK.out.cellv 13 _ Z13.out)).mono ?_
  rintro e w5 ⟨rfl, rfl⟩
  have HC := Lib.hid (growByte_any w5 base g m1 B bv1 L1 u1 n1 S1 HBK.out F1.out HK1.out hm1 HU1.out (Nat.le_trans hbw HSZ.out) HN1.out)
  go_wp2_with fail
  refine HC.out.mono ?_
  rintro e w6 ⟨rfl, HKN, HFR⟩
  obtain ⟨G1, hkn, hgs⟩ := HKN.out
  clear HC HK1 HKN
  have HK1 := Lib.hid hkn
  have GS1 : Hid (∀ j, j < m1 → ∀ b, rowOf (G1 j) = some b → S1 b ∨ w.heap.size ≤ b) := Lib.hid fun j hj b e => (hgs j hj b e).imp id (Nat.le_trans HSZ.out)
  clear hkn hgs
  have HK2 := Lib.hid (HK2.out.fr HFR.out D2_1.out)
  have HK5 := Lib.hid (HK5.out.fr HFR.out D5_1.out)
  have HK8 := Lib.hid (HK8.out.fr HFR.out D8_1.out)
  have HK9 := Lib.hid (HK9.out.fr HFR.out D9_1.out)
  have HBK := Lib.hid (HFR.out.blk HBK.out HSG1.out)
  have HBL := Lib.hid (HBL.out.trans (HFR.out.below (fun b h => (HSB1.out b h).1) (Nat.le_trans hbw HSZ.out)))
  have HSZ := Lib.hid (Nat.le_trans HSZ.out HFR.out.size)
  clear HFR
  have HC := Lib.hid (growId_any w6 base g m2 B bv2 L2 u2 n2 S2 HBK.out F2.out HK2.out hm2 HU2.out (Nat.le_trans hbw HSZ.out) HN2.out)
  go_wp2_with fail
  refine HC.out.mono ?_
  rintro e w7 ⟨rfl, HKN, HFR⟩
  obtain ⟨G2, hkn, hgs⟩ := HKN.out
  clear HC HK2 HKN
  have HK2 := Lib.hid hkn
  have GS2 : Hid (∀ j, j < m2 → ∀ b, rowOf (G2 j) = some b → S2 b ∨ w.heap.size ≤ b) := Lib.hid fun j hj b e => (hgs j hj b e).imp id (Nat.le_trans HSZ.out)
  clear hkn hgs
  have HK1 := Lib.hid (HK1.out.fr HFR.out D1_2.out (fun j hj b e h => by
    rcases GS1.out j hj b e with q | q
    · exact D1_2.out b q h
    · have := (HSB2.out b h).2; omega))
  have HK5 := Lib.hid (HK5.out.fr HFR.out D5_2.out)
  have HK8 := Lib.hid (HK8.out.fr HFR.out D8_2.out)
  have HK9 := Lib.hid (HK9.out.fr HFR.out D9_2.out)
  have HBK := Lib.hid (HFR.out.blk HBK.out HSG2.out)
  have HBL := Lib.hid (HBL.out.trans (HFR.out.below (fun b h => (HSB2.out b h).1) (Nat.le_trans hbw HSZ.out)))
  have HSZ := Lib.hid (Nat.le_trans HSZ.out HFR.out.size)
  clear HFR
  go_wp2_with fail
  refine (growNum_none _ g (HBK.out.cellv 3 _ Z3.out)).mono ?_
  rintro e w7 ⟨rfl, rfl⟩
  go_wp2_with fail
  refine (growInt_none _ g (HBK.out.cellv 4 _ Z4.out)).mono ?_
  rintro e w7 ⟨rfl, rfl⟩
  have HC := Lib.hid (growText_any w7 base g m5 B bv5 L5 u5 n5 S5 HBK.out F5.out HK5.out hm5 HU5.out (Nat.le_trans hbw HSZ.out) HN5.out)
  go_wp2_with fail
  refine HC.out.mono ?_
  rintro e w8 ⟨rfl, HKN, HFR⟩
  obtain ⟨G5, hkn, hgs⟩ := HKN.out
  clear HC HK5 HKN
  have HK5 := Lib.hid hkn
  have GS5 : Hid (∀ j, j < m5 → ∀ b, rowOf (G5 j) = some b → S5 b ∨ w.heap.size ≤ b) := Lib.hid fun j hj b e => (hgs j hj b e).imp id (Nat.le_trans HSZ.out)
  clear hkn hgs
  have HK1 := Lib.hid (HK1.out.fr HFR.out D1_5.out (fun j hj b e h => by
    rcases GS1.out j hj b e with q | q
    · exact D1_5.out b q h
    · have := (HSB5.out b h).2; omega))
  have HK2 := Lib.hid (HK2.out.fr HFR.out D2_5.out (fun j hj b e h => by
    rcases GS2.out j hj b e with q | q
    · exact D2_5.out b q h
    · have := (HSB5.out b h).2; omega))
  have HK8 := Lib.hid (HK8.out.fr HFR.out D8_5.out)
  have HK9 := Lib.hid (HK9.out.fr HFR.out D9_5.out)
  have HBK := Lib.hid (HFR.out.blk HBK.out HSG5.out)
  have HBL := Lib.hid (HBL.out.trans (HFR.out.below (fun b h => (HSB5.out b h).1) (Nat.le_trans hbw HSZ.out)))
  have HSZ := Lib.hid (Nat.le_trans HSZ.out HFR.out.size)
  clear HFR
  go_wp2_with fail
  refine (growRow_none _ g (HBK.out.cellv 6 _ Z6.out)).mono ?_
  rintro e w8 ⟨rfl, rfl⟩
  go_wp2_with fail
  refine (growChange_none _ g (HBK.out.cellv 7 _ Z7.out)).mono ?_
  rintro e w8 ⟨rfl, rfl⟩
  have HC := Lib.hid (growEntry_any w8 base g m8 B bv8 L8 u8 n8 S8 HBK.out F8.out HK8.out hm8 HU8.out (Nat.le_trans hbw HSZ.out) HN8.out)
  go_wp2_with fail
  refine HC.out.mono ?_
  rintro e w9 ⟨rfl, HKN, HFR⟩
  obtain ⟨G8, hkn, hgs⟩ := HKN.out
  clear HC HK8 HKN
  have HK8 := Lib.hid hkn
  have GS8 : Hid (∀ j, j < m8 → ∀ b, rowOf (G8 j) = some b → S8 b ∨ w.heap.size ≤ b) := Lib.hid fun j hj b e => (hgs j hj b e).imp id (Nat.le_trans HSZ.out)
  clear hkn hgs
  have HK1 := Lib.hid (HK1.out.fr HFR.out D1_8.out (fun j hj b e h => by
    rcases GS1.out j hj b e with q | q
    · exact D1_8.out b q h
    · have := (HSB8.out b h).2; omega))
  have HK2 := Lib.hid (HK2.out.fr HFR.out D2_8.out (fun j hj b e h => by
    rcases GS2.out j hj b e with q | q
    · exact D2_8.out b q h
    · have := (HSB8.out b h).2; omega))
  have HK5 := Lib.hid (HK5.out.fr HFR.out D5_8.out (fun j hj b e h => by
    rcases GS5.out j hj b e with q | q
    · exact D5_8.out b q h
    · have := (HSB8.out b h).2; omega))
  have HK9 := Lib.hid (HK9.out.fr HFR.out D9_8.out)
  have HBK := Lib.hid (HFR.out.blk HBK.out HSG8.out)
  have HBL := Lib.hid (HBL.out.trans (HFR.out.below (fun b h => (HSB8.out b h).1) (Nat.le_trans hbw HSZ.out)))
  have HSZ := Lib.hid (Nat.le_trans HSZ.out HFR.out.size)
  clear HFR
  have HC := Lib.hid (growFile_any w9 base g m9 B bv9 L9 u9 n9 S9 HBK.out F9.out HK9.out hm9 HU9.out (Nat.le_trans hbw HSZ.out) HN9.out)
  go_wp2_with fail
  refine HC.out.mono ?_
  rintro e w10 ⟨rfl, HKN, HFR⟩
  obtain ⟨G9, hkn, hgs⟩ := HKN.out
  clear HC HK9 HKN
  have HK9 := Lib.hid hkn
  have GS9 : Hid (∀ j, j < m9 → ∀ b, rowOf (G9 j) = some b → S9 b ∨ w.heap.size ≤ b) := Lib.hid fun j hj b e => (hgs j hj b e).imp id (Nat.le_trans HSZ.out)
  clear hkn hgs
  have HK1 := Lib.hid (HK1.out.fr HFR.out D1_9.out (fun j hj b e h => by
    rcases GS1.out j hj b e with q | q
    · exact D1_9.out b q h
    · have := (HSB9.out b h).2; omega))
  have HK2 := Lib.hid (HK2.out.fr HFR.out D2_9.out (fun j hj b e h => by
    rcases GS2.out j hj b e with q | q
    · exact D2_9.out b q h
    · have := (HSB9.out b h).2; omega))
  have HK5 := Lib.hid (HK5.out.fr HFR.out D5_9.out (fun j hj b e h => by
    rcases GS5.out j hj b e with q | q
    · exact D5_9.out b q h
    · have := (HSB9.out b h).2; omega))
  have HK8 := Lib.hid (HK8.out.fr HFR.out D8_9.out (fun j hj b e h => by
    rcases GS8.out j hj b e with q | q
    · exact D8_9.out b q h
    · have := (HSB9.out b h).2; omega))
  have HBK := Lib.hid (HFR.out.blk HBK.out HSG9.out)
  have HBL := Lib.hid (HBL.out.trans (HFR.out.below (fun b h => (HSB9.out b h).1) (Nat.le_trans hbw HSZ.out)))
  have HSZ := Lib.hid (Nat.le_trans HSZ.out HFR.out.size)
  clear HFR
  go_wp2_with fail
  refine (growItem_none _ g (HBK.out.cellv 10 _ Z10.out)).mono ?_
  rintro e w10 ⟨rfl, rfl⟩
  go_wp2_with fail
  refine (growSaid_none _ g (HBK.out.cellv 11 _ Z11.out)).mono ?_
  rintro e w10 ⟨rfl, rfl⟩
  go_wp2_with fail
  refine (growMsg_none _ g (HBK.out.cellv 12 _ Z12.out)).mono ?_
  rintro e w10 ⟨rfl, rfl⟩
  go_wp2_with fail
  refine (growEvent_none _ g (HBK.out.cellv 13 _ Z13.out)).mono ?_
  rintro e w10 ⟨rfl, rfl⟩
  have HC := Lib.hid (lookByte_any w10 base g m1 B bv1 L1 G1 u1 n1 S1 HBK.out F1.out HK1.out hm1 HU1.out HN1.out)
  go_wp2_with fail
  refine HC.out.mono ?_
  rintro e w11 ⟨rfl, bl⟩
  have HK1 := Lib.hid (HK1.out.below bl)
  have HK2 := Lib.hid (HK2.out.below bl)
  have HK5 := Lib.hid (HK5.out.below bl)
  have HK8 := Lib.hid (HK8.out.below bl)
  have HK9 := Lib.hid (HK9.out.below bl)
  have HBK := Lib.hid (HBK.out.below bl)
  have HBL := Lib.hid (HBL.out.trans (bl.mono (Nat.le_trans hbw HSZ.out)))
  have HSZ := Lib.hid (Nat.le_trans HSZ.out bl.size)
  clear bl HC
  have HC := Lib.hid (lookId_any w11 base g m2 B bv2 L2 G2 u2 n2 S2 HBK.out F2.out HK2.out hm2 HU2.out HN2.out)
  go_wp2_with fail
  refine HC.out.mono ?_
  rintro e w12 ⟨rfl, bl⟩
  have HK1 := Lib.hid (HK1.out.below bl)
  have HK2 := Lib.hid (HK2.out.below bl)
  have HK5 := Lib.hid (HK5.out.below bl)
  have HK8 := Lib.hid (HK8.out.below bl)
  have HK9 := Lib.hid (HK9.out.below bl)
  have HBK := Lib.hid (HBK.out.below bl)
  have HBL := Lib.hid (HBL.out.trans (bl.mono (Nat.le_trans hbw HSZ.out)))
  have HSZ := Lib.hid (Nat.le_trans HSZ.out bl.size)
  clear bl HC
  go_wp2_with fail
  refine (lookNum_none _ g (HBK.out.cellv 3 _ Z3.out)).mono ?_
  rintro e w12 ⟨rfl, rfl⟩
  go_wp2_with fail
  refine (lookInt_none _ g (HBK.out.cellv 4 _ Z4.out)).mono ?_
  rintro e w12 ⟨rfl, rfl⟩
  have HC := Lib.hid (lookText_any w12 base g m5 B bv5 L5 G5 u5 n5 S5 HBK.out F5.out HK5.out hm5 HU5.out HN5.out)
  go_wp2_with fail
  refine HC.out.mono ?_
  rintro e w13 ⟨rfl, bl⟩
  have HK1 := Lib.hid (HK1.out.below bl)
  have HK2 := Lib.hid (HK2.out.below bl)
  have HK5 := Lib.hid (HK5.out.below bl)
  have HK8 := Lib.hid (HK8.out.below bl)
  have HK9 := Lib.hid (HK9.out.below bl)
  have HBK := Lib.hid (HBK.out.below bl)
  have HBL := Lib.hid (HBL.out.trans (bl.mono (Nat.le_trans hbw HSZ.out)))
  have HSZ := Lib.hid (Nat.le_trans HSZ.out bl.size)
  clear bl HC
  go_wp2_with fail
  refine (lookRow_none _ g (HBK.out.cellv 6 _ Z6.out)).mono ?_
  rintro e w13 ⟨rfl, rfl⟩
  go_wp2_with fail
  refine (lookChange_none _ g (HBK.out.cellv 7 _ Z7.out)).mono ?_
  rintro e w13 ⟨rfl, rfl⟩
  have HC := Lib.hid (lookEntry_any w13 base g m8 B bv8 L8 G8 u8 n8 S8 HBK.out F8.out HK8.out hm8 HU8.out HN8.out)
  go_wp2_with fail
  refine HC.out.mono ?_
  rintro e w14 ⟨rfl, bl⟩
  have HK1 := Lib.hid (HK1.out.below bl)
  have HK2 := Lib.hid (HK2.out.below bl)
  have HK5 := Lib.hid (HK5.out.below bl)
  have HK8 := Lib.hid (HK8.out.below bl)
  have HK9 := Lib.hid (HK9.out.below bl)
  have HBK := Lib.hid (HBK.out.below bl)
  have HBL := Lib.hid (HBL.out.trans (bl.mono (Nat.le_trans hbw HSZ.out)))
  have HSZ := Lib.hid (Nat.le_trans HSZ.out bl.size)
  clear bl HC
  have HC := Lib.hid (lookFile_any w14 base g m9 B bv9 L9 G9 u9 n9 S9 HBK.out F9.out HK9.out hm9 HU9.out HN9.out)
  go_wp2_with fail
  refine HC.out.mono ?_
  rintro e w15 ⟨rfl, bl⟩
  have HK1 := Lib.hid (HK1.out.below bl)
  have HK2 := Lib.hid (HK2.out.below bl)
  have HK5 := Lib.hid (HK5.out.below bl)
  have HK8 := Lib.hid (HK8.out.below bl)
  have HK9 := Lib.hid (HK9.out.below bl)
  have HBK := Lib.hid (HBK.out.below bl)
  have HBL := Lib.hid (HBL.out.trans (bl.mono (Nat.le_trans hbw HSZ.out)))
  have HSZ := Lib.hid (Nat.le_trans HSZ.out bl.size)
  clear bl HC
  go_wp2_with fail
  refine (lookItem_none _ g (HBK.out.cellv 10 _ Z10.out)).mono ?_
  rintro e w15 ⟨rfl, rfl⟩
  go_wp2_with fail
  refine (lookSaid_none _ g (HBK.out.cellv 11 _ Z11.out)).mono ?_
  rintro e w15 ⟨rfl, rfl⟩
  go_wp2_with fail
  refine (lookMsg_none _ g (HBK.out.cellv 12 _ Z12.out)).mono ?_
  rintro e w15 ⟨rfl, rfl⟩
  go_wp2_with fail
  refine (lookEvent_none _ g (HBK.out.cellv 13 _ Z13.out)).mono ?_
  rintro e w15 ⟨rfl, rfl⟩
  go_wp2
  go_ret
  exact ⟨rfl, HBL.out⟩
end Go.Proofs.YtbcnapkbdbefhaaGreatDoor

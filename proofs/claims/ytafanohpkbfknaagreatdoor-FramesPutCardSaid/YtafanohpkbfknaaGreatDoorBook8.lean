/- The book of lists: Apart, lists of bytes alone. No condition. -/
import Derived.Test.YtafanohpkbfknaaGreatDoorBook7
namespace Go.Proofs.YtafanohpkbfknaaGreatDoor
open Go.RowKit

set_option maxRecDepth 100000 in
set_option maxHeartbeats 8000000 in
theorem apart_any (w : World) (base g m : Nat) (bv : Value) (L : Nat → Value) (n : Nat → Nat) (C : Nat → List UInt8) (hK : Bk w base g m bv (.slice none 0 0) L (fun _ => .slice none 0 0) n C) (hm : m ≤ 1000) (hbase : base ≤ g) (hn : ∀ j, j < m → n j ≤ 1000000000000) :
    Calls Tryz.prog 17 #[.pointer (some ⟨g, 0, none⟩)] w fun e w' => e = .returned (.bool true) ∧ Below base w w' := by
  have hbw : base ≤ w.heap.size := by have := hK.blk.lt; omega
  have HF := Lib.hid (fillByte_any w base g m bv (.slice none 0 0) L n C hK hm hbase)
  have HN := Lib.hid hn
  clear hK hn
  go_enter Tryz.func17, Tryz.ntmps17
  go_wp2_with fail
  refine HF.out.mono ?_
  rintro e w1 ⟨rfl, HK1, hb1⟩
  have HB1 := Lib.hid hb1
  clear HF hb1
  have c2 := Lib.hid (HK1.out.blk.cellv 2 (.slice none 0 0) rfl)
  have c3 := Lib.hid (HK1.out.blk.cellv 3 (.slice none 0 0) rfl)
  have c4 := Lib.hid (HK1.out.blk.cellv 4 (.slice none 0 0) rfl)
  have c5 := Lib.hid (HK1.out.blk.cellv 5 (.slice none 0 0) rfl)
  have c6 := Lib.hid (HK1.out.blk.cellv 6 (.slice none 0 0) rfl)
  have c7 := Lib.hid (HK1.out.blk.cellv 7 (.slice none 0 0) rfl)
  have c8 := Lib.hid (HK1.out.blk.cellv 8 (.slice none 0 0) rfl)
  have c9 := Lib.hid (HK1.out.blk.cellv 9 (.slice none 0 0) rfl)
  have c10 := Lib.hid (HK1.out.blk.cellv 10 (.slice none 0 0) rfl)
  have c11 := Lib.hid (HK1.out.blk.cellv 11 (.slice none 0 0) rfl)
  have c12 := Lib.hid (HK1.out.blk.cellv 12 (.slice none 0 0) rfl)
  have c13 := Lib.hid (HK1.out.blk.cellv 13 (.slice none 0 0) rfl)
  go_wp2_with fail
  refine (fillId_none w1 g c2.out).mono ?_
  rintro e w1 ⟨rfl, rfl⟩
  go_wp2_with fail
  refine (fillNum_none w1 g c3.out).mono ?_
  rintro e w1 ⟨rfl, rfl⟩
  go_wp2_with fail
  refine (fillInt_none w1 g c4.out).mono ?_
  rintro e w1 ⟨rfl, rfl⟩
  go_wp2_with fail
  refine (fillText_none w1 g c5.out).mono ?_
  rintro e w1 ⟨rfl, rfl⟩
  go_wp2_with fail
  refine (fillRow_none w1 g c6.out).mono ?_
  rintro e w1 ⟨rfl, rfl⟩
  go_wp2_with fail
  refine (fillChange_none w1 g c7.out).mono ?_
  rintro e w1 ⟨rfl, rfl⟩
  go_wp2_with fail
  refine (fillEntry_none w1 g c8.out).mono ?_
  rintro e w1 ⟨rfl, rfl⟩
  go_wp2_with fail
  refine (fillFile_none w1 g c9.out).mono ?_
  rintro e w1 ⟨rfl, rfl⟩
  go_wp2_with fail
  refine (fillItem_none w1 g c10.out).mono ?_
  rintro e w1 ⟨rfl, rfl⟩
  go_wp2_with fail
  refine (fillSaid_none w1 g c11.out).mono ?_
  rintro e w1 ⟨rfl, rfl⟩
  go_wp2_with fail
  refine (fillMsg_none w1 g c12.out).mono ?_
  rintro e w1 ⟨rfl, rfl⟩
  go_wp2_with fail
  refine (fillEvent_none w1 g c13.out).mono ?_
  rintro e w1 ⟨rfl, rfl⟩
  have HG := Lib.hid (growByte_any w1 base g m bv (.slice none 0 0) L n HK1.out hm hbase HN.out)
  go_wp2_with fail
  refine HG.out.mono ?_
  rintro e w2 ⟨rfl, HK2, hb2⟩
  have HB2 := Lib.hid (HB1.out.trans hb2)
  obtain ⟨G, hG⟩ := HK2.out
  have HKG := Lib.hid hG
  clear HG hb2 hG HK2 HB1 HK1 c2 c3 c4 c5 c6 c7 c8 c9 c10 c11 c12 c13
  have c2 := Lib.hid (HKG.out.bk.blk.cellv 2 (.slice none 0 0) rfl)
  have c3 := Lib.hid (HKG.out.bk.blk.cellv 3 (.slice none 0 0) rfl)
  have c4 := Lib.hid (HKG.out.bk.blk.cellv 4 (.slice none 0 0) rfl)
  have c5 := Lib.hid (HKG.out.bk.blk.cellv 5 (.slice none 0 0) rfl)
  have c6 := Lib.hid (HKG.out.bk.blk.cellv 6 (.slice none 0 0) rfl)
  have c7 := Lib.hid (HKG.out.bk.blk.cellv 7 (.slice none 0 0) rfl)
  have c8 := Lib.hid (HKG.out.bk.blk.cellv 8 (.slice none 0 0) rfl)
  have c9 := Lib.hid (HKG.out.bk.blk.cellv 9 (.slice none 0 0) rfl)
  have c10 := Lib.hid (HKG.out.bk.blk.cellv 10 (.slice none 0 0) rfl)
  have c11 := Lib.hid (HKG.out.bk.blk.cellv 11 (.slice none 0 0) rfl)
  have c12 := Lib.hid (HKG.out.bk.blk.cellv 12 (.slice none 0 0) rfl)
  have c13 := Lib.hid (HKG.out.bk.blk.cellv 13 (.slice none 0 0) rfl)
  go_wp2_with fail
  refine (growId_none w2 g c2.out).mono ?_
  rintro e w2 ⟨rfl, rfl⟩
  go_wp2_with fail
  refine (growNum_none w2 g c3.out).mono ?_
  rintro e w2 ⟨rfl, rfl⟩
  go_wp2_with fail
  refine (growInt_none w2 g c4.out).mono ?_
  rintro e w2 ⟨rfl, rfl⟩
  go_wp2_with fail
  refine (growText_none w2 g c5.out).mono ?_
  rintro e w2 ⟨rfl, rfl⟩
  go_wp2_with fail
  refine (growRow_none w2 g c6.out).mono ?_
  rintro e w2 ⟨rfl, rfl⟩
  go_wp2_with fail
  refine (growChange_none w2 g c7.out).mono ?_
  rintro e w2 ⟨rfl, rfl⟩
  go_wp2_with fail
  refine (growEntry_none w2 g c8.out).mono ?_
  rintro e w2 ⟨rfl, rfl⟩
  go_wp2_with fail
  refine (growFile_none w2 g c9.out).mono ?_
  rintro e w2 ⟨rfl, rfl⟩
  go_wp2_with fail
  refine (growItem_none w2 g c10.out).mono ?_
  rintro e w2 ⟨rfl, rfl⟩
  go_wp2_with fail
  refine (growSaid_none w2 g c11.out).mono ?_
  rintro e w2 ⟨rfl, rfl⟩
  go_wp2_with fail
  refine (growMsg_none w2 g c12.out).mono ?_
  rintro e w2 ⟨rfl, rfl⟩
  go_wp2_with fail
  refine (growEvent_none w2 g c13.out).mono ?_
  rintro e w2 ⟨rfl, rfl⟩
  have HL := Lib.hid (lookByte_any w2 base g m bv (.slice none 0 0) L G n HKG.out hm HN.out)
  go_wp2_with fail
  refine HL.out.mono ?_
  rintro e w3 ⟨rfl, hb3⟩
  have HB3 := Lib.hid (HB2.out.trans (hb3.mono (Nat.le_trans hbw HB2.out.size)))
  have HK3 := Lib.hid (HKG.out.bk.blk.below hb3)
  clear HL hb3 HB2 HKG c2 c3 c4 c5 c6 c7 c8 c9 c10 c11 c12 c13
  have c2 := Lib.hid (HK3.out.cellv 2 (.slice none 0 0) rfl)
  have c3 := Lib.hid (HK3.out.cellv 3 (.slice none 0 0) rfl)
  have c4 := Lib.hid (HK3.out.cellv 4 (.slice none 0 0) rfl)
  have c5 := Lib.hid (HK3.out.cellv 5 (.slice none 0 0) rfl)
  have c6 := Lib.hid (HK3.out.cellv 6 (.slice none 0 0) rfl)
  have c7 := Lib.hid (HK3.out.cellv 7 (.slice none 0 0) rfl)
  have c8 := Lib.hid (HK3.out.cellv 8 (.slice none 0 0) rfl)
  have c9 := Lib.hid (HK3.out.cellv 9 (.slice none 0 0) rfl)
  have c10 := Lib.hid (HK3.out.cellv 10 (.slice none 0 0) rfl)
  have c11 := Lib.hid (HK3.out.cellv 11 (.slice none 0 0) rfl)
  have c12 := Lib.hid (HK3.out.cellv 12 (.slice none 0 0) rfl)
  have c13 := Lib.hid (HK3.out.cellv 13 (.slice none 0 0) rfl)
  go_wp2_with fail
  refine (lookId_none w3 g c2.out).mono ?_
  rintro e w3 ⟨rfl, rfl⟩
  go_wp2_with fail
  refine (lookNum_none w3 g c3.out).mono ?_
  rintro e w3 ⟨rfl, rfl⟩
  go_wp2_with fail
  refine (lookInt_none w3 g c4.out).mono ?_
  rintro e w3 ⟨rfl, rfl⟩
  go_wp2_with fail
  refine (lookText_none w3 g c5.out).mono ?_
  rintro e w3 ⟨rfl, rfl⟩
  go_wp2_with fail
  refine (lookRow_none w3 g c6.out).mono ?_
  rintro e w3 ⟨rfl, rfl⟩
  go_wp2_with fail
  refine (lookChange_none w3 g c7.out).mono ?_
  rintro e w3 ⟨rfl, rfl⟩
  go_wp2_with fail
  refine (lookEntry_none w3 g c8.out).mono ?_
  rintro e w3 ⟨rfl, rfl⟩
  go_wp2_with fail
  refine (lookFile_none w3 g c9.out).mono ?_
  rintro e w3 ⟨rfl, rfl⟩
  go_wp2_with fail
  refine (lookItem_none w3 g c10.out).mono ?_
  rintro e w3 ⟨rfl, rfl⟩
  go_wp2_with fail
  refine (lookSaid_none w3 g c11.out).mono ?_
  rintro e w3 ⟨rfl, rfl⟩
  go_wp2_with fail
  refine (lookMsg_none w3 g c12.out).mono ?_
  rintro e w3 ⟨rfl, rfl⟩
  go_wp2_with fail
  refine (lookEvent_none w3 g c13.out).mono ?_
  rintro e w3 ⟨rfl, rfl⟩
  go_wp2
  go_ret
  exact ⟨rfl, HB3.out⟩
end Go.Proofs.YtafanohpkbfknaaGreatDoor

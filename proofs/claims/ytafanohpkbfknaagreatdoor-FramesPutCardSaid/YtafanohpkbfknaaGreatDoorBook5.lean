/- Walk of growByte: forty marks more behind each list. No condition. -/
import Derived.Test.YtafanohpkbfknaaGreatDoorBook4
namespace Go.Proofs.YtafanohpkbfknaaGreatDoor
open Go.RowKit

set_option maxRecDepth 100000 in
set_option maxHeartbeats 8000000 in
theorem growByte_any (w : World) (base g m : Nat) (bv ev : Value) (L : Nat → Value) (n : Nat → Nat) (hK : Bk w base g m bv ev L (fun _ => .slice none 0 0) n (fun j => List.replicate (n j) (mkB j))) (hm : m ≤ 1000) (hbase : base ≤ g) (hn : ∀ j, j < m → n j ≤ 1000000000000) :
    Calls Tryz.prog 57 #[.pointer (some ⟨g, 0, none⟩)] w fun e w' => e = .returned (.tuple #[]) ∧ Hid (∃ G, Gw w' base g m bv ev L G n m) ∧ Below base w w' := by
  obtain ⟨va, vc, hbvs⟩ := (reads_of_own hK.own).slice
  subst hbvs
  have hbw : base ≤ w.heap.size := by have := hK.blk.lt; omega
  have HK : Hid (Gw w base g m (.slice va m vc) ev L (fun _ => .slice none 0 0) n 0) := ⟨hK, fun j hj => absurd hj (by omega), fun j _ => rfl, fun j hj => absurd hj (by omega), fun j hj => absurd hj (by omega), fun j k hj => absurd hj (by omega), fun j k hj => absurd hj (by omega)⟩
  have HN := Lib.hid hn
  clear hK hn
  go_enter Tryz.func57, Tryz.ntmps57
  go_wp2_with fail
  try show Code.wp _ _ _ _ _
  go_loopw [2, 3, 4, 5] (fun iv _ _ _ wr => ∃ i : Nat, i ≤ m ∧ iv = .int .i64 i ∧ ∃ G : Nat → Value, Hid (Gw wr base g m (.slice va m vc) ev L G n i) ∧ Hid (Below base w wr)) (fun iv _ _ _ _ => m - (intOf iv).toNat)
  case atStart => exact ⟨0, Nat.zero_le _, rfl, _, HK, Below.refl _ _⟩
  case round =>
    obtain ⟨i, hi, rfl, G, HC, HB⟩ := hrel
    have g1 := HC.out.bk.blk.cellv 1 (.slice va m vc) rfl
    by_cases hlt : i < m
    · have hb0 : ∃ b, va = some ⟨b, 0, none⟩ := by
        rcases HC.out.bk.own with ⟨h0, _⟩ | ⟨_, g2, _, _, _, e, _⟩
        · omega
        · simp only [Value.slice.injEq] at e
          exact ⟨g2, e.1⟩
      obtain ⟨b2, hb2⟩ := hb0
      subst hb2
      obtain ⟨b3, off3, c3, e3, k0, k1, k2⟩ := HC.out.bk.cells i hlt
      simp only [Value.slice.injEq, Option.some.injEq, Addr.mk.injEq, and_true, true_and] at e3
      obtain ⟨⟨e4, e5⟩, e6⟩ := e3
      rw [← e4, ← e5, Nat.zero_add] at k0 k1 k2
      rw [HC.out.nil i (Nat.le_refl _)] at k1
      clear e4 e5 e6
      obtain ⟨i1, hi1⟩ : ∃ x, x = i + 1 := ⟨_, rfl⟩
      rw [← hi1] at k2
      have HMK : Hid (∀ w', Calls Tryz.prog 117 #[.int .i64 (i1 : Int)] w' fun e w'' => e = .returned (.int .u8 ((mkB i).toNat : Int)) ∧ w' = w'') := fun w' => by rw [hi1]; exact markByte_any i w'
      clear hi1
      have hown := HC.out.bk.held i hlt
      obtain ⟨la, lc, hls⟩ := (reads_of_own hown).slice
      rw [hls] at k0
      have HLS := Lib.hid hls
      clear hown hls
      obtain ⟨ni, hni⟩ : ∃ x, x = n i := ⟨_, rfl⟩
      rw [← hni] at k0 HLS
      have HNI := Lib.hid hni
      clear hni
      have hnb : ni ≤ 1000000000000 := by rw [HNI.out]; exact HN.out i hlt
      have hic : (i : Int) < (m : Int) := by omega
      go_upto_region 4 with (fail)
      obtain ⟨hb, hhb⟩ : ∃ x, x = wr.heap.size := ⟨_, rfl⟩
      have hal : Below wr.heap.size wr (wr.alloc (.cells #[.slice la ni lc, .slice none 0 0, .int .i64 (i1 : Int)] 116)) := (Below.refl _ _).alloc (Nat.le_refl _) _
      have HWB : Hid (Blk (wr.alloc (.cells #[.slice la ni lc, .slice none 0 0, .int .i64 (i1 : Int)] 116)) hb #[.slice la ni lc, .slice none 0 0, .int .i64 (i1 : Int)] 116) := Blk.new_at _ _ _ _ hhb
      have HCW := Lib.hid (HC.out.below hal)
      have HBW := Lib.hid (HB.out.trans (hal.mono (Nat.le_trans hbw HB.out.size)))
      have HNE : Hid ((L i).ownBlock ≠ some hb) := fun e => by have := HC.out.bk.lw i hlt hb e; omega
      rw [← hhb]
      generalize wr.alloc (.cells #[.slice la ni lc, .slice none 0 0, .int .i64 (i1 : Int)] 116) = W at HWB HCW HBW ⊢
      clear hal hhb HC HB g1 k0 k1 k2
      have HOT : Hid (∀ u, Oth g hb m i (.slice (some ⟨b2, 0, none⟩) m vc) L G u → Apart W u (.slice la ni lc)) := by
        rw [← HLS.out]; exact HCW.out.start hlt HWB.out.lt HNE.out
      have HLO : Hid (Own W base 5 1 (.slice la ni lc) ni (u8s (List.replicate ni (mkB i)))) := by
        have := HCW.out.bk.held i hlt
        rw [HLS.out, ← HNI.out] at this
        exact this
      have h0 := HWB.out.cellv 0 (.slice la ni lc) rfl
      go_wp2_with fail
      try show Code.wp _ _ _ _ _
      go_loopw [4, 5] (fun lv kv wz => ∃ k : Nat, k ≤ 40 ∧ kv = .int .i64 k ∧ (∃ xa xn xc, lv = .slice xa xn xc ∧ xn = ni + k ∧ Hid (Own wz base 5 1 (.slice xa xn xc) xn (u8s (List.replicate xn (mkB i)))) ∧ Hid (∀ u, Oth g hb m i (.slice (some ⟨b2, 0, none⟩) m vc) L G u → Apart wz u (.slice xa xn xc))) ∧
        Hid (Gw wz base g m (.slice (some ⟨b2, 0, none⟩) m vc) ev L G n i) ∧ Hid (Blk wz hb #[.slice la ni lc, .slice none 0 0, .int .i64 (i1 : Int)] 116) ∧ Hid (Below base w wz)) (fun _ kv _ => 40 - (intOf kv).toNat)
      case atStart => exact ⟨0, by omega, rfl, ⟨la, ni, lc, rfl, rfl, HLO, HOT⟩, HCW, HWB, HBW⟩
      case round =>
        obtain ⟨k, hk, rfl, ⟨xa, xn, xc, rfl, hxn, HX, HO⟩, HG2, HH, HB2⟩ := hrel
        have HXN := Lib.hid hxn
        have hxb : xn ≤ 2000000000000 := by omega
        clear hxn
        obtain ⟨wz, hwz⟩ := the_world HB2.out
        subst hwz
        by_cases hk40 : k < 40
        · have h2 := HH.out.cellv 2 (.int .i64 (i1 : Int)) rfl
          obtain ⟨mk, hmk⟩ : ∃ x, x = (mkB i).toNat := ⟨_, rfl⟩
          have HMK2 : Hid (∀ w', Calls Tryz.prog 117 #[.int .i64 (i1 : Int)] w' fun e w'' => e = .returned (.int .u8 (mk : Int)) ∧ w' = w'') := by rw [hmk]; exact HMK.out
          have HAL : Hid (∀ o, Below wz.heap.size wz (wz.alloc o)) := fun o => (Below.refl _ _).alloc (Nat.le_refl _) _
          have HRD : Hid (∀ ty, Reads (wz.alloc (.cells #[.int .u8 (mk : Int)] ty)) 1 (.slice (some ⟨wz.heap.size, 0, none⟩) 1 1) 1 (u8s [mkB i])) := fun ty => by
            have := rd_reads (rd_one wz (mkB i) mk (by rw [hmk]) ty)
            exact this
          have hbz : base ≤ wz.heap.size := Nat.le_trans hbw HB2.out.size
          have HBZ := Lib.hid hbz
          clear hmk
          go_upto_region 8 with (fail)
          go_wp2_with fail
          refine (HMK2.out _).mono ?_
          rintro e wm ⟨rfl, rfl⟩
          go_wp2_with (at_builtin; go_loud (refine wp_app_one rfl _ _ rfl base xn (.slice xa xn xc) ⟨wz.heap.size, 0, none⟩ 1 (u8s (List.replicate xn (mkB i))) (u8s [mkB i]) (u8s (List.replicate (xn + 1) (mkB i))) (xn + 1) rfl rfl (own_below HX.out (HAL.out _)) (HRD.out _) (one_u8s _) rfl (by rw [List.replicate_succ', u8s_append]) (by omega) (Nat.le_trans HBZ.out (HAL.out _).size) ?_); intro ya yc w7 HY HGR HLE)
          have hgw : Gw w7 base g m (.slice (some ⟨b2, 0, none⟩) m vc) ev L G n i := (HG2.out.below (HAL.out _)).app (hb := hb) HGR.out HLE.out (by rw [← HNI.out, HXN.out]; omega) (fun u hu => (HO.out u hu).later (HAL.out _).size)
          have hot : ∀ u, Oth g hb m i (.slice (some ⟨b2, 0, none⟩) m vc) L G u → Apart w7 u (.slice ya (xn + 1) yc) := fun u hu => HGR.out.apart u ((HO.out u hu).later (HAL.out _).size)
          have hbh := (HH.out.below (HAL.out _)).grown HGR.out.rows (fun e => (HO.out _ (.inr (.inl rfl)) hb rfl).2 e.symm)
          have hb7 := (HB2.out.trans ((HAL.out _).mono HBZ.out)).trans HGR.out.below
          exact ⟨⟨k + 1, by omega, by go_num, ⟨ya, xn + 1, yc, rfl, by rw [HXN.out]; omega, HY, hot⟩, hgw, hbh, hb7⟩, by simp [intOf]; omega⟩
        · obtain rfl : k = 40 := by omega
          have hx40 := HXN.out
          have hlo : Own wz base 5 1 (.slice xa xn xc) (n i + 40) (u8s (List.replicate (n i + 40) (mkB i))) := by
            have := HX.out
            rw [hx40, HNI.out] at this
            rw [hx40, HNI.out]
            exact this
          have HNX := Lib.hid (HG2.out.next hlt hlo HO.out)
          have g1 := HG2.out.bk.blk.cellv 1 (.slice (some ⟨b2, 0, none⟩) m vc) rfl
          have fr := own_free HG2.out.bk.own (i * 3 + 1) (by omega)
          obtain ⟨b3, off3, c3, e3, _, k1, _⟩ := HG2.out.bk.cells i hlt
          simp only [Value.slice.injEq, Option.some.injEq, Addr.mk.injEq, and_true, true_and] at e3
          obtain ⟨⟨e4, e5⟩, e6⟩ := e3
          rw [← e4, ← e5, Nat.zero_add] at k1
          have hb2g : base ≤ b2 := (own_lt HG2.out.bk.own (by omega) b2 rfl).1
          have HBS := Lib.hid (Only.below HB2.out (Only.set wz b2 (i * 3 + 1) (.slice xa xn xc)) hb2g (Nat.le_trans hbw HB2.out.size))
          clear e4 e5 e6 hx40 hlo
          go_upto_region 2 with (fail)
          clear g1 fr k1 hk hk40
          generalize wz.setCell ⟨b2, i * 3 + 1, none⟩ (.slice xa xn xc) = ws at HNX HBS ⊢
          go_wp2_with fail
          go_roundw
          case rel => exact ⟨i + 1, by omega, by go_num, _, HNX, HBS⟩
          case measure => simp [intOf]; omega
    · obtain rfl : i = m := by omega
      go_wp2_with fail
      go_end0
      exact ⟨rfl, ⟨G, HC.out⟩, HB.out⟩
end Go.Proofs.YtafanohpkbfknaaGreatDoor

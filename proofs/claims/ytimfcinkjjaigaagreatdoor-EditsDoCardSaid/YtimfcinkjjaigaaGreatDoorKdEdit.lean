/- Walk of Book.Edit: two lists are told. The condition: fewer than 1000 lists. -/
import Derived.Test.YtimfcinkjjaigaaGreatDoorKdFile
import Derived.Test.YtimfcinkjjaigaaGreatDoorKdId
namespace Go.Proofs.YtimfcinkjjaigaaGreatDoor
open Go.RowKit

theorem Pg.later {w w' : World} {g M : Nat} {f : Nat → Value} (h : Pg w g M f) (hb : Below w.heap.size w w') : Pg w' g M f :=
  ⟨h.blk.below hb, fun q b hq => ⟨(h.lw q b hq).1, Nat.lt_of_lt_of_le (h.lw q b hq).2 hb.size⟩, h.dj⟩
theorem KeepsO.after {w w1 w' : World} {f f' : Nat → Value} {i : Nat} (h : KeepsO w1 w' f f' i) (hb : Below w.heap.size w w1) : KeepsO w w' f f' i :=
  fun r hr base e sz n xs hO => h r hr base e sz n xs (own_below hO hb)
set_option maxRecDepth 100000 in
set_option maxHeartbeats 1000000 in
theorem toldFileK_any (w : World) (g M m : Nat) (f : Nat → Value) (L : Nat → Value) (num : Nat → Nat) (l : Value) (h : Pg w g M f) (ho : Own w g 156 3 (f 9) m (helds m L (fun _ => .slice none 0 0) num)) (hm : m ≤ 1000) (hM : M ≤ 1000) (hls : ∃ a n c, l = .slice a n c) (hL : L m = l) (hN : num m = M + 1) :
    Calls Tryz.prog 16 #[.pointer (some ⟨g, 0, none⟩), l] w fun e w' => e = .returned (.tuple #[]) ∧ Hid (∃ v', Pg w' g (M + 1) (upd f 9 v') ∧ Own w' g 156 3 (upd f 9 v' 9) (m + 1) (helds (m + 1) L (fun _ => .slice none 0 0) num) ∧ KeepsO w w' f (upd f 9 v') 9 ∧ Kept w w' g g (f 9) v') ∧ Below g w w' := by
  have HKB := Lib.hid (keepFile_any w g g M m f (f 9) L (fun _ => .slice none 0 0) num l h.blk rfl ho (fun e => by have := (h.lw 9 g e).1; omega) (Nat.le_refl _) hm hM hls)
  have H := Lib.hid h
  have HLN : Hid (L m = l ∧ num m = M + 1) := Lib.hid ⟨hL, hN⟩
  clear h ho hL hN
  obtain ⟨xa, xn, xc, rfl⟩ := hls
  go_enter Tryz.func16, Tryz.ntmps16
  go_wp2_with fail
  refine HKB.out.mono ?_
  rintro e w' ⟨rfl, ba, bc, hb, ho, hne, hk⟩
  have hp := H.out.keep hb.out ho.out hne.out hk.out
  have HF : Hid (∃ v', Pg w' g (M + 1) (upd f 9 v') ∧ Own w' g 156 3 (upd f 9 v' 9) (m + 1) (helds (m + 1) L (fun _ => .slice none 0 0) num) ∧ KeepsO w w' f (upd f 9 v') 9 ∧ Kept w w' g g (f 9) v') := Lib.hid ⟨_, hp.1, by rw [upd_same, helds_next, HLN.out.1, HLN.out.2]; exact ho.out, hp.2, hk.out⟩
  have HB := Lib.hid hk.out.below
  clear hb ho hne hk hp
  go_wp2
  go_end0
  exact ⟨rfl, HF, HB.out⟩
set_option maxRecDepth 100000 in
set_option maxHeartbeats 1000000 in
theorem toldEdit_any (w : World) (g M m m2 : Nat) (f : Nat → Value) (L L2 : Nat → Value) (num num2 : Nat → Nat) (l l2 : Value) (jo nx sq : Nat) (h : Pg w g M f) (ho : Own w g 156 3 (f 9) m (helds m L (fun _ => .slice none 0 0) num))
    (ho2 : Own w g 161 3 (f 2) m2 (helds m2 L2 (fun _ => .slice none 0 0) num2)) (hm : m ≤ 1000) (hm2 : m2 ≤ 1000) (hM : M ≤ 999) (hls : ∃ a n c, l = .slice a n c) (hls2 : ∃ a n c, l2 = .slice a n c)
    (hL : L m = l) (hN : num m = M + 1) (hL2 : L2 m2 = l2) (hN2 : num2 m2 = M + 1 + 1) :
    Calls Tryz.prog 17 #[.pointer (some ⟨g, 0, none⟩), .agg #[l, l2, .int .u32 jo, .int .u32 nx, .int .u64 sq]] w fun e w' => e = .returned (.tuple #[]) ∧
      Hid (∃ wm v' v'', Pg wm g (M + 1) (upd f 9 v') ∧ Own wm g 156 3 (upd f 9 v' 9) (m + 1) (helds (m + 1) L (fun _ => .slice none 0 0) num) ∧ KeepsO w wm f (upd f 9 v') 9 ∧ Below g w wm ∧
        Pg w' g (M + 1 + 1) (upd (upd f 9 v') 2 v'') ∧ Own w' g 161 3 (upd (upd f 9 v') 2 v'' 2) (m2 + 1) (helds (m2 + 1) L2 (fun _ => .slice none 0 0) num2) ∧ KeepsO wm w' (upd f 9 v') (upd (upd f 9 v') 2 v'') 2 ∧ Below g wm w') ∧ Below g w w' := by
  obtain ⟨W, hW⟩ : ∃ W, W = w.alloc (.cells #[l, l2, .int .u32 jo, .int .u32 nx, .int .u64 sq] 27) := ⟨_, rfl⟩
  have hbw : Below w.heap.size w W := by rw [hW]; exact (Below.refl _ _).alloc (Nat.le_refl _) _
  have hB : Blk W w.heap.size #[l, l2, .int .u32 jo, .int .u32 nx, .int .u64 sq] 27 := by rw [hW]; exact Blk.new _ _ _
  obtain ⟨gx, hgx⟩ : ∃ x, x = w.heap.size := ⟨_, rfl⟩
  have hgl : g < gx := by rw [hgx]; exact h.blk.lt
  rw [← hgx] at hB
  have HT1 := Lib.hid (toldFileK_any W g M m f L num l (h.later hbw) (own_below ho hbw) hm (by omega) hls hL hN)
  have HO2 := Lib.hid (own_below ho2 hbw)
  have HBW := Lib.hid hbw
  have HHB := Lib.hid hB
  have HPB : Hid (∀ b, rowOf (f 9) = some b → b < gx) := Lib.hid fun b hb => by rw [hgx]; exact (h.lw 9 b hb).2
  have HXW : Hid (gx < W.heap.size) := Lib.hid hB.lt
  have HW : Hid (gx = w.heap.size) := Lib.hid hgx
  have hHG : Hid (g < gx) := Lib.hid hgl
  obtain ⟨la, ln, lc, rfl⟩ := hls
  obtain ⟨ma, mn, mc, rfl⟩ := hls2
  have k0 := hB.cellv 0 _ rfl
  go_enter Tryz.func17, Tryz.ntmps17
  go_upto_region 1 with (fail)
  rw [← hW, ← hgx]
  clear hW hgx h ho ho2 hbw hB
  go_wp2_with fail
  refine HT1.out.mono ?_
  rintro e w1 ⟨rfl, hx, hb⟩
  obtain ⟨v', hp, ho, hk, hkept⟩ := hx.out
  have hox : Own W gx 27 5 (.slice (some ⟨gx, 0, none⟩) 1 1) 1 [.slice la ln lc, .slice ma mn mc, .int .u32 jo, .int .u32 nx, .int .u64 sq] :=
    .inr ⟨rfl, gx, 1, _, (0, 0), rfl, Nat.le_refl _, HHB.out, fun i _ h => by omega, Nat.le_refl _, by unfold maxLen; omega, by simp, by simp⟩
  have hox1 := hkept.keep _ _ _ _ _ _ hox (fun k hk => by
    simp only [rowOf_one, Option.some.injEq] at hk
    subst hk
    exact ⟨HXW.out, fun e => by have := HPB.out _ e; omega⟩) (by simp only [rowOf_one, ne_eq, Option.some.injEq]; omega)
  obtain ⟨x1, hx1, k1⟩ := own_cellv hox1 1 (by omega)
  simp only [List.getElem?_cons_succ, List.getElem?_cons_zero, Option.some.injEq] at hx1
  subst hx1
  have hgw : g ≤ w.heap.size := by have := HW.out; have := hHG.out; omega
  have HT2 := Lib.hid (toldId_any w1 g (M + 1) m2 (upd f 9 v') L2 num2 (.slice ma mn mc) hp (keepsO_own hk 2 (by decide) HO2.out) hm2 (by omega) ⟨_, _, _, rfl⟩ hL2 hN2)
  have HB1 := Lib.hid ((HBW.out.mono hgw).trans hb)
  have HP1 := Lib.hid hp
  have HO1 := Lib.hid ho
  have HK1 := Lib.hid (KeepsO.after hk HBW.out)
  clear hp ho hk hkept hox hox1 hx hb HT1 k0
  go_wp2_with fail
  refine HT2.out.mono ?_
  rintro e w2 ⟨rfl, hx, hb⟩
  obtain ⟨v'', hp2, ho2, hk2⟩ := hx.out
  have HF : Hid (∃ wm v' v'', Pg wm g (M + 1) (upd f 9 v') ∧ Own wm g 156 3 (upd f 9 v' 9) (m + 1) (helds (m + 1) L (fun _ => .slice none 0 0) num) ∧ KeepsO w wm f (upd f 9 v') 9 ∧ Below g w wm ∧
        Pg w2 g (M + 1 + 1) (upd (upd f 9 v') 2 v'') ∧ Own w2 g 161 3 (upd (upd f 9 v') 2 v'' 2) (m2 + 1) (helds (m2 + 1) L2 (fun _ => .slice none 0 0) num2) ∧ KeepsO wm w2 (upd f 9 v') (upd (upd f 9 v') 2 v'') 2 ∧ Below g wm w2) := Lib.hid ⟨w1, v', v'', HP1.out, HO1.out, HK1.out, HB1.out, hp2, ho2, hk2, hb⟩
  have HB2 := Lib.hid (HB1.out.trans hb)
  clear hp2 ho2 hk2 hx hb
  go_wp2
  go_end0
  exact ⟨rfl, HF, HB2.out⟩
end Go.Proofs.YtimfcinkjjaigaaGreatDoor

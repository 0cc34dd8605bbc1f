/- Walk of law04.OrderOne. The condition: three marks, keys of at most 2^47 bytes. -/
import Derived.Test.YtdamfcldkaidjaaAlive4
import Derived.Test.YtdamfcldkaidjaaMarks
import Derived.Test.YtdamfcldkaidjaaCut
namespace Go.Proofs.Ytdamfcldkaidjaa
open Go.RowKit

theorem great_three (w : World) (x y z : MkB) (t : TypeId) (hx : x.k.size ≤ 140737488351232) (hy : y.k.size ≤ 140737488351232) (hz : z.k.size ≤ 140737488351232) (b : Bool) (hb : decide (100000 < x.k.size + y.k.size + z.k.size) = b) :
    Calls Try.prog 73 #[.slice (some ⟨w.heap.size, 0, none⟩) 3 3] (w.alloc (.cells #[.string x.k, .int .u64 x.s, .bool x.g, .string y.k, .int .u64 y.s, .bool y.g, .string z.k, .int .u64 z.s, .bool z.g] t)) (RetB b w) := by
  have hr : RdM (w.alloc (.cells #[.string x.k, .int .u64 x.s, .bool x.g, .string y.k, .int .u64 y.s, .bool y.g, .string z.k, .int .u64 z.s, .bool z.g] t)) (.slice (some ⟨w.heap.size, 0, none⟩) 3 3) [x, y, z] := by
    refine ⟨_, 3, rfl, by simp, by omega, fun j hj => ?_⟩
    match j, hj with
    | 0, _ => exact ⟨_, _, rfl, by rw [World.cell?_alloc_at _ _ _ _ rfl]; rfl, by rw [World.cell?_alloc_at _ _ _ _ rfl]; rfl, by rw [World.cell?_alloc_at _ _ _ _ rfl]; rfl⟩
    | 1, _ => exact ⟨_, _, rfl, by rw [World.cell?_alloc_at _ _ _ _ rfl]; rfl, by rw [World.cell?_alloc_at _ _ _ _ rfl]; rfl, by rw [World.cell?_alloc_at _ _ _ _ rfl]; rfl⟩
    | 2, _ => exact ⟨_, _, rfl, by rw [World.cell?_alloc_at _ _ _ _ rfl]; rfl, by rw [World.cell?_alloc_at _ _ _ _ rfl]; rfl, by rw [World.cell?_alloc_at _ _ _ _ rfl]; rfl⟩
    | n + 3, h => exact absurd h (by simp)
  refine (great_any _ _ _ hr (by simp) (by simp [hx, hy, hz])).mono ?_
  rintro e w' ⟨rfl, rfl⟩
  subst hb
  refine ⟨?_, (Below.refl _ _).alloc (Nat.le_refl _) _⟩
  rw [show keysLen [x, y, z] = x.k.size + y.k.size + z.k.size by simp [keysLen]; omega]

theorem cmp_mk (x y : MkB) (n : Int) (h : cmpK x.m y.m = n) (w : World) : Calls Try.prog 52 #[.agg #[.string x.k, .int .u64 x.s, .bool x.g], .agg #[.string y.k, .int .u64 y.s, .bool y.g]] w fun e w' => e = .returned (.int .i64 n) ∧ Below w.heap.size w w' := by
  subst h; exact orderCmp_any x.k y.k x.s y.s x.g y.g w

theorem mkb_eq {x y : MkB} (h : x.m = y.m) : x = y := by
  cases x with | mk k s g => cases y with | mk k' s' g' =>
  simp only [MkB.m, Mk.mk.injEq] at h
  have : k = k' := by rw [← bs_of k, ← bs_of k', h.1]
  rw [this, h.2.1, h.2.2]
theorem neq_ways {x y : MkB} (h : cmpK x.m y.m ≠ 0) : (¬ x.k.toList = y.k.toList) ∨ (x.k.toList = y.k.toList ∧ ¬ (x.s : Int) = (y.s : Int)) ∨ (x.k.toList = y.k.toList ∧ (x.s : Int) = (y.s : Int) ∧ ¬ x.g = y.g) := by
  by_cases h1 : x.k.toList = y.k.toList
  · by_cases h2 : x.s = y.s
    · refine .inr (.inr ⟨h1, by rw [h2], fun h3 => h ?_⟩)
      have : x.m = y.m := by
        rw [Lib.toList_data, Lib.toList_data] at h1
        simp [MkB.m, h1, h2, h3]
      rw [this]; exact cmpK_self _
    · exact .inr (.inl ⟨h1, by omega⟩)
  · exact .inl h1
/-- how three marks stand -/
theorem three (a b c : Mk) : (cmpK a b ≤ 0 → cmpK b c ≤ 0 → cmpK a c ≤ 0 ∧ (cmpK a c = 0 ↔ cmpK a b = 0 ∧ cmpK b c = 0)) ∧ (0 ≤ cmpK a b → 0 ≤ cmpK b c → 0 ≤ cmpK a c ∧ (cmpK a c = 0 ↔ cmpK a b = 0 ∧ cmpK b c = 0)) := by
  refine ⟨cmpK_tr a b c, fun h1 h2 => ?_⟩
  have n1 := cmpK_neg a b
  have n2 := cmpK_neg b c
  have n3 := cmpK_neg a c
  have := cmpK_tr c b a (by omega) (by omega)
  omega

set_option maxRecDepth 100000 in
set_option maxHeartbeats 8000000 in
theorem orderOne_core (w : World) (x y z : MkB) (hx : x.k.size ≤ 140737488351232) (hy : y.k.size ≤ 140737488351232) (hz : z.k.size ≤ 140737488351232) :
    Calls Try.prog 26 #[.agg #[.string x.k, .int .u64 x.s, .bool x.g], .agg #[.string y.k, .int .u64 y.s, .bool y.g], .agg #[.string z.k, .int .u64 z.s, .bool z.g]] w (RetTrue w) := by
  have hend : ∀ (w5 : World), Hid (Calls Try.prog 72 #[] w5 (RetTrue w5)) := fun w5 => alive04_any w5
  have HT := Lib.hid (three x.m y.m z.m)
  have r1 := cmpK_rng x.m y.m
  have r2 := cmpK_rng y.m z.m
  have r3 := cmpK_rng x.m z.m
  have HN := Lib.hid (cmpK_neg x.m y.m)
  obtain ⟨W, hW⟩ : ∃ W, W = ((w.alloc (.cells #[.string x.k, .int .u64 x.s, .bool x.g] 40)).alloc (.cells #[.string y.k, .int .u64 y.s, .bool y.g] 40)).alloc (.cells #[.string z.k, .int .u64 z.s, .bool z.g] 40) := ⟨_, rfl⟩
  have HX : Blk W w.heap.size #[.string x.k, .int .u64 x.s, .bool x.g] 40 := by rw [hW]; exact ((Blk.new _ _ _).alloc _).alloc _
  have HY : Blk W (w.heap.size + 1) #[.string y.k, .int .u64 y.s, .bool y.g] 40 := by rw [hW]; exact (Blk.new_at _ _ _ _ (by simp)).alloc _
  have HZ : Blk W (w.heap.size + 1 + 1) #[.string z.k, .int .u64 z.s, .bool z.g] 40 := by rw [hW]; exact Blk.new_at _ _ _ _ (by simp)
  have bel : Below w.heap.size w W := by rw [hW]; exact below3 _ _ _ _
  have HW := Lib.hid hW
  clear hW
  go_enter Try.func26, Try.ntmps26
  go_wp2_with fail
  rw [← HW.out]
  refine (hend _).out.mono ?_
  rintro e w1 ⟨rfl, bel1⟩
  replace HX := HX.below bel1
  replace HY := HY.below bel1
  replace HZ := HZ.below bel1
  replace bel := Below.trans bel (bel1.mono bel.size)
  clear bel1
  have x0 := HX.cellv 0 (.string x.k) rfl
  have x1 := HX.cellv 1 (.int .u64 x.s) rfl
  have x2 := HX.cellv 2 (.bool x.g) rfl
  have y0 := HY.cellv 0 (.string y.k) rfl
  have y1 := HY.cellv 1 (.int .u64 y.s) rfl
  have y2 := HY.cellv 2 (.bool y.g) rfl
  have z0 := HZ.cellv 0 (.string z.k) rfl
  have z1 := HZ.cellv 1 (.int .u64 z.s) rfl
  have z2 := HZ.cellv 2 (.bool z.g) rfl
  go_wp2_with fail
  by_cases hb : 100000 < x.k.size + y.k.size + z.k.size
  · refine (great_three w1 x y z _ hx hy hz true (by simpa using hb)).mono ?_
    rintro e w2 ⟨rfl, bel2⟩
    replace bel := Below.trans bel (bel2.mono bel.size)
    clear bel2 x0 x1 x2 y0 y1 y2 z0 z1 z2
    go_wp2_with fail
    refine (hend _).out.mono ?_
    rintro e w3 ⟨rfl, bel3⟩
    replace bel := Below.trans bel (bel3.mono bel.size)
    clear bel3
    go_wp2
    go_ret
    exact ⟨rfl, bel⟩
  · obtain ⟨p, hp⟩ : ∃ p, p = cmpK x.m y.m := ⟨_, rfl⟩
    obtain ⟨q, hq⟩ : ∃ q, q = cmpK y.m z.m := ⟨_, rfl⟩
    obtain ⟨r, hr⟩ : ∃ r, r = cmpK x.m z.m := ⟨_, rfl⟩
    have HP := Lib.hid hp
    have HQ := Lib.hid hq
    have HR := Lib.hid hr
    rw [← hp] at r1 HT HN
    rw [← hq] at r2 HT
    rw [← hr] at r3 HT
    clear hp hq hr
    refine (great_three w1 x y z _ hx hy hz false (by simpa using hb)).mono ?_
    rintro e w2 ⟨rfl, bel1⟩
    replace HX := HX.below bel1
    replace HY := HY.below bel1
    replace HZ := HZ.below bel1
    replace bel := Below.trans bel (bel1.mono bel.size)
    clear bel1 x0 x1 x2 y0 y1 y2 z0 z1 z2
    have x0 := HX.cellv 0 (.string x.k) rfl
    have x1 := HX.cellv 1 (.int .u64 x.s) rfl
    have x2 := HX.cellv 2 (.bool x.g) rfl
    have y0 := HY.cellv 0 (.string y.k) rfl
    have y1 := HY.cellv 1 (.int .u64 y.s) rfl
    have y2 := HY.cellv 2 (.bool y.g) rfl
    have z0 := HZ.cellv 0 (.string z.k) rfl
    have z1 := HZ.cellv 1 (.int .u64 z.s) rfl
    have z2 := HZ.cellv 2 (.bool z.g) rfl
    clear hb
    go_wp2_with fail
    refine (cmp_mk x y p HP.out.symm _).mono ?_
    rintro e w2 ⟨rfl, bel1⟩
    replace HX := HX.below bel1
    replace HY := HY.below bel1
    replace HZ := HZ.below bel1
    replace bel := Below.trans bel (bel1.mono bel.size)
    clear bel1 x0 x1 x2 y0 y1 y2 z0 z1 z2
    have x0 := HX.cellv 0 (.string x.k) rfl
    have x1 := HX.cellv 1 (.int .u64 x.s) rfl
    have x2 := HX.cellv 2 (.bool x.g) rfl
    have y0 := HY.cellv 0 (.string y.k) rfl
    have y1 := HY.cellv 1 (.int .u64 y.s) rfl
    have y2 := HY.cellv 2 (.bool y.g) rfl
    have z0 := HZ.cellv 0 (.string z.k) rfl
    have z1 := HZ.cellv 1 (.int .u64 z.s) rfl
    have z2 := HZ.cellv 2 (.bool z.g) rfl
    go_wp2_with fail
    refine (cmp_mk y z q HQ.out.symm _).mono ?_
    rintro e w2 ⟨rfl, bel1⟩
    replace HX := HX.below bel1
    replace HY := HY.below bel1
    replace HZ := HZ.below bel1
    replace bel := Below.trans bel (bel1.mono bel.size)
    clear bel1 x0 x1 x2 y0 y1 y2 z0 z1 z2
    have x0 := HX.cellv 0 (.string x.k) rfl
    have x1 := HX.cellv 1 (.int .u64 x.s) rfl
    have x2 := HX.cellv 2 (.bool x.g) rfl
    have y0 := HY.cellv 0 (.string y.k) rfl
    have y1 := HY.cellv 1 (.int .u64 y.s) rfl
    have y2 := HY.cellv 2 (.bool y.g) rfl
    have z0 := HZ.cellv 0 (.string z.k) rfl
    have z1 := HZ.cellv 1 (.int .u64 z.s) rfl
    have z2 := HZ.cellv 2 (.bool z.g) rfl
    go_wp2_with fail
    refine (cmp_mk x z r HR.out.symm _).mono ?_
    rintro e w2 ⟨rfl, bel1⟩
    replace HX := HX.below bel1
    replace HY := HY.below bel1
    replace HZ := HZ.below bel1
    replace bel := Below.trans bel (bel1.mono bel.size)
    clear bel1 x0 x1 x2 y0 y1 y2 z0 z1 z2
    have x0 := HX.cellv 0 (.string x.k) rfl
    have x1 := HX.cellv 1 (.int .u64 x.s) rfl
    have x2 := HX.cellv 2 (.bool x.g) rfl
    have y0 := HY.cellv 0 (.string y.k) rfl
    have y1 := HY.cellv 1 (.int .u64 y.s) rfl
    have y2 := HY.cellv 2 (.bool y.g) rfl
    have z0 := HZ.cellv 0 (.string z.k) rfl
    have z1 := HZ.cellv 1 (.int .u64 z.s) rfl
    have z2 := HZ.cellv 2 (.bool z.g) rfl
    have hpn : - p = cmpK y.m x.m := HN.out.symm
    have HPN := Lib.hid hpn
    clear hpn HN
    rcases r1 with rfl | rfl | rfl
    · have hcase : (¬ x.k.toList = y.k.toList) ∨ (x.k.toList = y.k.toList ∧ ¬ (x.s : Int) = (y.s : Int)) ∨ (x.k.toList = y.k.toList ∧ (x.s : Int) = (y.s : Int) ∧ ¬ x.g = y.g) := neq_ways (by rw [← HP.out]; decide)
      go_wp2_with fail
      refine (cmp_mk y x (-(-1)) HPN.out.symm _).mono ?_
      rintro e w2 ⟨rfl, bel1⟩
      replace HX := HX.below bel1
      replace HY := HY.below bel1
      replace bel := Below.trans bel (bel1.mono bel.size)
      clear bel1 x0 x1 x2 y0 y1 y2 z0 z1 z2
      have x0 := HX.cellv 0 (.string x.k) rfl
      have x1 := HX.cellv 1 (.int .u64 x.s) rfl
      have x2 := HX.cellv 2 (.bool x.g) rfl
      have y0 := HY.cellv 0 (.string y.k) rfl
      have y1 := HY.cellv 1 (.int .u64 y.s) rfl
      have y2 := HY.cellv 2 (.bool y.g) rfl
      rcases hcase with h | ⟨h, h2⟩ | ⟨h, h2, h3⟩
      all_goals
        go_upto_region 8 with (fail)
        clear x0 x1 x2 y0 y1 y2 h
        try clear h2
        try clear h3
        rcases r2 with rfl | rfl | rfl <;> rcases r3 with rfl | rfl | rfl
        all_goals first | (exfalso; have := HT.out; omega) | (go_wp2; go_ret; exact ⟨by first | rfl | (simp; done), bel⟩)
    · obtain rfl : x = y := mkb_eq (cmpK_eq HP.out.symm)
      go_wp2_with fail
      refine (cmp_mk x x 0 (cmpK_self _) _).mono ?_
      rintro e w2 ⟨rfl, bel1⟩
      replace HX := HX.below bel1
      replace HY := HY.below bel1
      replace bel := Below.trans bel (bel1.mono bel.size)
      clear bel1 x0 x1 x2 y0 y1 y2 z0 z1 z2
      have x0 := HX.cellv 0 (.string x.k) rfl
      have x1 := HX.cellv 1 (.int .u64 x.s) rfl
      have x2 := HX.cellv 2 (.bool x.g) rfl
      have y0 := HY.cellv 0 (.string x.k) rfl
      have y1 := HY.cellv 1 (.int .u64 x.s) rfl
      have y2 := HY.cellv 2 (.bool x.g) rfl
      go_upto_region 8 with (fail)
      clear x0 x1 x2 y0 y1 y2
      rcases r2 with rfl | rfl | rfl <;> rcases r3 with rfl | rfl | rfl
      all_goals first | (exfalso; have := HT.out; omega) | (go_wp2; go_ret; exact ⟨by first | rfl | (simp; done), bel⟩)
    · have hcase : (¬ x.k.toList = y.k.toList) ∨ (x.k.toList = y.k.toList ∧ ¬ (x.s : Int) = (y.s : Int)) ∨ (x.k.toList = y.k.toList ∧ (x.s : Int) = (y.s : Int) ∧ ¬ x.g = y.g) := neq_ways (by rw [← HP.out]; decide)
      go_wp2_with fail
      refine (cmp_mk y x (-1) HPN.out.symm _).mono ?_
      rintro e w2 ⟨rfl, bel1⟩
      replace HX := HX.below bel1
      replace HY := HY.below bel1
      replace bel := Below.trans bel (bel1.mono bel.size)
      clear bel1 x0 x1 x2 y0 y1 y2 z0 z1 z2
      have x0 := HX.cellv 0 (.string x.k) rfl
      have x1 := HX.cellv 1 (.int .u64 x.s) rfl
      have x2 := HX.cellv 2 (.bool x.g) rfl
      have y0 := HY.cellv 0 (.string y.k) rfl
      have y1 := HY.cellv 1 (.int .u64 y.s) rfl
      have y2 := HY.cellv 2 (.bool y.g) rfl
      rcases hcase with h | ⟨h, h2⟩ | ⟨h, h2, h3⟩
      all_goals
        go_upto_region 8 with (fail)
        clear x0 x1 x2 y0 y1 y2 h
        try clear h2
        try clear h3
        rcases r2 with rfl | rfl | rfl <;> rcases r3 with rfl | rfl | rfl
        all_goals first | (exfalso; have := HT.out; omega) | (go_wp2; go_ret; exact ⟨by first | rfl | (simp; done), bel⟩)
theorem orderOne_walk (w : World) (k0 : ByteArray) (s0 : Nat) (g0 : Bool) (k1 : ByteArray) (s1 : Nat) (g1 : Bool) (k2 : ByteArray) (s2 : Nat) (g2 : Bool) (h0 : k0.size ≤ 140737488351232) (_ : s0 < 18446744073709551616) (h1 : k1.size ≤ 140737488351232) (_ : s1 < 18446744073709551616) (h2 : k2.size ≤ 140737488351232) (_ : s2 < 18446744073709551616) :
    Calls Try.prog 26 #[.agg #[.string k0, .int .u64 s0, .bool g0], .agg #[.string k1, .int .u64 s1, .bool g1], .agg #[.string k2, .int .u64 s2, .bool g2]] w (RetTrue w) :=
  orderOne_core w ⟨k0, s0, g0⟩ ⟨k1, s1, g1⟩ ⟨k2, s2, g2⟩ h0 h1 h2
end Go.Proofs.Ytdamfcldkaidjaa

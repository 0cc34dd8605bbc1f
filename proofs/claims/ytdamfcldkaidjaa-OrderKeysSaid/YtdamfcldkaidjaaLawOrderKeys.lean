/- Walk of law04.OrderKeys. The condition: a text of at most 2^47 bytes. -/
import Derived.Test.YtdamfcldkaidjaaAlive4
import Derived.Test.YtdamfcldkaidjaaMarks
import Derived.Test.YtdamfcldkaidjaaCut
import Derived.Lib.SmallJoins
namespace Go.Proofs.Ytdamfcldkaidjaa
open Go.RowKit

theorem ltB_app (l a b : List UInt8) : ltB (l ++ a) (l ++ b) = ltB a b := by
  induction l with
  | nil => rfl
  | cons c l ih => simp [ltB, ih]
theorem cmpS_app (l a b : List UInt8) : cmpS (l ++ a) (l ++ b) = cmpS a b := by unfold cmpS; rw [ltB_app, ltB_app]
theorem cmpS_more (l : List UInt8) (d : UInt8) : cmpS l (l ++ [d]) = -1 := by
  have := cmpS_app l [] [d]
  rw [List.append_nil] at this
  rw [this]; rfl
theorem cmpS_two (a b : UInt8) : cmpS [a, b] [b, a] = cmpN a.toNat b.toNat := by
  unfold cmpS cmpN
  simp only [ltB]
  by_cases h : a.toNat < b.toNat
  · simp [h]
  · by_cases h2 : b.toNat < a.toNat
    · simp [h, h2]
    · simp [h, h2]
theorem str_new (w : World) (l : List UInt8) (cs : Array Value) (n : Nat) (h : cs.toList = u8s l) (hn : n = l.length) (hl : l.length ≤ 1099511627776) (t : TypeId) :
    (convert 22 9 (.slice (some ⟨w.heap.size, 0, none⟩) n n)).run Try.prog (w.alloc (.cells cs t)) = .ok (.string (bs l)) (w.alloc (.cells cs t)) := by
  subst hn
  refine run_str ⟨_, l.length, rfl, Nat.le_refl _, by omega, fun j hj => ⟨_, _, rfl, ?_⟩⟩
  rw [World.cell?_alloc_at _ _ _ _ rfl, Nat.zero_add, ← Array.getElem?_toList, h]
  simp [u8s, hj]
/-- how two marks stand, as lists -/
theorem cmp_list (k1 k2 : ByteArray) (s1 s2 : Nat) (l m : List UInt8) (n : Int) (h1 : k1.data.toList = l) (h2 : k2.data.toList = m) (h : cmpM l s1 false m s2 false = n) (w : World) :
    Calls Try.prog 52 #[.agg #[.string k1, .int .u64 s1, .bool false], .agg #[.string k2, .int .u64 s2, .bool false]] w fun e w' => e = .returned (.int .i64 n) ∧ Below w.heap.size w w' := by
  subst h1 h2 h; exact orderCmp_any k1 k2 s1 s2 false false w

set_option maxRecDepth 100000 in
set_option maxHeartbeats 8000000 in
theorem orderKeys_core (w : World) (k : ByteArray) (d0 d1 : UInt8) (s0 s1 : Nat) (hk : k.size ≤ 140737488351232) :
    Calls Try.prog 30 #[.string k, .agg #[.int .u8 d0.toNat, .int .u8 d1.toNat], .agg #[.int .u64 s0, .int .u64 s1]] w (RetTrue w) := by
  have hend : ∀ (w5 : World), Hid (Calls Try.prog 72 #[] w5 (RetTrue w5)) := fun w5 => alive04_any w5
  obtain ⟨W, hW⟩ : ∃ W, W = (w.alloc (.cells #[.int .u8 d0.toNat, .int .u8 d1.toNat] 91)).alloc (.cells #[.int .u64 s0, .int .u64 s1] 92) := ⟨_, rfl⟩
  have HC : Blk W w.heap.size #[.int .u8 d0.toNat, .int .u8 d1.toNat] 91 := by rw [hW]; exact (Blk.new _ _ _).alloc _
  have HS : Blk W (w.heap.size + 1) #[.int .u64 s0, .int .u64 s1] 92 := by rw [hW]; exact Blk.new_at _ _ _ _ (by simp)
  have bel : Below w.heap.size w W := by rw [hW]; exact below2' _ _ _
  have HW := Lib.hid hW
  clear hW
  go_enter Try.func30, Try.ntmps30
  go_wp2_with fail
  rw [← HW.out]
  refine (hend _).out.mono ?_
  rintro e w1 ⟨rfl, bel1⟩
  replace HC := HC.below bel1
  replace HS := HS.below bel1
  replace bel := Below.trans bel (bel1.mono bel.size)
  clear bel1
  by_cases hb : 100000 < k.size
  · go_wp2_with fail
    refine (hend _).out.mono ?_
    rintro e w3 ⟨rfl, bel3⟩
    replace bel := Below.trans bel (bel3.mono bel.size)
    clear bel3
    go_wp2
    go_ret
    exact ⟨rfl, bel⟩
  · go_upto_region 3 with (fail)
    obtain ⟨B0, hB0⟩ : ∃ B, B = bs [d0] := ⟨_, rfl⟩
    obtain ⟨B1, hB1⟩ : ∃ B, B = bs [d0, d1] := ⟨_, rfl⟩
    obtain ⟨B2, hB2⟩ : ∃ B, B = bs [d1, d0] := ⟨_, rfl⟩
    have z0 : B0.size ≤ 2 := by rw [hB0, bs_size]; simp
    have z1 : B1.size ≤ 2 := by rw [hB1, bs_size]; simp
    have z2 : B2.size ≤ 2 := by rw [hB2, bs_size]; simp
    have D0 : Hid ((k ++ B0).data.toList = k.data.toList ++ [d0]) := by show _ = _; rw [hB0, Joins.data_append, bs_data]
    have D1 : Hid ((k ++ B1).data.toList = k.data.toList ++ [d0, d1]) := by show _ = _; rw [hB1, Joins.data_append, bs_data]
    have D2 : Hid ((k ++ B2).data.toList = k.data.toList ++ [d1, d0]) := by show _ = _; rw [hB2, Joins.data_append, bs_data]
    have T0 := Lib.hid (fun w => str_new w [d0] #[.int .u8 d0.toNat] 1 (by simp [u8s]) rfl (by simp) 5)
    have T1 := Lib.hid (fun w => str_new w [d0, d1] #[.int .u8 d0.toNat, .int .u8 d1.toNat] 2 (by simp [u8s]) rfl (by simp) 5)
    have T2 := Lib.hid (fun w => str_new w [d1, d0] #[.int .u8 d1.toNat, .int .u8 d0.toNat] 2 (by simp [u8s]) rfl (by simp) 5)
    rw [← hB0] at T0
    rw [← hB1] at T1
    rw [← hB2] at T2
    clear hB0 hB1 hB2
    have HD := Lib.hid (UInt8.toNat_inj (a := d0) (b := d1))
    have hd0 := d0.toNat_lt
    have hd1 := d1.toNat_lt
    have HM := Lib.hid (cmpS_two d0 d1)
    obtain ⟨e0, he0⟩ : ∃ e : Nat, e = d0.toNat := ⟨_, rfl⟩
    obtain ⟨e1, he1⟩ : ∃ e : Nat, e = d1.toNat := ⟨_, rfl⟩
    rw [← he0] at HC T0 T1 T2 HD hd0 HM
    rw [← he1] at HC T1 T2 HD hd1 HM
    clear he0 he1
    have c0 := HC.cellv 0 (.int .u8 e0) rfl
    have c1 := HC.cellv 1 (.int .u8 e1) rfl
    have n0 := HS.cellv 0 (.int .u64 s0) rfl
    have n1 := HS.cellv 1 (.int .u64 s1) rfl
    have hst := T0.out w1
    go_upto_region 4 with (fail)
    have hbx : Below w1.heap.size w1 (w1.alloc (.cells #[.int .u8 e0] 5)) := (Below.refl _ _).alloc (Nat.le_refl _) _
    replace HC := HC.below hbx
    replace HS := HS.below hbx
    replace bel := Below.trans bel (hbx.mono bel.size)
    clear hbx hst c0 c1 n0 n1
    generalize w1.alloc (.cells #[.int .u8 e0] 5) = w2 at HC HS bel ⊢
    have n0 := HS.cellv 0 (.int .u64 s0) rfl
    have n1 := HS.cellv 1 (.int .u64 s1) rfl
    go_upto_region 5 with (fail)
    have hbx : Below w2.heap.size w2 ((w2).alloc (.cells #[.string k, .int .u64 s0, .bool false] 40)) := (Below.refl _ _).alloc (Nat.le_refl _) _
    obtain ⟨A, hA⟩ : ∃ X, X = w2.heap.size := ⟨_, rfl⟩
    have HA : Blk ((w2).alloc (.cells #[.string k, .int .u64 s0, .bool false] 40)) A #[.string k, .int .u64 s0, .bool false] 40 := Blk.new_at _ _ _ _ (by simp [hA])
    rw [← hA]
    replace HC := HC.below hbx
    replace HS := HS.below hbx
    replace bel := Below.trans bel (hbx.mono bel.size)
    clear hbx hA n0 n1
    generalize (w2).alloc (.cells #[.string k, .int .u64 s0, .bool false] 40) = w3 at HC HS HA bel ⊢
    have n0 := HS.cellv 0 (.int .u64 s0) rfl
    have n1 := HS.cellv 1 (.int .u64 s1) rfl
    go_upto_region 6 with (fail)
    have hbx : Below w3.heap.size w3 ((w3).alloc (.cells #[.string (k ++ B0), .int .u64 s1, .bool false] 40)) := (Below.refl _ _).alloc (Nat.le_refl _) _
    obtain ⟨B, hB⟩ : ∃ X, X = w3.heap.size := ⟨_, rfl⟩
    have HB : Blk ((w3).alloc (.cells #[.string (k ++ B0), .int .u64 s1, .bool false] 40)) B #[.string (k ++ B0), .int .u64 s1, .bool false] 40 := Blk.new_at _ _ _ _ (by simp [hB])
    rw [← hB]
    replace HC := HC.below hbx
    replace HS := HS.below hbx
    replace HA := HA.below hbx
    replace bel := Below.trans bel (hbx.mono bel.size)
    clear hbx hB n0 n1
    generalize (w3).alloc (.cells #[.string (k ++ B0), .int .u64 s1, .bool false] 40) = w4 at HC HS HA HB bel ⊢
    have n0 := HS.cellv 0 (.int .u64 s0) rfl
    have n1 := HS.cellv 1 (.int .u64 s1) rfl
    have c0 := HC.cellv 0 (.int .u8 e0) rfl
    have c1 := HC.cellv 1 (.int .u8 e1) rfl
    have hst := T1.out w4
    have m0 := (HS.alloc (.cells #[.int .u8 e0, .int .u8 e1] 5)).cellv 0 (.int .u64 s0) rfl
    go_upto_region 7 with (fail)
    have hbx : Below w4.heap.size w4 ((w4.alloc (.cells #[.int .u8 e0, .int .u8 e1] 5)).alloc (.cells #[.string (k ++ B1), .int .u64 s0, .bool false] 40)) := ((Below.refl _ _).alloc (Nat.le_refl _) _).alloc (by simp) _
    obtain ⟨X, hX⟩ : ∃ X, X = w4.heap.size + 1 := ⟨_, rfl⟩
    have HX : Blk ((w4.alloc (.cells #[.int .u8 e0, .int .u8 e1] 5)).alloc (.cells #[.string (k ++ B1), .int .u64 s0, .bool false] 40)) X #[.string (k ++ B1), .int .u64 s0, .bool false] 40 := Blk.new_at _ _ _ _ (by simp [hX])
    rw [← hX]
    replace HC := HC.below hbx
    replace HS := HS.below hbx
    replace HA := HA.below hbx
    replace HB := HB.below hbx
    replace bel := Below.trans bel (hbx.mono bel.size)
    clear hbx hX n0 n1 hst c0 c1 m0
    generalize (w4.alloc (.cells #[.int .u8 e0, .int .u8 e1] 5)).alloc (.cells #[.string (k ++ B1), .int .u64 s0, .bool false] 40) = w5 at HC HS HA HB HX bel ⊢
    have n0 := HS.cellv 0 (.int .u64 s0) rfl
    have n1 := HS.cellv 1 (.int .u64 s1) rfl
    have c0 := HC.cellv 0 (.int .u8 e0) rfl
    have c1 := HC.cellv 1 (.int .u8 e1) rfl
    have hst := T2.out w5
    have m1 := (HS.alloc (.cells #[.int .u8 e1, .int .u8 e0] 5)).cellv 1 (.int .u64 s1) rfl
    go_upto_region 8 with (fail)
    have hbx : Below w5.heap.size w5 ((w5.alloc (.cells #[.int .u8 e1, .int .u8 e0] 5)).alloc (.cells #[.string (k ++ B2), .int .u64 s1, .bool false] 40)) := ((Below.refl _ _).alloc (Nat.le_refl _) _).alloc (by simp) _
    obtain ⟨Y, hY⟩ : ∃ X, X = w5.heap.size + 1 := ⟨_, rfl⟩
    have HY : Blk ((w5.alloc (.cells #[.int .u8 e1, .int .u8 e0] 5)).alloc (.cells #[.string (k ++ B2), .int .u64 s1, .bool false] 40)) Y #[.string (k ++ B2), .int .u64 s1, .bool false] 40 := Blk.new_at _ _ _ _ (by simp [hY])
    rw [← hY]
    replace HC := HC.below hbx
    replace HS := HS.below hbx
    replace HA := HA.below hbx
    replace HB := HB.below hbx
    replace HX := HX.below hbx
    replace bel := Below.trans bel (hbx.mono bel.size)
    clear hbx hY n0 n1 hst c0 c1 m1
    generalize (w5.alloc (.cells #[.int .u8 e1, .int .u8 e0] 5)).alloc (.cells #[.string (k ++ B2), .int .u64 s1, .bool false] 40) = w6 at HC HS HA HB HX HY bel ⊢
    have n0 := HS.cellv 0 (.int .u64 s0) rfl
    have n1 := HS.cellv 1 (.int .u64 s1) rfl
    clear n0 n1
    have a0 := HA.cellv 0 (.string k) rfl
    have a1 := HA.cellv 1 (.int .u64 s0) rfl
    have a2 := HA.cellv 2 (.bool false) rfl
    have b0 := HB.cellv 0 (.string (k ++ B0)) rfl
    have b1 := HB.cellv 1 (.int .u64 s1) rfl
    have b2 := HB.cellv 2 (.bool false) rfl
    go_wp2_with fail
    refine (cmp_list k (k ++ B0) s0 s1 k.data.toList (k.data.toList ++ [d0]) (-1) rfl D0.out (by unfold cmpM; rw [cmpS_more]; rfl) _).mono ?_
    rintro e w7 ⟨rfl, bel1⟩
    replace HC := HC.below bel1
    replace HS := HS.below bel1
    replace HA := HA.below bel1
    replace HB := HB.below bel1
    replace HX := HX.below bel1
    replace HY := HY.below bel1
    replace bel := Below.trans bel (bel1.mono bel.size)
    clear bel1 a0 a1 a2 b0 b1 b2
    have a0 := HA.cellv 0 (.string k) rfl
    have a1 := HA.cellv 1 (.int .u64 s0) rfl
    have a2 := HA.cellv 2 (.bool false) rfl
    have b0 := HB.cellv 0 (.string (k ++ B0)) rfl
    have b1 := HB.cellv 1 (.int .u64 s1) rfl
    have b2 := HB.cellv 2 (.bool false) rfl
    go_wp2_with fail
    refine (cmp_list (k ++ B0) k s1 s0 (k.data.toList ++ [d0]) k.data.toList 1 D0.out rfl (by unfold cmpM; rw [cmpS_neg k.data.toList, cmpS_more]; rfl) _).mono ?_
    rintro e w7 ⟨rfl, bel1⟩
    replace HC := HC.below bel1
    replace HS := HS.below bel1
    replace HA := HA.below bel1
    replace HB := HB.below bel1
    replace HX := HX.below bel1
    replace HY := HY.below bel1
    replace bel := Below.trans bel (bel1.mono bel.size)
    clear bel1 a0 a1 a2 b0 b1 b2
    have x0 := HX.cellv 0 (.string (k ++ B1)) rfl
    have x1 := HX.cellv 1 (.int .u64 s0) rfl
    have x2 := HX.cellv 2 (.bool false) rfl
    have y0 := HY.cellv 0 (.string (k ++ B2)) rfl
    have y1 := HY.cellv 1 (.int .u64 s1) rfl
    have y2 := HY.cellv 2 (.bool false) rfl
    obtain ⟨z, hz⟩ : ∃ z, z = cmpM (k.data.toList ++ [d0, d1]) s0 false (k.data.toList ++ [d1, d0]) s1 false := ⟨_, rfl⟩
    have HZ := Lib.hid hz
    clear hz
    go_wp2_with fail
    refine (cmp_list (k ++ B1) (k ++ B2) s0 s1 _ _ z D1.out D2.out HZ.out.symm _).mono ?_
    rintro e w7 ⟨rfl, bel1⟩
    replace HC := HC.below bel1
    replace HS := HS.below bel1
    replace HA := HA.below bel1
    replace HB := HB.below bel1
    replace HX := HX.below bel1
    replace HY := HY.below bel1
    replace bel := Below.trans bel (bel1.mono bel.size)
    clear bel1 x0 x1 x2 y0 y1 y2
    have c0 := HC.cellv 0 (.int .u8 e0) rfl
    have c1 := HC.cellv 1 (.int .u8 e1) rfl
    have n0 := HS.cellv 0 (.int .u64 s0) rfl
    have n1 := HS.cellv 1 (.int .u64 s1) rfl
    have hz2 : z = if cmpN e0 e1 ≠ 0 then cmpN e0 e1 else cmpN s1 s0 := by
      rw [HZ.out]; unfold cmpM; rw [cmpS_app, HM.out]
      split
      · rfl
      · split
        · rfl
        · rename_i h1 h2
          simp only [ne_eq, Decidable.not_not] at h2
          rw [h2]; rfl
    have HZ2 := Lib.hid hz2
    clear hz2
    by_cases hcc : e0 = e1
    · subst hcc
      have hz3 : z = cmpN s1 s0 := by rw [HZ2.out]; simp [cmpN]
      rcases Nat.lt_trichotomy s0 s1 with hs | hs | hs
      · obtain rfl : z = 1 := by rw [hz3]; unfold cmpN; rw [if_neg (by omega), if_pos hs]
        clear hz3
        go_wp2
        go_ret
        exact ⟨by first | rfl | (simp; done) | (simp; omega), bel⟩
      · subst hs
        obtain rfl : z = 0 := by rw [hz3]; simp [cmpN]
        clear hz3
        go_wp2
        go_ret
        exact ⟨by first | rfl | (simp; done) | (simp; omega), bel⟩
      · obtain rfl : z = -1 := by rw [hz3]; unfold cmpN; rw [if_pos hs]
        clear hz3
        go_wp2
        go_ret
        exact ⟨by first | rfl | (simp; done) | (simp; omega), bel⟩
    · have hne : ((e0 : Int) == (e1 : Int)) = false := by simp; omega
      rcases (by omega : e0 < e1 ∨ e1 < e0) with hs | hs
      · obtain rfl : z = -1 := by rw [HZ2.out]; unfold cmpN; simp [hs]
        clear hcc
        go_wp2
        go_ret
        exact ⟨by first | rfl | (simp; done) | (simp; omega), bel⟩
      · obtain rfl : z = 1 := by rw [HZ2.out]; unfold cmpN; rw [if_neg (show ¬ e0 < e1 by omega), if_pos hs]; rfl
        clear hcc
        go_wp2
        go_ret
        exact ⟨by first | rfl | (simp; done) | (simp; omega), bel⟩
theorem orderKeys_walk (w : World) (k : ByteArray) (b1 : UInt8 × UInt8) (b2 : Nat × Nat) (hk : k.size ≤ 140737488351232) (_ : True) (_ : b2.1 < 18446744073709551616 ∧ b2.2 < 18446744073709551616) :
    Calls Try.prog 30 #[.string k, .agg #[.int .u8 b1.1.toNat, .int .u8 b1.2.toNat], .agg #[.int .u64 b2.1, .int .u64 b2.2]] w (RetTrue w) :=
  orderKeys_core w k b1.1 b1.2 b2.1 b2.2 hk
end Go.Proofs.Ytdamfcldkaidjaa

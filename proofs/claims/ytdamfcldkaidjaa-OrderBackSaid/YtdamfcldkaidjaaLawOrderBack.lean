/- Walk of law04.OrderBack. The condition: an entry of texts, and bytes, of at most 2^47. -/
import Derived.Test.YtdamfcldkaidjaaAlive4
import Derived.Test.YtdamfcldkaidjaaCut
import Derived.Test.YtdamfcldkaidjaaMore
namespace Go.Proofs.Ytdamfcldkaidjaa
open Go.RowKit

set_option maxRecDepth 100000 in
set_option maxHeartbeats 4000000 in
theorem orderBack_walk (w : World) (k : ByteArray) (s : Nat) (g : Bool) (u : ByteArray) (v : Value) (l : List UInt8) (hk : k.size ≤ 140737488351232) (hs : s < 18446744073709551616) (hu : u.size ≤ 140737488351232) (hv : Rd w v l) (hl : l.length ≤ 140737488351232) :
    Calls Try.prog 27 #[.agg #[.string k, .int .u64 s, .bool g, .string u], v] w (RetTrue w) := by
  have hend : ∀ (w5 : World), Hid (Calls Try.prog 72 #[] w5 (RetTrue w5)) := fun w5 => alive04_any w5
  have HX : Blk (w.alloc (.cells #[.string k, .int .u64 s, .bool g, .string u] 55)) w.heap.size #[.string k, .int .u64 s, .bool g, .string u] 55 := Blk.new _ _ _
  have bel : Below w.heap.size w (w.alloc (.cells #[.string k, .int .u64 s, .bool g, .string u] 55)) := (Below.refl _ _).alloc (Nat.le_refl _) _
  obtain ⟨va, vn, vc, rfl, hvn⟩ := rd_len hv
  rw [← hvn] at hl
  have HVN := Lib.hid hvn
  have HV := Lib.hid hv
  clear hvn hv
  have hwr : IntKind.i64.wrap ((vn : Int) + (k.size : Int)) = (vn : Int) + (k.size : Int) := IntWalk.i64_in _ (by omega)
  have hwr2 : IntKind.i64.wrap ((vn : Int) + (k.size : Int) + (u.size : Int)) = (vn : Int) + (k.size : Int) + (u.size : Int) := IntWalk.i64_in _ (by omega)
  go_enter Try.func27, Try.ntmps27
  go_wp2_with fail
  refine (hend _).out.mono ?_
  rintro e w1 ⟨rfl, bel1⟩
  replace HX := HX.below bel1
  replace bel := Below.trans bel (bel1.mono bel.size)
  have x0 := HX.cellv 0 (.string k) rfl
  have x3 := HX.cellv 3 (.string u) rfl
  clear bel1
  by_cases hb : 1048576 < vn + k.size + u.size
  · go_wp2_with fail
    refine (beyond_one w1 _ _ (by omega) (by omega) true (by simp; omega)).mono ?_
    rintro e w2 ⟨rfl, bel2⟩
    replace bel := Below.trans bel (bel2.mono bel.size)
    clear bel2
    go_wp2_with fail
    refine (hend _).out.mono ?_
    rintro e w3 ⟨rfl, bel3⟩
    replace bel := Below.trans bel (bel3.mono bel.size)
    clear bel3
    go_wp2
    go_ret
    exact ⟨rfl, bel⟩
  · go_wp2_with fail
    refine (beyond_one w1 _ _ (by omega) (by omega) false (by simp; omega)).mono ?_
    rintro e w2 ⟨rfl, bel2⟩
    replace bel := Below.trans bel (bel2.mono bel.size)
    replace HX := HX.below bel2
    clear bel2 x0 x3 hwr hwr2
    have x0 := HX.cellv 0 (.string k) rfl
    have x1 := HX.cellv 1 (.int .u64 s) rfl
    have x2 := HX.cellv 2 (.bool g) rfl
    have x3 := HX.cellv 3 (.string u) rfl
    go_wp2_with fail
    refine (orderPut_any _ _ l k u s g (HV.out.below bel) (by rw [← HVN.out]; omega) (by omega) (by omega) hs).mono ?_
    rintro e w3 ⟨ca, cn, cc, rfl, HCN, HC, bel3⟩
    obtain ⟨E, hE⟩ : ∃ E, E = eput ⟨k.data.toList, s, g, u.data.toList⟩ := ⟨_, rfl⟩
    rw [← hE] at HCN HC
    have hEl : E.length ≤ 2097152 := by
      rw [hE]
      have h1 := vint_le k.size
      have h2 := vint_le s
      have h3 := vint_le u.size
      have h4 := size_data k
      have h5 := size_data u
      cases g <;> simp [eput, tput] <;> omega
    have HE := Lib.hid hE
    clear hE
    replace HX := HX.below bel3
    replace bel := Below.trans bel (bel3.mono bel.size)
    clear bel3 x0 x1 x2 x3
    obtain ⟨en, hen⟩ : ∃ en, en = E.length := ⟨_, rfl⟩
    rw [← hen] at hEl
    have hcn : cn = vn + en := by rw [HCN.out, List.length_append, HVN.out, hen]
    have HEN := Lib.hid hen
    subst hcn
    clear hen
    obtain ⟨x1a, x1c, hcut1, hr1⟩ := cut_to HC.out vn (by rw [← HCN.out]; omega)
    rw [HVN.out, List.take_left, ← HVN.out] at hr1
    have hs1 := sameBytes_any _ _ _ _ _ hr1 (HV.out.below bel)
    rw [decide_eq_true rfl] at hs1
    have H1 := Lib.hid hs1
    clear hs1 hr1
    go_wp2_with fail
    refine H1.out.mono ?_
    rintro e w5 ⟨rfl, k1, rfl⟩
    clear hcut1 H1
    obtain ⟨x2a, x2c, hcut3, hr3⟩ := cut_rest (HC.out.drewN k1) vn en HCN.out.symm
    have HD : (l ++ E).drop vn = E := by rw [HVN.out]; exact List.drop_left
    rw [HD] at hr3
    have H3 := Lib.hid hr3
    replace HX := HX.drewN k1
    replace bel := Below.trans bel ((drewN_below w3 k1).mono bel.size)
    clear hr3 HD
    generalize w3.drewN k1 = w4 at HX bel H3 ⊢
    go_wp2_with fail
    refine (twin_my _ _ w4 H3.out (by rw [← HEN.out]; omega)).mono ?_
    rintro e w6 ⟨ta, tn, tc, rfl, HTN, HT, bel6⟩
    have hv6 := HV.out.below (Below.trans bel (bel6.mono bel.size))
    have HV6 := Lib.hid hv6
    clear hv6
    go_wp2_with (at_builtin; go_loud (refine wp_app_my rfl _ _ rfl w4.heap.size _ _ _ _ l rfl rfl HT.out HV6.out (by rw [← HEN.out, ← HVN.out]; omega) bel6.size ?_); intro ua un uc w7 HUN HU bel7)
    have bel47 := Below.trans bel6 bel7
    have HX7 := Lib.hid (HX.below bel47)
    have bel7w := Below.trans bel (bel47.mono bel.size)
    have HBE := Lib.hid bel7w
    clear HX bel bel6 bel7 bel47 bel7w hcut3 HT HV6
    have hsub : IntKind.i64.wrap ((vn : Int) + (en : Int) - (vn : Int)) = (en : Int) := by rw [IntWalk.i64_in _ (by omega)]; omega
    have hsub2 : (vn : Int) + (en : Int) - (vn : Int) = (en : Int) := by omega
    have hk18 : k.data.toList.length < 18446744073709551616 := by rw [size_data]; omega
    have hu18 : u.data.toList.length < 18446744073709551616 := by rw [size_data]; omega
    have hbl : (E ++ l).length ≤ 140737488351232 := by rw [List.length_append, ← HEN.out, ← HVN.out]; omega
    have HBL := Lib.hid hbl
    clear hbl
    by_cases hck : checkK k.data.toList = true
    · have HCK := Lib.hid hck
      cases g with
      | true =>
        have hget : eget (E ++ l) = (⟨k.data.toList, s, true, []⟩, en, 0) := by
          rw [HEN.out, HE.out, eput_gone _ rfl]
          exact eget_put ⟨k.data.toList, s, true, []⟩ l hck hs (by simp) (fun _ => rfl)
        have HG := Lib.hid hget
        clear hget hck
        refine (get_lit (E ++ l) _ en 0 k ⟨#[]⟩ s true en 0 HG.out (bs_of k) rfl rfl rfl rfl rfl HBL.out _ _ (rd_of_own HU.out).2).mono ?_
        rintro e w8 ⟨rfl, bel8⟩
        go_upto_region 7 with (fail)
        obtain ⟨Y, hY⟩ : ∃ Y, Y = w8.heap.size := ⟨_, rfl⟩
        have HY : Blk (w8.alloc (.cells #[.string k, .int .u64 s, .bool true, .string ⟨#[]⟩] 55)) Y #[.string k, .int .u64 s, .bool true, .string ⟨#[]⟩] 55 := Blk.new_at _ _ _ _ hY
        have bel9 : Below w7.heap.size w7 (w8.alloc (.cells #[.string k, .int .u64 s, .bool true, .string ⟨#[]⟩] 55)) := bel8.alloc bel8.size _
        have hYX : w.heap.size < Y := by have h1 := HX7.out.lt; have h2 := bel8.size; omega
        rw [← hY]
        have HX := Lib.hid (HX7.out.below bel9)
        replace HBE := Lib.hid (Below.trans HBE.out (bel9.mono HBE.out.size))
        generalize w8.alloc (.cells #[.string k, .int .u64 s, .bool true, .string ⟨#[]⟩] 55) = w9 at HY HX HBE ⊢
        clear hY bel8 bel9 HX7
        have x0 := HX.out.cellv 0 (.string k) rfl
        have x1 := HX.out.cellv 1 (.int .u64 s) rfl
        have x2 := HX.out.cellv 2 (.bool true) rfl
        have x3 := HX.out.cellv 3 (.string u) rfl
        have y0 := HY.cellv 0 (.string k) rfl
        have y1 := HY.cellv 1 (.int .u64 s) rfl
        have y2 := HY.cellv 2 (.bool true) rfl
        have y3 := HY.cellv 3 (.string ⟨#[]⟩) rfl
        go_wp2_with fail
        refine (check_lit k true HCK.out _).mono ?_
        rintro e w10 ⟨rfl, rfl⟩
        have f3 := HX.out.free 3
        have HX2 := Lib.hid (HX.out.set 3 (.string ⟨#[]⟩))
        have HY2 := Lib.hid (Blk.set_other HY ⟨w.heap.size, 3, none⟩ (by simp; omega) (.string ⟨#[]⟩))
        have hbf := HBE.out.setCell (p := ⟨w.heap.size, 3, none⟩) (Nat.le_refl _) (.string ⟨#[]⟩)
        have HBF := Lib.hid hbf
        clear hbf
        go_upto_region 12 with (fail)
        clear x0 x1 x2 x3 y0 y1 y2 y3 f3 HBE
        generalize w9.setCell ⟨w.heap.size, 3, none⟩ (.string ⟨#[]⟩) = w11 at HX2 HY2 HBF ⊢
        have x0 := HX2.out.cellv 0 (.string k) rfl
        have x1 := HX2.out.cellv 1 (.int .u64 s) rfl
        have x2 := HX2.out.cellv 2 (.bool true) rfl
        have x3 := HX2.out.cellv 3 (.string ⟨#[]⟩) rfl
        have y0 := HY2.out.cellv 0 (.string k) rfl
        have y1 := HY2.out.cellv 1 (.int .u64 s) rfl
        have y2 := HY2.out.cellv 2 (.bool true) rfl
        have y3 := HY2.out.cellv 3 (.string ⟨#[]⟩) rfl
        go_wp2
        go_ret
        exact ⟨by first | rfl | (simp; done) | (simp; omega), HBF.out⟩
      | false =>
        by_cases hu256 : u.size ≤ 256
        · have hget : eget (E ++ l) = (⟨k.data.toList, s, false, u.data.toList⟩, en, 0) := by
            rw [HEN.out, HE.out]
            exact eget_put ⟨k.data.toList, s, false, u.data.toList⟩ l hck hs (by rw [size_data]; exact hu256) (fun h => by cases h)
          have HG := Lib.hid hget
          have hd : decide ((u.size : Int) ≤ 256) = true := by simp; omega
          clear hget hck
          refine (get_lit (E ++ l) _ en 0 k u s false en 0 HG.out (bs_of k) rfl rfl (bs_of u) rfl rfl HBL.out _ _ (rd_of_own HU.out).2).mono ?_
          rintro e w8 ⟨rfl, bel8⟩
          go_upto_region 7 with (fail)
          obtain ⟨Y, hY⟩ : ∃ Y, Y = w8.heap.size := ⟨_, rfl⟩
          have HY : Blk (w8.alloc (.cells #[.string k, .int .u64 s, .bool false, .string u] 55)) Y #[.string k, .int .u64 s, .bool false, .string u] 55 := Blk.new_at _ _ _ _ hY
          have bel9 : Below w7.heap.size w7 (w8.alloc (.cells #[.string k, .int .u64 s, .bool false, .string u] 55)) := bel8.alloc bel8.size _
          have hYX : w.heap.size < Y := by have h1 := HX7.out.lt; have h2 := bel8.size; omega
          rw [← hY]
          have HX := Lib.hid (HX7.out.below bel9)
          replace HBE := Lib.hid (Below.trans HBE.out (bel9.mono HBE.out.size))
          generalize w8.alloc (.cells #[.string k, .int .u64 s, .bool false, .string u] 55) = w9 at HY HX HBE ⊢
          clear hY bel8 bel9 HX7
          have x0 := HX.out.cellv 0 (.string k) rfl
          have x1 := HX.out.cellv 1 (.int .u64 s) rfl
          have x2 := HX.out.cellv 2 (.bool false) rfl
          have x3 := HX.out.cellv 3 (.string u) rfl
          have y0 := HY.cellv 0 (.string k) rfl
          have y1 := HY.cellv 1 (.int .u64 s) rfl
          have y2 := HY.cellv 2 (.bool false) rfl
          have y3 := HY.cellv 3 (.string u) rfl
          go_wp2_with fail
          refine (check_lit k true HCK.out _).mono ?_
          rintro e w10 ⟨rfl, rfl⟩
          go_wp2
          go_ret
          exact ⟨by first | rfl | (simp; done) | (simp; omega), HBE.out⟩
        · have hget : eget (E ++ l) = (Ent.none, 0, 4) := by
            rw [HE.out]
            exact eget_put_bad ⟨k.data.toList, s, false, u.data.toList⟩ l hk18 hu18 hs (.inr ⟨rfl, by show 256 < u.data.toList.length; rw [size_data]; omega⟩)
          have HG := Lib.hid hget
          have hd : decide ((u.size : Int) ≤ 256) = false := by simp; omega
          clear hget hck
          refine (get_lit (E ++ l) Ent.none 0 4 ⟨#[]⟩ ⟨#[]⟩ 0 false 0 4 HG.out rfl rfl rfl rfl rfl rfl HBL.out _ _ (rd_of_own HU.out).2).mono ?_
          rintro e w8 ⟨rfl, bel8⟩
          go_upto_region 7 with (fail)
          obtain ⟨Y, hY⟩ : ∃ Y, Y = w8.heap.size := ⟨_, rfl⟩
          have HY : Blk (w8.alloc (.cells #[.string ⟨#[]⟩, .int .u64 0, .bool false, .string ⟨#[]⟩] 55)) Y #[.string ⟨#[]⟩, .int .u64 0, .bool false, .string ⟨#[]⟩] 55 := Blk.new_at _ _ _ _ hY
          have bel9 : Below w7.heap.size w7 (w8.alloc (.cells #[.string ⟨#[]⟩, .int .u64 0, .bool false, .string ⟨#[]⟩] 55)) := bel8.alloc bel8.size _
          have hYX : w.heap.size < Y := by have h1 := HX7.out.lt; have h2 := bel8.size; omega
          rw [← hY]
          have HX := Lib.hid (HX7.out.below bel9)
          replace HBE := Lib.hid (Below.trans HBE.out (bel9.mono HBE.out.size))
          generalize w8.alloc (.cells #[.string ⟨#[]⟩, .int .u64 0, .bool false, .string ⟨#[]⟩] 55) = w9 at HY HX HBE ⊢
          clear hY bel8 bel9 HX7
          have x0 := HX.out.cellv 0 (.string k) rfl
          have x1 := HX.out.cellv 1 (.int .u64 s) rfl
          have x2 := HX.out.cellv 2 (.bool false) rfl
          have x3 := HX.out.cellv 3 (.string u) rfl
          have y0 := HY.cellv 0 (.string ⟨#[]⟩) rfl
          have y1 := HY.cellv 1 (.int .u64 0) rfl
          have y2 := HY.cellv 2 (.bool false) rfl
          have y3 := HY.cellv 3 (.string ⟨#[]⟩) rfl
          go_wp2_with fail
          refine (check_lit k true HCK.out _).mono ?_
          rintro e w10 ⟨rfl, rfl⟩
          go_wp2
          go_ret
          exact ⟨by first | rfl | (simp; done) | (simp; omega), HBE.out⟩
    · have hck2 : checkK k.data.toList = false := by simpa using hck
      have HCK := Lib.hid hck2
      have hget : eget (E ++ l) = (Ent.none, 0, 4) := by
        rw [HE.out]
        exact eget_put_bad ⟨k.data.toList, s, g, u.data.toList⟩ l hk18 hu18 hs (.inl hck2)
      have HG := Lib.hid hget
      clear hget hck hck2
      refine (get_lit (E ++ l) Ent.none 0 4 ⟨#[]⟩ ⟨#[]⟩ 0 false 0 4 HG.out rfl rfl rfl rfl rfl rfl HBL.out _ _ (rd_of_own HU.out).2).mono ?_
      rintro e w8 ⟨rfl, bel8⟩
      go_upto_region 7 with (fail)
      obtain ⟨Y, hY⟩ : ∃ Y, Y = w8.heap.size := ⟨_, rfl⟩
      have HY : Blk (w8.alloc (.cells #[.string ⟨#[]⟩, .int .u64 0, .bool false, .string ⟨#[]⟩] 55)) Y #[.string ⟨#[]⟩, .int .u64 0, .bool false, .string ⟨#[]⟩] 55 := Blk.new_at _ _ _ _ hY
      have bel9 : Below w7.heap.size w7 (w8.alloc (.cells #[.string ⟨#[]⟩, .int .u64 0, .bool false, .string ⟨#[]⟩] 55)) := bel8.alloc bel8.size _
      have hYX : w.heap.size < Y := by have h1 := HX7.out.lt; have h2 := bel8.size; omega
      rw [← hY]
      have HX := Lib.hid (HX7.out.below bel9)
      replace HBE := Lib.hid (Below.trans HBE.out (bel9.mono HBE.out.size))
      generalize w8.alloc (.cells #[.string ⟨#[]⟩, .int .u64 0, .bool false, .string ⟨#[]⟩] 55) = w9 at HY HX HBE ⊢
      clear hY bel8 bel9 HX7
      have x0 := HX.out.cellv 0 (.string k) rfl
      have x1 := HX.out.cellv 1 (.int .u64 s) rfl
      have x2 := HX.out.cellv 2 (.bool g) rfl
      have x3 := HX.out.cellv 3 (.string u) rfl
      have y0 := HY.cellv 0 (.string ⟨#[]⟩) rfl
      have y1 := HY.cellv 1 (.int .u64 0) rfl
      have y2 := HY.cellv 2 (.bool false) rfl
      have y3 := HY.cellv 3 (.string ⟨#[]⟩) rfl
      go_wp2_with fail
      refine (check_lit k false HCK.out _).mono ?_
      rintro e w10 ⟨rfl, rfl⟩
      go_wp2
      go_ret
      exact ⟨by first | rfl | (simp; done) | (simp; omega), HBE.out⟩
end Go.Proofs.Ytdamfcldkaidjaa

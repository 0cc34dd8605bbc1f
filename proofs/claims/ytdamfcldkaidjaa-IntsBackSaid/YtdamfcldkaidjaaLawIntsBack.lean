/- Walk of law01.IntsBack. The condition: bytes of at most 2^47. -/
import Derived.Test.YtdamfcldkaidjaaRet
namespace Go.Proofs.Ytdamfcldkaidjaa
open Go.RowKit

/-- how many bits a number has, counted as the law counts -/
def bl (k : Nat) : Nat := if k = 0 then 0 else Nat.log2 k + 1
theorem bl_half (k : Nat) (h : k ≠ 0) : bl k = bl (k / 2) + 1 := by
  unfold bl
  rw [if_neg h, Nat.log2_def]
  by_cases h2 : 2 ≤ k
  · rw [if_pos h2, if_neg (by omega)]
  · rw [if_neg h2, if_pos (by omega)]
theorem bl_seven (k : Nat) (h : 64 ≤ k) : bl k = bl (k / 128) + 7 := by
  rw [bl_half k (by omega), bl_half (k / 2) (by omega), bl_half (k / 2 / 2) (by omega), bl_half (k / 2 / 2 / 2) (by omega), bl_half (k / 2 / 2 / 2 / 2) (by omega), bl_half (k / 2 / 2 / 2 / 2 / 2) (by omega), bl_half (k / 2 / 2 / 2 / 2 / 2 / 2) (by omega)]
  rw [show k / 2 / 2 / 2 / 2 / 2 / 2 / 2 = k / 128 from by omega]
theorem bl_small (k : Nat) (h : k < 64) : bl k ≤ 6 := by
  have key : ∀ j, j < 64 → bl j ≤ 6 := by decide
  exact key k h
theorem vint_bits : ∀ m n, n ≤ m → n < 18446744073709551616 → (vint n).length = (bl (n / 2) + 1 + 6) / 7 := by
  intro m
  induction m with
  | zero =>
    intro n h _
    have := bl_small (n / 2) (by omega)
    rw [vint_small n (by omega)]
    simp only [List.length_cons, List.length_nil]
    omega
  | succ m ih =>
    intro n h hn
    by_cases h1 : n < 128
    · have := bl_small (n / 2) (by omega)
      rw [vint_small n h1]
      simp only [List.length_cons, List.length_nil]
      omega
    · rw [vint_step n (by omega) (by omega), List.length_cons, ih (n / 128) (by omega) (by omega), bl_seven (n / 2) (by omega), show n / 2 / 128 = n / 128 / 2 from by omega]
      omega
set_option maxRecDepth 100000 in
set_option maxHeartbeats 4000000 in
theorem intsBack_walk (w : World) (a0 : Int) (v : Value) (l : List UInt8) (v2 : Value) (l2 : List UInt8) (wa : (Lit.int .u64 a0).wf = true) (hv : Rd w v l) (hl : l.length ≤ 140737488351232) (hv2 : Rd w v2 l2) (hl2 : l2.length ≤ 140737488351232) :
    Calls Try.prog 11 #[.int .u64 a0, v, v2] w (RetTrue w) := by
  obtain ⟨n, rfl, hn⟩ := nat_u64 wa
  clear wa
  have hend : ∀ (w5 : World), Hid (Calls Try.prog 61 #[] w5 (RetTrue w5)) := fun w5 => alive01_any w5
  obtain ⟨va, vn, vc, rfl, hvn⟩ := rd_len hv
  obtain ⟨ma, mn, mc, rfl, hmn⟩ := rd_len hv2
  rw [← hvn] at hl
  rw [← hmn] at hl2
  have HVN := Lib.hid hvn
  have HMN := Lib.hid hmn
  clear hvn hmn
  by_cases hb : 1048576 < vn + mn
  · go_enter Try.func11, Try.ntmps11
    go_wp2_with fail
    refine (hend _).out.mono ?_
    rintro e w1 ⟨rfl, bel⟩
    go_wp2_with fail
    refine (beyond_one w1 _ _ (by omega) (by omega) true (by simp; omega)).mono ?_
    rintro e w2 ⟨rfl, bel2⟩
    replace bel := Below.trans bel (bel2.mono bel.size)
    clear bel2
    go_wp2_with fail
    refine (hend _).out.mono ?_
    rintro e w3 ⟨rfl, bel3⟩
    replace bel := Below.trans bel (bel3.mono bel.size)
    clear bel3
    go_wp2
    go_ret
    exact ⟨rfl, bel⟩
  · go_enter Try.func11, Try.ntmps11
    go_wp2_with fail
    refine (hend _).out.mono ?_
    rintro e w1 ⟨rfl, bel⟩
    go_wp2_with fail
    refine (beyond_one w1 _ _ (by omega) (by omega) false (by simp; omega)).mono ?_
    rintro e w2 ⟨rfl, bel2⟩
    replace bel := Below.trans bel (bel2.mono bel.size)
    clear bel2
    have HV := Lib.hid (hv.below bel)
    have HM := Lib.hid (hv2.below bel)
    clear hv hv2
    go_wp2_with fail
    refine (put_rd w2 _ l n HV.out hn (by have := HVN.out; omega)).mono ?_
    rintro e w3 ⟨xa, xn, xc, rfl, HXN, HX, bel3⟩
    replace bel := Below.trans bel (bel3.mono bel.size)
    replace HV := Lib.hid (HV.out.below bel3)
    replace HM := Lib.hid (HM.out.below bel3)
    clear bel3
    have hx1 := vint_pos n
    have hx10 := vint_le n
    obtain ⟨kn, hkn⟩ : ∃ kn : Nat, kn = (vint n).length := ⟨_, rfl⟩
    have hxn : xn = vn + kn := by rw [HXN.out, HVN.out, List.length_append, hkn]
    rw [← hkn] at hx1 hx10
    have HKN := Lib.hid hkn
    clear hkn
    subst hxn
    obtain ⟨x1a, x1c, hcut1, hr1⟩ := cut_to HX.out vn (by rw [← HXN.out]; omega)
    rw [HVN.out, List.take_left, ← HVN.out] at hr1
    have hs1 := sameBytes_any _ _ _ _ _ hr1 HV.out
    rw [decide_eq_true rfl] at hs1
    have H1 := Lib.hid hs1
    obtain ⟨x2a, x2c, hcut3, hr3⟩ := cut_rest HX.out vn kn HXN.out.symm
    have HD : (l ++ vint n).drop vn = vint n := by rw [HVN.out]; exact List.drop_left
    rw [HD] at hr3
    have H3 := Lib.hid hr3
    clear hs1 hr1 hr3 HD
    have hsub : (vn : Int) + (kn : Int) - (vn : Int) = (kn : Int) := by omega
    go_wp2_with fail
    refine H1.out.mono ?_
    rintro e w5 ⟨rfl, k1, rfl⟩
    have bel5 : Below w3.heap.size w3 (w3.drewN k1) := drewN_below _ _
    replace HV := Lib.hid (HV.out.below bel5)
    replace HM := Lib.hid (HM.out.below bel5)
    replace H3 := Lib.hid (H3.out.below bel5)
    replace bel := Below.trans bel (bel5.mono bel.size)
    clear bel5 hcut1 H1
    replace HX := ()
    generalize w3.drewN k1 = w5 at HV HM H3 bel ⊢
    go_wp2_with fail
    refine (twin_my _ _ w5 H3.out (by have := HKN.out; omega)).mono ?_
    rintro e w6 ⟨ta, tn, tc, rfl, HTN, HT, bel6⟩
    go_wp2_with (at_builtin; go_loud (refine wp_app_my rfl _ _ rfl w5.heap.size _ _ _ _ l2 rfl rfl HT.out (HM.out.below bel6) (by have := HKN.out; have := HMN.out; omega) bel6.size ?_); intro ua un uc w7 HUN HU bel7)
    refine (intsGet_any _ _ _ (rd_of_own HU.out).2).mono ?_
    rintro e w8 ⟨rfl, rfl⟩
    rw [vget_put n hn l2, ← HKN.out]
    replace bel7 := Below.trans bel6 bel7
    replace bel := Below.trans bel (bel7.mono bel.size)
    clear bel6 bel7 hcut3 HT HU
    go_wp2
    have hbits := vint_bits n n (Nat.le_refl _) hn
    rw [← HKN.out] at hbits
    have HB := Lib.hid hbits
    have hT : bl (n / 2) ≤ 70 := by omega
    clear hbits
    go_loop [11, 12] (fun b k => ∃ j m : Nat, b = .int .i64 j ∧ k = .int .u64 m ∧ m < 18446744073709551616 ∧ j + bl m = bl (n / 2) + 1) (fun _ k => (intOf k).toNat)
    case atStart => exact ⟨1, n / 2, rfl, by go_num, by omega, by omega⟩
    case round =>
      obtain ⟨j, m, rfl, rfl, hm, hj⟩ := hrel
      by_cases h0 : m = 0
      · subst h0
        have hbl : bl 0 = 0 := rfl
        rw [hbl, Nat.add_zero] at hj
        have hq : ((j : Int) + 6) / 7 = (kn : Int) := by rw [HB.out]; omega
        clear hj
        go_wp2
        go_ret
        exact ⟨rfl, bel⟩
      · have hh := bl_half m h0
        go_wp2
        go_round
        case rel => exact ⟨j + 1, m / 2, by go_num, by go_num, by omega, by omega⟩
        case measure => simp [intOf]; omega
end Go.Proofs.Ytdamfcldkaidjaa

/- Walk of law01.IntsTexts. The condition: bytes and a text of at most 2^47 bytes. -/
import Derived.Test.YtdamfcldkaidjaaRet
namespace Go.Proofs.Ytdamfcldkaidjaa
open Go.RowKit

theorem tget_put (s b : List UInt8) (hs : s.length < 18446744073709551616) : tget ((vint s.length ++ s) ++ b) = (s, (vint s.length ++ s).length, 0) := by
  rw [List.append_assoc]
  have h := vget_put s.length hs (s ++ b)
  rw [tget_ok h (by simp)]
  rw [List.drop_left, List.take_left, List.length_append]
theorem fval_of_four (n : Nat) (h : n < 4294967296) : fval (four n) = n := by
  simp only [fval, four, List.foldl_cons, List.foldl_nil, UInt8.toNat_ofNat']
  omega
theorem fget_put (n : Nat) (b : List UInt8) (h : n < 4294967296) : fget (four n ++ b) = (n, 0) := by
  unfold fget
  rw [if_neg (by simp [four]), show (four n ++ b).take 4 = four n from rfl, fval_of_four n h]

set_option maxRecDepth 100000 in
set_option maxHeartbeats 4000000 in
theorem intsTexts_walk (w : World) (s : ByteArray) (a0 : Int) (v : Value) (l : List UInt8) (hs : s.size ≤ 140737488351232) (wa : (Lit.int .u32 a0).wf = true) (hv : Rd w v l) (hl : l.length ≤ 140737488351232) :
    Calls Try.prog 12 #[.string s, .int .u32 a0, v] w (RetTrue w) := by
  obtain ⟨n, rfl, hn⟩ := nat_u32 wa
  clear wa
  have hend : ∀ (w5 : World), Hid (Calls Try.prog 61 #[] w5 (RetTrue w5)) := fun w5 => alive01_any w5
  obtain ⟨va, vn, vc, rfl, hvn⟩ := rd_len hv
  rw [← hvn] at hl
  have HVN := Lib.hid hvn
  clear hvn
  by_cases hb : 1048576 < s.size + vn
  · go_enter Try.func12, Try.ntmps12
    go_wp2_with fail
    refine (hend _).out.mono ?_
    rintro e w1 ⟨rfl, bel⟩
    go_wp2_with fail
    refine (beyond_one w1 _ _ (by omega) (by omega) true (by simp; omega)).mono ?_
    rintro e w2 ⟨rfl, bel2⟩
    replace bel := Below.trans bel (bel2.mono bel.size)
    clear bel2
    go_wp2_with fail
    refine (hend _).out.mono ?_
    rintro e w3 ⟨rfl, bel3⟩
    replace bel := Below.trans bel (bel3.mono bel.size)
    clear bel3
    go_wp2
    go_ret
    exact ⟨rfl, bel⟩
  · go_enter Try.func12, Try.ntmps12
    go_wp2_with fail
    refine (hend _).out.mono ?_
    rintro e w1 ⟨rfl, bel⟩
    go_wp2_with fail
    refine (beyond_one w1 _ _ (by omega) (by omega) false (by simp; omega)).mono ?_
    rintro e w2 ⟨rfl, bel2⟩
    replace bel := Below.trans bel (bel2.mono bel.size)
    clear bel2
    have HV := Lib.hid (hv.below bel)
    clear hv
    go_wp2_with fail
    refine (putText_rd w2 _ l s HV.out (by omega) (by have := HVN.out; omega)).mono ?_
    rintro e w3 ⟨xa, xn, xc, rfl, HXN, HX, bel3⟩
    replace bel := Below.trans bel (bel3.mono bel.size)
    replace HV := Lib.hid (HV.out.below bel3)
    clear bel3
    go_wp2_with fail
    refine (putFour_rd w3 _ l n HV.out hn (by have := HVN.out; omega)).mono ?_
    rintro e w4 ⟨ya, yn, yc, rfl, HYN, HY, bel4⟩
    replace bel := Below.trans bel (bel4.mono bel.size)
    replace HV := Lib.hid (HV.out.below bel4)
    replace HX := Lib.hid (HX.out.below bel4)
    clear bel4
    have hsl : s.data.toList.length = s.size := by rw [Array.length_toList]; rfl
    have hxn : xn = vn + ((vint s.size).length + s.size) := by rw [HXN.out, HVN.out, List.length_append, List.length_append, hsl]
    have hyn : yn = vn + 4 := by rw [HYN.out, HVN.out, List.length_append, four_length]
    have hx1 := vint_pos s.size
    have hx10 := vint_le s.size
    obtain ⟨kn, hkn⟩ : ∃ kn : Nat, kn = (vint s.size).length := ⟨_, rfl⟩
    rw [← hkn] at hxn hx1 hx10
    have HKN := Lib.hid hkn
    clear hkn
    subst hxn hyn
    obtain ⟨x1a, x1c, hcut1, hr1⟩ := cut_to HX.out vn (by rw [← HXN.out]; omega)
    obtain ⟨y1a, y1c, hcut2, hr2⟩ := cut_to HY.out vn (by rw [← HYN.out]; omega)
    rw [HVN.out, List.take_left, ← HVN.out] at hr1 hr2
    have hs1 := sameBytes_any _ _ _ _ _ hr1 HV.out
    have hs2 := fun k => sameBytes_any _ _ _ _ _ (hr2.drewN k) (HV.out.drewN k)
    rw [decide_eq_true rfl] at hs1
    simp only [decide_true] at hs2
    have H1 := Lib.hid hs1
    have H2 := Lib.hid hs2
    clear hs1 hs2 hr1 hr2
    go_wp2_with fail
    refine H1.out.mono ?_
    rintro e w5 ⟨rfl, k1, rfl⟩
    go_wp2_with fail
    refine (H2.out k1).mono ?_
    rintro e w5 ⟨rfl, k2, rfl⟩
    clear hcut1 hcut2 H1 H2
    have bel5 : Below w4.heap.size w4 ((w4.drewN k1).drewN k2) := Below.trans (drewN_below w4 k1) (show Below w4.heap.size (w4.drewN k1) _ from drewN_below (w4.drewN k1) k2)
    replace HV := Lib.hid (HV.out.below bel5)
    replace HX := Lib.hid (HX.out.below bel5)
    replace HY := Lib.hid (HY.out.below bel5)
    replace bel := Below.trans bel (bel5.mono bel.size)
    clear bel5
    generalize (w4.drewN k1).drewN k2 = w5 at HV HX HY bel ⊢
    obtain ⟨x2a, x2c, hcut3, hr3⟩ := cut_rest HX.out vn (kn + s.size) HXN.out.symm
    obtain ⟨y2a, y2c, hcut4, hr4⟩ := cut_rest HY.out vn 4 HYN.out.symm
    have HD : ∀ m : List UInt8, (l ++ m).drop vn = m := fun m => by rw [HVN.out]; exact List.drop_left
    rw [HD] at hr3 hr4
    have H3 := Lib.hid hr3
    have H4 := Lib.hid hr4
    clear hr3 hr4 HD
    have HSL := Lib.hid hsl
    clear hsl
    go_wp2_with fail
    refine (twin_my _ _ w5 H3.out (by simp only [List.length_append]; have := HSL.out; have := HKN.out; omega)).mono ?_
    rintro e w6 ⟨ta, tn, tc, rfl, HTN, HT, bel6⟩
    go_wp2_with (at_builtin; go_loud (refine wp_app_my rfl _ _ rfl w5.heap.size _ _ _ _ l rfl rfl HT.out (HV.out.below bel6) (by simp only [List.length_append]; have := HSL.out; have := HKN.out; have := HVN.out; omega) bel6.size ?_); intro ua un uc w7 HUN HU bel7)
    replace bel7 := Below.trans bel6 bel7
    replace HV := Lib.hid (HV.out.below bel7)
    replace H4 := Lib.hid (H4.out.below bel7)
    replace bel := Below.trans bel (bel7.mono bel.size)
    clear bel6 bel7 H3 HT
    have hlt : (vint s.data.toList.length ++ s.data.toList) ++ l = (vint s.size ++ s.data.toList) ++ l := by rw [HSL.out]
    have hg := tget_put s.data.toList l (by have := HSL.out; omega)
    rw [hlt] at hg
    refine (intsGetText_any _ _ _ (rd_of_own HU.out).2).mono ?_
    rintro e w8 ⟨rfl, rfl⟩
    rw [hg]
    clear hlt hg
    have hlen : (vint s.data.toList.length ++ s.data.toList).length = kn + s.size := by rw [List.length_append, HSL.out, HKN.out]
    have hbs : bs s.data.toList = s := by simp [bs]
    simp only [hlen, hbs]
    clear hlen hbs
    go_wp2_with fail
    refine (twin_my _ _ w7 H4.out (by rw [four_length]; decide)).mono ?_
    rintro e w8 ⟨qa, qn, qc, rfl, HQN, HQ, bel8⟩
    go_wp2_with (at_builtin; go_loud (refine wp_app_my rfl _ _ rfl w7.heap.size _ _ _ _ l rfl rfl HQ.out (HV.out.below bel8) (by rw [four_length]; have := HVN.out; omega) bel8.size ?_); intro ra rn rc w9 HRN HR bel9)
    refine (intsGetFour_any _ _ _ (rd_of_own HR.out).2).mono ?_
    rintro e w10 ⟨rfl, rfl⟩
    rw [fget_put n l hn]
    replace bel9 := Below.trans bel8 bel9
    replace bel := Below.trans bel (bel9.mono bel.size)
    clear hcut3 hcut4 bel8 bel9
    have hsub : (vn : Int) + ((kn : Int) + (s.size : Int)) - (vn : Int) = (kn : Int) + (s.size : Int) := by omega
    go_wp2
    go_ret
    exact ⟨rfl, bel⟩
end Go.Proofs.Ytdamfcldkaidjaa

/- Walk of law01.IntsJoin. The condition: texts of at most 2^47 bytes. -/
import Derived.Test.YtdamfcldkaidjaaRet
namespace Go.Proofs.Ytdamfcldkaidjaa
open Go.RowKit

/-- a sum needs no more bytes than both and one -/
theorem vint_sum (a b : Nat) (h : a + b < 1048577) : (vint (a + b)).length ≤ (vint a).length + (vint b).length + 1 := by
  have h1 := vint_pos a
  have h2 := vint_pos b
  have h3 : ∀ n, n < 2097152 → (vint n).length ≤ 3 := by
    intro n hn
    by_cases c1 : n < 128
    · rw [vint_small n c1]; simp
    · rw [vint_step n (by omega) (by omega), List.length_cons]
      by_cases c2 : n / 128 < 128
      · rw [vint_small _ c2]; simp
      · rw [vint_step _ (by omega) (by omega), List.length_cons, vint_small _ (by omega)]; simp
  have := h3 (a + b) (by omega)
  omega
theorem bs_of_text (s : ByteArray) : bs s.data.toList = s := by simp [bs]
set_option maxRecDepth 100000 in
set_option maxHeartbeats 4000000 in
theorem intsJoin_walk (w : World) (s t : ByteArray) (hs : s.size ≤ 140737488351232) (ht : t.size ≤ 140737488351232) :
    Calls Try.prog 18 #[.string s, .string t] w (RetTrue w) := by
  have hend : ∀ (w5 : World), Hid (Calls Try.prog 61 #[] w5 (RetTrue w5)) := fun w5 => alive01_any w5
  by_cases hb : 1048576 < s.size + t.size
  · go_enter Try.func18, Try.ntmps18
    go_wp2_with fail
    refine (hend _).out.mono ?_
    rintro e w1 ⟨rfl, bel⟩
    go_wp2_with fail
    refine (beyond_one w1 _ _ (by omega) (by omega) true (by simp; omega)).mono ?_
    rintro e w2 ⟨rfl, bel2⟩
    replace bel := Below.trans bel (bel2.mono bel.size)
    clear bel2
    go_wp2_with fail
    refine (hend _).out.mono ?_
    rintro e w3 ⟨rfl, bel3⟩
    replace bel := Below.trans bel (bel3.mono bel.size)
    clear bel3
    go_wp2
    go_ret
    exact ⟨rfl, bel⟩
  · go_enter Try.func18, Try.ntmps18
    go_wp2_with fail
    refine (hend _).out.mono ?_
    rintro e w1 ⟨rfl, bel⟩
    go_wp2_with fail
    refine (beyond_one w1 _ _ (by omega) (by omega) false (by simp; omega)).mono ?_
    rintro e w2 ⟨rfl, bel2⟩
    replace bel := Below.trans bel (bel2.mono bel.size)
    clear bel2
    have hsl : s.data.toList.length = s.size := by rw [Array.length_toList]; rfl
    have htl : t.data.toList.length = t.size := by rw [Array.length_toList]; rfl
    have HSL := Lib.hid hsl
    have HTL := Lib.hid htl
    clear hsl htl
    obtain ⟨k1, hk1⟩ : ∃ k : Nat, k = (vint s.size).length := ⟨_, rfl⟩
    obtain ⟨k2, hk2⟩ : ∃ k : Nat, k = (vint t.size).length := ⟨_, rfl⟩
    obtain ⟨k3, hk3⟩ : ∃ k : Nat, k = (vint (s.size + t.size)).length := ⟨_, rfl⟩
    have hk1a : k1 ≤ 10 := by rw [hk1]; exact vint_le _
    have hk2a : k2 ≤ 10 := by rw [hk2]; exact vint_le _
    have hk3a : k3 ≤ 10 := by rw [hk3]; exact vint_le _
    have hsum : k3 ≤ k1 + k2 + 1 := by rw [hk1, hk2, hk3]; exact vint_sum _ _ (by omega)
    have HK1 := Lib.hid hk1
    have HK2 := Lib.hid hk2
    have HK3 := Lib.hid hk3
    clear hk1 hk2 hk3
    go_wp2_with fail
    refine (putText_rd w2 _ [] s (rd_nil w2) (by omega) (by decide)).mono ?_
    rintro e w3 ⟨xa, xn, xc, rfl, HXN, HX, bel3⟩
    replace bel := Below.trans bel (bel3.mono bel.size)
    clear bel3
    go_wp2_with fail
    refine (putText_rd w3 _ [] t (rd_nil w3) (by omega) (by decide)).mono ?_
    rintro e w4 ⟨ya, yn, yc, rfl, HYN, HY, bel4⟩
    replace bel := Below.trans bel (bel4.mono bel.size)
    replace HX := Lib.hid (HX.out.below bel4)
    clear bel4
    go_wp2_with fail
    have hqs : (s ++ t).size = s.size + t.size := ByteArray.size_append
    refine (putText_rd w4 _ [] (s ++ t) (rd_nil w4) (by omega) (by decide)).mono ?_
    rintro e w5 ⟨za, zn, zc, rfl, HZN, HZ, bel5⟩
    replace bel := Below.trans bel (bel5.mono bel.size)
    replace HX := Lib.hid (HX.out.below bel5)
    replace HY := Lib.hid (HY.out.below bel5)
    clear bel5
    rw [List.nil_append] at HXN HYN HZN HX HY HZ
    rw [hqs] at HZN HZ
    have hxn : xn = k1 + s.size := by rw [HXN.out, List.length_append, HK1.out, HSL.out]
    have hyn : yn = k2 + t.size := by rw [HYN.out, List.length_append, HK2.out, HTL.out]
    have hql : (s ++ t).data.toList.length = s.size + t.size := by rw [Array.length_toList, ← hqs]; rfl
    have hzn : zn = k3 + (s.size + t.size) := by rw [HZN.out, List.length_append, HK3.out, hql]
    clear hqs hql
    subst hxn hyn hzn
    go_wp2_with fail
    have hcast : ((s.size : Int) + (t.size : Int)) = ((s.size + t.size : Nat) : Int) := by omega
    rw [hcast]
    refine (put_rd w5 _ [] (s.size + t.size) (rd_nil w5) (by omega) (by decide)).mono ?_
    rintro e w6 ⟨qa, qn, qc, rfl, HQN, HQ, bel6⟩
    replace bel := Below.trans bel (bel6.mono bel.size)
    replace HX := Lib.hid (HX.out.below bel6)
    replace HY := Lib.hid (HY.out.below bel6)
    replace HZ := Lib.hid (HZ.out.below bel6)
    clear bel6 hcast
    have hqn : qn = k3 := by rw [HQN.out, List.nil_append, HK3.out]
    subst hqn
    obtain ⟨x1a, x1c, hcut1, hr1⟩ := cut_rest HX.out k1 s.size HXN.out.symm
    obtain ⟨y1a, y1c, hcut2, hr2⟩ := cut_rest HY.out k2 t.size HYN.out.symm
    obtain ⟨z1a, z1c, hcut3, hr3⟩ := cut_rest HZ.out qn (s.size + t.size) HZN.out.symm
    rw [HK1.out, List.drop_left] at hr1
    rw [HK2.out, List.drop_left] at hr2
    have hz1 : (vint (s.size + t.size) ++ (s ++ t).data.toList).drop qn = (s ++ t).data.toList := by rw [HK3.out, List.drop_left]
    rw [hz1] at hr3
    have hstr1 := run_str hr1
    have hstr2 := run_str hr2
    have hstr3 := run_str hr3
    rw [bs_of_text] at hstr1 hstr2 hstr3
    clear hr1 hr2 hr3 hz1
    have e1 : (k1 : Int) + (s.size : Int) - (s.size : Int) = (k1 : Int) := by omega
    have e2 : (k2 : Int) + (t.size : Int) - (t.size : Int) = (k2 : Int) := by omega
    go_wp2
    go_ret
    exact ⟨by simp; omega, bel⟩
end Go.Proofs.Ytdamfcldkaidjaa

/- Walk of law01.IntsCut. The condition: a text of at most 2^47 bytes. -/
import Derived.Test.YtdamfcldkaidjaaCut
namespace Go.Proofs.Ytdamfcldkaidjaa
open Go.RowKit

set_option maxRecDepth 100000 in
set_option maxHeartbeats 4000000 in
theorem intsCut_walk (w : World) (a0 : Int) (s : ByteArray) (c0 : Int) (wa : (Lit.int .u64 a0).wf = true) (hs : s.size ≤ 140737488351232) (wc : (Lit.int .u16 c0).wf = true) :
    Calls Try.prog 14 #[.int .u64 a0, .string s, .int .u16 c0] w (RetTrue w) := by
  obtain ⟨n, rfl, hn⟩ := nat_u64 wa
  obtain ⟨c, rfl, hc⟩ := nat_u16 wc
  clear wa wc
  have hend : ∀ (w5 : World), Hid (Calls Try.prog 61 #[] w5 (RetTrue w5)) := fun w5 => alive01_any w5
  by_cases hb : 1048576 < s.size
  · go_enter Try.func14, Try.ntmps14
    go_wp2_with fail
    refine (hend _).out.mono ?_
    rintro e w1 ⟨rfl, bel⟩
    go_wp2_with fail
    refine (beyond_one w1 s.size _ (by omega) (by omega) true (by simp; omega)).mono ?_
    rintro e w2 ⟨rfl, bel2⟩
    replace bel := Below.trans bel (bel2.mono bel.size)
    clear bel2
    go_wp2_with fail
    refine (hend _).out.mono ?_
    rintro e w3 ⟨rfl, bel3⟩
    replace bel := Below.trans bel (bel3.mono bel.size)
    clear bel3
    go_wp2
    go_ret
    exact ⟨rfl, bel⟩
  · go_enter Try.func14, Try.ntmps14
    go_wp2_with fail
    refine (hend _).out.mono ?_
    rintro e w1 ⟨rfl, bel⟩
    go_wp2_with fail
    refine (beyond_one w1 s.size _ (by omega) (by omega) false (by simp; omega)).mono ?_
    rintro e w2 ⟨rfl, bel2⟩
    replace bel := Below.trans bel (bel2.mono bel.size)
    clear bel2
    go_wp2_with fail
    refine (put_any w2 _ [] n (rd_nil w2) hn (by decide)).mono ?_
    rintro e w3 ⟨x, rfl, hx, bel3⟩
    replace bel := Below.trans bel (bel3.mono bel.size)
    have hrx := (rd_of_own hx).2
    clear bel3 hx
    rw [List.nil_append] at hrx
    obtain ⟨xa, xn, xc, rfl, hxn⟩ := rd_len hrx
    have h1 : 1 ≤ xn := by rw [hxn]; exact vint_pos n
    have h10 : xn ≤ 10 := by rw [hxn]; exact vint_le n
    have HXN := Lib.hid hxn
    clear hxn
    go_wp2_with fail
    refine (putText_any w3 _ [] s (rd_nil w3) (by omega) (by decide)).mono ?_
    rintro e w4 ⟨y, rfl, hy, bel4⟩
    replace bel := Below.trans bel (bel4.mono bel.size)
    replace hrx := hrx.below bel4
    have hry := (rd_of_own hy).2
    clear bel4 hy
    rw [List.nil_append] at hry
    have hsl : s.data.toList.length = s.size := by rw [Array.length_toList]; rfl
    obtain ⟨ya, yn, yc, rfl, hyn⟩ := rd_len hry
    have hyn2 := hyn
    rw [List.length_append, hsl] at hyn2
    have hyl : 1 ≤ yn ∧ yn ≤ 1099511627776 := by have g1 := vint_pos s.size; have g10 := vint_le s.size; omega
    obtain ⟨hy1, hy2⟩ := hyl
    have HYN := Lib.hid hyn
    have HSL := Lib.hid hsl
    clear hyn2 hyn hsl
    go_wp2_with fail
    rw [show ((n : Int) % 4294967296) = ((n % 4294967296 : Nat) : Int) from by omega]
    refine (putFour_any w4 _ [] (n % 4294967296) (rd_nil w4) (by omega) (by decide)).mono ?_
    rintro e w5 ⟨z, rfl, hz, bel5⟩
    replace bel := Below.trans bel (bel5.mono bel.size)
    replace hrx := hrx.below bel5
    replace hry := hry.below bel5
    have hrz := (rd_of_own hz).2
    clear bel5 hz
    rw [List.nil_append] at hrz
    generalize n % 4294967296 = p at hrz ⊢
    obtain ⟨za, zn, zc, rfl, hzn⟩ := rd_len hrz
    rw [four_length] at hzn
    subst hzn
    have hcx : c % xn < (vint n).length := by rw [← HXN.out]; exact Nat.mod_lt _ (by omega)
    have hcy : c % yn < (vint s.size ++ s.data.toList).length := by rw [← HYN.out]; exact Nat.mod_lt _ (by omega)
    have hvx := vget_cut n _ hcx
    have hvy := tget_cut s.data.toList (c % yn) (by have := HSL.out; omega) (by rw [HSL.out]; exact hcy)
    rw [HSL.out] at hvy
    have hvz := fget_cut p (c % 4) (Nat.mod_lt _ (by decide))
    obtain ⟨cxa, cxc, hcut1, hrcx⟩ := cut_to hrx (c % xn) (by omega)
    obtain ⟨cya, cyc, hcut2, hrcy⟩ := cut_to hry (c % yn) (by omega)
    obtain ⟨cza, czc, hcut3, hrcz⟩ := cut_to hrz (c % 4) (by rw [four_length]; omega)
    simp only [Int.natCast_emod, show ((4 : Nat) : Int) = 4 from rfl] at hcut1 hcut2 hcut3
    have H1 := Lib.hid hrcx
    have H2 := Lib.hid hrcy
    have H3 := Lib.hid hrcz
    have HV1 := Lib.hid hvx
    have HV2 := Lib.hid hvy
    have HV3 := Lib.hid hvz
    have HCX := Lib.hid hcx
    have HCY := Lib.hid hcy
    clear hrcx hrcy hrcz hvx hvy hvz hrx hry hrz hcx hcy
    go_wp2_with fail
    refine (intsGet_any _ _ _ H1.out).mono ?_
    rintro e w6 ⟨rfl, rfl⟩
    rw [HV1.out]
    go_wp2_with fail
    refine (intsGetText_any _ _ _ H2.out).mono ?_
    rintro e w6 ⟨rfl, rfl⟩
    rw [HV2.out]
    go_wp2_with fail
    refine (intsGetFour_any _ _ _ H3.out).mono ?_
    rintro e w6 ⟨rfl, rfl⟩
    rw [HV3.out]
    go_wp2
    go_ret
    exact ⟨rfl, bel⟩
end Go.Proofs.Ytdamfcldkaidjaa

/- Walk of law01.IntsOrder. No condition. -/
import Derived.Test.YtdamfcldkaidjaaNum
import Derived.Test.YtdamfcldkaidjaaHelp1
namespace Go.Proofs.Ytdamfcldkaidjaa
open Go.RowKit

theorem rd_len {w : World} {v : Value} {l : List UInt8} (h : Rd w v l) : ∃ a n c, v = .slice a n c ∧ n = l.length := by
  obtain ⟨a, c, rfl, _⟩ := h
  exact ⟨_, _, _, rfl, rfl⟩
set_option maxRecDepth 100000 in
set_option maxHeartbeats 2000000 in
theorem intsOrder_walk (w : World) (a0 b0 : Int) (wa : (Lit.int .u64 a0).wf = true) (wb : (Lit.int .u64 b0).wf = true) :
    Calls Try.prog 16 #[.int .u64 a0, .int .u64 b0] w (RetTrue w) := by
  obtain ⟨a, rfl, ha⟩ := nat_u64 wa
  obtain ⟨b, rfl, hb⟩ := nat_u64 wb
  clear wa wb
  go_enter Try.func16, Try.ntmps16
  go_wp2_with fail
  refine (put_any w _ [] a (rd_nil w) ha (by decide)).mono ?_
  rintro e w1 ⟨x, rfl, hx, bel1⟩
  go_wp2_with fail
  refine (put_any w1 _ [] b (rd_nil w1) hb (by decide)).mono ?_
  rintro e w2 ⟨y, rfl, hy, bel2⟩
  have hx2 := own_below hx bel2
  have hrx := rd_of_own hx2
  have hry := rd_of_own hy
  clear hx hy hx2
  obtain ⟨xa, xn, xc, rfl, hxn⟩ := rd_len hrx.2
  obtain ⟨ya, yn, yc, rfl, hyn⟩ := rd_len hry.2
  have HX := Lib.hid hrx.2
  have HY := Lib.hid hry.2
  clear hrx hry
  replace bel1 := Below.trans bel1 (bel2.mono bel1.size)
  clear bel2
  rw [List.nil_append] at HX HY hxn hyn
  have hmono : a ≤ b → xn ≤ yn := fun h => by rw [hxn, hyn]; exact vint_mono a b h
  have hx10 : xn ≤ 10 := by rw [hxn]; exact vint_le a
  have hy10 : yn ≤ 10 := by rw [hyn]; exact vint_le b
  clear hxn hyn
  replace hmono := Lib.hid hmono
  go_wp2_with fail
  obtain ⟨p, hp⟩ : ∃ p : Nat, p = a % 4294967296 := ⟨_, rfl⟩
  obtain ⟨q, hq⟩ : ∃ q : Nat, q = b % 4294967296 := ⟨_, rfl⟩
  have hpi : ((a : Int) % 4294967296) = (p : Int) := by omega
  have hqi : ((b : Int) % 4294967296) = (q : Int) := by omega
  have hp32 : p < 4294967296 := by omega
  have hq32 : q < 4294967296 := by omega
  clear hp hq
  have hless : Op.bytesLess (bs (four p)).toList (bs (four q)).toList = decide (p < q) := by rw [less_str, bs_data, bs_data, four_less p q hp32 hq32]
  have HL := Lib.hid hless
  clear hless
  rw [hpi]
  refine (putFour_any w2 _ [] p (rd_nil w2) hp32 (by decide)).mono ?_
  rintro e w3 ⟨u, rfl, hu, bel3⟩
  rw [List.nil_append] at hu
  have hsu := run_str (rd_of_own hu).2
  obtain ⟨ua, un, uc, rfl⟩ := rd_slice3 (rd_of_own hu).2
  replace HX := Lib.hid (HX.out.below bel3)
  replace HY := Lib.hid (HY.out.below bel3)
  replace bel1 := Below.trans bel1 (bel3.mono bel1.size)
  clear hu bel3
  go_wp2_with fail
  clear hsu
  rw [hqi]
  refine (putFour_any w3 _ [] q (rd_nil w3) hq32 (by decide)).mono ?_
  rintro e w4 ⟨t, rfl, ht, bel4⟩
  rw [List.nil_append] at ht
  have hst := run_str (rd_of_own ht).2
  obtain ⟨ta, tn, tc, rfl⟩ := rd_slice3 (rd_of_own ht).2
  replace HX := Lib.hid (HX.out.below bel4)
  replace HY := Lib.hid (HY.out.below bel4)
  replace bel1 := Below.trans bel1 (bel4.mono bel1.size)
  clear ht bel4
  have hsame := sameBytes_any _ _ _ _ _ HX.out HY.out
  have hdec : decide (vint a = vint b) = decide (a = b) := by
    by_cases h : a = b
    · subst h; simp
    · rw [decide_eq_false h, decide_eq_false (fun e => h (vint_inj ha hb e))]
  rw [hdec] at hsame
  replace HS := Lib.hid hsame
  clear hsame
  have hend : ∀ (w5 : World), Hid (Calls Try.prog 61 #[] w5 (RetTrue w5)) := fun w5 => alive01_any w5
  clear hdec
  rcases Nat.lt_trichotomy a b with h | h | h
  · have hd := Lib.hid (show decide (a = b) = false by simp; omega)
    have hneq : ((a : Int) == (b : Int)) = false := by simp; omega
    have hml := hmono.out
    go_wp2_with fail
    refine HS.out.mono ?_
    rintro e w5 ⟨rfl, n, rfl⟩
    rw [hd.out]
    go_wp2_with fail
    refine (hend _).out.mono ?_
    rintro e w6 ⟨rfl, bel6⟩
    have hless := HL.out
    have bel := Below.trans bel1 ((drewN_below w4 n).mono bel1.size)
    replace bel := Below.trans bel (bel6.mono bel.size)
    clear bel6 bel1
    go_wp2
    go_ret
    exact ⟨by first | rfl | (simp; done) | (simp; omega), bel⟩
  · have hd := Lib.hid (show decide (a = b) = true by simp; omega)
    have hneq : ((a : Int) == (b : Int)) = true := by simp; omega
    have hml := hmono.out
    go_wp2_with fail
    refine HS.out.mono ?_
    rintro e w5 ⟨rfl, n, rfl⟩
    rw [hd.out]
    go_wp2_with fail
    refine (hend _).out.mono ?_
    rintro e w6 ⟨rfl, bel6⟩
    have hless := HL.out
    have bel := Below.trans bel1 ((drewN_below w4 n).mono bel1.size)
    replace bel := Below.trans bel (bel6.mono bel.size)
    clear bel6 bel1
    go_wp2
    go_ret
    exact ⟨by first | rfl | (simp; done) | (simp; omega), bel⟩
  · have hd := Lib.hid (show decide (a = b) = false by simp; omega)
    have hneq : ((a : Int) == (b : Int)) = false := by simp; omega
    have hml := hmono.out
    go_wp2_with fail
    refine HS.out.mono ?_
    rintro e w5 ⟨rfl, n, rfl⟩
    rw [hd.out]
    go_wp2_with fail
    refine (hend _).out.mono ?_
    rintro e w6 ⟨rfl, bel6⟩
    have hless := HL.out
    have bel := Below.trans bel1 ((drewN_below w4 n).mono bel1.size)
    replace bel := Below.trans bel (bel6.mono bel.size)
    clear bel6 bel1
    go_wp2
    go_ret
    exact ⟨by first | rfl | (simp; done) | (simp; omega), bel⟩
end Go.Proofs.Ytdamfcldkaidjaa

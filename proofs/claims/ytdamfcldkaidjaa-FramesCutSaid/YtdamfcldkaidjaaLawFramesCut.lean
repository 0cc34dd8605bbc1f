/- Walk of law03.FramesCut. The condition: bytes of at most 2^47. -/
import Derived.Test.YtdamfcldkaidjaaCrc
import Derived.Test.YtdamfcldkaidjaaStore
import Derived.Test.YtdamfcldkaidjaaNum
namespace Go.Proofs.Ytdamfcldkaidjaa
open Go.RowKit

set_option maxRecDepth 100000 in
set_option maxHeartbeats 4000000 in
theorem framesCut_walk (w : World) (v : Value) (l : List UInt8) (a1 a2 : Int) (hv : Rd w v l) (hl : l.length ≤ 140737488351232) (wa : (Lit.int .u16 a1).wf = true) (wb : (Lit.int .u8 a2).wf = true) :
    Calls Try.prog 20 #[v, .int .u16 a1, .int .u8 a2] w (RetTrue w) := by
  obtain ⟨c, rfl, hc⟩ := nat_u16 wa
  obtain ⟨t, rfl, ht⟩ := nat_u8 wb
  clear wa wb
  have hend : ∀ (w5 : World), Hid (Calls Try.prog 65 #[] w5 (RetTrue w5)) := fun w5 => alive03_any w5
  obtain ⟨va, vn, vc, rfl, hvn⟩ := rd_len hv
  rw [← hvn] at hl
  have HVN := Lib.hid hvn
  have HV := Lib.hid hv
  clear hvn hv
  by_cases hb : 65536 < vn
  · go_enter Try.func20, Try.ntmps20
    go_wp2_with fail
    refine (hend _).out.mono ?_
    rintro e w1 ⟨rfl, bel⟩
    go_wp2_with fail
    refine (hend _).out.mono ?_
    rintro e w3 ⟨rfl, bel3⟩
    replace bel := Below.trans bel (bel3.mono bel.size)
    go_wp2
    go_ret
    exact ⟨rfl, bel⟩
  · go_enter Try.func20, Try.ntmps20
    go_wp2_with fail
    refine (hend _).out.mono ?_
    rintro e w1 ⟨rfl, bel⟩
    have hl16 : l.length ≤ 65536 := by rw [← HVN.out]; omega
    have HL16 := Lib.hid hl16
    clear hl16
    go_wp2_with fail
    refine (put_var w1 _ l (HV.out.below bel) HL16.out).mono ?_
    rintro e w2 ⟨ba, bn, bc, rfl, hbn, HB, bel2⟩
    rw [← HVN.out] at hbn
    have hb8 : 8 ≤ bn := by omega
    have hb64 : bn ≤ 65544 := by omega
    have HBN := Lib.hid hbn
    clear hbn
    obtain ⟨g, cc, e1, hbg, hlt, hfr⟩ := own_block HB.out (by omega)
    simp only [Value.slice.injEq, true_and] at e1
    obtain ⟨rfl, rfl⟩ := e1
    obtain ⟨k, hk⟩ : ∃ k, k = c % bn := ⟨_, rfl⟩
    have hkb : k < bn := by rw [hk]; exact Nat.mod_lt _ (by omega)
    have hmod : (c : Int) % (bn : Int) = (k : Int) := by rw [hk]; simp
    have hkl : k < l.length + 8 := by rw [← HVN.out, ← HBN.out]; exact hkb
    have HKL := Lib.hid hkl
    clear hk hkl
    have hrd := (rd_of_own HB.out).2
    obtain ⟨xa, xc, hcut, hr⟩ := cut_to hrd k (by rw [fput_length]; exact Nat.le_of_lt HKL.out)
    have HR := Lib.hid hr
    have HC := Lib.hid (fgetR_cut l HL16.out k HKL.out)
    have hfk : k < (fput l).length := by rw [fput_length]; exact HKL.out
    have hcell : w2.cell? ⟨g, k, none⟩ = some (.int .u8 (((fput l)[k]'hfk).toNat : Int)) := by
      obtain ⟨_, _, e, _, _, h4⟩ := hrd
      obtain ⟨_, _, e2, h5⟩ := h4 k hfk
      simp only [Value.slice.injEq] at e
      rw [← e.1] at e2
      cases e2
      rwa [Nat.zero_add] at h5
    have hfrz : w2.frozen? ⟨g, k, none⟩ = false := hfr _ hkb
    have hgw : w.heap.size ≤ g := Nat.le_trans bel.size hbg
    replace bel := Below.trans bel (bel2.mono bel.size)
    clear hr hrd hfr
    go_upto_region 7 with (fail)
    rw [hmod]
    clear hmod
    go_wp2_with fail
    refine (got_var w2 _ _ [] 0 5 HC.out HR.out (by rw [List.length_take, fput_length]; have := HL16.out; omega)).mono ?_
    rintro e w3 ⟨pa, pn, pc, rfl, HPN, _, bel3⟩
    clear hcut
    rcases (by omega : t = 0 ∨ (0 < t ∧ k < 4) ∨ (0 < t ∧ 4 ≤ k)) with h1 | ⟨h1, h2⟩ | ⟨h1, h2⟩
    · subst h1
      go_wp2
      go_ret
      exact ⟨rfl, Below.trans bel (bel3.mono bel.size)⟩
    · have ht0 : ((t : Int) == 0) = false := by simp; omega
      go_wp2
      go_ret
      exact ⟨rfl, Below.trans bel (bel3.mono bel.size)⟩
    · have ht0 : ((t : Int) == 0) = false := by simp; omega
      have hd256 := ((fput l)[k]'hfk).toNat_lt
      obtain ⟨d, hd⟩ : ∃ d : Nat, d = ((fput l)[k]'hfk).toNat := ⟨_, rfl⟩
      rw [← hd] at hcell hd256
      have hq : d ^^^ t < 2 ^ 8 := Nat.xor_lt_two_pow (by omega) (by omega)
      have hxor : bits BinOp.xor IntKind.u8 (d : Int) (t : Int) = ((d ^^^ t : Nat) : Int) := u8_xor_nat _ _ (by omega) ht
      have hne : UInt8.ofNat (d ^^^ t) ≠ (fput l)[k]'hfk := by
        intro e
        have h5 := congrArg UInt8.toNat e
        rw [toNat_ofNat _ (by omega), ← hd] at h5
        have : t = 0 := by
          have h6 := congrArg (d ^^^ ·) h5
          simpa [← Nat.xor_assoc] using h6
        omega
      have HF := Lib.hid (fgetR_flip l HL16.out k h2 HKL.out _ hne)
      have hcell3 := Below.keeps bel3 _ _ _ hcell
      have hfrz3 : w3.frozen? ⟨g, k, none⟩ = false := (bel3.frozen (p := ⟨g, k, none⟩) hlt).trans hfrz
      have HO := Lib.hid (own_store (own_below HB.out bel3) k hkb (UInt8.ofNat (d ^^^ t)))
      rw [toNat_ofNat _ (by omega)] at HO
      generalize hqq : d ^^^ t = q at *
      have hbf : Below w.heap.size w (w3.setCell ⟨g, k, none⟩ (.int .u8 q)) := (Below.trans bel (bel3.mono bel.size)).setCell hgw _
      clear hne hq hqq hd hcell hfrz bel2 hfk
      go_upto_region 13 with (fail)
      clear hcell3 hfrz3 hxor
      generalize w3.setCell ⟨g, k, none⟩ (.int .u8 q) = w4 at HO hbf ⊢
      go_wp2_with fail
      refine (got_var w4 _ _ [] 0 4 HF.out (rd_of_own HO.out).2 (by rw [List.length_set, fput_length]; have := HL16.out; omega)).mono ?_
      rintro e w5 ⟨qa, qn, qc, rfl, HQN, _, bel5⟩
      obtain rfl : qn = 0 := HQN.out
      go_wp2
      go_ret
      exact ⟨by first | rfl | (simp; done), Below.trans hbf (bel5.mono hbf.size)⟩
end Go.Proofs.Ytdamfcldkaidjaa

/- Walk of law03.FramesRow. The condition: records of at most 2^47 bytes. -/
import Derived.Test.YtdngnoledfdohaaFrames4
import Derived.Test.YtdngnoledfdohaaAlive3
import Derived.Test.YtdngnoledfdohaaSizeR
import Derived.Test.YtdngnoledfdohaaHelp1
import Derived.Deep.Cut
namespace Go.Proofs.Ytdngnoledfdohaa
open Go.RowKit

def fputs : List (List UInt8) → List UInt8
  | [] => []
  | x :: l => fput x ++ fputs l
theorem fputs_app (l m : List (List UInt8)) : fputs (l ++ m) = fputs l ++ fputs m := by
  induction l with
  | nil => rfl
  | cons x l ih => simp only [List.cons_append, fputs, ih, List.append_assoc]
theorem fputs_take (l : List (List UInt8)) (k : Nat) (h : k < l.length) : fputs (l.take (k + 1)) = fputs (l.take k) ++ fput l[k] := by
  rw [List.take_succ_eq_append_getElem h, fputs_app]
  simp [fputs]
theorem fputs_drop (l : List (List UInt8)) (k : Nat) (h : k < l.length) : fputs (l.drop k) = fput l[k] ++ fputs (l.drop (k + 1)) := by
  rw [List.drop_eq_getElem_cons h]; rfl
theorem recsLen_mem {l : List (List UInt8)} {x : List UInt8} (h : x ∈ l) : x.length ≤ recsLen l := by
  induction l with
  | nil => cases h
  | cons y l ih =>
    simp only [recsLen]
    rcases List.mem_cons.1 h with rfl | h
    · omega
    · have := ih h; omega
theorem same_true (w : World) (v v2 : Value) (l : List UInt8) (hv : Rd w v l) (hv2 : Rd w v2 l) : Calls Try.prog 21 #[v, v2] w fun e w' => e = .returned (.bool true) ∧ Below w.heap.size w w' := by
  refine (sameBytes_any v v2 l l w hv hv2).mono ?_
  rintro e w' ⟨rfl, n, rfl⟩
  exact ⟨by simp, drewN_below _ _⟩
theorem the_world {n : Nat} {w w' : World} (_ : Below n w w') : ∃ x, x = w' := ⟨_, rfl⟩

set_option maxRecDepth 100000 in
set_option maxHeartbeats 4000000 in
theorem framesRow_walk (w : World) (v : Value) (l : List (List UInt8)) (a1 : Int) (hv : RdR w v l) (hl : ∀ x ∈ l, x.length ≤ 140737488351232) (wb : (Lit.int .u8 a1).wf = true) :
    Calls Try.prog 7 #[v, .int .u8 a1] w (RetTrue w) := by
  obtain ⟨t, rfl, ht⟩ := nat_u8 wb
  clear wb
  have hend : ∀ (w5 : World), Hid (Calls Try.prog 23 #[] w5 (RetTrue w5)) := fun w5 => alive03_any w5
  have HV := Lib.hid hv
  have HS := Lib.hid hl
  obtain ⟨va, vc, rfl, h1, h2, h3⟩ := hv
  clear h3 hl
  obtain ⟨vn, hvn⟩ : ∃ n, n = l.length := ⟨_, rfl⟩
  have HVN := Lib.hid hvn
  rw [← hvn] at h1 HV ⊢
  clear hvn
  by_cases hb : 20 < vn
  · go_enter Try.func7, Try.ntmps7
    go_wp2_with fail
    refine (hend _).out.mono ?_
    rintro e w1 ⟨rfl, bel⟩
    go_wp2_with fail
    refine (hend _).out.mono ?_
    rintro e w3 ⟨rfl, bel3⟩
    replace bel := Below.trans bel (bel3.mono bel.size)
    clear bel3
    go_wp2
    go_ret
    exact ⟨rfl, bel⟩
  go_enter Try.func7, Try.ntmps7
  go_wp2_with fail
  refine (hend _).out.mono ?_
  rintro e w1 ⟨rfl, bel⟩
  replace HV := Lib.hid (HV.out.below bel)
  have hz := recordsSize_any w1 _ l HV.out (by rw [← HVN.out]; omega) HS.out
  rw [← HVN.out] at hz
  have HZ := Lib.hid hz
  clear hz
  go_wp2_with fail
  refine HZ.out.mono ?_
  rintro e w' ⟨z, rfl, hz, rfl⟩
  clear HZ
  by_cases hb3 : 20000 < z
  · clear hz
    go_wp2_with fail
    refine (hend _).out.mono ?_
    rintro e w3 ⟨rfl, bel3⟩
    replace bel := Below.trans bel (bel3.mono bel.size)
    clear bel3
    go_wp2
    go_ret
    exact ⟨rfl, bel⟩
  have hzz := hz (by omega)
  have HT : Hid (recsLen l ≤ 20000) := by show _ ≤ _; omega
  clear hz hzz
  go_upto_region 4 with (fail)
  go_wp2_with fail
  have hb0 : Below w1.heap.size w1 w1 := Below.refl _ _
  go_loopw [5, 6, 7, 8] (fun b i _ _ wr => ∃ k : Nat, k ≤ vn ∧ i = .int .i64 k ∧ (∃ (a : Option Addr) (q c : Nat), b = .slice a q c ∧ Hid (q = (fputs (l.take k)).length) ∧ q ≤ 8 * k + recsLen (l.take k) ∧ Hid (Own wr w1.heap.size 5 1 (.slice a q c) q (u8s (fputs (l.take k))))) ∧ Below w1.heap.size w1 wr) (fun _ i _ _ _ => vn - (intOf i).toNat)
  case atStart => exact ⟨0, Nat.zero_le _, rfl, ⟨none, 0, 0, rfl, rfl, by omega, own_nil _ _ _ _⟩, hb0⟩
  case round =>
    obtain ⟨k, hk, rfl, ⟨ba, bn, bc, rfl, HBN, hbk, HB⟩, belr⟩ := hrel
    by_cases hlt : k < vn
    · have hkl : k < l.length := by rw [← HVN.out]; exact hlt
      obtain ⟨a', c', hve, _, _, hcell⟩ := HV.out.below belr
      obtain ⟨b, off, x, hae, c0, c1⟩ := hcell k hkl
      cases hve
      subst hae
      clear hcell
      have hlk := recsLen_mem (List.getElem_mem (l := l) (n := k) hkl)
      have HTK := Lib.hid (fputs_take l k hkl)
      have hst := recsLen_take l k hkl
      have hle := recsLen_le l (k + 1)
      have hT := HT.out
      obtain ⟨r, hr⟩ : ∃ r, r = l[k] := ⟨_, rfl⟩
      rw [← hr] at c1 hlk HTK hst
      clear hr
      rw [hst] at hle
      have HST := Lib.hid hst
      have C1 := Lib.hid c1
      have hr16 : r.length ≤ 65536 := by omega
      have HR16 := Lib.hid hr16
      have hbq : bn ≤ 20160 := by omega
      have HQ : Hid (bn ≤ 8 * k + recsLen (l.take k)) := hbk
      clear c1 hst hle hT hlk hbk
      obtain ⟨wr, hwr⟩ := the_world belr
      subst hwr
      clear hr16
      go_wp2_with fail
      refine (put_var wr _ r C1.out HR16.out).mono ?_
      rintro e w3 ⟨xa, xn, xc, rfl, hxn, HX, bel3⟩
      have HXN := Lib.hid hxn
      clear hxn
      go_wp2_with (at_builtin; go_loud (refine wp_app_my rfl _ _ rfl w1.heap.size _ _ _ _ (fput r) rfl rfl (own_below HB.out bel3) (rd_of_own HX.out).2 (by rw [← HBN.out, fput_length]; have := HR16.out; omega) (Nat.le_trans belr.size bel3.size) ?_); intro ua un uc w7 HUN HU bel7)
      have belz := Below.trans belr (Below.trans (bel3.mono belr.size) bel7)
      have HUQ : Hid (un ≤ 8 * (k + 1) + recsLen (l.take (k + 1))) := by
        show _ ≤ _
        have h1 := HUN.out
        have h2 := HST.out
        have h3 := HQ.out
        rw [List.length_append, ← HBN.out, fput_length] at h1
        omega
      go_round
      case rel => exact ⟨k + 1, by omega, by go_num, ⟨ua, un, uc, rfl, by rw [HTK.out]; exact HUN, HUQ.out, by rw [HTK.out]; exact HU⟩, belz⟩
      case measure => simp [intOf]; omega
    · have hkn : k = vn := by omega
      subst hkn
      have e : l.take k = l := List.take_of_length_le (by rw [← HVN.out]; exact Nat.le_refl _)
      rw [e] at HBN HB hbk
      have hbq : bn ≤ 20160 := by have := HT.out; omega
      clear e hlt hk hbk
      obtain ⟨wr, hwr⟩ := the_world belr
      subst hwr
      have kc := fun (w : World) (C : Array Value) (n c : Nat) => Lib.run_convert_bytes_const (P := Try.prog) w 25 5 C n c Try.underlying25 Try.underlying5
      go_upto_region 11 with (fail)
      go_wp2_with fail
      clear kc
      have hal := fun (C : Array Value) (f : Nat × Nat) => (Below.refl wr.heap.size wr).alloc (Nat.le_refl _) (.cells C 5 f)
      refine (put_var _ _ [108, 97, 115, 116] (rd_lit wr [108, 97, 115, 116] _ _ 4 (by simp [u8s]) rfl (by decide) (4, 5)) (by decide)).mono ?_
      rintro e w3 ⟨xa, xn, xc, rfl, hxn, HX, bel3⟩
      replace bel3 := Below.trans (hal _ _) (bel3.mono (hal _ _).size)
      obtain rfl : xn = 12 := hxn
      clear hal
      obtain ⟨t2, ht2⟩ : ∃ n, n = t % 12 := ⟨_, rfl⟩
      have ht12 : t2 < 12 := by omega
      have hmod : (t : Int) % 12 = (t2 : Int) := by omega
      obtain ⟨ya, yc, hcut, hr⟩ := cut_to (rd_of_own HX.out).2 t2 (by rw [fput_length]; exact Nat.le_of_lt ht12)
      have hcut2 := fun w' => hcut w' .u8
      have HR := Lib.hid hr
      have HB3 := Lib.hid (own_below HB.out bel3)
      have HG := Lib.hid (fgetR_cut [108, 97, 115, 116] (by decide) t2 (by simpa using ht12))
      have hTl : ((fput [108, 97, 115, 116]).take t2).length = t2 := by rw [List.length_take, fput_length]; exact Nat.min_eq_left (Nat.le_of_lt ht12)
      have HTL := Lib.hid hTl
      clear hcut hr ht2 HX hTl HB
      generalize (fput [108, 97, 115, 116]).take t2 = T at HR HG HTL
      go_upto_region 14 with (fail)
      go_wp2_with (at_builtin; go_loud (refine wp_app_my rfl _ _ rfl w1.heap.size _ _ _ _ T rfl rfl HB3.out HR.out (by rw [← HBN.out, HTL.out]; omega) (Nat.le_trans belr.size bel3.size) ?_); intro ua un uc w7 HUN HU bel7)
      have bely := Below.trans belr (Below.trans (bel3.mono belr.size) bel7)
      have belw : Below w.heap.size w w7 := Below.trans bel (Below.mono bely bel.size)
      replace HV := Lib.hid (HV.out.below bely)
      have HBR := Lib.hid (rd_of_own HU.out).2
      have hun : un ≤ 20200 := by
        have h1 := HUN.out
        have h2 := HTL.out
        rw [List.length_append, ← HBN.out] at h1
        omega
      clear HU HB3 HR HBN hcut2 hmod bely bel7 bel3 belr bel hb0
      have hb7 : Below w7.heap.size w7 w7 := Below.refl _ _
      go_upto_region 15 with (fail)
      go_wp2_with fail
      go_loopw [5, 11, 12, 13, 14] (fun b i _ _ _ wz => ∃ j : Nat, j ≤ k ∧ i = .int .i64 j ∧ (∃ (a : Option Addr) (q c : Nat), b = .slice a q c ∧ Hid (q = (fputs (l.drop j) ++ T).length) ∧ q ≤ 20200 ∧ Hid (Rd wz (.slice a q c) (fputs (l.drop j) ++ T))) ∧ Below w7.heap.size w7 wz) (fun _ i _ _ _ _ => k - (intOf i).toNat)
      case atStart => exact ⟨0, Nat.zero_le _, rfl, ⟨ua, un, uc, rfl, HUN, hun, HBR⟩, hb7⟩
      case round =>
        obtain ⟨i, hi, rfl, ⟨da, dn, dc, rfl, HDN, hdk, HD⟩, belx⟩ := hrel
        obtain ⟨wx, hwx⟩ := the_world belx
        subst hwx
        by_cases hlt : i < k
        · have hil : i < l.length := by rw [← HVN.out]; exact hlt
          obtain ⟨a', c', hve, _, _, hcell⟩ := HV.out.below belx
          obtain ⟨b, off, x, hae, c0, c1⟩ := hcell i hil
          cases hve
          subst hae
          clear hcell
          have hlk := recsLen_mem (List.getElem_mem (l := l) (n := i) hil)
          have hT := HT.out
          have htk := fputs_drop l i hil
          obtain ⟨r, hr⟩ : ∃ r, r = l[i] := ⟨_, rfl⟩
          rw [← hr] at c1 hlk htk
          clear hr
          have C1 := Lib.hid c1
          obtain ⟨kn, hkn⟩ : ∃ n, n = r.length + 8 := ⟨_, rfl⟩
          obtain ⟨mn, hmn⟩ : ∃ n, n = (fputs (l.drop (i + 1)) ++ T).length := ⟨_, rfl⟩
          have hdn : dn = kn + mn := by rw [HDN.out, htk, List.append_assoc, List.length_append, fput_length, hkn, hmn]
          subst hdn
          have hk8 : 8 ≤ kn := by omega
          have hg := fgetR_put r (fputs (l.drop (i + 1)) ++ T) (by omega)
          rw [← List.append_assoc, ← htk, ← hkn] at hg
          have HG2 := Lib.hid hg
          have hdrop : (fputs (l.drop i) ++ T).drop kn = fputs (l.drop (i + 1)) ++ T := by
            rw [htk, List.append_assoc, show kn = (fput r).length from by rw [fput_length, hkn], List.drop_left]
          obtain ⟨ea, ec, hcut, hrd⟩ := cut_rest HD.out kn mn HDN.out.symm
          rw [hdrop] at hrd
          have HR := Lib.hid hrd
          have hcut2 := fun w' => hcut w' .i64
          have HMN := Lib.hid hmn
          clear hcut hrd hmn hkn htk hg hdrop c1 hlk hT
          go_wp2_with fail
          refine (got_var wx _ _ r kn 0 HG2.out HD.out (by rw [← HDN.out]; omega)).mono ?_
          rintro e w3 ⟨xa, xn, xc, rfl, HXN, HX, bel3⟩
          have c03 := Below.keeps bel3 _ _ _ c0
          go_wp2_with fail
          refine (same_true w3 _ _ r (rd_of_own HX.out).2 (C1.out.below bel3)).mono ?_
          rintro e w4 ⟨rfl, bel4⟩
          have bel5 : Below wx.heap.size wx w4 := Below.trans bel3 (bel4.mono bel3.size)
          have belz := Below.trans belx (bel5.mono belx.size)
          go_wp2_with fail
          go_round
          case rel => exact ⟨i + 1, by omega, by go_num, ⟨ea, mn, ec, rfl, HMN, by omega, Lib.hid (HR.out.below bel5)⟩, belz⟩
          case measure => simp [intOf]; omega
        · have hik : i = k := by omega
          subst hik
          have e : l.drop i = [] := List.drop_of_length_le (by rw [← HVN.out]; exact Nat.le_refl _)
          rw [e] at HDN HD
          have HD' : Hid (Rd wx (.slice da dn dc) T) := HD
          clear HDN hlt hi e HD
          go_wp2_with fail
          refine (got_var wx _ T [] 0 5 HG.out HD'.out (by rw [HTL.out]; omega)).mono ?_
          rintro e w3 ⟨xa, xn, xc, rfl, HXN, HX, bel3⟩
          go_wp2
          go_ret
          exact ⟨rfl, Below.trans belw (Below.trans (belx.mono belw.size) (bel3.mono (Nat.le_trans belw.size belx.size)))⟩
end Go.Proofs.Ytdngnoledfdohaa

/- Walk of law01.IntsRow. The condition: at most so many numbers and texts. -/
import Derived.Test.YtdamfcldkaidjaaRet
import Derived.Test.YtdamfcldkaidjaaSize
import Derived.Deep.Cut
namespace Go.Proofs.Ytdamfcldkaidjaa
open Go.RowKit

def vints : List Nat → List UInt8
  | [] => []
  | x :: l => vint x ++ vints l
theorem vints_app (l m : List Nat) : vints (l ++ m) = vints l ++ vints m := by
  induction l with
  | nil => rfl
  | cons x l ih => simp only [List.cons_append, vints, ih, List.append_assoc]
theorem vints_take (l : List Nat) (k : Nat) (h : k < l.length) : vints (l.take (k + 1)) = vints (l.take k) ++ vint l[k] := by
  rw [List.take_succ_eq_append_getElem h, vints_app]
  simp [vints]
theorem vints_drop (l : List Nat) (k : Nat) (h : k < l.length) : vints (l.drop k) = vint l[k] ++ vints (l.drop (k + 1)) := by
  rw [List.drop_eq_getElem_cons h]; rfl
def tputs : List ByteArray → List UInt8
  | [] => []
  | x :: l => (vint x.size ++ x.data.toList) ++ tputs l
theorem tputs_app (l m : List ByteArray) : tputs (l ++ m) = tputs l ++ tputs m := by
  induction l with
  | nil => rfl
  | cons x l ih => simp only [List.cons_append, tputs, ih, List.append_assoc]
theorem tputs_take (l : List ByteArray) (k : Nat) (h : k < l.length) : tputs (l.take (k + 1)) = tputs (l.take k) ++ (vint l[k].size ++ l[k].data.toList) := by
  rw [List.take_succ_eq_append_getElem h, tputs_app]
  simp [tputs]
theorem tputs_drop (l : List ByteArray) (k : Nat) (h : k < l.length) : tputs (l.drop k) = (vint l[k].size ++ l[k].data.toList) ++ tputs (l.drop (k + 1)) := by
  rw [List.drop_eq_getElem_cons h]; rfl
theorem tget_put (s b : List UInt8) (hs : s.length < 18446744073709551616) : tget ((vint s.length ++ s) ++ b) = (s, (vint s.length ++ s).length, 0) := by
  rw [List.append_assoc]
  have h := vget_put s.length hs (s ++ b)
  rw [tget_ok h (by simp)]
  rw [List.drop_left, List.take_left, List.length_append]
theorem textsLen_mem {l : List ByteArray} {x : ByteArray} (h : x ∈ l) : x.size ≤ textsLen l := by
  induction l with
  | nil => cases h
  | cons y l ih =>
    simp only [textsLen]
    rcases List.mem_cons.1 h with rfl | h
    · omega
    · have := ih h; omega

theorem the_world {n : Nat} {w w' : World} (_ : Below n w w') : ∃ x, x = w' := ⟨_, rfl⟩

set_option maxRecDepth 100000 in
set_option maxHeartbeats 4000000 in
theorem intsRow_walk (w : World) (v : Value) (l : List Nat) (v2 : Value) (m : List ByteArray) (hv : RdN w v l) (hl : ∀ x ∈ l, x < 18446744073709551616) (hv2 : RdT w v2 m) (hm : ∀ x ∈ m, x.size ≤ 140737488351232) :
    Calls Try.prog 17 #[v, v2] w (RetTrue w) := by
  have hend : ∀ (w5 : World), Hid (Calls Try.prog 61 #[] w5 (RetTrue w5)) := fun w5 => alive01_any w5
  have HV := Lib.hid hv
  have HM := Lib.hid hv2
  have HL := Lib.hid hl
  have HS := Lib.hid hm
  obtain ⟨va, vc, rfl, h1, h2, h3⟩ := hv
  obtain ⟨ma, mc, rfl, g1, g2, g3⟩ := hv2
  clear h3 g3 hl hm
  obtain ⟨vn, hvn⟩ : ∃ n, n = l.length := ⟨_, rfl⟩
  obtain ⟨mn, hmn⟩ : ∃ n, n = m.length := ⟨_, rfl⟩
  have HVN := Lib.hid hvn
  have HMN := Lib.hid hmn
  rw [← hvn] at h1 HV ⊢
  rw [← hmn] at g1 HM ⊢
  clear hvn hmn
  by_cases hb : 100 < vn
  · go_enter Try.func17, Try.ntmps17
    go_wp2_with fail
    refine (hend _).out.mono ?_
    rintro e w1 ⟨rfl, bel⟩
    go_wp2_with fail
    refine (hend _).out.mono ?_
    rintro e w3 ⟨rfl, bel3⟩
    replace bel := Below.trans bel (bel3.mono bel.size)
    clear bel3
    go_wp2
    go_ret
    exact ⟨rfl, bel⟩
  by_cases hb2 : 50 < mn
  · go_enter Try.func17, Try.ntmps17
    go_wp2_with fail
    refine (hend _).out.mono ?_
    rintro e w1 ⟨rfl, bel⟩
    go_wp2_with fail
    refine (hend _).out.mono ?_
    rintro e w3 ⟨rfl, bel3⟩
    replace bel := Below.trans bel (bel3.mono bel.size)
    clear bel3
    go_wp2
    go_ret
    exact ⟨rfl, bel⟩
  go_enter Try.func17, Try.ntmps17
  go_wp2_with fail
  refine (hend _).out.mono ?_
  rintro e w1 ⟨rfl, bel⟩
  replace HV := Lib.hid (HV.out.below bel)
  replace HM := Lib.hid (HM.out.below bel)
  have hz := textsSize_any w1 _ m HM.out (by rw [← HMN.out]; omega) HS.out
  rw [← HMN.out] at hz
  have HZ := Lib.hid hz
  clear hz
  go_wp2_with fail
  refine HZ.out.mono ?_
  rintro e w' ⟨z, rfl, hz, rfl⟩
  clear HZ
  by_cases hb3 : 20000 < z
  · clear hz
    go_wp2_with fail
    refine (hend _).out.mono ?_
    rintro e w3 ⟨rfl, bel3⟩
    replace bel := Below.trans bel (bel3.mono bel.size)
    clear bel3
    go_wp2
    go_ret
    exact ⟨rfl, bel⟩
  have hzz := hz (by omega)
  have HT : Hid (textsLen m ≤ 20000) := by show _ ≤ _; omega
  clear hz hzz
  go_upto_region 4 with (fail)
  go_wp2_with fail
  have hb0 : Below w1.heap.size w1 w1 := Below.refl _ _
  go_loopw [5, 7] (fun b i wr => ∃ k : Nat, k ≤ vn ∧ i = .int .i64 k ∧ (∃ (a : Option Addr) (q c : Nat), b = .slice a q c ∧ Hid (q = (vints (l.take k)).length) ∧ q ≤ 10 * k ∧ Hid (Rd wr (.slice a q c) (vints (l.take k)))) ∧ Below w1.heap.size w1 wr) (fun _ i _ => vn - (intOf i).toNat)
  case atStart => exact ⟨0, Nat.zero_le _, rfl, ⟨none, 0, 0, rfl, rfl, by omega, rd_nil _⟩, hb0⟩
  case round =>
    obtain ⟨k, hk, rfl, ⟨ba, bn, bc, rfl, HBN, hbk, HB⟩, belr⟩ := hrel
    by_cases hlt : k < vn
    · have hkl : k < l.length := by rw [← HVN.out]; exact hlt
      obtain ⟨a', c', hve, _, _, hcell⟩ := HV.out.below belr
      obtain ⟨b, off, hae, c0⟩ := hcell k hkl
      cases hve
      subst hae
      clear hcell
      have hlk := HL.out _ (List.getElem_mem (l := l) (n := k) hkl)
      have HTK := Lib.hid (vints_take l k hkl)
      have hvl := vint_le l[k]
      obtain ⟨x, hx⟩ : ∃ x, x = l[k] := ⟨_, rfl⟩
      rw [← hx] at c0 hlk HTK hvl
      clear hx
      go_wp2_with fail
      refine (put_rd _ _ _ x HB.out hlk (by rw [← HBN.out]; omega)).mono ?_
      rintro e w3 ⟨xa, xn, xc, rfl, HXN, HX, bel3⟩
      have hxq : xn ≤ 10 * (k + 1) := by
        have hxn : xn = bn + (vint x).length := by rw [HXN.out, List.length_append, ← HBN.out]
        omega
      have belz := Below.trans belr (bel3.mono belr.size)
      go_wp2
      go_round
      case rel => exact ⟨k + 1, by omega, by go_num, ⟨xa, xn, xc, rfl, by rw [HTK.out]; exact HXN, hxq, by rw [HTK.out]; exact HX⟩, belz⟩
      case measure => simp [intOf]; omega
    · have hkn : k = vn := by omega
      subst hkn
      have e : l.take k = l := List.take_of_length_le (by rw [← HVN.out]; exact Nat.le_refl _)
      rw [e] at HBN HB
      clear e hlt hk
      obtain ⟨wr, hwr⟩ := the_world belr
      subst hwr
      have hb0' : Below wr.heap.size wr wr := Below.refl _ _
      go_upto_region 8 with (fail)
      go_wp2_with fail
      go_loopw [6, 8] (fun c i wx => ∃ j : Nat, j ≤ mn ∧ i = .int .i64 j ∧ (∃ (a : Option Addr) (q c0 : Nat), c = .slice a q c0 ∧ Hid (q = (tputs (m.take j)).length) ∧ q ≤ 10 * j + textsLen (m.take j) ∧ Hid (Rd wx (.slice a q c0) (tputs (m.take j)))) ∧ Below wr.heap.size wr wx) (fun _ i _ => mn - (intOf i).toNat)
      case atStart => exact ⟨0, Nat.zero_le _, rfl, ⟨none, 0, 0, rfl, rfl, by omega, rd_nil _⟩, hb0'⟩
      case round =>
        obtain ⟨j, hj, rfl, ⟨ca, cn, cc, rfl, HCN, hck, HC⟩, belx⟩ := hrel
        by_cases hlt : j < mn
        · have hjl : j < m.length := by rw [← HMN.out]; exact hlt
          have bely := Below.trans belr (belx.mono belr.size)
          obtain ⟨a', c', hve, _, _, hcell⟩ := HM.out.below bely
          obtain ⟨b, off, hae, c0⟩ := hcell j hjl
          cases hve
          subst hae
          clear hcell
          have hle := textsLen_le m (j + 1)
          have hst := textsLen_take m j hjl
          have hT := HT.out
          have HTK := Lib.hid (tputs_take m j hjl)
          have hvl := vint_le m[j].size
          obtain ⟨x, hx⟩ : ∃ x, x = m[j] := ⟨_, rfl⟩
          rw [← hx] at c0 HTK hvl hst
          rw [hst] at hle
          have HST := Lib.hid hst
          have hsl : x.data.toList.length = x.size := by rw [Array.length_toList]; rfl
          have HSL := Lib.hid hsl
          clear hx hst hsl
          generalize textsLen (m.take j) = S at hck hle HST
          have hcs : cn ≤ 20600 := by omega
          have hxs : x.size ≤ 20000 := by omega
          have HSS : Hid (S + x.size ≤ textsLen m ∧ cn ≤ 10 * j + S ∧ (vint x.size).length ≤ 10) := ⟨hle, hck, hvl⟩
          clear hle hck hvl hT
          go_wp2_with fail
          refine (putText_rd _ _ _ x HC.out (by omega) (by rw [← HCN.out]; omega)).mono ?_
          rintro e w3 ⟨xa, xn, xc, rfl, HXN, HX, bel3⟩
          have hxq : xn ≤ 10 * (j + 1) + textsLen (m.take (j + 1)) := by
            have hxn : xn = cn + ((vint x.size).length + x.size) := by rw [HXN.out, List.length_append, List.length_append, ← HCN.out, HSL.out]
            have := HSS.out
            rw [HST.out]
            omega
          have HXQ := Lib.hid hxq
          have belz := Below.trans belx (bel3.mono belx.size)
          clear hxq
          go_wp2
          go_round
          case rel => exact ⟨j + 1, by omega, by go_num, ⟨xa, xn, xc, rfl, by rw [HTK.out]; exact HXN, HXQ.out, by rw [HTK.out]; exact HX⟩, belz⟩
          case measure => simp [intOf]; omega
        · have hjn : j = mn := by omega
          subst hjn
          have e : m.take j = m := List.take_of_length_le (by rw [← HMN.out]; exact Nat.le_refl _)
          rw [e] at HCN HC hck
          obtain ⟨wx, hwx⟩ := the_world belx
          subst hwx
          have hcq : cn ≤ 20600 := by have := HT.out; omega
          replace HB := Lib.hid (HB.out.below belx)
          have belw : Below w.heap.size w wx := Below.trans bel (Below.mono (Below.trans belr (belx.mono belr.size)) bel.size)
          replace HV := Lib.hid (HV.out.below (Below.trans belr (belx.mono belr.size)))
          replace HM := Lib.hid (HM.out.below (Below.trans belr (belx.mono belr.size)))
          clear e hlt hj hck HT belx belr bel hb0 hb0'
          go_upto_region 12 with (fail)
          go_wp2_with fail
          go_loop [5, 9, 10, 11, 12] (fun b i _ _ _ => ∃ k' : Nat, k' ≤ k ∧ i = .int .i64 k' ∧ (∃ (a : Option Addr) (q c : Nat), b = .slice a q c ∧ Hid (q = (vints (l.drop k')).length) ∧ q ≤ 1000 ∧ Hid (Rd wx (.slice a q c) (vints (l.drop k'))))) (fun _ i _ _ _ => k - (intOf i).toNat)
          case atStart => exact ⟨0, Nat.zero_le _, rfl, ⟨ba, bn, bc, rfl, HBN, by omega, HB⟩⟩
          case round =>
            obtain ⟨i, hi, rfl, ⟨da, dn, dc, rfl, HDN, hdk, HD⟩⟩ := hrel
            by_cases hlt : i < k
            · have hil : i < l.length := by rw [← HVN.out]; exact hlt
              obtain ⟨a', c', hve, _, _, hcell⟩ := HV.out
              obtain ⟨b, off, hae, c0⟩ := hcell i hil
              cases hve
              subst hae
              clear hcell
              have hlk := HL.out _ (List.getElem_mem (l := l) (n := i) hil)
              have htk := vints_drop l i hil
              have hvl := vint_le l[i]
              have hvp := vint_pos l[i]
              obtain ⟨x, hx⟩ : ∃ x, x = l[i] := ⟨_, rfl⟩
              rw [← hx] at c0 hlk htk hvl hvp
              clear hx
              obtain ⟨rn, hrn⟩ : ∃ n, n = (vints (l.drop (i + 1))).length := ⟨_, rfl⟩
              obtain ⟨kn, hkn⟩ : ∃ n, n = (vint x).length := ⟨_, rfl⟩
              rw [← hkn] at hvl hvp
              have hdn : dn = kn + rn := by rw [HDN.out, htk, List.length_append, hkn, hrn]
              subst hdn
              have hg := vget_put x hlk (vints (l.drop (i + 1)))
              rw [← htk, ← hkn] at hg
              have HG : Hid (Calls Try.prog 44 #[.slice da (kn + rn) dc] wx fun e w' => e = .returned (.tuple #[.int .u64 x, .int .i64 kn, .int .i64 0]) ∧ wx = w') := by
                have := intsGet_any _ _ wx HD.out
                unfold RetGet at this
                rw [hg] at this
                exact this
              obtain ⟨ea, ec, hcut, hr⟩ := cut_rest HD.out kn rn HDN.out.symm
              rw [htk, hkn, List.drop_left] at hr
              have HR := Lib.hid hr
              have hcut2 := fun w' => hcut w' .i64
              have HRN := Lib.hid hrn
              clear hcut hr hrn hkn htk hg HD HDN
              go_wp2_with fail
              refine HG.out.mono ?_
              rintro e w' ⟨rfl, rfl⟩
              clear HG
              go_wp2_with fail
              go_round
              case rel => exact ⟨i + 1, by omega, by go_num, ⟨ea, rn, ec, rfl, HRN, by omega, HR⟩⟩
              case measure => simp [intOf]; omega
            · have hik : i = k := by omega
              subst hik
              have e : l.drop i = [] := List.drop_of_length_le (by rw [← HVN.out]; exact Nat.le_refl _)
              rw [e] at HDN HD
              have hd0 : dn = 0 := HDN.out
              subst hd0
              clear HDN hdk hlt hi e HB HBN
              go_upto_region 19 with (fail)
              go_wp2_with fail
              go_loop [6, 13, 14, 15, 16] (fun b i _ _ _ => ∃ j' : Nat, j' ≤ j ∧ i = .int .i64 j' ∧ (∃ (a : Option Addr) (q c : Nat), b = .slice a q c ∧ Hid (q = (tputs (m.drop j')).length) ∧ q ≤ 20600 ∧ Hid (Rd wx (.slice a q c) (tputs (m.drop j'))))) (fun _ i _ _ _ => j - (intOf i).toNat)
              case atStart => exact ⟨0, Nat.zero_le _, rfl, ⟨ca, cn, cc, rfl, HCN, by omega, HC⟩⟩
              case round =>
                obtain ⟨i2, hi, rfl, ⟨da2, dn, dc2, rfl, HDN, hdk, HD2⟩⟩ := hrel
                by_cases hlt : i2 < j
                · have hil : i2 < m.length := by rw [← HMN.out]; exact hlt
                  obtain ⟨a', c', hve, _, _, hcell⟩ := HM.out
                  obtain ⟨b, off, hae, c0⟩ := hcell i2 hil
                  cases hve
                  subst hae
                  clear hcell
                  have htk := tputs_drop m i2 hil
                  have hvl := vint_le m[i2].size
                  have hvp := vint_pos m[i2].size
                  obtain ⟨x, hx⟩ : ∃ x, x = m[i2] := ⟨_, rfl⟩
                  rw [← hx] at c0 htk hvl hvp
                  clear hx
                  have hsl : x.data.toList.length = x.size := by rw [Array.length_toList]; rfl
                  obtain ⟨rn, hrn⟩ : ∃ n, n = (tputs (m.drop (i2 + 1))).length := ⟨_, rfl⟩
                  obtain ⟨kn, hkn⟩ : ∃ n, n = (vint x.size ++ x.data.toList).length := ⟨_, rfl⟩
                  have hk1 : 1 ≤ kn := by rw [hkn, List.length_append]; omega
                  have hdn : dn = kn + rn := by rw [HDN.out, htk, List.length_append, hkn, hrn]
                  subst hdn
                  have hx64 : x.data.toList.length < 18446744073709551616 := by
                    have : kn = (vint x.size).length + x.data.toList.length := by rw [hkn, List.length_append]
                    omega
                  have hg := tget_put x.data.toList (tputs (m.drop (i2 + 1))) hx64
                  rw [hsl, ← htk, ← hkn] at hg
                  have HG : Hid (Calls Try.prog 48 #[.slice da2 (kn + rn) dc2] wx fun e w' => e = .returned (.tuple #[.string x, .int .i64 kn, .int .i64 0]) ∧ wx = w') := by
                    have := intsGetText_any _ _ wx HD2.out
                    unfold RetText at this
                    rw [hg] at this
                    simp only [bs_of] at this
                    exact this
                  obtain ⟨ea, ec, hcut, hr⟩ := cut_rest HD2.out kn rn HDN.out.symm
                  rw [htk, hkn, List.drop_left] at hr
                  have HR := Lib.hid hr
                  have hcut2 := fun w' => hcut w' .i64
                  have HRN := Lib.hid hrn
                  clear hcut hr hrn hkn htk hg HD2 HDN hvl hvp hsl hx64
                  go_wp2_with fail
                  refine HG.out.mono ?_
                  rintro e w' ⟨rfl, rfl⟩
                  clear HG
                  go_wp2_with fail
                  go_round
                  case rel => exact ⟨i2 + 1, by omega, by go_num, ⟨ea, rn, ec, rfl, HRN, by omega, HR⟩⟩
                  case measure => simp [intOf]; omega
                · have hik : i2 = j := by omega
                  subst hik
                  have e : m.drop i2 = [] := List.drop_of_length_le (by rw [← HMN.out]; exact Nat.le_refl _)
                  rw [e] at HDN HD2
                  have hd0 : dn = 0 := HDN.out
                  subst hd0
                  clear HDN hdk hlt hi e
                  have HG : Hid (Calls Try.prog 44 #[.slice da 0 dc] wx fun e w' => e = .returned (.tuple #[.int .u64 0, .int .i64 0, .int .i64 5]) ∧ wx = w') := intsGet_any _ _ wx HD.out
                  have HG2 : Hid (Calls Try.prog 48 #[.slice da2 0 dc2] wx fun e w' => e = .returned (.tuple #[.string (bs []), .int .i64 0, .int .i64 5]) ∧ wx = w') := intsGetText_any _ _ wx HD2.out
                  clear HD HD2 HC HCN
                  go_wp2_with fail
                  refine HG.out.mono ?_
                  rintro e w' ⟨rfl, rfl⟩
                  go_wp2_with fail
                  refine HG2.out.mono ?_
                  rintro e w' ⟨rfl, rfl⟩
                  go_wp2
                  go_ret
                  exact ⟨rfl, belw⟩
end Go.Proofs.Ytdamfcldkaidjaa

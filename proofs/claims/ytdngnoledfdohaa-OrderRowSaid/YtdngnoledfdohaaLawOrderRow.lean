/- Walk of law04.OrderRow. The condition: entries of texts of at most 2^47 bytes. -/
import Derived.Test.YtdngnoledfdohaaAlive4
import Derived.Test.YtdngnoledfdohaaCut
import Derived.Test.YtdngnoledfdohaaEnts
import Derived.Deep.Cut
namespace Go.Proofs.Ytdngnoledfdohaa
open Go.RowKit

def eputs : List PE → List UInt8
  | [] => []
  | x :: l => eput x.ent ++ eputs l
theorem eputs_app (l m : List PE) : eputs (l ++ m) = eputs l ++ eputs m := by
  induction l with
  | nil => rfl
  | cons x l ih => simp only [List.cons_append, eputs, ih, List.append_assoc]
theorem eputs_take (l : List PE) (k : Nat) (h : k < l.length) : eputs (l.take (k + 1)) = eputs (l.take k) ++ eput l[k].ent := by
  rw [List.take_succ_eq_append_getElem h, eputs_app]
  simp [eputs]
theorem eputs_drop (l : List PE) (k : Nat) (h : k < l.length) : eputs (l.drop k) = eput l[k].ent ++ eputs (l.drop (k + 1)) := by
  rw [List.drop_eq_getElem_cons h]; rfl
theorem eput_le (x : PE) : (eput x.ent).length ≤ 31 + (x.k.size + x.u.size) := by
  have h1 := vint_le x.k.size
  have h2 := vint_le x.s
  have h3 := vint_le x.u.size
  have h4 := size_data x.k
  have h5 := size_data x.u
  cases hg : x.g <;> simp [PE.ent, entOf, eput, tput, hg] <;> omega
/-- may the entry be? -/
def PE.good (x : PE) : Prop := checkK x.k.data.toList = true ∧ x.u.size ≤ 256 ∧ (x.g = true → x.u = ⟨#[]⟩)
theorem the_world {n : Nat} {w w' : World} (_ : Below n w w') : ∃ x, x = w' := ⟨_, rfl⟩
theorem eget_nil : eget [] = (Ent.none, 0, 5) := rfl

set_option maxRecDepth 100000 in
set_option maxHeartbeats 4000000 in
theorem orderRow_walk (w : World) (v : Value) (l : List PE) (hv : RdE w v l) (hl : l.length ≤ 2932031007402 ∧ ∀ x ∈ l, x.ok) :
    Calls Try.prog 9 #[v] w (RetTrue w) := by
  have hend : ∀ (w5 : World), Hid (Calls Try.prog 27 #[] w5 (RetTrue w5)) := fun w5 => alive04_any w5
  have HV := Lib.hid hv
  obtain ⟨hln, hlo⟩ := hl
  have HS := Lib.hid hlo
  obtain ⟨va, vc, rfl, h1, h2, h3⟩ := hv
  clear h3 hlo
  obtain ⟨vn, hvn⟩ : ∃ n, n = l.length := ⟨_, rfl⟩
  have HVN := Lib.hid hvn
  rw [← hvn] at h1 HV hln ⊢
  clear hvn
  by_cases hb : 60 < vn
  · go_enter Try.func9, Try.ntmps9
    go_wp2_with fail
    refine (hend _).out.mono ?_
    rintro e w1 ⟨rfl, bel⟩
    go_wp2_with fail
    refine (hend _).out.mono ?_
    rintro e w3 ⟨rfl, bel3⟩
    replace bel := Below.trans bel (bel3.mono bel.size)
    clear bel3
    go_wp2
    go_ret
    exact ⟨rfl, bel⟩
  go_enter Try.func9, Try.ntmps9
  go_wp2_with fail
  refine (hend _).out.mono ?_
  rintro e w1 ⟨rfl, bel⟩
  replace HV := Lib.hid (HV.out.below bel)
  have hz := entriesSize_any w1 _ l HV.out (by rw [← HVN.out]; omega) HS.out
  rw [← HVN.out] at hz
  have HZ := Lib.hid hz
  clear hz
  go_wp2_with fail
  refine HZ.out.mono ?_
  rintro e w2 ⟨z, rfl, hz, bel2⟩
  replace HV := Lib.hid (HV.out.below bel2)
  replace bel := Below.trans bel (bel2.mono bel.size)
  clear HZ bel2
  by_cases hb3 : 40000 < z
  · clear hz
    go_wp2_with fail
    refine (hend _).out.mono ?_
    rintro e w3 ⟨rfl, bel3⟩
    replace bel := Below.trans bel (bel3.mono bel.size)
    clear bel3
    go_wp2
    go_ret
    exact ⟨rfl, bel⟩
  have hzz := hz (by omega)
  have HT : Hid (entsLen l ≤ 40000) := by show _ ≤ _; omega
  clear hz hzz
  go_upto_region 4 with (fail)
  go_wp2_with fail
  have hb0 : Below w2.heap.size w2 w2 := Below.refl _ _
  go_loopw [3, 4] (fun b i wr => ∃ k : Nat, k ≤ vn ∧ i = .int .i64 k ∧ (∃ (a : Option Addr) (q c : Nat), b = .slice a q c ∧ Hid (q = (eputs (l.take k)).length) ∧ q ≤ 31 * k + entsLen (l.take k) ∧ Hid (Rd wr (.slice a q c) (eputs (l.take k)))) ∧ Hid (∀ x ∈ l.take k, x.good) ∧ Below w2.heap.size w2 wr) (fun _ i _ => vn - (intOf i).toNat)
  case atStart => exact ⟨0, Nat.zero_le _, rfl, ⟨none, 0, 0, rfl, rfl, by omega, rd_nil _⟩, Lib.hid (by simp), hb0⟩
  case round =>
    obtain ⟨k, hk, rfl, ⟨ba, bn, bc, rfl, HBN, hbk, HB⟩, HGD, belr⟩ := hrel
    obtain ⟨wr, hwr⟩ := the_world belr
    subst hwr
    by_cases hlt : k < vn
    · have hkl : k < l.length := by rw [← HVN.out]; exact hlt
      obtain ⟨a', c', hve, _, _, hcell⟩ := HV.out.below belr
      obtain ⟨b, off, hae, c0, c1, c2, c3⟩ := hcell k hkl
      cases hve
      subst hae
      clear hcell
      have hok := HS.out _ (List.getElem_mem (l := l) (n := k) hkl)
      have HTK := Lib.hid (eputs_take l k hkl)
      have hst := entsLen_take l k hkl
      have hle := entsLen_le l (k + 1)
      have hT := HT.out
      have hel := eput_le l[k]
      have HTT := Lib.hid (List.take_succ_eq_append_getElem hkl)
      obtain ⟨x, hx⟩ : ∃ x, x = l[k] := ⟨_, rfl⟩
      rw [← hx] at c0 c1 c2 c3 hok HTK hst hel HTT
      clear hx
      rw [hst] at hle
      have HST := Lib.hid hst
      obtain ⟨s1, s2, s3⟩ := hok
      obtain ⟨xk, xs, xg, xu⟩ := x
      simp only at c0 c1 c2 c3 s1 s2 s3 hel HST hle
      have hbq : bn ≤ 43000 := by omega
      have hxk : xk.size ≤ 40000 := by omega
      have hxu : xu.size ≤ 40000 := by omega
      have HQ : Hid (bn ≤ 31 * k + entsLen (l.take k)) := hbk
      have HEL := Lib.hid hel
      clear hst hle hT hel hbk
      have hbelw := Below.trans bel (Below.mono belr bel.size)
      by_cases hck : checkK xk.data.toList = true
      · have HCK := Lib.hid hck
        clear hck
        by_cases hu : 256 < xu.size
        · go_wp2_with fail
          refine (check_lit xk true HCK.out _).mono ?_
          rintro e w' ⟨rfl, rfl⟩
          go_wp2
          go_ret
          exact ⟨rfl, hbelw⟩
        · by_cases hue : xg = true ∧ xu.toList.isEmpty = false
          · obtain ⟨rfl, hue⟩ := hue
            go_wp2_with fail
            refine (check_lit xk true HCK.out _).mono ?_
            rintro e w' ⟨rfl, rfl⟩
            go_wp2
            go_ret
            exact ⟨rfl, hbelw⟩
          · have hor : xg = true → xu.toList.isEmpty = true := fun h => by
              cases h2 : xu.toList.isEmpty
              · exact absurd ⟨h, h2⟩ hue
              · rfl
            have HG : Hid (PE.good ⟨xk, xs, xg, xu⟩) := ⟨HCK.out, by show xu.size ≤ 256; omega, fun h => by
              have h2 := hor h
              rw [Lib.toList_data, List.isEmpty_iff] at h2
              obtain ⟨⟨d⟩⟩ := xu
              simp at h2
              subst h2; rfl⟩
            have HGD2 : Hid (∀ x ∈ l.take (k + 1), x.good) := by
              show ∀ x ∈ l.take (k + 1), x.good
              rw [HTT.out]
              intro x hx
              rcases List.mem_append.1 hx with h | h
              · exact HGD.out x h
              · rw [List.mem_singleton] at h; subst h; exact HG.out
            clear HTT HG HGD hue
            cases xg
            case' true =>
              have hem := hor rfl
              clear hor
            all_goals
              go_wp2_with fail
              refine (check_lit xk true HCK.out _).mono ?_
              rintro e w' ⟨rfl, rfl⟩
              go_wp2_with fail
              refine (orderPut_any _ _ _ xk xu xs _ HB.out (by rw [← HBN.out]; omega) (by omega) (by omega) s2).mono ?_
              rintro e w3 ⟨xa, xn, xc, rfl, HXN, HX, bel3⟩
              have belz := Below.trans belr (bel3.mono belr.size)
              have HNQ : Hid (xn ≤ 31 * (k + 1) + entsLen (l.take (k + 1))) := by
                show _ ≤ _
                have h1 := HXN.out
                have h2 := HST.out
                have h3 := HQ.out
                have h4 := HEL.out
                rw [List.length_append, ← HBN.out] at h1
                have h5 : xn = bn + (eput (PE.ent ⟨xk, xs, _, xu⟩)).length := h1
                omega
              go_wp2_with fail
              go_round
              case rel => exact ⟨k + 1, by omega, by go_num, ⟨xa, xn, xc, rfl, by rw [HTK.out]; exact HXN, HNQ.out, by rw [HTK.out]; exact HX⟩, HGD2, belz⟩
              case measure => simp [intOf]; omega
      · have hck2 : checkK xk.data.toList = false := by simpa using hck
        have HCK := Lib.hid hck2
        clear hck hck2
        go_wp2_with fail
        refine (check_lit xk false HCK.out _).mono ?_
        rintro e w' ⟨rfl, rfl⟩
        go_wp2
        go_ret
        exact ⟨rfl, hbelw⟩
    · have hkn : k = vn := by omega
      subst hkn
      have e : l.take k = l := List.take_of_length_le (by rw [← HVN.out]; exact Nat.le_refl _)
      rw [e] at HBN HB hbk HGD
      have hbq : bn ≤ 43000 := by have := HT.out; omega
      clear e hlt hk hbk HT
      have belw : Below w.heap.size w wr := Below.trans bel (Below.mono belr bel.size)
      replace HV := Lib.hid (HV.out.below belr)
      clear belr bel hb0
      go_upto_region 10 with (fail)
      go_wp2_with fail
      have hb7 : Below wr.heap.size wr wr := Below.refl _ _
      go_loopw [3, 5, 6, 7, 8] (fun b i _ _ _ wz => ∃ j : Nat, j ≤ k ∧ i = .int .i64 j ∧ (∃ (a : Option Addr) (q c : Nat), b = .slice a q c ∧ Hid (q = (eputs (l.drop j)).length) ∧ q ≤ 43000 ∧ Hid (Rd wz (.slice a q c) (eputs (l.drop j)))) ∧ Below wr.heap.size wr wz) (fun _ i _ _ _ _ => k - (intOf i).toNat)
      case atStart => exact ⟨0, Nat.zero_le _, rfl, ⟨ba, bn, bc, rfl, HBN, hbq, HB⟩, hb7⟩
      case round =>
        obtain ⟨i, hi, rfl, ⟨da, dn, dc, rfl, HDN, hdk, HD⟩, belx⟩ := hrel
        obtain ⟨wx, hwx⟩ := the_world belx
        subst hwx
        by_cases hlt : i < k
        · have hil : i < l.length := by rw [← HVN.out]; exact hlt
          have htk := eputs_drop l i hil
          have hok := HS.out _ (List.getElem_mem (l := l) (n := i) hil)
          have hgd := HGD.out _ (List.getElem_mem (l := l) (n := i) hil)
          have hg := eget_put l[i].ent (eputs (l.drop (i + 1))) hgd.1 hok.2.1 (by show l[i].u.data.toList.length ≤ 256; rw [size_data]; exact hgd.2.1) (fun h => by have := hgd.2.2 h; show l[i].u.data.toList = []; rw [this])
          obtain ⟨kn, hkn⟩ : ∃ n, n = (eput l[i].ent).length := ⟨_, rfl⟩
          obtain ⟨mn, hmn⟩ : ∃ n, n = (eputs (l.drop (i + 1))).length := ⟨_, rfl⟩
          have hdn : dn = kn + mn := by rw [HDN.out, htk, List.length_append, hkn, hmn]
          subst hdn
          have hdrop : (eputs (l.drop i)).drop kn = eputs (l.drop (i + 1)) := by rw [htk, hkn, List.drop_left]
          rw [← htk, ← hkn] at hg
          have hk3 : 3 ≤ kn := (eget_got hg).1
          obtain ⟨ea, ec, hcut, hrd⟩ := cut_rest HD.out kn mn HDN.out.symm
          rw [hdrop] at hrd
          have HR := Lib.hid hrd
          have hcut2 := fun w' => hcut w' .i64
          have HMN := Lib.hid hmn
          have HG2 := Lib.hid hg
          obtain ⟨x, hx⟩ : ∃ x, x = l[i] := ⟨_, rfl⟩
          have HXI := Lib.hid hx
          rw [← hx] at HG2
          have hxk : x.k.size ≤ 140737488351232 := by rw [hx]; exact hok.1
          clear hcut hrd hmn hkn htk hg hdrop hok hgd hx
          obtain ⟨xk, xs, xg, xu⟩ := x
          have HGET := Lib.hid (get_lit (eputs (l.drop i)) (PE.ent ⟨xk, xs, xg, xu⟩) kn 0 xk xu xs xg kn 0 HG2.out (bs_of xk) rfl rfl (bs_of xu) rfl rfl (by rw [← HDN.out]; omega) wx (.slice da (kn + mn) dc) HD.out)
          clear hxk HG2
          go_wp2_with fail
          refine HGET.out.mono ?_
          rintro e w3 ⟨rfl, bel3⟩
          clear HGET
          go_upto_region 14 with (fail)
          obtain ⟨Y, hY⟩ : ∃ Y, Y = w3.heap.size := ⟨_, rfl⟩
          have HY : Blk (w3.alloc (.cells #[.string xk, .int .u64 xs, .bool xg, .string xu] 50)) Y #[.string xk, .int .u64 xs, .bool xg, .string xu] 50 := Blk.new_at _ _ _ _ hY
          have bel4 : Below wx.heap.size wx (w3.alloc (.cells #[.string xk, .int .u64 xs, .bool xg, .string xu] 50)) := bel3.alloc bel3.size _
          rw [← hY]
          generalize w3.alloc (.cells #[.string xk, .int .u64 xs, .bool xg, .string xu] 50) = w4 at HY bel4 ⊢
          clear hY bel3
          have belz := Below.trans belx (bel4.mono belx.size)
          obtain ⟨a', c', hve, _, _, hcell⟩ := HV.out.below belz
          obtain ⟨b, off, hae, c0, c1, c2, c3⟩ := hcell i hil
          rw [← HXI.out] at c0 c1 c2 c3
          cases hve
          subst hae
          clear hcell
          simp only at c0 c1 c2 c3
          have y0 := HY.cellv 0 (.string xk) rfl
          have y1 := HY.cellv 1 (.int .u64 xs) rfl
          have y2 := HY.cellv 2 (.bool xg) rfl
          have y3 := HY.cellv 3 (.string xu) rfl
          clear HXI
          go_wp2_with fail
          have hd3 : decide ((kn : Int) < 3) = false := by simp; omega
          have hd4 : decide (((kn + mn : Nat) : Int) < (kn : Int)) = false := by simp; omega
          have hd5 : decide ((kn : Int) + (mn : Int) < (kn : Int)) = false := by simp; omega
          go_quiet (fail)
          clear hd3 hd4 hd5 c0 c1 c2 c3 y0 y1 y2 y3
          go_wp2_with fail
          have beld : ∀ q, Below w4.heap.size w4 (w4.drewN q) := fun q => drewN_below w4 q
          go_round
          case rel => exact ⟨i + 1, by omega, by go_num, ⟨ea, mn, ec, rfl, HMN, by omega, Lib.hid (HR.out.below (Below.trans bel4 ((beld _).mono bel4.size)))⟩, Below.trans belz ((beld _).mono belz.size)⟩
          case measure => simp [intOf]; omega
        · have hik : i = k := by omega
          subst hik
          have e : l.drop i = [] := List.drop_of_length_le (by rw [← HVN.out]; exact Nat.le_refl _)
          rw [e] at HDN HD
          have hd0 : dn = 0 := HDN.out
          subst hd0
          clear HDN hlt hi e HB HBN
          go_wp2_with fail
          refine (get_lit [] Ent.none 0 5 ⟨#[]⟩ ⟨#[]⟩ 0 false 0 5 eget_nil rfl rfl rfl rfl rfl rfl (by simp) wx (.slice da 0 dc) HD.out).mono ?_
          rintro e w3 ⟨rfl, bel3⟩
          go_wp2
          go_ret
          exact ⟨rfl, Below.trans belw (Below.alloc (Below.trans (belx.mono belw.size) (bel3.mono (Nat.le_trans belw.size belx.size))) (Nat.le_trans belw.size (Nat.le_trans belx.size bel3.size)) _)⟩
end Go.Proofs.Ytdngnoledfdohaa

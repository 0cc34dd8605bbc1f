/- Walk of law01.IntsNeedless. The condition: an array of ten bytes. -/
import Derived.Test.YtdamfcldkaidjaaStore
import Derived.Test.YtdamfcldkaidjaaGrow
import Derived.Test.YtdamfcldkaidjaaNeed
import Derived.Deep.RegionHeld3
import Derived.BigRegion
namespace Go.Proofs.Ytdamfcldkaidjaa
open Go.RowKit

theorem put_my (w : World) (v : Value) (l : List UInt8) (n : Nat) (hv : Rd w v l) (hn : n < 18446744073709551616) (hl : l.length ≤ 137438953472) :
    Calls Try.prog 62 #[v, .int .u64 n] w (RetMy (l ++ vint n) w) := (put_any w v l n hv hn (by omega)).mono fun _ _ h => my_of_own h

theorem rd_row {w : World} {g : Nat} {t : TypeId} {l : List UInt8} (h : Row w g t l) (k cap : Nat) (hk : k ≤ l.length) (hc : k ≤ cap) (hm : cap ≤ 9223372036854775807) : Rd w (.slice (some ⟨g, 0, none⟩) k cap) (l.take k) := by
  have e : (l.take k).length = k := by simp; omega
  refine ⟨_, cap, by rw [e], by rw [e]; exact hc, hm, fun j hj => ⟨g, 0, rfl, ?_⟩⟩
  rw [e] at hj
  rw [Nat.zero_add, row_cell h j (by omega)]
  simp
theorem row_under {w w' : World} {g B : Nat} {t : TypeId} {l : List UInt8} (h : Row w g t l) (hg : g < B) (hb : Below B w w') : Row w' g t l := by
  obtain ⟨fr, hg', hf⟩ := h
  exact ⟨fr, by rw [hb.block g hg]; exact hg', hf⟩
theorem row_lt {w : World} {g : Nat} {t : TypeId} {l : List UInt8} (h : Row w g t l) : g < w.heap.size := by
  obtain ⟨fr, hg, _⟩ := h
  exact (Array.getElem?_eq_some_iff.1 hg).1
theorem rep_more (L : List UInt8) (k : Nat) : (L ++ List.replicate k 128) ++ [128] = L ++ List.replicate (k + 1) 128 := by
  rw [List.append_assoc, List.replicate_succ']
theorem or_128 (d : Nat) (hd : d < 256) : ∃ q : Nat, bits BinOp.or IntKind.u8 (d : Int) 128 = (q : Int) ∧ 128 ≤ q ∧ q < 256 := by
  have h := u8_or_nat d 128 hd (by omega)
  rw [show ((128 : Nat) : Int) = 128 from rfl] at h
  have h2 : d ||| 128 < 2 ^ 8 := Nat.or_lt_two_pow (by omega) (by omega)
  exact ⟨d ||| 128, h, Nat.right_le_or, by omega⟩
def Less (k : Nat) (l : List UInt8) : Prop := ∀ j (h : j < l.length), j < k → 128 ≤ l[j].toNat
theorem less_set {k : Nat} {l : List UInt8} (h : Less k l) (q : Nat) (h1 : 128 ≤ q) (h2 : q < 256) : Less (k + 1) (l.set k (UInt8.ofNat q)) := by
  intro j hj hk
  rw [List.length_set] at hj
  rw [List.getElem_set]
  split
  · rw [toNat_ofNat _ h2]; exact h1
  · exact h j hj (by omega)
theorem less_all {l : List UInt8} (h : Less l.length l) : More l := fun j hj => h j hj hj
theorem less_take {k n : Nat} {l : List UInt8} (h : Less k l) (hn : n ≤ k) : More (l.take n) := by
  intro j hj
  rw [List.getElem_take]
  simp at hj
  exact h j (by omega) (by omega)

set_option maxRecDepth 100000 in
set_option maxHeartbeats 4000000 in
theorem intsNeedless_walk (w : World) (a0 a1 : Int) (b : List UInt8) (wa : (Lit.int .u64 a0).wf = true) (wb : (Lit.int .u8 a1).wf = true) (hb : b.length = 10) :
    Calls Try.prog 15 #[.int .u64 a0, .int .u8 a1, .agg (u8s b).toArray] w (RetTrue w) := by
  obtain ⟨n, rfl, hn⟩ := nat_u64 wa
  obtain ⟨m, rfl, hm⟩ := nat_u8 wb
  clear wa wb
  have HB := Lib.hid hb
  clear hb
  have hend : ∀ (w5 : World), Hid (Calls Try.prog 61 #[] w5 (RetTrue w5)) := fun w5 => alive01_any w5
  have hrow : Row (w.alloc (.cells (u8s b).toArray 66)) w.heap.size 66 b := ⟨(0, 0), heap_alloc_last w _, fun _ _ h => by omega⟩
  have HR := Lib.hid hrow
  clear hrow
  go_enter Try.func15, Try.ntmps15
  go_wp2_with fail
  refine (put_my _ _ [] n (rd_nil _) hn (by decide)).mono ?_
  rintro e w1 ⟨xa, xn, xc, rfl, HXN, HX, bel1⟩
  rw [List.nil_append] at HXN HX
  replace HR := Lib.hid (row_below HR.out bel1)
  have bel : Below w.heap.size w w1 := Below.trans ((Below.refl _ _).alloc (Nat.le_refl _) _) (bel1.mono (by simp))
  have hx1 : 1 ≤ xn := by rw [HXN.out]; exact vint_pos n
  have hx10 : xn ≤ 10 := by rw [HXN.out]; exact vint_le n
  obtain ⟨g, c, e1, hbg, hlt, hfr⟩ := own_block HX.out hx1
  simp only [Value.slice.injEq, true_and] at e1
  obtain ⟨rfl, rfl⟩ := e1
  have hcap : xn ≤ xc := by
    obtain ⟨_, _, e, h1, _⟩ := (rd_of_own HX.out).2
    simp only [Value.slice.injEq] at e
    rw [HXN.out, e.2.2]; exact h1
  have hlx : xn - 1 < (vint n).length := by rw [← HXN.out]; omega
  have hcell : w1.cell? ⟨g, xn - 1, none⟩ = some (.int .u8 (((vint n)[xn - 1]'hlx).toNat : Int)) := by
    obtain ⟨_, _, e, _, _, h4⟩ := (rd_of_own HX.out).2
    obtain ⟨_, _, e2, h5⟩ := h4 (xn - 1) hlx
    simp only [Value.slice.injEq] at e
    rw [← e.1] at e2
    cases e2
    rwa [Nat.zero_add] at h5
  have hfrz : w1.frozen? ⟨g, xn - 1, none⟩ = false := hfr _ (by omega)
  have hd256 := ((vint n)[xn - 1]'hlx).toNat_lt
  generalize ((vint n)[xn - 1]'hlx).toNat = d at hcell hd256
  clear hfr
  obtain ⟨q, hor, hq1, hq2⟩ := or_128 d hd256
  have HO := Lib.hid (own_store HX.out (xn - 1) (by omega) (UInt8.ofNat q))
  rw [toNat_ofNat q hq2] at HO
  have hmo := more_last n (UInt8.ofNat q) (by rw [toNat_ofNat q hq2]; exact hq1)
  rw [← HXN.out] at hmo
  have HMO := Lib.hid hmo
  clear hmo hlx
  have HL : Hid (xn = ((vint n).set (xn - 1) (UInt8.ofNat q)).length) := by show _ = _; rw [List.length_set]; exact HXN.out
  generalize (vint n).set (xn - 1) (UInt8.ofNat q) = L at HO HMO HL
  have hbel2 : Below w.heap.size w (w1.setCell ⟨g, xn - 1, none⟩ (.int .u8 q)) := bel.setCell (by simp at hbg ⊢; omega) _
  have hr2 : Row (w1.setCell ⟨g, xn - 1, none⟩ (.int .u8 q)) w.heap.size 66 b := by
    obtain ⟨fr, h1, h2⟩ := HR.out
    exact ⟨fr, by rw [Below.heap_setCell _ _ _ _ (by simp at hbg ⊢; omega)]; exact h1, h2⟩
  have hwx : IntKind.i64.wrap ((xn : Int) - 1) = (xn : Int) - 1 := IntWalk.i64_in _ (by omega)
  have HO2 := Lib.hid (own_mono HO.out (show w.heap.size + 1 ≤ (w.alloc (.cells (u8s b).toArray 66)).heap.size by simp))
  have HR2 := Lib.hid hr2
  clear hr2 HO HX HR bel bel1
  go_wp2_with fail
  clear hcell hfrz hor hwx
  generalize w1.setCell ⟨g, xn - 1, none⟩ (.int .u8 q) = w2 at HO2 HR2 hbel2 ⊢
  have hmod : (m : Int) % 4 = ((m % 4 : Nat) : Int) := by omega
  have hm4 : m % 4 < 4 := by omega
  generalize m % 4 = m4 at hmod hm4
  go_loopw [7, 8] (fun v i wr => ∃ (k n1 : Nat) (a1 : Option Addr) (c1 : Nat), k ≤ m4 ∧ i = .int .i64 k ∧ v = .slice a1 n1 c1 ∧ Hid (n1 = (L ++ List.replicate k 128).length) ∧ Hid (Own wr (w.heap.size + 1) 5 1 (.slice a1 n1 c1) n1 (u8s (L ++ List.replicate k 128))) ∧ Hid (Row wr w.heap.size 66 b) ∧ Below w.heap.size w wr) (fun _ i _ => m4 - (intOf i).toNat)
  case atStart => exact ⟨0, xn, _, xc, by omega, rfl, rfl, by show _ = _; rw [List.replicate_zero, List.append_nil]; exact HL.out, by rw [List.replicate_zero, List.append_nil]; exact HO2, HR2, hbel2⟩
  case round =>
    obtain ⟨k, n1, a1, c1, hk, rfl, rfl, HN, HO3, HR3, bel3⟩ := hrel
    by_cases hlt : k < m4
    · have hlen : (L ++ List.replicate k 128).length + [(128 : UInt8)].length ≤ 1099511627776 := by rw [← HN.out]; have := HN.out; rw [List.length_append, ← HL.out, List.length_replicate] at this; simp; omega
      have hsz := bel3.size
      have hsz2 := row_lt HR3.out
      have HLN := Lib.hid hlen
      clear hlen
      go_wp2_with (at_builtin; go_loud (refine wp_app_my rfl _ _ rfl (w.heap.size + 1) _ _ _ (L ++ List.replicate k 128) [128] rfl rfl (own_below HO3.out ((Below.refl _ _).alloc (Nat.le_refl _) _)) (rd_one _ 128 _ rfl _) HLN.out (by simp; omega) ?_); intro ya yn yc w4 HYN HY bel4)
      rw [rep_more] at HYN HY
      have hb5 : Below w.heap.size wr (wr.alloc (.cells #[.int .u8 128] 5)) := (Below.refl _ _).alloc hsz _
      refine ⟨⟨k + 1, yn, ya, yc, by omega, by go_num, rfl, HYN, HY, row_under HR3.out (by omega) (Below.trans ((Below.refl (w.heap.size + 1) wr).alloc (by omega) _) bel4), Below.trans bel3 (Below.trans hb5 (bel4.mono (by omega)))⟩, by simp [intOf]; omega⟩
    · obtain rfl : k = m4 := by omega
      have hlen : (L ++ List.replicate k 128).length + [(0 : UInt8)].length ≤ 1099511627776 := by rw [← HN.out]; have := HN.out; rw [List.length_append, ← HL.out, List.length_replicate] at this; simp; omega
      have hsz := bel3.size
      have hsz2 := row_lt HR3.out
      have HLN := Lib.hid hlen
      have HM : Hid (L ++ List.replicate k 128 ≠ []) := by
        intro e
        have := congrArg List.length e
        rw [List.length_append, ← HL.out] at this
        simp at this
        omega
      have HG := Lib.hid (vget_needless (more_app HMO.out (more_rep k)) HM.out)
      clear hlen
      go_wp2_with (at_builtin; go_loud (refine wp_app_my rfl _ _ rfl (w.heap.size + 1) _ _ _ (L ++ List.replicate k 128) [0] rfl rfl (own_below HO3.out ((Below.refl _ _).alloc (Nat.le_refl _) _)) (rd_one _ 0 _ rfl _) HLN.out (by simp; omega) ?_); intro ya yn yc w4 HYN HY bel4)
      refine (intsGet_any _ _ _ (rd_of_own HY.out).2).mono ?_
      rintro e w5 ⟨rfl, rfl⟩
      rw [HG.out]
      have hb5 : Below w.heap.size wr (wr.alloc (.cells #[.int .u8 0] 5)) := (Below.refl _ _).alloc hsz _
      have hb6 : Below w.heap.size w w4 := Below.trans bel3 (Below.trans hb5 (bel4.mono (by omega)))
      have HR4 := Lib.hid (row_under HR3.out (Nat.lt_succ_self _) (Below.trans ((Below.refl (w.heap.size + 1) wr).alloc (by omega) _) bel4))
      clear hb5 bel4 HG HLN HM HR3 bel3 HO3
      go_wp2_with fail
      go_loopw [12] (fun i wr => ∃ (k : Nat) (l : List UInt8), k ≤ 10 ∧ i = .int .i64 k ∧ Hid (l.length = 10) ∧ Hid (Less k l) ∧ Hid (Row wr w.heap.size 66 l) ∧ Below w.heap.size w wr) (fun i _ => 10 - (intOf i).toNat)
      case atStart => exact ⟨0, b, by omega, rfl, HB, fun j hj h0 => absurd h0 (by omega), HR4, hb6⟩
      case round =>
        obtain ⟨k2, l2, hk2, rfl, HL2, HS2, HR5, bel5⟩ := hrel
        by_cases hlt2 : k2 < 10
        · have hlx : k2 < l2.length := by rw [HL2.out]; exact hlt2
          have hcell := row_cell HR5.out k2 hlx
          have hfrz := row_frozen HR5.out k2 hlx
          have hd256 := (l2[k2]'hlx).toNat_lt
          generalize (l2[k2]'hlx).toNat = d2 at hcell hd256
          obtain ⟨q2, hor, hq21, hq22⟩ := or_128 d2 hd256
          have HS3 := Lib.hid (less_set HS2.out q2 hq21 hq22)
          have HR6 := Lib.hid (row_set HR5.out k2 (UInt8.ofNat q2))
          rw [toNat_ofNat q2 hq22] at HR6
          have hb7 : Below w.heap.size w (wr.setCell ⟨w.heap.size, k2, none⟩ (.int .u8 q2)) := bel5.setCell (Nat.le_refl _) _
          clear hlx
          go_wp2
          go_roundw
          case rel => exact ⟨k2 + 1, _, by omega, by go_num, by show _ = _; rw [List.length_set]; exact HL2.out, HS3, HR6, hb7⟩
          case measure => simp [intOf]; omega
        · obtain rfl : k2 = 10 := by omega
          have hl10 := HL2.out
          have r10 := rd_row HR5.out 10 10 (by omega) (by omega) (by omega)
          have r9 := rd_row HR5.out 9 9 (by omega) (by omega) (by omega)
          rw [List.take_of_length_le (by omega)] at r10
          have m9 : More (l2.take 9) := less_take HS2.out (by omega)
          have l9 : (l2.take 9).length = 9 := by simp; omega
          have mall : More l2 := less_all (by rw [hl10]; exact HS2.out)
          have G1 := Lib.hid (vget_ten mall (by omega))
          have G2 := Lib.hid (vget_nine_two m9 l9)
          obtain ⟨N, hN, hN1, hN2⟩ := vget_nine_one m9 l9
          have G3 := Lib.hid hN
          have L9 := Lib.hid l9
          have R9 := Lib.hid r9
          have R10 := Lib.hid r10
          have BEL := Lib.hid bel5
          clear r9 r10 m9 l9 mall hN hl10 HR5 HS2 HL2 bel5
          go_wp2_with fail
          refine (intsGet_any _ l2 _ R10.out).mono ?_
          rintro e w6 ⟨rfl, rfl⟩
          rw [G1.out]
          have hE : Value.slice (some ⟨w.heap.size, 0, none⟩) 9 9 = .slice (some ⟨w.heap.size, 0, none⟩) (l2.take 9).length 9 := by rw [L9.out]
          have HE := Lib.hid hE
          clear hE
          go_wp2_with (at_builtin; go_loud (refine wp_app_grow rfl _ _ rfl _ _ (l2.take 9) [2] _ 9 HE.out rfl rfl (R9.out.below ((Below.refl _ _).alloc (Nat.le_refl _) _)) (rd_one _ 2 _ rfl _) (by rw [L9.out]; decide) (by rw [L9.out]; decide) ?_); intro za zn zc w7 HZN HZ bel7)
          refine (intsGet_any _ _ _ (rd_of_own HZ.out).2).mono ?_
          rintro e w8 ⟨rfl, rfl⟩
          rw [G2.out]
          have BEL7 : Below w.heap.size w w7 := Below.trans BEL.out (Below.trans ((Below.refl _ _).alloc BEL.out.size _) (bel7.mono (by simp; have := BEL.out.size; omega)))
          have R97 := Lib.hid (R9.out.below (Below.trans ((Below.refl _ _).alloc (Nat.le_refl _) _) (bel7.mono (by simp))))
          clear HZN HZ bel7 BEL R9 R10
          go_wp2_with (at_builtin; go_loud (refine wp_app_grow rfl _ _ rfl _ _ (l2.take 9) [1] _ 9 HE.out rfl rfl (R97.out.below ((Below.refl _ _).alloc (Nat.le_refl _) _)) (rd_one _ 1 _ rfl _) (by rw [L9.out]; decide) (by rw [L9.out]; decide) ?_); intro ua un uc w9 HUN HU bel9)
          refine (intsGet_any _ _ _ (rd_of_own HU.out).2).mono ?_
          rintro e w8 ⟨rfl, rfl⟩
          rw [G3.out]
          have BEL9 : Below w.heap.size w w9 := Below.trans BEL7 (Below.trans ((Below.refl _ _).alloc BEL7.size _) (bel9.mono (by simp; have := BEL7.size; omega)))
          clear HUN HU bel9 BEL7 R97 HE
          go_wp2_with fail
          refine (hend _).out.mono ?_
          rintro e w10 ⟨rfl, bel10⟩
          replace BEL9 := Below.trans BEL9 (bel10.mono BEL9.size)
          clear bel10
          go_wp2
          go_ret
          exact ⟨by first | rfl | (simp; done) | (simp; omega), BEL9⟩
end Go.Proofs.Ytdamfcldkaidjaa

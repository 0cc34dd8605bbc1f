/- Walk of law11.EditsBack. The conditions: as the law itself asks. -/
import Derived.Test.YtmonmfamnbfhcaaFlR
import Derived.Deep.Cut
namespace Go.Proofs.Ytmonmfamnbfhcaa
open Go.RowKit


/-- no one's bytes begin another one's -/
def PFx {α : Type} (enc : α → List UInt8) (P : α → Prop) : Prop := ∀ x y r s, P x → P y → enc x ++ r = enc y ++ s → x = y ∧ r = s
theorem PFx.of_step {α : Type} {enc : α → List UInt8} {P : α → Prop} (h : ∀ l, ∃ x b l', Step enc P false l x b l') : PFx enc P := by
  intro x y r s hx hy e
  obtain ⟨z, b, l', _, h2, _⟩ := h (enc x ++ r)
  obtain ⟨rfl, _, rfl⟩ := h2 x r rfl hx rfl
  obtain ⟨rfl, _, rfl⟩ := h2 y s rfl hy e
  exact ⟨rfl, rfl⟩
theorem pfx_vint : PFx vint (fun n => n ≤ 18446744073709551615) := .of_step fun l => ⟨_, _, _, number_step l false 18446744073709551615 (by omega)⟩
theorem pfx_tx : PFx tx (fun s => s.size < 18446744073709551616) := .of_step fun l => ⟨_, _, _, text_step l false⟩
theorem pfx_file : PFx fput PFread := by
  intro x y r s hx hy e
  obtain ⟨x1, x2, x3, x4⟩ := hx
  obtain ⟨y1, y2, y3, y4⟩ := hy
  unfold fput at e
  simp only [List.append_assoc] at e
  obtain ⟨a1, e⟩ := pfx_vint _ _ _ _ (by omega) (by omega) e
  obtain ⟨a2, e⟩ := pfx_vint _ _ _ _ (by omega) (by omega) e
  obtain ⟨a3, e⟩ := pfx_tx _ _ _ _ x3 y3 e
  obtain ⟨a4, e⟩ := pfx_tx _ _ _ _ x4 y4 e
  refine ⟨?_, e⟩
  cases x; cases y
  simp only at *
  subst a1 a3 a4
  congr 1
  omega
theorem pfx_list {α : Type} {enc : α → List UInt8} {P : α → Prop} (h : PFx enc P) : ∀ (l m : List α) (r s : List UInt8), l.length = m.length → (∀ x ∈ l, P x) → (∀ x ∈ m, P x) → l.flatMap enc ++ r = m.flatMap enc ++ s → l = m ∧ r = s
  | [], [], r, s, _, _, _, e => ⟨rfl, by simpa using e⟩
  | [], _ :: _, _, _, hl, _, _, _ => by simp at hl
  | _ :: _, [], _, _, hl, _, _, _ => by simp at hl
  | x :: l, y :: m, r, s, hl, hx, hy, e => by
    simp only [List.flatMap_cons, List.append_assoc] at e
    obtain ⟨h1, e1⟩ := h _ _ _ _ (hx x (by simp)) (hy y (by simp)) e
    obtain ⟨h2, e2⟩ := pfx_list h l m r s (by simpa using hl) (fun z hz => hx z (by simp [hz])) (fun z hz => hy z (by simp [hz])) e1
    exact ⟨by rw [h1, h2], e2⟩
theorem pfx_many {α : Type} {enc : α → List UInt8} {P : α → Prop} (h : PFx enc P) : PFx (manyP enc) (fun l => l.length ≤ 18446744073709551615 ∧ ∀ x ∈ l, P x) := by
  intro x y r s hx hy e
  unfold manyP at e
  simp only [List.append_assoc] at e
  obtain ⟨a1, e⟩ := pfx_vint _ _ _ _ hx.1 hy.1 e
  exact pfx_list h _ _ _ _ a1 hx.2 hy.2 e
theorem pfx_edit : PFx ePut PXread := by
  intro x y r s hx hy e
  obtain ⟨x1, x2, x3, x4, x5⟩ := hx
  obtain ⟨y1, y2, y3, y4, y5⟩ := hy
  unfold ePut at e
  simp only [List.append_assoc] at e
  obtain ⟨a1, e⟩ := pfx_many pfx_file _ _ _ _ x1 y1 e
  obtain ⟨a2, e⟩ := pfx_many (P := fun k => k ≤ 4294967295) (fun u v r s h1 h2 => pfx_vint u v r s (by omega) (by omega)) _ _ _ _ x2 y2 e
  obtain ⟨a3, e⟩ := pfx_vint _ _ _ _ (by omega) (by omega) e
  obtain ⟨a4, e⟩ := pfx_vint _ _ _ _ (by omega) (by omega) e
  obtain ⟨a5, e⟩ := pfx_vint _ _ _ _ (by omega) (by omega) e
  refine ⟨?_, e⟩
  cases x; cases y
  simp only at *
  subst a1 a2 a3 a4 a5
  rfl
theorem getR_more {x y : PX} {q : Nat} (hm : x.add.all mayF = true) (hf : x.fit) (h : GetR (ePut x ++ [0]) y q) : q = 4 := by
  rcases h.1 with ⟨_, h1, h2, h3⟩ | ⟨h1, _⟩
  · have := (pfx_edit y x [] [0] (pxread_of h1 h2) (pxread_of hm hf) (by rw [h3, List.append_nil])).2
    cases this
  · exact h1
theorem getR_same {x y : PX} {q : Nat} (hm : x.add.all mayF = true) (hf : x.fit) (h : GetR (ePut x) y q) : q = 0 ∧ y = x := h.2 x hm hf rfl
theorem ePut_le {x : PX} (hm : x.add.all mayF = true) (ha : x.add.length ≤ 300) (hr : x.rem.length ≤ 300) : (ePut x).length ≤ 40000 := by
  unfold ePut manyP
  have h1 := flatMap_le fput 104 x.add (fun f hf => fput_le (by rw [List.all_eq_true] at hm; exact hm f hf))
  have h2 := flatMap_le vint 10 x.rem (fun k _ => vint_le k)
  simp only [List.length_append]
  have := vint_le x.add.length
  have := vint_le x.rem.length
  have := vint_le x.jo
  have := vint_le x.nx
  have := vint_le x.sq
  omega
theorem twin_ownE {w : World} {base : Nat} {v : Value} {l : List UInt8} (h : Twin w base v l) : Own w base 5 1 v l.length (u8s l) := by
  obtain ⟨g, rfl, h0, h1, h2⟩ := h
  refine .inr ⟨by simp [u8s], g, l.length + 1, _, (0, 0), rfl, h1, h2, fun i _ h => by omega, by omega, by unfold maxLen; omega, by simp [u8s], ?_⟩
  simp [u8s, List.map_append]
theorem own_sl {w : World} {base : Nat} {e : TypeId} {sz n : Nat} {v : Value} {xs : List Value} (h : Own w base e sz v n xs) : ∃ a k c, v = .slice a k c := by
  obtain ⟨b, c, e⟩ := (reads_of_own h).slice
  exact ⟨b, _, c, e⟩
theorem fit_of {x : PX} (h : x.ok) (ha : x.add.length ≤ 100000) (hr : x.rem.length ≤ 100000) : x.fit := ⟨ha, hr, fun f hf => (h.1.2 f hf).1, h.2.1.2, h.2.2.1, h.2.2.2.1, h.2.2.2.2⟩
theorem all_take {l : List PF} (k : Nat) (hk : k < l.length) : (l.take (k + 1)).all mayF = ((l.take k).all mayF && mayF l[k]) := by
  rw [List.take_succ_eq_append_getElem hk, List.all_append]
  simp
set_option maxRecDepth 100000 in
set_option maxHeartbeats 1000000 in
theorem editsBack_walk (w : World) (vx : Value) (x : PX) (v : Value) (b : List UInt8) (hx : RdX w vx x) (hxo : x.ok) (hv : Rd w v b) (hb : b.length ≤ 140737488351232) :
    Calls Try.prog 3 #[vx, v] w fun e w' => e = .returned (.bool true) ∧ Below w.heap.size w w' := by
  obtain ⟨va, vr, rfl, hva, hvr⟩ := hx
  obtain ⟨ba, bn, bc, rfl, hbn⟩ := rd_len hv
  obtain ⟨aa, an, ac, rfl, HAN, hac, ham⟩ := rdF_sl hva
  obtain ⟨ra, rn, rc, rfl, HRN, hrc, hrm⟩ := rdU_sl hvr
  obtain ⟨W, hW⟩ : ∃ W, W = w.alloc (.cells #[.slice aa an ac, .slice ra rn rc, .int .u32 x.jo, .int .u32 x.nx, .int .u64 x.sq] 27) := ⟨_, rfl⟩
  have hBlk : Blk W w.heap.size #[.slice aa an ac, .slice ra rn rc, .int .u32 x.jo, .int .u32 x.nx, .int .u64 x.sq] 27 := by rw [hW]; exact Blk.new _ _ _
  have HBW : Hid (Below w.heap.size w W) := Lib.hid (by rw [hW]; exact alloc_bel _ _)
  have HC : Hid (∀ w', Below W.heap.size W w' → w'.cell? ⟨w.heap.size, 0, none⟩ = some (.slice aa an ac) ∧ w'.cell? ⟨w.heap.size, 1, none⟩ = some (.slice ra rn rc) ∧ w'.cell? ⟨w.heap.size, 2, none⟩ = some (.int .u32 x.jo) ∧ w'.cell? ⟨w.heap.size, 3, none⟩ = some (.int .u32 x.nx) ∧ w'.cell? ⟨w.heap.size, 4, none⟩ = some (.int .u64 x.sq)) := Lib.hid fun w' hb => ⟨Below.keeps hb _ _ _ (hBlk.cell 0), Below.keeps hb _ _ _ (hBlk.cell 1), Below.keeps hb _ _ _ (hBlk.cell 2), Below.keeps hb _ _ _ (hBlk.cell 3), Below.keeps hb _ _ _ (hBlk.cell 4)⟩
  have HV : Hid (∀ w', Below W.heap.size W w' → Rd w' (.slice ba bn bc) b ∧ RdX w' (.agg #[.slice aa an ac, .slice ra rn rc, .int .u32 x.jo, .int .u32 x.nx, .int .u64 x.sq]) x ∧ RdF w' (.slice aa an ac) x.add) := Lib.hid fun w' hb => ⟨(hv.below HBW.out).below hb, ⟨_, _, rfl, (hva.below HBW.out).below hb, (hvr.below HBW.out).below hb⟩, (hva.below HBW.out).below hb⟩
  have HG : Hid (∀ w', Below W.heap.size W w' → Calls Try.prog 11 #[.slice none 0 0, (.agg #[.slice aa an ac, .slice ra rn rc, .int .u32 x.jo, .int .u32 x.nx, .int .u64 x.sq])] w' fun e w'' => ∃ b, e = .returned (.bool b) ∧ Hid (b = false → ([] : List PF).length + x.add.length + x.rem.length ≤ 300 ∧ filesLen [] + filesLen x.add ≤ 20000) ∧ Below w'.heap.size w' w'') := Lib.hid fun w' hb => great_any w' _ _ [] x (RdF.nil _) (HV.out w' hb).2.1 ⟨by simp, fun f hf => by cases hf⟩ hxo
  have HXO := Lib.hid hxo
  have HBN := Lib.hid hbn
  have hbn2 : bn ≤ 140737488351232 := by rw [hbn]; exact hb
  have HEND : Hid (∀ w', Below W.heap.size W w' → Below w.heap.size w w') := Lib.hid fun w' hb => HBW.out.trans (hb.mono HBW.out.size)
  clear hv hva hvr hBlk hxo hb hbn
  go_enter Try.func3, Try.ntmps3
  go_wp2_with fail
  rw [← hW]
  clear hW
  refine (alive11_any W).mono ?_
  intro e w2 hal
  obtain ⟨rfl, b2⟩ := hal
  obtain ⟨c0, c1, c2, c3, c4⟩ := HC.out w2 b2
  have HB2 := Lib.hid b2
  clear b2
  go_wp2_with fail
  refine (HG.out w2 HB2.out).mono ?_
  rintro e w3 ⟨B, rfl, hgb, b3⟩
  have HB3 := Lib.hid (HB2.out.trans (b3.mono HB2.out.size))
  clear b3 c0 c1 c2 c3 c4
  cases B with
  | true =>
    go_wp2_with fail
    refine (alive11_any w3).mono ?_
    intro e w4 hal
    obtain ⟨rfl, b4⟩ := hal
    have HB4 := Lib.hid (HB3.out.trans (b4.mono HB3.out.size))
    clear b4
    go_wp2
    go_ret
    exact ⟨rfl, HEND.out _ HB4.out⟩
  | false =>
    obtain ⟨hs1, _⟩ := hgb.out rfl
    simp only [List.length_nil, Nat.zero_add] at hs1
    have han : an ≤ 300 := by rw [HAN.out]; omega
    have HLL : Hid (x.add.length ≤ 300 ∧ x.rem.length ≤ 300) := Lib.hid ⟨by omega, by omega⟩
    have HFIT := Lib.hid (fit_of HXO.out (by have := HLL.out; omega) (by have := HLL.out; omega))
    clear hs1 hgb HG
    by_cases hbig : 40000 < bn
    · have hd : decide (40000 < (bn : Int)) = true := by simp; omega
      go_wp2_with fail
      refine (alive11_any w3).mono ?_
      intro e w4 hal
      obtain ⟨rfl, b4⟩ := hal
      have HB4 := Lib.hid (HB3.out.trans (b4.mono HB3.out.size))
      clear b4
      go_wp2
      go_ret
      exact ⟨rfl, HEND.out _ HB4.out⟩
    have hbn3 : bn ≤ 40000 := by omega
    have hd : decide (40000 < (bn : Int)) = false := by simp; omega
    clear hbig
    have HBL : Hid (b.length ≤ 40000) := Lib.hid (by rw [← HBN.out]; exact hbn3)
    go_upto_region 5 with (fail)
    clear hd
    try show Code.wp _ _ _ _ _
    go_loopw [5, 6] (fun okv i wr => ∃ k : Nat, k ≤ an ∧ i = .int .i64 k ∧ (∃ B : Bool, okv = .bool B ∧ Hid (B = (x.add.take k).all mayF)) ∧ Below W.heap.size W wr) (fun _ i _ => an - (intOf i).toNat)
    case atStart => exact ⟨0, Nat.zero_le _, rfl, ⟨true, rfl, rfl⟩, HB3.out⟩
    case round =>
      obtain ⟨k, hk, rfl, ⟨B, rfl, HBB⟩, bel⟩ := hrel
      have HB := Lib.hid bel
      clear bel
      obtain ⟨c0, c1, c2, c3, c4⟩ := HC.out wr HB.out
      by_cases hlt : k < an
      · have hka : k < x.add.length := by rw [← HAN.out]; exact hlt
        obtain ⟨p, off, hsl, p0, p1, p2, p3⟩ := rdF_at (HV.out wr HB.out).2.2 k hka
        subst hsl
        have HAT := Lib.hid (all_take (l := x.add) k hka)
        obtain ⟨f, hf⟩ : ∃ f, f = x.add[k] := ⟨_, rfl⟩
        rw [← hf] at p0 p1 p2 p3 HAT
        clear hf c1 c2 c3 c4
        cases B with
        | false =>
          have HN : Hid (false = (x.add.take (k + 1)).all mayF) := Lib.hid (by rw [HAT.out, ← HBB.out]; rfl)
          clear p0 p1 p2 p3 HAT HBB
          go_wp2_with fail
          go_roundw
          case rel => exact ⟨k + 1, by omega, by go_num, ⟨false, rfl, HN⟩, HB.out⟩
          case measure => simp [intOf]; omega
        | true =>
          have HN : Hid (mayF f = (x.add.take (k + 1)).all mayF) := Lib.hid (by rw [HAT.out, ← HBB.out]; rfl)
          have HM := Lib.hid (lawMay_any wr f)
          obtain ⟨Bf, hBf⟩ : ∃ z, z = mayF f := ⟨_, rfl⟩
          rw [← hBf] at HN HM
          clear HAT HBB hBf
          go_wp2_with fail
          refine HM.out.mono ?_
          rintro e w5 ⟨rfl, b5⟩
          have HB5 := Lib.hid (HB.out.trans (b5.mono HB.out.size))
          clear b5 p0 p1 p2 p3 HM
          go_wp2_with fail
          go_roundw
          case rel => exact ⟨k + 1, by omega, by go_num, ⟨Bf, rfl, HN⟩, HB5.out⟩
          case measure => simp [intOf]; omega
      · rw [List.take_of_length_le (by rw [← HAN.out]; omega)] at HBB
        obtain ⟨wo, hwo⟩ := the_world HB.out
        subst hwo
        have HPX := Lib.hid (putX_any wo (.agg #[.slice aa an ac, .slice ra rn rc, .int .u32 x.jo, .int .u32 x.nx, .int .u64 x.sq]) x (HV.out wo HB.out).2.1 HFIT.out)
        go_wp2_with fail
        refine HPX.out.mono ?_
        rintro e w5 ⟨lc', q, ca, cn, cc, rfl, HQ, HCN, HCO, b5⟩
        have HB5 := Lib.hid (HB.out.trans (b5.mono HB.out.size))
        clear b5 HPX c0 c1 c2 c3 c4
        cases B with
        | false =>
          obtain ⟨rfl, hnil⟩ : q = 1 ∧ cn = 0 := by
            rcases HQ.out with ⟨h, _⟩ | ⟨_, h, h2⟩
            · rw [← HBB.out] at h; cases h
            · exact ⟨h, by rw [HCN.out, h2]; rfl⟩
          subst hnil
          clear HQ HCN HCO HBB
          have HGB := Lib.hid (getX_any w5 (.slice ba bn bc) b (HV.out _ HB5.out).1 (by have := HBL.out; omega))
          go_wp2_with fail
          refine HGB.out.mono ?_
          rintro e v1 ⟨y2, q2, za, zr, rfl, HGT, HZA, HZR, bv1⟩
          obtain ⟨zab, zan, zac, rfl⟩ := own_sl HZA.out
          obtain ⟨zrb, zrn, zrc, rfl⟩ := own_sl HZR.out
          have HBV1 := Lib.hid (HB5.out.trans (bv1.mono HB5.out.size))
          have HXZ := Lib.hid (RdX.of_own HZA.out HZR.out)
          clear bv1 HGB HZA HZR
          obtain ⟨V2, hV2⟩ : ∃ V, V = v1.alloc (.cells #[(.slice zab zan zac), (.slice zrb zrn zrc), .int .u32 y2.jo, .int .u32 y2.nx, .int .u64 y2.sq] 27) := ⟨_, rfl⟩
          have hVB2 : Below v1.heap.size v1 V2 := by rw [hV2]; exact alloc_bel _ _
          have HBV2 := Lib.hid (HBV1.out.trans (hVB2.mono HBV1.out.size))
          have HVB2 : Hid (Blk V2 v1.heap.size #[(.slice zab zan zac), (.slice zrb zrn zrc), .int .u32 y2.jo, .int .u32 y2.nx, .int .u64 y2.sq] 27) := Lib.hid (by rw [hV2]; exact Blk.new _ _ _)
          have HXZ2 := Lib.hid (HXZ.out.below hVB2)
          clear hVB2 HXZ HBV1
          rcases HGT.out.1 with ⟨rfl, hm2, hf2, hp2⟩ | ⟨rfl, hzero⟩
          · have HP2 := Lib.hid hp2
            have HM2 := Lib.hid hm2
            have HPX2 := Lib.hid (putX_any V2 (.agg #[(.slice zab zan zac), (.slice zrb zrn zrc), .int .u32 y2.jo, .int .u32 y2.nx, .int .u64 y2.sq]) y2 HXZ2.out hf2)
            clear hm2 hf2 hp2 HGT
            go_upto_region 19 with (fail)
            rw [← hV2]
            clear hV2
            have k0 : V2.cell? ⟨v1.heap.size, 0, none⟩ = some (.slice zab zan zac) := HVB2.out.cell 0
            have k1 : V2.cell? ⟨v1.heap.size, 1, none⟩ = some (.slice zrb zrn zrc) := HVB2.out.cell 1
            have k2 : V2.cell? ⟨v1.heap.size, 2, none⟩ = some (.int .u32 y2.jo) := HVB2.out.cell 2
            have k3 : V2.cell? ⟨v1.heap.size, 3, none⟩ = some (.int .u32 y2.nx) := HVB2.out.cell 3
            have k4 : V2.cell? ⟨v1.heap.size, 4, none⟩ = some (.int .u64 y2.sq) := HVB2.out.cell 4
            go_wp2_with fail
            refine HPX2.out.mono ?_
            rintro e v3 ⟨l3, q3, da, dn, dc, rfl, HQ3, HDN, HDO, bv3⟩
            obtain ⟨rfl, hl3⟩ : q3 = 0 ∧ l3 = b := by
              rcases HQ3.out with ⟨_, h, h2⟩ | ⟨h, _⟩
              · exact ⟨h, h2.trans HP2.out⟩
              · rw [HM2.out] at h; cases h
            subst hl3
            have HBV3 := Lib.hid (HBV2.out.trans (bv3.mono HBV2.out.size))
            have HSB := Lib.hid (same_bt v3 (.slice da dn dc) (.slice ba bn bc) _ (rd_of_own HDO.out).2 (HV.out _ HBV3.out).1)
            clear bv3 HPX2 k0 k1 k2 k3 k4 HQ3
            go_wp2_with fail
            refine HSB.out.mono ?_
            rintro e v4 ⟨rfl, bv4⟩
            have HBV4 := Lib.hid (HBV3.out.trans (bv4.mono HBV3.out.size))
            clear bv4
            go_wp2
            go_ret
            exact ⟨rfl, HEND.out _ HBV4.out⟩
          · subst hzero
            have HSX := Lib.hid (sameX_any V2 (.agg #[(.slice zab zan zac), (.slice zrb zrn zrc), .int .u32 0, .int .u32 0, .int .u64 0]) (.agg #[.slice none 0 0, .slice none 0 0, .int .u32 0, .int .u32 0, .int .u64 0]) PX.zero HXZ2.out ⟨_, _, rfl, RdF.nil _, RdU.nil _⟩)
            go_upto_region 18 with (fail)
            rw [← hV2]
            clear hV2
            have k0 : V2.cell? ⟨v1.heap.size, 0, none⟩ = some (.slice zab zan zac) := HVB2.out.cell 0
            have k1 : V2.cell? ⟨v1.heap.size, 1, none⟩ = some (.slice zrb zrn zrc) := HVB2.out.cell 1
            have k2 : V2.cell? ⟨v1.heap.size, 2, none⟩ = some (.int .u32 0) := HVB2.out.cell 2
            have k3 : V2.cell? ⟨v1.heap.size, 3, none⟩ = some (.int .u32 0) := HVB2.out.cell 3
            have k4 : V2.cell? ⟨v1.heap.size, 4, none⟩ = some (.int .u64 0) := HVB2.out.cell 4
            go_wp2_with fail
            refine HSX.out.mono ?_
            rintro e v3 ⟨rfl, bv3⟩
            have HBV3 := Lib.hid (HBV2.out.trans (bv3.mono HBV2.out.size))
            clear bv3
            go_wp2
            go_ret
            exact ⟨rfl, HEND.out _ HBV3.out⟩
        | true =>
          obtain ⟨rfl, hput⟩ : q = 0 ∧ lc' = ePut x := by
            rcases HQ.out with ⟨_, h, h2⟩ | ⟨h, _⟩
            · exact ⟨h, h2⟩
            · rw [← HBB.out] at h; cases h
          subst hput
          have HMAY : Hid (x.add.all mayF = true) := Lib.hid HBB.out.symm
          have HCL : Hid ((ePut x).length ≤ 40000) := Lib.hid (ePut_le HMAY.out HLL.out.1 HLL.out.2)
          have hc5 : 5 ≤ cn := by rw [HCN.out]; exact ePut_ge x
          have hc6 : cn ≤ 40000 := by rw [HCN.out]; exact HCL.out
          clear HQ HBB
          have HGX := Lib.hid (getX_any w5 (.slice ca cn cc) (ePut x) (rd_of_own HCO.out).2 (by have := HCL.out; omega))
          go_wp2_with fail
          refine HGX.out.mono ?_
          rintro e w6 ⟨y, q6, ya, yr, rfl, HG6, HYA, HYR, b6⟩
          obtain ⟨yab, yan, yac, rfl⟩ := own_sl HYA.out
          obtain ⟨yrb, yrn, yrc, rfl⟩ := own_sl HYR.out
          obtain ⟨rfl, hyx⟩ := getR_same HMAY.out HFIT.out HG6.out
          obtain rfl : x = y := hyx.symm
          have HB6 := Lib.hid (HB5.out.trans (b6.mono HB5.out.size))
          have HCO6 := Lib.hid (own_below HCO.out b6)
          have HXY6 := Lib.hid (RdX.of_own HYA.out HYR.out)
          clear b6 HGX HG6 HYA HYR HCO
          obtain ⟨V, hV⟩ : ∃ V, V = w6.alloc (.cells #[(.slice yab yan yac), (.slice yrb yrn yrc), .int .u32 x.jo, .int .u32 x.nx, .int .u64 x.sq] 27) := ⟨_, rfl⟩
          have hVB : Below w6.heap.size w6 V := by rw [hV]; exact alloc_bel _ _
          have HBV := Lib.hid (HB6.out.trans (hVB.mono HB6.out.size))
          have HVB : Hid (Blk V w6.heap.size #[(.slice yab yan yac), (.slice yrb yrn yrc), .int .u32 x.jo, .int .u32 x.nx, .int .u64 x.sq] 27) := Lib.hid (by rw [hV]; exact Blk.new _ _ _)
          have HCO7 := Lib.hid (own_below HCO6.out hVB)
          have HCLT : Hid (∀ q, (Value.slice ca cn cc).ownBlock = some q → q < V.heap.size) := Lib.hid fun q hq => (own_lt HCO7.out (by omega) q hq).2
          have HXYV : Hid (∀ w', Below V.heap.size V w' → RdX w' (.agg #[.slice yab yan yac, .slice yrb yrn yrc, .int .u32 x.jo, .int .u32 x.nx, .int .u64 x.sq]) x) := Lib.hid fun w' hb => (HXY6.out.below hVB).below hb
          clear hVB HCO6 HXY6
          go_upto_region 13 with (fail)
          rw [← hV]
          clear hV
          have HTW := Lib.hid (twinBytes_any (.slice ca cn cc) (ePut x) V (rd_of_own HCO7.out).2 (by have := HCL.out; omega))
          go_wp2_with fail
          refine HTW.out.mono ?_
          rintro e w8 ⟨vt, rfl, htw, b8⟩
          obtain ⟨tg, htv, _, htgb, htgl⟩ := id htw
          have HTGB : Hid (V.heap.size ≤ tg) := Lib.hid htgb
          have HV6L : Hid (w6.heap.size < V.heap.size) := Lib.hid HVB.out.lt
          clear htgb htgl
          have htv2 : vt = .slice (some ⟨tg, 0, none⟩) cn (cn + 1) := by rw [HCN.out]; exact htv
          subst htv2
          have HTO : Hid (Own w8 V.heap.size 5 1 (.slice (some ⟨tg, 0, none⟩) cn (cn + 1)) cn (u8s (ePut x))) := Lib.hid (by have := twin_ownE htw; rwa [← HCN.out] at this)
          have HB8 := Lib.hid (HBV.out.trans (b8.mono HBV.out.size))
          have HV8 := Lib.hid (HVB.out.below b8)
          have HCO8 := Lib.hid (own_below HCO7.out b8)
          have HSV8 : Hid (V.heap.size ≤ w8.heap.size) := Lib.hid b8.size
          have HVV8 := Lib.hid b8
          clear htv htw b8 HTW HCO7 HVB
          obtain ⟨i0, hi, hz, hz1, hz2⟩ := info_parts info_u8
          have hal := alloc_bel w8 (.cells #[.int .u8 0] 5)
          have HTO2 := Lib.hid (own_below HTO.out hal)
          have HR0 := Lib.hid (rd_reads (rd_one w8 0 0 rfl 5))
          have HBA := Lib.hid (HB8.out.trans (hal.mono HB8.out.size))
          have HVA2 := Lib.hid (HV8.out.below hal)
          have HCA2 := Lib.hid (own_below HCO8.out hal)
          have HSA : Hid (V.heap.size ≤ (w8.alloc (.cells #[.int .u8 0] 5)).heap.size) := Lib.hid (Nat.le_trans HSV8.out hal.size)
          clear hal HTO HV8 HCO8
          go_wp2_with (at_builtin; go_loud (refine wp_app_el2 rfl _ _ rfl Try.underlying28 hi hz hz1 hz2 rfl (by omega) V.heap.size cn 1 (.slice (some ⟨tg, 0, none⟩) cn (cn + 1)) _ (u8s (ePut x)) (u8s [0]) (u8s (ePut x ++ [0])) (cn + 1) rfl rfl HTO2.out HR0.out (one_u8s _) rfl (by rw [u8s_append]) (by omega) (by omega) HSA.out ?_); intro ua uc w9 HX9 HG9)
          clear HTO2 HR0 hi hz hz1 hz2
          have HB9 := Lib.hid (HBA.out.trans (HG9.out.below.mono HBV.out.size))
          have HV9 := Lib.hid (HVA2.out.grown HG9.out.rows (by
            have := HTGB.out
            have := HV6L.out
            simp only [Value.ownBlock, ne_eq, Option.some.injEq]
            omega))
          have HCO9 := Lib.hid (HG9.out.keep _ _ _ _ _ _ HCA2.out (fun q hq => ⟨Nat.lt_of_lt_of_le (HCLT.out q hq) HSA.out, by
            have := HTGB.out
            have := HCLT.out q hq
            simp only [Value.ownBlock, ne_eq, Option.some.injEq]
            omega⟩))
          have HXY9 : Hid (RdX w9 (.agg #[.slice yab yan yac, .slice yrb yrn yrc, .int .u32 x.jo, .int .u32 x.nx, .int .u64 x.sq]) x) := Lib.hid (HXYV.out w9 (HVV8.out.trans ((alloc_bel w8 _).mono HSV8.out |>.trans HG9.out.below)))
          have HG2 := Lib.hid (getX_any w9 (.slice ua (cn + 1) uc) (ePut x ++ [0]) (rd_of_own HX9.out).2 (by have := HCL.out; rw [List.length_append, List.length_singleton]; omega))
          clear HX9 HG9 HTGB HV6L HCLT HXYV HVV8 HSV8 HSA HVA2 HCA2
          refine HG2.out.mono ?_
          rintro e w10 ⟨y3, q10, ta, tr, rfl, HG10, HTA, HTR, b10⟩
          obtain ⟨tab, tan, tac, rfl⟩ := own_sl HTA.out
          obtain ⟨trb, trn, trc, rfl⟩ := own_sl HTR.out
          obtain rfl := getR_more HMAY.out HFIT.out HG10.out
          have HB10 := Lib.hid (HB9.out.trans (b10.mono HB9.out.size))
          have HV10 := Lib.hid (HV9.out.below b10)
          have HXY10 := Lib.hid (HXY9.out.below b10)
          clear b10 HG2 HG10 HTA HTR HV9 HXY9 HCO9
          obtain ⟨V3, hV3⟩ : ∃ V, V = w10.alloc (.cells #[.slice tab tan tac, .slice trb trn trc, .int .u32 y3.jo, .int .u32 y3.nx, .int .u64 y3.sq] 27) := ⟨_, rfl⟩
          have hVB3 : Below w10.heap.size w10 V3 := by rw [hV3]; exact alloc_bel _ _
          have HB11 := Lib.hid (HB10.out.trans (hVB3.mono HB10.out.size))
          have HV11 := Lib.hid (HV10.out.below hVB3)
          have HXY11 := Lib.hid (HXY10.out.below hVB3)
          clear hVB3 HV10 HXY10
          go_upto_region 14 with (fail)
          rw [← hV3]
          clear hV3
          obtain ⟨c0, c1, c2, c3, c4⟩ := HC.out V3 HB11.out
          have k0 : V3.cell? ⟨w6.heap.size, 0, none⟩ = some (.slice yab yan yac) := HV11.out.cell 0
          have k1 : V3.cell? ⟨w6.heap.size, 1, none⟩ = some (.slice yrb yrn yrc) := HV11.out.cell 1
          have k2 : V3.cell? ⟨w6.heap.size, 2, none⟩ = some (.int .u32 x.jo) := HV11.out.cell 2
          have k3 : V3.cell? ⟨w6.heap.size, 3, none⟩ = some (.int .u32 x.nx) := HV11.out.cell 3
          have k4 : V3.cell? ⟨w6.heap.size, 4, none⟩ = some (.int .u64 x.sq) := HV11.out.cell 4
          have HSX := Lib.hid (sameX_any V3 (.agg #[.slice yab yan yac, .slice yrb yrn yrc, .int .u32 x.jo, .int .u32 x.nx, .int .u64 x.sq]) (.agg #[.slice aa an ac, .slice ra rn rc, .int .u32 x.jo, .int .u32 x.nx, .int .u64 x.sq]) x HXY11.out (HV.out V3 HB11.out).2.1)
          go_wp2_with fail
          refine HSX.out.mono ?_
          rintro e w12 ⟨rfl, b12⟩
          have HB12 := Lib.hid (HB11.out.trans (b12.mono HB11.out.size))
          clear b12 HSX HV11 HXY11 c0 c1 c2 c3 c4 k0 k1 k2 k3 k4
          obtain ⟨cnn, hcnn⟩ : ∃ z, z = cn := ⟨_, rfl⟩
          have hcd : decide ((cn : Int) < 5) = false := by simp; omega
          have HGB := Lib.hid (getX_any w12 (.slice ba bn bc) b (HV.out _ HB12.out).1 (by have := HBL.out; omega))
          go_wp2_with fail
          refine HGB.out.mono ?_
          rintro e v1 ⟨y2, q2, za, zr, rfl, HGT, HZA, HZR, bv1⟩
          obtain ⟨zab, zan, zac, rfl⟩ := own_sl HZA.out
          obtain ⟨zrb, zrn, zrc, rfl⟩ := own_sl HZR.out
          have HBV1 := Lib.hid (HB12.out.trans (bv1.mono HB12.out.size))
          have HXZ := Lib.hid (RdX.of_own HZA.out HZR.out)
          clear bv1 HGB HZA HZR
          obtain ⟨V2, hV2⟩ : ∃ V, V = v1.alloc (.cells #[(.slice zab zan zac), (.slice zrb zrn zrc), .int .u32 y2.jo, .int .u32 y2.nx, .int .u64 y2.sq] 27) := ⟨_, rfl⟩
          have hVB2 : Below v1.heap.size v1 V2 := by rw [hV2]; exact alloc_bel _ _
          have HBV2 := Lib.hid (HBV1.out.trans (hVB2.mono HBV1.out.size))
          have HVB2 : Hid (Blk V2 v1.heap.size #[(.slice zab zan zac), (.slice zrb zrn zrc), .int .u32 y2.jo, .int .u32 y2.nx, .int .u64 y2.sq] 27) := Lib.hid (by rw [hV2]; exact Blk.new _ _ _)
          have HXZ2 := Lib.hid (HXZ.out.below hVB2)
          clear hVB2 HXZ HBV1
          rcases HGT.out.1 with ⟨rfl, hm2, hf2, hp2⟩ | ⟨rfl, hzero⟩
          · have HP2 := Lib.hid hp2
            have HM2 := Lib.hid hm2
            have HPX2 := Lib.hid (putX_any V2 (.agg #[(.slice zab zan zac), (.slice zrb zrn zrc), .int .u32 y2.jo, .int .u32 y2.nx, .int .u64 y2.sq]) y2 HXZ2.out hf2)
            clear hm2 hf2 hp2 HGT
            go_upto_region 19 with (fail)
            rw [← hV2]
            clear hV2
            have k0 : V2.cell? ⟨v1.heap.size, 0, none⟩ = some (.slice zab zan zac) := HVB2.out.cell 0
            have k1 : V2.cell? ⟨v1.heap.size, 1, none⟩ = some (.slice zrb zrn zrc) := HVB2.out.cell 1
            have k2 : V2.cell? ⟨v1.heap.size, 2, none⟩ = some (.int .u32 y2.jo) := HVB2.out.cell 2
            have k3 : V2.cell? ⟨v1.heap.size, 3, none⟩ = some (.int .u32 y2.nx) := HVB2.out.cell 3
            have k4 : V2.cell? ⟨v1.heap.size, 4, none⟩ = some (.int .u64 y2.sq) := HVB2.out.cell 4
            go_wp2_with fail
            refine HPX2.out.mono ?_
            rintro e v3 ⟨l3, q3, da, dn, dc, rfl, HQ3, HDN, HDO, bv3⟩
            obtain ⟨rfl, hl3⟩ : q3 = 0 ∧ l3 = b := by
              rcases HQ3.out with ⟨_, h, h2⟩ | ⟨h, _⟩
              · exact ⟨h, h2.trans HP2.out⟩
              · rw [HM2.out] at h; cases h
            subst hl3
            have HBV3 := Lib.hid (HBV2.out.trans (bv3.mono HBV2.out.size))
            have HSB := Lib.hid (same_bt v3 (.slice da dn dc) (.slice ba bn bc) _ (rd_of_own HDO.out).2 (HV.out _ HBV3.out).1)
            clear bv3 HPX2 k0 k1 k2 k3 k4 HQ3
            go_wp2_with fail
            refine HSB.out.mono ?_
            rintro e v4 ⟨rfl, bv4⟩
            have HBV4 := Lib.hid (HBV3.out.trans (bv4.mono HBV3.out.size))
            clear bv4
            go_wp2
            go_ret
            exact ⟨rfl, HEND.out _ HBV4.out⟩
          · subst hzero
            have HSX := Lib.hid (sameX_any V2 (.agg #[(.slice zab zan zac), (.slice zrb zrn zrc), .int .u32 0, .int .u32 0, .int .u64 0]) (.agg #[.slice none 0 0, .slice none 0 0, .int .u32 0, .int .u32 0, .int .u64 0]) PX.zero HXZ2.out ⟨_, _, rfl, RdF.nil _, RdU.nil _⟩)
            go_upto_region 18 with (fail)
            rw [← hV2]
            clear hV2
            have k0 : V2.cell? ⟨v1.heap.size, 0, none⟩ = some (.slice zab zan zac) := HVB2.out.cell 0
            have k1 : V2.cell? ⟨v1.heap.size, 1, none⟩ = some (.slice zrb zrn zrc) := HVB2.out.cell 1
            have k2 : V2.cell? ⟨v1.heap.size, 2, none⟩ = some (.int .u32 0) := HVB2.out.cell 2
            have k3 : V2.cell? ⟨v1.heap.size, 3, none⟩ = some (.int .u32 0) := HVB2.out.cell 3
            have k4 : V2.cell? ⟨v1.heap.size, 4, none⟩ = some (.int .u64 0) := HVB2.out.cell 4
            go_wp2_with fail
            refine HSX.out.mono ?_
            rintro e v3 ⟨rfl, bv3⟩
            have HBV3 := Lib.hid (HBV2.out.trans (bv3.mono HBV2.out.size))
            clear bv3
            go_wp2
            go_ret
            exact ⟨rfl, HEND.out _ HBV3.out⟩
end Go.Proofs.Ytmonmfamnbfhcaa

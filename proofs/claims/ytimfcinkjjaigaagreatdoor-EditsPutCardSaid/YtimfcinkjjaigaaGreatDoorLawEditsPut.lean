/- The law EditsPut answers true for any edit and any bytes. The condition: as many files, numbers and bytes as the machine bears. -/
import Derived.Test.YtimfcinkjjaigaaGreatDoorKdAll
import Derived.Test.YtimfcinkjjaigaaGreatDoorKdByte
import Derived.Test.YtimfcinkjjaigaaGreatDoorKdEdit
import Derived.Test.YtimfcinkjjaigaaGreatDoorKindA
import Derived.Test.YtimfcinkjjaigaaGreatDoorTwEdit
import Derived.Test.YtimfcinkjjaigaaGreatDoorRqA
import Derived.Test.YtimfcinkjjaigaaGreatDoorFl3
import Derived.Test.YtimfcinkjjaigaaGreatDoorHeld
namespace Go.Proofs.YtimfcinkjjaigaaGreatDoor
open Go.RowKit
theorem rdF_sl {w : World} {v : Value} {l : List PF} (h : RdF w v l) : ∃ a n c, v = .slice a n c ∧ Hid (n = l.length) ∧ n ≤ c ∧ c ≤ 9223372036854775807 := by
  obtain ⟨a, c, h1, h2, h3, _⟩ := h
  exact ⟨a, _, c, h1, rfl, h2, h3⟩
theorem rdU_sl {w : World} {v : Value} {l : List Nat} (h : RdU w v l) : ∃ a n c, v = .slice a n c ∧ Hid (n = l.length) ∧ n ≤ c ∧ c ≤ 9223372036854775807 := by
  obtain ⟨a, c, h1, h2, h3, _⟩ := h
  exact ⟨a, _, c, h1, rfl, h2, h3⟩
theorem fit_ofE {x : PX} (h : x.ok) (ha : x.add.length ≤ 100000) (hr : x.rem.length ≤ 100000) : x.fit := ⟨ha, hr, fun f hf => (h.1.2 f hf).1, h.2.1.2, h.2.2.1, h.2.2.2.1, h.2.2.2.2⟩
theorem twG_ofE {w : World} {base : Nat} {v : Value} {l : List UInt8} (h : Twin w base v l) : ∃ g, v = .slice (some ⟨g, 0, none⟩) l.length (l.length + 1) ∧ base ≤ g ∧ g < w.heap.size := by
  obtain ⟨g, e, _, h1, h2⟩ := h
  exact ⟨g, e, h1, (Array.getElem?_eq_some_iff.1 h2).1⟩
theorem inR_own {w : World} {base n sz : Nat} {e : TypeId} {v : Value} {xs : List Value} (h : Own w base e sz v n xs) (hn : NoRoom v n) : InR v base w.heap.size := by
  by_cases h0 : n = 0
  · obtain ⟨k, c, rfl⟩ := hn h0
    exact inR_nil _ _ _ _
  · exact own_lt h (by omega)
theorem getR_one {b : List UInt8} {x y : PX} {q r : Nat} (h : GetR b x q) (h2 : GetR b y r) : x = y ∧ q = r := by
  obtain ⟨h1, h3⟩ := h
  obtain ⟨g1, g3⟩ := h2
  rcases h1 with ⟨rfl, a1, a2, a3⟩ | ⟨rfl, rfl⟩
  · obtain ⟨rfl, e⟩ := g3 x a1 a2 a3
    exact ⟨e.symm, rfl⟩
  · rcases g1 with ⟨rfl, a1, a2, a3⟩ | ⟨rfl, rfl⟩
    · obtain ⟨e, _⟩ := h3 y a1 a2 a3
      cases e
    · exact ⟨rfl, rfl⟩
theorem ePut_small {x : PX} (h : x.add.all mayF = true) (h1 : x.add.length ≤ 300) (h2 : x.rem.length ≤ 300) : (ePut x).length ≤ 1000000000 := by
  have a1 := flatMap_le fput 104 x.add (fun f hf => fput_le (List.all_eq_true.1 h f hf))
  have a2 := flatMap_le vint 10 x.rem (fun f _ => vint_le f)
  have b1 := vint_le x.add.length
  have b2 := vint_le x.rem.length
  have b3 := vint_le x.jo
  have b4 := vint_le x.nx
  have b5 := vint_le x.sq
  unfold ePut manyP
  simp only [List.length_append]
  omega
/-- both ways of a Put in one -/
def RetPutXU (L : List UInt8) (q : Nat) (w : World) (e : Ending) (w' : World) : Prop :=
  ∃ a n c, e = .returned (.tuple #[.slice a n c, .int .i64 q]) ∧ Hid (n = L.length) ∧ Hid (Own w' w.heap.size 5 1 (.slice a n c) n (u8s L)) ∧ Hid (InR (.slice a n c) w.heap.size w'.heap.size) ∧ Below w.heap.size w w'
theorem putX_uni (x : PX) : ∃ (L : List UInt8) (q : Nat), (x.add.all mayF = true → L = ePut x) ∧ (x.add.all mayF = false → L = []) ∧ ∀ w e w', RetPutX x w e w' → RetPutXU L q w e w' := by
  cases hm : x.add.all mayF
  · refine ⟨[], 1, (fun h => by cases h), (fun _ => rfl), ?_⟩
    rintro w e w' ⟨l, q, a, n, c, rfl, hq, hn, ho, hb, h0⟩
    rcases hq.out with ⟨h, _⟩ | ⟨_, rfl, rfl⟩
    · rw [hm] at h; cases h
    · exact ⟨a, n, c, rfl, hn, ho, Lib.hid (by rw [h0.out hn.out]; exact inR_nil _ _ _ _), hb⟩
  · refine ⟨ePut x, 0, fun _ => rfl, fun h => (by cases h), ?_⟩
    rintro w e w' ⟨l, q, a, n, c, rfl, hq, hn, ho, hb, h0⟩
    rcases hq.out with ⟨_, rfl, rfl⟩ | ⟨h, _⟩
    · exact ⟨a, n, c, rfl, hn, ho, own_lt ho.out (by rw [hn.out]; have := ePut_ge x; omega), hb⟩
    · rw [hm] at h; cases h
set_option maxRecDepth 100000 in
set_option maxHeartbeats 8000000 in
theorem editsPut_walk (w : World) (vx : Value) (x : PX) (v : Value) (b : List UInt8) (hx : RdX w vx x) (hxo : x.ok) (hv : Rd w v b) (hb : b.length ≤ 140737488351232) :
    Calls Tryz.prog 6 #[vx, v] w fun e w' => e = .returned (.bool true) ∧ Below w.heap.size w w' := by
  obtain ⟨va, vr, rfl, hva, hvr⟩ := hx
  obtain ⟨ba, bn, bc, rfl, hbn⟩ := rd_len hv
  obtain ⟨aa, an, ac, rfl, HAN, -, -⟩ := rdF_sl hva
  obtain ⟨ra, rn, rc, rfl, HRN, -, -⟩ := rdU_sl hvr
  obtain ⟨W, hW⟩ : ∃ W, W = w.alloc (.cells #[.slice aa an ac, .slice ra rn rc, .int .u32 x.jo, .int .u32 x.nx, .int .u64 x.sq] 27) := ⟨_, rfl⟩
  obtain ⟨gx, hgx⟩ : ∃ g, g = w.heap.size := ⟨_, rfl⟩
  have HBW : Hid (Blk W gx #[.slice aa an ac, .slice ra rn rc, .int .u32 x.jo, .int .u32 x.nx, .int .u64 x.sq] 27) := Lib.hid (by rw [hW, hgx]; exact Blk.new _ _ _)
  have HCX : Hid (∀ w', Below W.heap.size W w' → w'.cell? ⟨gx, 0, none⟩ = some (.slice aa an ac) ∧ w'.cell? ⟨gx, 1, none⟩ = some (.slice ra rn rc) ∧ w'.cell? ⟨gx, 2, none⟩ = some (.int .u32 x.jo) ∧ w'.cell? ⟨gx, 3, none⟩ = some (.int .u32 x.nx) ∧ w'.cell? ⟨gx, 4, none⟩ = some (.int .u64 x.sq)) := Lib.hid fun w' hb => have q := HBW.out.below hb; ⟨q.cellv 0 _ rfl, q.cellv 1 _ rfl, q.cellv 2 _ rfl, q.cellv 3 _ rfl, q.cellv 4 _ rfl⟩
  have HBW : Hid (Below w.heap.size w W) := Lib.hid (by rw [hW]; exact alloc_bel _ _)
  have HV : Hid (∀ w', Below W.heap.size W w' → Rd w' (.slice ba bn bc) b ∧ RdX w' (.agg #[.slice aa an ac, .slice ra rn rc, .int .u32 x.jo, .int .u32 x.nx, .int .u64 x.sq]) x) := Lib.hid fun w' hb => ⟨(hv.below HBW.out).below hb, ⟨_, _, rfl, (hva.below HBW.out).below hb, (hvr.below HBW.out).below hb⟩⟩
  have HG : Hid (∀ w', Below W.heap.size W w' → Calls Tryz.prog 8 #[.slice none 0 0, (.agg #[.slice aa an ac, .slice ra rn rc, .int .u32 x.jo, .int .u32 x.nx, .int .u64 x.sq])] w' fun e w'' => ∃ b, e = .returned (.bool b) ∧ Hid (b = false → ([] : List PF).length + x.add.length + x.rem.length ≤ 300 ∧ filesLen [] + filesLen x.add ≤ 20000) ∧ Below w'.heap.size w' w'') := Lib.hid fun w' hb => great_any w' _ _ [] x (RdF.nil _) (HV.out w' hb).2 ⟨by simp, fun f hf => by cases hf⟩ hxo
  have HXO := Lib.hid hxo
  have HBN := Lib.hid hbn
  have hbn2 : bn ≤ 140737488351232 := by rw [hbn]; exact hb
  have HEND : Hid (∀ w', Below W.heap.size W w' → Below w.heap.size w w') := Lib.hid fun w' hb => HBW.out.trans (hb.mono HBW.out.size)
  have HSW : Hid (w.heap.size ≤ W.heap.size) := HBW.out.size
  clear hv hva hvr hxo hb hbn HBW
  go_enter Tryz.func6, Tryz.ntmps6
  go_upto_region 1 with (fail)
  rw [← hW, ← hgx]
  clear hW hgx
  obtain ⟨c0, c1, c2, c3, c4⟩ := HCX.out W (Below.refl _ _)
  go_wp2_with fail
  refine (HG.out W (Below.refl _ _)).mono ?_
  rintro e w2 ⟨B, rfl, hgb, b2⟩
  have HD2 := Lib.hid b2
  clear b2 c0 c1 c2 c3 c4
  cases B with
  | true =>
    go_wp2
    go_ret
    exact ⟨rfl, HEND.out _ HD2.out⟩
  | false =>
    obtain ⟨hs1, -⟩ := hgb.out rfl
    simp only [List.length_nil, Nat.zero_add] at hs1
    have han : an ≤ 300 := by rw [HAN.out]; omega
    have hrn : rn ≤ 300 := by rw [HRN.out]; omega
    have HFIT := Lib.hid (fit_ofE HXO.out (by rw [← HAN.out]; omega) (by rw [← HRN.out]; omega))
    clear hs1 hgb HG
    by_cases hbig : 40000 < bn
    · have hd : decide (40000 < (bn : Int)) = true := by simp; omega
      go_wp2_with fail
      go_ret
      exact ⟨rfl, HEND.out _ HD2.out⟩
    have hbn3 : bn ≤ 40000 := by omega
    have hd : decide (40000 < (bn : Int)) = false := by simp; omega
    clear hbig
    obtain ⟨c0, c1, c2, c3, c4⟩ := HCX.out w2 HD2.out
    have HT := Lib.hid (twEdit_any w2 (.agg #[.slice aa an ac, .slice ra rn rc, .int .u32 x.jo, .int .u32 x.nx, .int .u64 x.sq]) x (HV.out w2 HD2.out).2 (by rw [← HAN.out]; omega) (by rw [← HRN.out]; omega))
    go_wp2_with fail
    refine HT.out.mono ?_
    rintro e w3 ⟨tf, tu, n1, m1, rfl, HN1, HM1, HTF, HTU, HNE, b3⟩
    obtain rfl : n1 = an := HN1.out.trans HAN.out.symm
    obtain rfl : m1 = rn := HM1.out.trans HRN.out.symm
    have HS23 : Hid (W.heap.size ≤ w2.heap.size ∧ w2.heap.size ≤ w3.heap.size) := Lib.hid ⟨HD2.out.size, b3.size⟩
    have HD3 := Lib.hid (HD2.out.trans (b3.mono HD2.out.size))
    have HR0 : Hid (InR (.slice (some ⟨tf, 0, none⟩) n1 (n1 + 1)) w2.heap.size w3.heap.size) := Lib.hid (inR_some _ _ _ HTF.out.1 HTF.out.2.1)
    have HR1 : Hid (InR (.slice (some ⟨tu, 0, none⟩) m1 (m1 + 1)) w2.heap.size w3.heap.size) := Lib.hid (inR_some _ _ _ HTU.out.1 HTU.out.2.1)
    obtain ⟨W3, hW3⟩ : ∃ W, W = w3.alloc (.cells #[.slice (some ⟨tf, 0, none⟩) n1 (n1 + 1), .slice (some ⟨tu, 0, none⟩) m1 (m1 + 1), .int .u32 x.jo, .int .u32 x.nx, .int .u64 x.sq] 27) := ⟨_, rfl⟩
    obtain ⟨gt, hgt⟩ : ∃ g, g = w3.heap.size := ⟨_, rfl⟩
    have HBW3 : Hid (Blk W3 gt #[.slice (some ⟨tf, 0, none⟩) n1 (n1 + 1), .slice (some ⟨tu, 0, none⟩) m1 (m1 + 1), .int .u32 x.jo, .int .u32 x.nx, .int .u64 x.sq] 27) := Lib.hid (by rw [hW3, hgt]; exact Blk.new _ _ _)
    have HCT : Hid (∀ w', Below W3.heap.size W3 w' → w'.cell? ⟨gt, 0, none⟩ = some (.slice (some ⟨tf, 0, none⟩) n1 (n1 + 1)) ∧ w'.cell? ⟨gt, 1, none⟩ = some (.slice (some ⟨tu, 0, none⟩) m1 (m1 + 1)) ∧ w'.cell? ⟨gt, 2, none⟩ = some (.int .u32 x.jo) ∧ w'.cell? ⟨gt, 3, none⟩ = some (.int .u32 x.nx) ∧ w'.cell? ⟨gt, 4, none⟩ = some (.int .u64 x.sq)) := Lib.hid fun w' hb => have q := HBW3.out.below hb; ⟨q.cellv 0 _ rfl, q.cellv 1 _ rfl, q.cellv 2 _ rfl, q.cellv 3 _ rfl, q.cellv 4 _ rfl⟩
    have hb3 : Below w3.heap.size w3 W3 := by rw [hW3]; exact alloc_bel _ _
    have HS34 : Hid (w3.heap.size ≤ W3.heap.size) := Lib.hid hb3.size
    have HDW3 := Lib.hid (HD3.out.trans (hb3.mono HD3.out.size))
    have HTF3 := Lib.hid (HTF.out.below hb3)
    have HTU3 := Lib.hid (HTU.out.below hb3)
    have HTW := Lib.hid (twinBytes_any _ b W3 (HV.out W3 HDW3.out).1 (by rw [← HBN.out]; omega))
    clear b3 HT HD2 HTF HTU c0 c1 c2 c3 c4 hb3 HN1 HM1 HD3
    go_upto_region 4 with (fail)
    rw [← hW3, ← hgt]
    clear hW3 hgt
    go_wp2_with fail
    refine HTW.out.mono ?_
    rintro e w4 ⟨tv, rfl, htw, b4⟩
    obtain ⟨tg, rfl, hg1, hg2⟩ := twG_ofE htw
    rw [HBN.out.symm] at htw ⊢
    have HTW4 := Lib.hid htw
    have HR2 : Hid (InR (.slice (some ⟨tg, 0, none⟩) bn (bn + 1)) W3.heap.size w4.heap.size) := Lib.hid (inR_some _ _ _ hg1 hg2)
    have HE4 := Lib.hid b4
    have HD4 := Lib.hid (HDW3.out.trans (b4.mono HDW3.out.size))
    have HTF4 := Lib.hid (HTF3.out.below b4)
    have HTU4 := Lib.hid (HTU3.out.below b4)
    clear b4 HTW htw hg1 hg2 HTF3 HTU3 HDW3
    obtain ⟨L, q, hL1, hL2, hput⟩ := putX_uni x
    have HLS : Hid (L.length ≤ 1000000000) := Lib.hid (by
      cases hm : x.add.all mayF
      · rw [hL2 hm]; simp
      · rw [hL1 hm]; exact ePut_small hm (by rw [← HAN.out]; exact han) (by rw [← HRN.out]; exact hrn))
    clear hL1 hL2
    have HPU := Lib.hid fun (w' : World) (vx : Value) (h : RdX w' vx x) => (putX_any w' vx x h HFIT.out).mono fun _ _ h => hput _ _ _ h
    have HPV := Lib.hid fun (w' : World) (vx : Value) (h : RdX w' vx x) => (refPutX_any w' vx x h HFIT.out).mono fun _ _ h => hput _ _ _ h
    clear hput
    have HP1 := Lib.hid (HPU.out w4 (.agg #[.slice (some ⟨tf, 0, none⟩) n1 (n1 + 1), .slice (some ⟨tu, 0, none⟩) m1 (m1 + 1), .int .u32 x.jo, .int .u32 x.nx, .int .u64 x.sq]) ⟨_, _, rfl, (rdF_of (reads_of_own HTF4.out.own)).2, (rdU_of (reads_of_own HTU4.out.own)).2⟩)
    obtain ⟨c0, c1, c2, c3, c4⟩ := HCT.out w4 HE4.out
    go_wp2_with fail
    refine HP1.out.mono ?_
    rintro e w5 ⟨pa, pn, pc, rfl, HPN, HPO, HR3, b5⟩
    have HS45 : Hid (W3.heap.size ≤ w4.heap.size ∧ w4.heap.size ≤ w5.heap.size) := Lib.hid ⟨HE4.out.size, b5.size⟩
    have HE5 := Lib.hid (HE4.out.trans (b5.mono HE4.out.size))
    have HD5 := Lib.hid (HD4.out.trans (b5.mono HD4.out.size))
    have HTF5 := Lib.hid (HTF4.out.below b5)
    have HTU5 := Lib.hid (HTU4.out.below b5)
    have HTW5 := Lib.hid (twin_below HTW4.out b5)
    clear b5 HP1 c0 c1 c2 c3 c4 HTF4 HTU4 HTW4 HD4 HE4 HPU
    have HP1 := Lib.hid (getX_any w5 _ b (twin_rd HTW5.out) (by rw [← HBN.out]; omega))
    go_wp2_with fail
    refine HP1.out.mono ?_
    rintro e w6 ⟨y, qy, va, vr, rfl, HGY, HYA, HYR, b6, hna, hnr, hav⟩
    obtain ⟨ya, yan, yac, rfl, HYAN, -, -⟩ := rdF_sl (rdF_of (reads_of_own HYA.out)).2
    obtain ⟨yr, yrn, yrc, rfl, HYRN, -, -⟩ := rdU_sl (rdU_of (reads_of_own HYR.out)).2
    have HR4 : Hid (InR (.slice ya yan yac) w5.heap.size w6.heap.size) := Lib.hid (inR_own HYA.out hna.out)
    have HR5 : Hid (InR (.slice yr yrn yrc) w5.heap.size w6.heap.size) := Lib.hid (inR_own HYR.out hnr.out)
    have A4_5 : Hid (Ap (.slice ya yan yac) (.slice yr yrn yrc)) := Lib.hid (fun k e => hav.out k e)
    have A0_1 : Hid (Ap (.slice (some ⟨tf, 0, none⟩) n1 (n1 + 1)) (.slice (some ⟨tu, 0, none⟩) m1 (m1 + 1))) := Lib.hid (fun k e e2 => by simp only [Value.ownBlock, Option.some.injEq] at e e2; have := HNE.out; omega)
    rw [← HYAN.out] at HYA
    rw [← HYRN.out] at HYR
    have HS56 : Hid (w5.heap.size ≤ w6.heap.size) := Lib.hid b6.size
    have HD6 := Lib.hid (HD5.out.trans (b6.mono HD5.out.size))
    have HE6 := Lib.hid (HE5.out.trans (b6.mono HE5.out.size))
    have HTF6 := Lib.hid (HTF5.out.below b6)
    have HTU6 := Lib.hid (HTU5.out.below b6)
    have HTW6 := Lib.hid (twin_below HTW5.out b6)
    have HPO6 := Lib.hid (own_below HPO.out b6)
    obtain ⟨W6, hW6⟩ : ∃ W, W = w6.alloc (.cells #[.slice ya yan yac, .slice yr yrn yrc, .int .u32 y.jo, .int .u32 y.nx, .int .u64 y.sq] 27) := ⟨_, rfl⟩
    obtain ⟨gy, hgy⟩ : ∃ g, g = w6.heap.size := ⟨_, rfl⟩
    have HBW6 : Hid (Blk W6 gy #[.slice ya yan yac, .slice yr yrn yrc, .int .u32 y.jo, .int .u32 y.nx, .int .u64 y.sq] 27) := Lib.hid (by rw [hW6, hgy]; exact Blk.new _ _ _)
    have HCY : Hid (∀ w', Below W6.heap.size W6 w' → w'.cell? ⟨gy, 0, none⟩ = some (.slice ya yan yac) ∧ w'.cell? ⟨gy, 1, none⟩ = some (.slice yr yrn yrc) ∧ w'.cell? ⟨gy, 2, none⟩ = some (.int .u32 y.jo) ∧ w'.cell? ⟨gy, 3, none⟩ = some (.int .u32 y.nx) ∧ w'.cell? ⟨gy, 4, none⟩ = some (.int .u64 y.sq)) := Lib.hid fun w' hb => have q := HBW6.out.below hb; ⟨q.cellv 0 _ rfl, q.cellv 1 _ rfl, q.cellv 2 _ rfl, q.cellv 3 _ rfl, q.cellv 4 _ rfl⟩
    have HBB6 : Hid (Below w6.heap.size w6 W6) := Lib.hid (by rw [hW6]; exact alloc_bel _ _)
    clear b6 HP1 hna hnr hav HNE HD5 HE5 HTF5 HTU5 HTW5 HPO
    obtain ⟨c0, c1, c2, c3, c4⟩ := HCX.out W6 (HD6.out.trans (HBB6.out.mono HD6.out.size))
    have HP1 := Lib.hid (HPV.out W6 (.agg #[.slice aa n1 ac, .slice ra m1 rc, .int .u32 x.jo, .int .u32 x.nx, .int .u64 x.sq]) (HV.out W6 (HD6.out.trans (HBB6.out.mono HD6.out.size))).2)
    go_upto_region 7 with (fail)
    rw [← hW6, ← hgy]
    clear hW6 hgy
    go_wp2_with fail
    refine HP1.out.mono ?_
    rintro e w7 ⟨wa, wn, wc', rfl, -, HWO, -, b7⟩
    have HF7 := Lib.hid b7
    have HK7 := Lib.hid (HBB6.out.trans (b7.mono HBB6.out.size))
    clear b7 HP1 c0 c1 c2 c3 c4 HBB6 HPV
    have HP1 := Lib.hid (refGetX_any w7 _ b (HV.out w7 (HD6.out.trans (HK7.out.mono HD6.out.size))).1 (by rw [← HBN.out]; omega))
    go_wp2_with fail
    refine HP1.out.mono ?_
    rintro e w8 ⟨y2, qy2, va, vr, rfl, HGY2, HEA, HER, b8, -, -, -⟩
    obtain ⟨rfl, rfl⟩ := getR_one HGY.out HGY2.out
    obtain ⟨ea, ean, eac, rfl, HEAN, -, -⟩ := rdF_sl (rdF_of (reads_of_own HEA.out)).2
    obtain ⟨er, ern, erc, rfl, HERN, -, -⟩ := rdU_sl (rdU_of (reads_of_own HER.out)).2
    have HF8 := Lib.hid (HF7.out.trans (b8.mono HF7.out.size))
    have HK8 := Lib.hid (HK7.out.trans (b8.mono HK7.out.size))
    have HWO8 := Lib.hid (own_below HWO.out b8)
    obtain ⟨W8, hW8⟩ : ∃ W, W = w8.alloc (.cells #[.slice ea ean eac, .slice er ern erc, .int .u32 y.jo, .int .u32 y.nx, .int .u64 y.sq] 27) := ⟨_, rfl⟩
    obtain ⟨ge, hge⟩ : ∃ g, g = w8.heap.size := ⟨_, rfl⟩
    have HBW8 : Hid (Blk W8 ge #[.slice ea ean eac, .slice er ern erc, .int .u32 y.jo, .int .u32 y.nx, .int .u64 y.sq] 27) := Lib.hid (by rw [hW8, hge]; exact Blk.new _ _ _)
    have HCE : Hid (∀ w', Below W8.heap.size W8 w' → w'.cell? ⟨ge, 0, none⟩ = some (.slice ea ean eac) ∧ w'.cell? ⟨ge, 1, none⟩ = some (.slice er ern erc) ∧ w'.cell? ⟨ge, 2, none⟩ = some (.int .u32 y.jo) ∧ w'.cell? ⟨ge, 3, none⟩ = some (.int .u32 y.nx) ∧ w'.cell? ⟨ge, 4, none⟩ = some (.int .u64 y.sq)) := Lib.hid fun w' hb => have q := HBW8.out.below hb; ⟨q.cellv 0 _ rfl, q.cellv 1 _ rfl, q.cellv 2 _ rfl, q.cellv 3 _ rfl, q.cellv 4 _ rfl⟩
    have hb8 : Below w8.heap.size w8 W8 := by rw [hW8]; exact alloc_bel _ _
    have HF9 := Lib.hid (HF8.out.trans (hb8.mono HF8.out.size))
    have HK9 := Lib.hid (HK8.out.trans (hb8.mono HK8.out.size))
    have HWO9 := Lib.hid (own_below HWO8.out hb8)
    have HRE : Hid (RdX W8 (.agg #[.slice ea ean eac, .slice er ern erc, .int .u32 y.jo, .int .u32 y.nx, .int .u64 y.sq]) y) := Lib.hid ⟨_, _, rfl, (rdF_of (reads_of_own (own_below HEA.out hb8))).2, (rdU_of (reads_of_own (own_below HER.out hb8))).2⟩
    have HYB : Hid (y.add.length ≤ 100000 ∧ y.rem.length ≤ 100000) := Lib.hid (by
      rcases HGY.out.1 with ⟨_, _, h, _⟩ | ⟨_, h⟩
      · exact ⟨h.1, h.2.1⟩
      · rw [h]; exact ⟨by decide, by decide⟩)
    clear b8 hb8 HP1 HF7 HK7 HWO HF8 HK8 HWO8 HEA HER HGY HGY2
    go_upto_region 9 with (fail)
    rw [← hW8, ← hge]
    clear hW8 hge
    have HSB := Lib.hid (same_bt W8 (.slice pa pn pc) (.slice wa wn wc') _ (rd_of_own (own_below HPO6.out HK9.out)).2 (rd_of_own HWO9.out).2)
    go_wp2_with fail
    refine HSB.out.mono ?_
    rintro e w9 ⟨rfl, b9⟩
    have HI9 := Lib.hid b9
    obtain ⟨c0, c1, c2, c3, c4⟩ := HCY.out w9 (HF9.out.trans (b9.mono HF9.out.size))
    obtain ⟨d0, d1, d2, d3, d4⟩ := HCE.out w9 b9
    have HK10 := Lib.hid (HK9.out.trans (b9.mono HK9.out.size))
    have HF10 := Lib.hid (HF9.out.trans (b9.mono HF9.out.size))
    have HSX := Lib.hid (sameX_any w9 (.agg #[.slice ya yan yac, .slice yr yrn yrc, .int .u32 y.jo, .int .u32 y.nx, .int .u64 y.sq]) (.agg #[.slice ea ean eac, .slice er ern erc, .int .u32 y.jo, .int .u32 y.nx, .int .u64 y.sq]) y ⟨_, _, rfl, (rdF_of (reads_of_own (own_below HYA.out HK10.out))).2, (rdU_of (reads_of_own (own_below HYR.out HK10.out))).2⟩ (HRE.out.below b9))
    have hq1 : ((q : Int) != (q : Int)) = false := by simp
    have hq2 : ((qy : Int) != (qy : Int)) = false := by simp
    have hq3 : ((q : Int) == (q : Int)) = true := by simp
    have hq4 : ((qy : Int) == (qy : Int)) = true := by simp
    clear b9 HSB HWO9 HRE HK9 HF9
    go_wp2_with fail
    refine HSX.out.mono ?_
    rintro e w10 ⟨rfl, b10⟩
    have HK11 := Lib.hid (HK10.out.trans (b10.mono HK10.out.size))
    have HF11 := Lib.hid (HF10.out.trans (b10.mono HF10.out.size))
    have HKW := Lib.hid (HE6.out.trans (HK11.out.mono HE6.out.size))
    have HDW := Lib.hid (HD6.out.trans (HK11.out.mono HD6.out.size))
    clear b10 HSX c0 c1 c2 c3 c4 d0 d1 d2 d3 d4 HK10 HF10
    obtain ⟨c0, c1, c2, c3, c4⟩ := HCT.out w10 HKW.out
    obtain ⟨d0, d1, d2, d3, d4⟩ := HCX.out w10 HDW.out
    have HLE := Lib.hid (leftEdit_any w10 _ tf tu n1 m1 (.agg #[.slice aa n1 ac, .slice ra m1 rc, .int .u32 x.jo, .int .u32 x.nx, .int .u64 x.sq]) x HAN.out HRN.out (HTF6.out.below HK11.out) (HTU6.out.below HK11.out) (HV.out w10 HDW.out).2 (by rw [← HAN.out]; omega) (by rw [← HRN.out]; omega))
    go_wp2_with fail
    refine HLE.out.mono ?_
    rintro e w11 ⟨rfl, b11⟩
    have HK12 := Lib.hid (HK11.out.trans (b11.mono HK11.out.size))
    have HF12 := Lib.hid (HF11.out.trans (b11.mono HF11.out.size))
    have HDX := Lib.hid (HDW.out.trans (b11.mono HDW.out.size))
    clear b11 HLE c0 c1 c2 c3 c4 d0 d1 d2 d3 d4 HK11 HKW HDW HF11
    have HLB := Lib.hid (leftBytes_any _ _ _ b w11 (twin_below HTW6.out HK12.out) (HV.out w11 HDX.out).1)
    try rw [← HBN.out] at HLB
    go_wp2_with fail
    refine HLB.out.mono ?_
    rintro e wc ⟨rfl, dn, hdn⟩
    have belc : Below w11.heap.size w11 wc := by rw [hdn]; exact drewN_below w11 dn
    have HKc := Lib.hid (HK12.out.trans (belc.mono HK12.out.size))
    have HDc := Lib.hid (HDX.out.trans (belc.mono HDX.out.size))
    have HEc := Lib.hid (HE6.out.trans (HKc.out.mono HE6.out.size))
    have HFc := Lib.hid (HF12.out.trans (belc.mono HF12.out.size))
    clear hdn HLB belc HK12 HDX HF12
    have HBc := Lib.hid (HEND.out _ HDc.out)
    have HGK : Hid (W3.heap.size ≤ wc.heap.size ∧ W6.heap.size ≤ wc.heap.size) := Lib.hid ⟨HEc.out.size, HFc.out.size⟩
    obtain ⟨base, hba⟩ : ∃ x, x = w.heap.size := ⟨_, rfl⟩
    have hs1 := HSW.out
    obtain ⟨hs2, hs3⟩ := HS23.out
    have hs4 := HS34.out
    obtain ⟨hs5, hs6⟩ := HS45.out
    have hs7 := HS56.out
    have hs8 := HKc.out.size
    have HO0 : Hid (Own wc base 86 4 (.slice (some ⟨tf, 0, none⟩) n1 (n1 + 1)) n1 (fcells x.add)) := Lib.hid (own_mono (own_below HTF6.out.own HKc.out) (by omega))
    have HO1 : Hid (Own wc base 24 1 (.slice (some ⟨tu, 0, none⟩) m1 (m1 + 1)) m1 (ucells x.rem)) := Lib.hid (own_mono (own_below HTU6.out.own HKc.out) (by omega))
    have HO2 : Hid (Own wc base 5 1 (.slice (some ⟨tg, 0, none⟩) bn (bn + 1)) bn (u8s b)) := Lib.hid (own_mono (by have h := twin_own (twin_below HTW6.out HKc.out); rwa [← HBN.out] at h) (by omega))
    have HO3 : Hid (Own wc base 5 1 (.slice pa pn pc) pn (u8s L)) := Lib.hid (own_mono (own_below HPO6.out HKc.out) (by omega))
    have HO4 : Hid (Own wc base 86 4 (.slice ya yan yac) yan (fcells y.add)) := Lib.hid (own_mono (own_below HYA.out HKc.out) (by omega))
    have HO5 : Hid (Own wc base 24 1 (.slice yr yrn yrc) yrn (ucells y.rem)) := Lib.hid (own_mono (own_below HYR.out HKc.out) (by omega))
    have HQ0 : Hid (InR (.slice (some ⟨tf, 0, none⟩) n1 (n1 + 1)) base wc.heap.size) := Lib.hid (HR0.out.mono (by omega) (by omega))
    have HQ1 : Hid (InR (.slice (some ⟨tu, 0, none⟩) m1 (m1 + 1)) base wc.heap.size) := Lib.hid (HR1.out.mono (by omega) (by omega))
    have HQ2 : Hid (InR (.slice (some ⟨tg, 0, none⟩) bn (bn + 1)) base wc.heap.size) := Lib.hid (HR2.out.mono (by omega) (by omega))
    have HQ3 : Hid (InR (.slice pa pn pc) base wc.heap.size) := Lib.hid (HR3.out.mono (by omega) (by omega))
    have HQ4 : Hid (InR (.slice ya yan yac) base wc.heap.size) := Lib.hid (HR4.out.mono (by omega) (by omega))
    have HQ5 : Hid (InR (.slice yr yrn yrc) base wc.heap.size) := Lib.hid (HR5.out.mono (by omega) (by omega))
    have HM0 : Hid (n1 ≤ 1000000000) := Lib.hid (by omega)
    have HM1 : Hid (m1 ≤ 1000000000) := Lib.hid (by omega)
    have HM2 : Hid (bn ≤ 1000000000) := Lib.hid (by omega)
    have HM3 : Hid (pn ≤ 1000000000) := Lib.hid (by rw [HPN.out]; exact HLS.out)
    have HM4 : Hid (yan ≤ 1000000000) := Lib.hid (by rw [HYAN.out]; have := HYB.out; omega)
    have HM5 : Hid (yrn ≤ 1000000000) := Lib.hid (by rw [HYRN.out]; have := HYB.out; omega)
    have A0_2 : Hid (Ap ((.slice (some ⟨tf, 0, none⟩) n1 (n1 + 1))) ((.slice (some ⟨tg, 0, none⟩) bn (bn + 1)))) := Lib.hid (HR0.out.ap HR2.out (by omega))
    have A0_3 : Hid (Ap ((.slice (some ⟨tf, 0, none⟩) n1 (n1 + 1))) ((.slice pa pn pc))) := Lib.hid (HR0.out.ap HR3.out (by omega))
    have A0_4 : Hid (Ap ((.slice (some ⟨tf, 0, none⟩) n1 (n1 + 1))) ((.slice ya yan yac))) := Lib.hid (HR0.out.ap HR4.out (by omega))
    have A0_5 : Hid (Ap ((.slice (some ⟨tf, 0, none⟩) n1 (n1 + 1))) ((.slice yr yrn yrc))) := Lib.hid (HR0.out.ap HR5.out (by omega))
    have A1_2 : Hid (Ap ((.slice (some ⟨tu, 0, none⟩) m1 (m1 + 1))) ((.slice (some ⟨tg, 0, none⟩) bn (bn + 1)))) := Lib.hid (HR1.out.ap HR2.out (by omega))
    have A1_3 : Hid (Ap ((.slice (some ⟨tu, 0, none⟩) m1 (m1 + 1))) ((.slice pa pn pc))) := Lib.hid (HR1.out.ap HR3.out (by omega))
    have A1_4 : Hid (Ap ((.slice (some ⟨tu, 0, none⟩) m1 (m1 + 1))) ((.slice ya yan yac))) := Lib.hid (HR1.out.ap HR4.out (by omega))
    have A1_5 : Hid (Ap ((.slice (some ⟨tu, 0, none⟩) m1 (m1 + 1))) ((.slice yr yrn yrc))) := Lib.hid (HR1.out.ap HR5.out (by omega))
    have A2_3 : Hid (Ap ((.slice (some ⟨tg, 0, none⟩) bn (bn + 1))) ((.slice pa pn pc))) := Lib.hid (HR2.out.ap HR3.out (by omega))
    have A2_4 : Hid (Ap ((.slice (some ⟨tg, 0, none⟩) bn (bn + 1))) ((.slice ya yan yac))) := Lib.hid (HR2.out.ap HR4.out (by omega))
    have A2_5 : Hid (Ap ((.slice (some ⟨tg, 0, none⟩) bn (bn + 1))) ((.slice yr yrn yrc))) := Lib.hid (HR2.out.ap HR5.out (by omega))
    have A3_4 : Hid (Ap ((.slice pa pn pc)) ((.slice ya yan yac))) := Lib.hid (HR3.out.ap HR4.out (by omega))
    have A3_5 : Hid (Ap ((.slice pa pn pc)) ((.slice yr yrn yrc))) := Lib.hid (HR3.out.ap HR5.out (by omega))
    clear HR0 HR1 HR2 HR3 HR4 HR5 hs1 hs2 hs3 hs4 hs5 hs6 hs7 hs8 HTF6 HTU6 HTW6 HPO6 HYA HYR HPN HYAN HYRN HKc HSW HS23 HS34 HS45 HS56 HDc HEND HV HYB HLS hq1 hq2 hq3 hq4 HBN HAN HRN HXO HFIT
    have HJ0 : Hid (∀ w', Below wc.heap.size wc w' → Own w' base 86 4 ((.slice (some ⟨tf, 0, none⟩) n1 (n1 + 1))) (n1) (fcells x.add)) := Lib.hid fun w' hb => own_below HO0.out hb
    have HJ1 : Hid (∀ w', Below wc.heap.size wc w' → Own w' base 24 1 ((.slice (some ⟨tu, 0, none⟩) m1 (m1 + 1))) (m1) (ucells x.rem)) := Lib.hid fun w' hb => own_below HO1.out hb
    have HJ2 : Hid (∀ w', Below wc.heap.size wc w' → Own w' base 5 1 ((.slice (some ⟨tg, 0, none⟩) bn (bn + 1))) (bn) (u8s b)) := Lib.hid fun w' hb => own_below HO2.out hb
    have HJ3 : Hid (∀ w', Below wc.heap.size wc w' → Own w' base 5 1 ((.slice pa pn pc)) (pn) (u8s L)) := Lib.hid fun w' hb => own_below HO3.out hb
    have HJ4 : Hid (∀ w', Below wc.heap.size wc w' → Own w' base 86 4 ((.slice ya yan yac)) (yan) (fcells y.add)) := Lib.hid fun w' hb => own_below HO4.out hb
    have HJ5 : Hid (∀ w', Below wc.heap.size wc w' → Own w' base 24 1 ((.slice yr yrn yrc)) (yrn) (ucells y.rem)) := Lib.hid fun w' hb => own_below HO5.out hb
    have hgb : base ≤ wc.heap.size := by rw [hba]; exact HBc.out.size
    clear HO0 HO1 HO2 HO3 HO4 HO5
    go_upto_region 12 with (fail)
    obtain ⟨wk0, hwk⟩ : ∃ x, x = wc.alloc (.cells (bkF 0 (fun _ => .slice none 0 0)) 50) := ⟨_, rfl⟩
    have HP0 : Hid (Pg wk0 wc.heap.size 0 (fun _ => .slice none 0 0)) := Lib.hid (by rw [hwk]; exact Pg.new wc _ (fun _ => rfl))
    have HAL0 : Hid (Below wc.heap.size wc wk0) := Lib.hid (by rw [hwk]; exact (Below.refl _ _).alloc (Nat.le_refl _) _)
    change Code.wp _ _ _ _ (wc.alloc (.cells (bkF 0 (fun _ => .slice none 0 0)) 50))
    rw [← hwk]
    clear hwk
    obtain ⟨gk, hgk⟩ : ∃ x, x = wc.heap.size := ⟨_, rfl⟩
    rw [← hgk] at HP0 HAL0 hgb HJ0 HQ0 HJ1 HQ1 HJ2 HQ2 HJ3 HQ3 HJ4 HQ4 HJ5 HQ5 HGK
    rw [← hgk]
    clear hgk
    obtain ⟨f0, hf⟩ : ∃ f : Nat → Value, f = fun _ => .slice none 0 0 := ⟨_, rfl⟩
    rw [← hf] at HP0
    have HZ0 : Hid (∀ r, f0 r = .slice none 0 0) := Lib.hid fun r => by rw [hf]
    have HW0_1 : Hid (Own wk0 gk 158 3 (f0 1) 0 (helds 0 (seqL (α := Value) (.slice none 0 0) [(.slice (some ⟨tg, 0, none⟩) bn (bn + 1)), (.slice pa pn pc)]) (fun _ => .slice none 0 0) (seqL (α := Nat) 0 [3, 4]))) := Lib.hid (by rw [HZ0.out]; exact own_none _ _ _ _)
    have HW0_2 : Hid (Own wk0 gk 161 3 (f0 2) 0 (helds 0 (seqL (α := Value) (.slice none 0 0) [(.slice (some ⟨tu, 0, none⟩) m1 (m1 + 1)), (.slice yr yrn yrc)]) (fun _ => .slice none 0 0) (seqL (α := Nat) 0 [2, 6]))) := Lib.hid (by rw [HZ0.out]; exact own_none _ _ _ _)
    have HW0_9 : Hid (Own wk0 gk 156 3 (f0 9) 0 (helds 0 (seqL (α := Value) (.slice none 0 0) [(.slice (some ⟨tf, 0, none⟩) n1 (n1 + 1)), (.slice ya yan yac)]) (fun _ => .slice none 0 0) (seqL (α := Nat) 0 [1, 5]))) := Lib.hid (by rw [HZ0.out]; exact own_none _ _ _ _)
    clear hf
    obtain ⟨c0, c1, c2, c3, c4⟩ := HCT.out wk0 (HEc.out.trans (HAL0.out.mono HGK.out.1))
    have HT := Lib.hid (toldEdit_any wk0 gk 0 0 0 f0 (seqL (α := Value) (.slice none 0 0) [(.slice (some ⟨tf, 0, none⟩) n1 (n1 + 1)), (.slice ya yan yac)]) (seqL (α := Value) (.slice none 0 0) [(.slice (some ⟨tu, 0, none⟩) m1 (m1 + 1)), (.slice yr yrn yrc)]) (seqL (α := Nat) 0 [1, 5]) (seqL (α := Nat) 0 [2, 6]) ((.slice (some ⟨tf, 0, none⟩) n1 (n1 + 1))) ((.slice (some ⟨tu, 0, none⟩) m1 (m1 + 1))) (x.jo) (x.nx) (x.sq) HP0.out HW0_9.out HW0_2.out (by omega) (by omega) (by omega) ⟨_, _, _, rfl⟩ ⟨_, _, _, rfl⟩ rfl rfl rfl rfl)
    go_wp2_with fail
    refine HT.out.mono ?_
    rintro e wk2 ⟨rfl, hx, -⟩
    obtain ⟨wk1, v', v2', hp, ho, hk, hb, hp2, ho2, hk2, hb2⟩ := hx.out
    have HAL1 := Lib.hid (HAL0.out.trans hb)
    obtain ⟨f1, hf⟩ : ∃ f, f = upd f0 9 v' := ⟨_, rfl⟩
    rw [← hf] at hp ho hk hp2 ho2 hk2
    have HZ1 : Hid (∀ r, r ≠ 9 → f1 r = f0 r) := Lib.hid fun r hr => by rw [hf]; exact upd_other _ _ hr
    have HW1_9 := Lib.hid ho
    have HW1_1 := Lib.hid (keepsO_own hk 1 (by decide) HW0_1.out)
    have HW1_2 := Lib.hid (keepsO_own hk 2 (by decide) HW0_2.out)
    clear hf
    have HAL2 := Lib.hid (HAL1.out.trans hb2)
    obtain ⟨f2, hf⟩ : ∃ f, f = upd f1 2 v2' := ⟨_, rfl⟩
    rw [← hf] at hp2 ho2 hk2
    have HZ2 : Hid (∀ r, r ≠ 2 → f2 r = f1 r) := Lib.hid fun r hr => by rw [hf]; exact upd_other _ _ hr
    have HP2 := Lib.hid hp2
    have HW2_2 := Lib.hid ho2
    have HW2_1 := Lib.hid (keepsO_own hk2 1 (by decide) HW1_1.out)
    have HW2_9 := Lib.hid (keepsO_own hk2 9 (by decide) HW1_9.out)
    clear hf hp ho hk hx hb hp2 ho2 hk2 hb2 HT HP0 HAL0 HAL1 HW0_1 HW0_2 HW0_9 HW1_1 HW1_2 HW1_9
    clear c0 c1 c2 c3 c4
    have HT := Lib.hid (toldByte_any wk2 gk 2 0 f2 (seqL (α := Value) (.slice none 0 0) [(.slice (some ⟨tg, 0, none⟩) bn (bn + 1)), (.slice pa pn pc)]) (seqL (α := Nat) 0 [3, 4]) ((.slice (some ⟨tg, 0, none⟩) bn (bn + 1))) HP2.out HW2_1.out (by omega) (by omega) ⟨_, _, _, rfl⟩ rfl rfl)
    go_wp2_with fail
    refine HT.out.mono ?_
    rintro e wk3 ⟨rfl, hx, hb⟩
    have HAL3 := Lib.hid (HAL2.out.trans hb)
    obtain ⟨v', hp, ho, hk⟩ := hx.out
    obtain ⟨f3, hf⟩ : ∃ f, f = upd f2 1 v' := ⟨_, rfl⟩
    rw [← hf] at hp ho hk
    have HZ3 : Hid (∀ r, r ≠ 1 → f3 r = f2 r) := Lib.hid fun r hr => by rw [hf]; exact upd_other _ _ hr
    have HP3 := Lib.hid hp
    have HW3_1 := Lib.hid ho
    have HW3_2 := Lib.hid (keepsO_own hk 2 (by decide) HW2_2.out)
    have HW3_9 := Lib.hid (keepsO_own hk 9 (by decide) HW2_9.out)
    clear hf hp ho hk hx hb HT HP2 HAL2 HW2_1 HW2_2 HW2_9
    have HT := Lib.hid (toldByte_any wk3 gk 3 1 f3 (seqL (α := Value) (.slice none 0 0) [(.slice (some ⟨tg, 0, none⟩) bn (bn + 1)), (.slice pa pn pc)]) (seqL (α := Nat) 0 [3, 4]) ((.slice pa pn pc)) HP3.out HW3_1.out (by omega) (by omega) ⟨_, _, _, rfl⟩ rfl rfl)
    go_wp2_with fail
    refine HT.out.mono ?_
    rintro e wk4 ⟨rfl, hx, hb⟩
    have HAL4 := Lib.hid (HAL3.out.trans hb)
    obtain ⟨v', hp, ho, hk⟩ := hx.out
    obtain ⟨f4, hf⟩ : ∃ f, f = upd f3 1 v' := ⟨_, rfl⟩
    rw [← hf] at hp ho hk
    have HZ4 : Hid (∀ r, r ≠ 1 → f4 r = f3 r) := Lib.hid fun r hr => by rw [hf]; exact upd_other _ _ hr
    have HP4 := Lib.hid hp
    have HW4_1 := Lib.hid ho
    have HW4_2 := Lib.hid (keepsO_own hk 2 (by decide) HW3_2.out)
    have HW4_9 := Lib.hid (keepsO_own hk 9 (by decide) HW3_9.out)
    clear hf hp ho hk hx hb HT HP3 HAL3 HW3_1 HW3_2 HW3_9
    obtain ⟨c0, c1, c2, c3, c4⟩ := HCY.out wk4 (HFc.out.trans (HAL4.out.mono HGK.out.2))
    have HT := Lib.hid (toldEdit_any wk4 gk 4 1 1 f4 (seqL (α := Value) (.slice none 0 0) [(.slice (some ⟨tf, 0, none⟩) n1 (n1 + 1)), (.slice ya yan yac)]) (seqL (α := Value) (.slice none 0 0) [(.slice (some ⟨tu, 0, none⟩) m1 (m1 + 1)), (.slice yr yrn yrc)]) (seqL (α := Nat) 0 [1, 5]) (seqL (α := Nat) 0 [2, 6]) ((.slice ya yan yac)) ((.slice yr yrn yrc)) (y.jo) (y.nx) (y.sq) HP4.out HW4_9.out HW4_2.out (by omega) (by omega) (by omega) ⟨_, _, _, rfl⟩ ⟨_, _, _, rfl⟩ rfl rfl rfl rfl)
    go_wp2_with fail
    refine HT.out.mono ?_
    rintro e wk6 ⟨rfl, hx, -⟩
    obtain ⟨wk5, v', v2', hp, ho, hk, hb, hp2, ho2, hk2, hb2⟩ := hx.out
    have HAL5 := Lib.hid (HAL4.out.trans hb)
    obtain ⟨f5, hf⟩ : ∃ f, f = upd f4 9 v' := ⟨_, rfl⟩
    rw [← hf] at hp ho hk hp2 ho2 hk2
    have HZ5 : Hid (∀ r, r ≠ 9 → f5 r = f4 r) := Lib.hid fun r hr => by rw [hf]; exact upd_other _ _ hr
    have HW5_9 := Lib.hid ho
    have HW5_1 := Lib.hid (keepsO_own hk 1 (by decide) HW4_1.out)
    have HW5_2 := Lib.hid (keepsO_own hk 2 (by decide) HW4_2.out)
    clear hf
    have HAL6 := Lib.hid (HAL5.out.trans hb2)
    obtain ⟨f6, hf⟩ : ∃ f, f = upd f5 2 v2' := ⟨_, rfl⟩
    rw [← hf] at hp2 ho2 hk2
    have HZ6 : Hid (∀ r, r ≠ 2 → f6 r = f5 r) := Lib.hid fun r hr => by rw [hf]; exact upd_other _ _ hr
    have HP6 := Lib.hid hp2
    have HW6_2 := Lib.hid ho2
    have HW6_1 := Lib.hid (keepsO_own hk2 1 (by decide) HW5_1.out)
    have HW6_9 := Lib.hid (keepsO_own hk2 9 (by decide) HW5_9.out)
    clear hf hp ho hk hx hb hp2 ho2 hk2 hb2 HT HP4 HAL4 HAL5 HW4_1 HW4_2 HW4_9 HW5_1 HW5_2 HW5_9
    have HK1 := Lib.hid (HP6.out.kst (base := base) (m := 2) (L := (seqL (α := Value) (.slice none 0 0) [(.slice (some ⟨tg, 0, none⟩) bn (bn + 1)), (.slice pa pn pc)])) (num := (seqL (α := Nat) 0 [3, 4])) (n := (seqL (α := Nat) 0 [bn, pn])) (C := (seqL (α := List Value) [] [u8s b, u8s L])) (et := 5) (sz := 1) hgb HW6_1.out (lt2 (HJ2.out _ HAL6.out) (HJ3.out _ HAL6.out)) (lt2 HQ2.out HQ3.out) (ap_off (lt2 lt0 (lt1 A2_3.out))))
    have HK2 := Lib.hid (HP6.out.kst (base := base) (m := 2) (L := (seqL (α := Value) (.slice none 0 0) [(.slice (some ⟨tu, 0, none⟩) m1 (m1 + 1)), (.slice yr yrn yrc)])) (num := (seqL (α := Nat) 0 [2, 6])) (n := (seqL (α := Nat) 0 [m1, yrn])) (C := (seqL (α := List Value) [] [ucells x.rem, ucells y.rem])) (et := 24) (sz := 1) hgb HW6_2.out (lt2 (HJ1.out _ HAL6.out) (HJ5.out _ HAL6.out)) (lt2 HQ1.out HQ5.out) (ap_off (lt2 lt0 (lt1 A1_5.out))))
    have z5 : f6 5 = .slice none 0 0 := (HZ6.out 5 (by decide)).trans ((HZ5.out 5 (by decide)).trans ((HZ4.out 5 (by decide)).trans ((HZ3.out 5 (by decide)).trans ((HZ2.out 5 (by decide)).trans ((HZ1.out 5 (by decide)).trans (HZ0.out 5))))))
    have z8 : f6 8 = .slice none 0 0 := (HZ6.out 8 (by decide)).trans ((HZ5.out 8 (by decide)).trans ((HZ4.out 8 (by decide)).trans ((HZ3.out 8 (by decide)).trans ((HZ2.out 8 (by decide)).trans ((HZ1.out 8 (by decide)).trans (HZ0.out 8))))))
    have HK9 := Lib.hid (HP6.out.kst (base := base) (m := 2) (L := (seqL (α := Value) (.slice none 0 0) [(.slice (some ⟨tf, 0, none⟩) n1 (n1 + 1)), (.slice ya yan yac)])) (num := (seqL (α := Nat) 0 [1, 5])) (n := (seqL (α := Nat) 0 [n1, yan])) (C := (seqL (α := List Value) [] [fcells x.add, fcells y.add])) (et := 86) (sz := 4) hgb HW6_9.out (lt2 (HJ0.out _ HAL6.out) (HJ4.out _ HAL6.out)) (lt2 HQ0.out HQ4.out) (ap_off (lt2 lt0 (lt1 A0_4.out))))
    have HD1_2 := Lib.hid (sOf_dj (L := (seqL (α := Value) (.slice none 0 0) [(.slice (some ⟨tg, 0, none⟩) bn (bn + 1)), (.slice pa pn pc)])) (L' := (seqL (α := Value) (.slice none 0 0) [(.slice (some ⟨tu, 0, none⟩) m1 (m1 + 1)), (.slice yr yrn yrc)])) HP6.out (show 1 ≠ 2 by decide) (lt2 (fun b e => (HQ2.out b e).2) (fun b e => (HQ3.out b e).2)) (lt2 (fun b e => (HQ1.out b e).2) (fun b e => (HQ5.out b e).2)) (fun j k hj hk => lt2 (P := fun j => ∀ k, k < 2 → Ap ((seqL (α := Value) (.slice none 0 0) [(.slice (some ⟨tg, 0, none⟩) bn (bn + 1)), (.slice pa pn pc)]) j) ((seqL (α := Value) (.slice none 0 0) [(.slice (some ⟨tu, 0, none⟩) m1 (m1 + 1)), (.slice yr yrn yrc)]) k)) (lt2 (P := fun k => Ap ((seqL (α := Value) (.slice none 0 0) [(.slice (some ⟨tg, 0, none⟩) bn (bn + 1)), (.slice pa pn pc)]) 0) ((seqL (α := Value) (.slice none 0 0) [(.slice (some ⟨tu, 0, none⟩) m1 (m1 + 1)), (.slice yr yrn yrc)]) k)) (Ap.symm A1_2.out) A2_5.out) (lt2 (P := fun k => Ap ((seqL (α := Value) (.slice none 0 0) [(.slice (some ⟨tg, 0, none⟩) bn (bn + 1)), (.slice pa pn pc)]) 1) ((seqL (α := Value) (.slice none 0 0) [(.slice (some ⟨tu, 0, none⟩) m1 (m1 + 1)), (.slice yr yrn yrc)]) k)) (Ap.symm A1_3.out) A3_5.out) j hj k hk))
    have HD1_9 := Lib.hid (sOf_dj (L := (seqL (α := Value) (.slice none 0 0) [(.slice (some ⟨tg, 0, none⟩) bn (bn + 1)), (.slice pa pn pc)])) (L' := (seqL (α := Value) (.slice none 0 0) [(.slice (some ⟨tf, 0, none⟩) n1 (n1 + 1)), (.slice ya yan yac)])) HP6.out (show 1 ≠ 9 by decide) (lt2 (fun b e => (HQ2.out b e).2) (fun b e => (HQ3.out b e).2)) (lt2 (fun b e => (HQ0.out b e).2) (fun b e => (HQ4.out b e).2)) (fun j k hj hk => lt2 (P := fun j => ∀ k, k < 2 → Ap ((seqL (α := Value) (.slice none 0 0) [(.slice (some ⟨tg, 0, none⟩) bn (bn + 1)), (.slice pa pn pc)]) j) ((seqL (α := Value) (.slice none 0 0) [(.slice (some ⟨tf, 0, none⟩) n1 (n1 + 1)), (.slice ya yan yac)]) k)) (lt2 (P := fun k => Ap ((seqL (α := Value) (.slice none 0 0) [(.slice (some ⟨tg, 0, none⟩) bn (bn + 1)), (.slice pa pn pc)]) 0) ((seqL (α := Value) (.slice none 0 0) [(.slice (some ⟨tf, 0, none⟩) n1 (n1 + 1)), (.slice ya yan yac)]) k)) (Ap.symm A0_2.out) A2_4.out) (lt2 (P := fun k => Ap ((seqL (α := Value) (.slice none 0 0) [(.slice (some ⟨tg, 0, none⟩) bn (bn + 1)), (.slice pa pn pc)]) 1) ((seqL (α := Value) (.slice none 0 0) [(.slice (some ⟨tf, 0, none⟩) n1 (n1 + 1)), (.slice ya yan yac)]) k)) (Ap.symm A0_3.out) A3_4.out) j hj k hk))
    have HD2_1 := Lib.hid (sOf_dj (L := (seqL (α := Value) (.slice none 0 0) [(.slice (some ⟨tu, 0, none⟩) m1 (m1 + 1)), (.slice yr yrn yrc)])) (L' := (seqL (α := Value) (.slice none 0 0) [(.slice (some ⟨tg, 0, none⟩) bn (bn + 1)), (.slice pa pn pc)])) HP6.out (show 2 ≠ 1 by decide) (lt2 (fun b e => (HQ1.out b e).2) (fun b e => (HQ5.out b e).2)) (lt2 (fun b e => (HQ2.out b e).2) (fun b e => (HQ3.out b e).2)) (fun j k hj hk => lt2 (P := fun j => ∀ k, k < 2 → Ap ((seqL (α := Value) (.slice none 0 0) [(.slice (some ⟨tu, 0, none⟩) m1 (m1 + 1)), (.slice yr yrn yrc)]) j) ((seqL (α := Value) (.slice none 0 0) [(.slice (some ⟨tg, 0, none⟩) bn (bn + 1)), (.slice pa pn pc)]) k)) (lt2 (P := fun k => Ap ((seqL (α := Value) (.slice none 0 0) [(.slice (some ⟨tu, 0, none⟩) m1 (m1 + 1)), (.slice yr yrn yrc)]) 0) ((seqL (α := Value) (.slice none 0 0) [(.slice (some ⟨tg, 0, none⟩) bn (bn + 1)), (.slice pa pn pc)]) k)) A1_2.out A1_3.out) (lt2 (P := fun k => Ap ((seqL (α := Value) (.slice none 0 0) [(.slice (some ⟨tu, 0, none⟩) m1 (m1 + 1)), (.slice yr yrn yrc)]) 1) ((seqL (α := Value) (.slice none 0 0) [(.slice (some ⟨tg, 0, none⟩) bn (bn + 1)), (.slice pa pn pc)]) k)) (Ap.symm A2_5.out) (Ap.symm A3_5.out)) j hj k hk))
    have HD2_9 := Lib.hid (sOf_dj (L := (seqL (α := Value) (.slice none 0 0) [(.slice (some ⟨tu, 0, none⟩) m1 (m1 + 1)), (.slice yr yrn yrc)])) (L' := (seqL (α := Value) (.slice none 0 0) [(.slice (some ⟨tf, 0, none⟩) n1 (n1 + 1)), (.slice ya yan yac)])) HP6.out (show 2 ≠ 9 by decide) (lt2 (fun b e => (HQ1.out b e).2) (fun b e => (HQ5.out b e).2)) (lt2 (fun b e => (HQ0.out b e).2) (fun b e => (HQ4.out b e).2)) (fun j k hj hk => lt2 (P := fun j => ∀ k, k < 2 → Ap ((seqL (α := Value) (.slice none 0 0) [(.slice (some ⟨tu, 0, none⟩) m1 (m1 + 1)), (.slice yr yrn yrc)]) j) ((seqL (α := Value) (.slice none 0 0) [(.slice (some ⟨tf, 0, none⟩) n1 (n1 + 1)), (.slice ya yan yac)]) k)) (lt2 (P := fun k => Ap ((seqL (α := Value) (.slice none 0 0) [(.slice (some ⟨tu, 0, none⟩) m1 (m1 + 1)), (.slice yr yrn yrc)]) 0) ((seqL (α := Value) (.slice none 0 0) [(.slice (some ⟨tf, 0, none⟩) n1 (n1 + 1)), (.slice ya yan yac)]) k)) (Ap.symm A0_1.out) A1_4.out) (lt2 (P := fun k => Ap ((seqL (α := Value) (.slice none 0 0) [(.slice (some ⟨tu, 0, none⟩) m1 (m1 + 1)), (.slice yr yrn yrc)]) 1) ((seqL (α := Value) (.slice none 0 0) [(.slice (some ⟨tf, 0, none⟩) n1 (n1 + 1)), (.slice ya yan yac)]) k)) (Ap.symm A0_5.out) (Ap.symm A4_5.out)) j hj k hk))
    have HD9_1 := Lib.hid (sOf_dj (L := (seqL (α := Value) (.slice none 0 0) [(.slice (some ⟨tf, 0, none⟩) n1 (n1 + 1)), (.slice ya yan yac)])) (L' := (seqL (α := Value) (.slice none 0 0) [(.slice (some ⟨tg, 0, none⟩) bn (bn + 1)), (.slice pa pn pc)])) HP6.out (show 9 ≠ 1 by decide) (lt2 (fun b e => (HQ0.out b e).2) (fun b e => (HQ4.out b e).2)) (lt2 (fun b e => (HQ2.out b e).2) (fun b e => (HQ3.out b e).2)) (fun j k hj hk => lt2 (P := fun j => ∀ k, k < 2 → Ap ((seqL (α := Value) (.slice none 0 0) [(.slice (some ⟨tf, 0, none⟩) n1 (n1 + 1)), (.slice ya yan yac)]) j) ((seqL (α := Value) (.slice none 0 0) [(.slice (some ⟨tg, 0, none⟩) bn (bn + 1)), (.slice pa pn pc)]) k)) (lt2 (P := fun k => Ap ((seqL (α := Value) (.slice none 0 0) [(.slice (some ⟨tf, 0, none⟩) n1 (n1 + 1)), (.slice ya yan yac)]) 0) ((seqL (α := Value) (.slice none 0 0) [(.slice (some ⟨tg, 0, none⟩) bn (bn + 1)), (.slice pa pn pc)]) k)) A0_2.out A0_3.out) (lt2 (P := fun k => Ap ((seqL (α := Value) (.slice none 0 0) [(.slice (some ⟨tf, 0, none⟩) n1 (n1 + 1)), (.slice ya yan yac)]) 1) ((seqL (α := Value) (.slice none 0 0) [(.slice (some ⟨tg, 0, none⟩) bn (bn + 1)), (.slice pa pn pc)]) k)) (Ap.symm A2_4.out) (Ap.symm A3_4.out)) j hj k hk))
    have HD9_2 := Lib.hid (sOf_dj (L := (seqL (α := Value) (.slice none 0 0) [(.slice (some ⟨tf, 0, none⟩) n1 (n1 + 1)), (.slice ya yan yac)])) (L' := (seqL (α := Value) (.slice none 0 0) [(.slice (some ⟨tu, 0, none⟩) m1 (m1 + 1)), (.slice yr yrn yrc)])) HP6.out (show 9 ≠ 2 by decide) (lt2 (fun b e => (HQ0.out b e).2) (fun b e => (HQ4.out b e).2)) (lt2 (fun b e => (HQ1.out b e).2) (fun b e => (HQ5.out b e).2)) (fun j k hj hk => lt2 (P := fun j => ∀ k, k < 2 → Ap ((seqL (α := Value) (.slice none 0 0) [(.slice (some ⟨tf, 0, none⟩) n1 (n1 + 1)), (.slice ya yan yac)]) j) ((seqL (α := Value) (.slice none 0 0) [(.slice (some ⟨tu, 0, none⟩) m1 (m1 + 1)), (.slice yr yrn yrc)]) k)) (lt2 (P := fun k => Ap ((seqL (α := Value) (.slice none 0 0) [(.slice (some ⟨tf, 0, none⟩) n1 (n1 + 1)), (.slice ya yan yac)]) 0) ((seqL (α := Value) (.slice none 0 0) [(.slice (some ⟨tu, 0, none⟩) m1 (m1 + 1)), (.slice yr yrn yrc)]) k)) A0_1.out A0_5.out) (lt2 (P := fun k => Ap ((seqL (α := Value) (.slice none 0 0) [(.slice (some ⟨tf, 0, none⟩) n1 (n1 + 1)), (.slice ya yan yac)]) 1) ((seqL (α := Value) (.slice none 0 0) [(.slice (some ⟨tu, 0, none⟩) m1 (m1 + 1)), (.slice yr yrn yrc)]) k)) (Ap.symm A1_4.out) A4_5.out) j hj k hk))
    have HAP := Lib.hid (apartK_any wk6 base gk 6 f6 2 (seqL (α := Value) (.slice none 0 0) [(.slice (some ⟨tg, 0, none⟩) bn (bn + 1)), (.slice pa pn pc)]) (seqL (α := Nat) 0 [3, 4]) (seqL (α := Nat) 0 [bn, pn]) (seqL (α := List Value) [] [u8s b, u8s L]) (SOf (f6 1) 2 (seqL (α := Value) (.slice none 0 0) [(.slice (some ⟨tg, 0, none⟩) bn (bn + 1)), (.slice pa pn pc)])) 2 (seqL (α := Value) (.slice none 0 0) [(.slice (some ⟨tu, 0, none⟩) m1 (m1 + 1)), (.slice yr yrn yrc)]) (seqL (α := Nat) 0 [2, 6]) (seqL (α := Nat) 0 [m1, yrn]) (seqL (α := List Value) [] [ucells x.rem, ucells y.rem]) (SOf (f6 2) 2 (seqL (α := Value) (.slice none 0 0) [(.slice (some ⟨tu, 0, none⟩) m1 (m1 + 1)), (.slice yr yrn yrc)])) 0 (fun _ => .slice none 0 0) (fun _ => 0) (fun _ => 0) (fun _ => []) (fun _ => False) 0 (fun _ => .slice none 0 0) (fun _ => 0) (fun _ => 0) (fun _ => []) (fun _ => False) 2 (seqL (α := Value) (.slice none 0 0) [(.slice (some ⟨tf, 0, none⟩) n1 (n1 + 1)), (.slice ya yan yac)]) (seqL (α := Nat) 0 [1, 5]) (seqL (α := Nat) 0 [n1, yan]) (seqL (α := List Value) [] [fcells x.add, fcells y.add]) (SOf (f6 9) 2 (seqL (α := Value) (.slice none 0 0) [(.slice (some ⟨tf, 0, none⟩) n1 (n1 + 1)), (.slice ya yan yac)])) HP6.out.blk (Nat.le_trans hgb (Nat.le_of_lt HP6.out.blk.lt)) ((HZ6.out 3 (by decide)).trans ((HZ5.out 3 (by decide)).trans ((HZ4.out 3 (by decide)).trans ((HZ3.out 3 (by decide)).trans ((HZ2.out 3 (by decide)).trans ((HZ1.out 3 (by decide)).trans (HZ0.out 3))))))) ((HZ6.out 4 (by decide)).trans ((HZ5.out 4 (by decide)).trans ((HZ4.out 4 (by decide)).trans ((HZ3.out 4 (by decide)).trans ((HZ2.out 4 (by decide)).trans ((HZ1.out 4 (by decide)).trans (HZ0.out 4))))))) ((HZ6.out 6 (by decide)).trans ((HZ5.out 6 (by decide)).trans ((HZ4.out 6 (by decide)).trans ((HZ3.out 6 (by decide)).trans ((HZ2.out 6 (by decide)).trans ((HZ1.out 6 (by decide)).trans (HZ0.out 6))))))) ((HZ6.out 7 (by decide)).trans ((HZ5.out 7 (by decide)).trans ((HZ4.out 7 (by decide)).trans ((HZ3.out 7 (by decide)).trans ((HZ2.out 7 (by decide)).trans ((HZ1.out 7 (by decide)).trans (HZ0.out 7))))))) ((HZ6.out 10 (by decide)).trans ((HZ5.out 10 (by decide)).trans ((HZ4.out 10 (by decide)).trans ((HZ3.out 10 (by decide)).trans ((HZ2.out 10 (by decide)).trans ((HZ1.out 10 (by decide)).trans (HZ0.out 10))))))) ((HZ6.out 11 (by decide)).trans ((HZ5.out 11 (by decide)).trans ((HZ4.out 11 (by decide)).trans ((HZ3.out 11 (by decide)).trans ((HZ2.out 11 (by decide)).trans ((HZ1.out 11 (by decide)).trans (HZ0.out 11))))))) ((HZ6.out 12 (by decide)).trans ((HZ5.out 12 (by decide)).trans ((HZ4.out 12 (by decide)).trans ((HZ3.out 12 (by decide)).trans ((HZ2.out 12 (by decide)).trans ((HZ1.out 12 (by decide)).trans (HZ0.out 12))))))) ((HZ6.out 13 (by decide)).trans ((HZ5.out 13 (by decide)).trans ((HZ4.out 13 (by decide)).trans ((HZ3.out 13 (by decide)).trans ((HZ2.out 13 (by decide)).trans ((HZ1.out 13 (by decide)).trans (HZ0.out 13))))))) HK1.out (by omega) (lt2 (by decide) (by decide)) (lt2 HM2.out HM3.out) HK2.out (by omega) (lt2 (by decide) (by decide)) (lt2 HM1.out HM5.out) (by rw [z5]; exact KSt.empty _ _ _ _) (by omega) lt0 lt0 (by rw [z8]; exact KSt.empty _ _ _ _) (by omega) lt0 lt0 HK9.out (by omega) (lt2 (by decide) (by decide)) (lt2 HM0.out HM4.out) HD1_2.out dj_false dj_false HD1_9.out HD2_1.out dj_false dj_false HD2_9.out dj_false' dj_false' dj_false' dj_false' dj_false' dj_false' dj_false' dj_false' HD9_1.out HD9_2.out dj_false dj_false)
    clear HK1 HK2 HK9
    go_wp2_with fail
    refine HAP.out.mono ?_
    rintro e wz ⟨rfl, hb⟩
    have HBb : Below base w wc := by rw [hba]; exact HBc.out
    have HF := HBb.trans ((HAL6.out.mono hgb).trans hb)
    clear HAP hb
    go_wp2
    go_ret
    rw [← hba]
    exact ⟨rfl, HF⟩
end Go.Proofs.YtimfcinkjjaigaaGreatDoor

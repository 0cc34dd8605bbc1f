/- Walk of law11.EditsOrder. The conditions: as the law itself asks. -/
import Derived.Test.YtmonmfamnbfhcaaFlR
import Derived.Deep.Cut
namespace Go.Proofs.Ytmonmfamnbfhcaa
open Go.RowKit


theorem order_len {l add r : List PF} {rem : List Nat} {q : Nat} (h : DoR l add rem r q) (hq : q = 0) : r.length = (keepF rem l).length + add.length := by
  rw [(doR_ok h hq).2.1.length_eq, List.length_append]
theorem order_in {l add r : List PF} {rem : List Nat} {q : Nat} (h : DoR l add rem r q) (hq : q = 0) (f : PF) (hf : f ∈ l ∧ f.n ∉ rem ∨ f ∈ add) : f ∈ r := by
  rw [(doR_ok h hq).2.1.mem_iff, List.mem_append, mem_keepF]; exact hf
theorem order_lt {l add r : List PF} {rem : List Nat} {q : Nat} (h : DoR l add rem r q) (hq : q = 0) (k : Nat) (hk : k + 1 < r.length) : ltF r[k] r[k + 1] :=
  List.pairwise_iff_getElem.1 (doR_ok h hq).2.2 k (k + 1) _ _ (by omega)
theorem keep_take {rem : List Nat} {l : List PF} (k : Nat) (hk : k < l.length) : (keepF rem (l.take (k + 1))).length = (keepF rem (l.take k)).length + if l[k].n ∈ rem then 0 else 1 := by
  rw [List.take_succ_eq_append_getElem hk, keepF_app, List.length_append]
  by_cases h : l[k].n ∈ rem <;> simp [keepF, h]
set_option maxRecDepth 100000 in
set_option maxHeartbeats 1000000 in
theorem editsOrder_walk (w : World) (v : Value) (l : List PF) (vx : Value) (x : PX) (hv : RdF w v l) (hl : l.length ≤ 2932031007402 ∧ ∀ f ∈ l, f.ok) (hx : RdX w vx x) (hxo : x.ok) :
    Calls Try.prog 4 #[v, vx] w fun e w' => e = .returned (.bool true) ∧ Below w.heap.size w w' := by
  obtain ⟨va, vr, rfl, hva, hvr⟩ := hx
  obtain ⟨la, ln, lc, rfl, HLN, hlc, hlm⟩ := rdF_sl hv
  obtain ⟨aa, an, ac, rfl, HAN, hac, ham⟩ := rdF_sl hva
  obtain ⟨ra, rn, rc, rfl, HRN, hrc, hrm⟩ := rdU_sl hvr
  obtain ⟨W, hW⟩ : ∃ W, W = w.alloc (.cells #[.slice aa an ac, .slice ra rn rc, .int .u32 x.jo, .int .u32 x.nx, .int .u64 x.sq] 27) := ⟨_, rfl⟩
  have hBlk : Blk W w.heap.size #[.slice aa an ac, .slice ra rn rc, .int .u32 x.jo, .int .u32 x.nx, .int .u64 x.sq] 27 := by rw [hW]; exact Blk.new _ _ _
  have HBW : Hid (Below w.heap.size w W) := Lib.hid (by rw [hW]; exact alloc_bel _ _)
  have HC : Hid (∀ w', Below W.heap.size W w' → w'.cell? ⟨w.heap.size, 0, none⟩ = some (.slice aa an ac) ∧ w'.cell? ⟨w.heap.size, 1, none⟩ = some (.slice ra rn rc) ∧ w'.cell? ⟨w.heap.size, 2, none⟩ = some (.int .u32 x.jo) ∧ w'.cell? ⟨w.heap.size, 3, none⟩ = some (.int .u32 x.nx) ∧ w'.cell? ⟨w.heap.size, 4, none⟩ = some (.int .u64 x.sq)) := Lib.hid fun w' hb => ⟨Below.keeps hb _ _ _ (hBlk.cell 0), Below.keeps hb _ _ _ (hBlk.cell 1), Below.keeps hb _ _ _ (hBlk.cell 2), Below.keeps hb _ _ _ (hBlk.cell 3), Below.keeps hb _ _ _ (hBlk.cell 4)⟩
  have HV : Hid (∀ w', Below W.heap.size W w' → RdF w' (.slice la ln lc) l ∧ RdX w' (.agg #[.slice aa an ac, .slice ra rn rc, .int .u32 x.jo, .int .u32 x.nx, .int .u64 x.sq]) x) := Lib.hid fun w' hb => ⟨(hv.below HBW.out).below hb, ⟨_, _, rfl, (hva.below HBW.out).below hb, (hvr.below HBW.out).below hb⟩⟩
  have HG : Hid (∀ w', Below W.heap.size W w' → Calls Try.prog 11 #[.slice la ln lc, (.agg #[.slice aa an ac, .slice ra rn rc, .int .u32 x.jo, .int .u32 x.nx, .int .u64 x.sq])] w' fun e w'' => ∃ b, e = .returned (.bool b) ∧ Hid (b = false → l.length + x.add.length + x.rem.length ≤ 300 ∧ filesLen l + filesLen x.add ≤ 20000) ∧ Below w'.heap.size w' w'') := Lib.hid fun w' hb => great_any w' _ _ l x (HV.out w' hb).1 (HV.out w' hb).2 hl hxo
  have HVA : Hid (∀ w', Below W.heap.size W w' → RdF w' (.slice aa an ac) x.add ∧ RdU w' (.slice ra rn rc) x.rem) := Lib.hid fun w' hb => ⟨(hva.below HBW.out).below hb, (hvr.below HBW.out).below hb⟩
  have HLO := Lib.hid hl.2
  have HXO := Lib.hid hxo
  have HEND : Hid (∀ w', Below W.heap.size W w' → Below w.heap.size w w') := Lib.hid fun w' hb => HBW.out.trans (hb.mono HBW.out.size)
  clear hv hva hvr hBlk hl hxo
  go_enter Try.func4, Try.ntmps4
  go_wp2_with fail
  rw [← hW]
  clear hW
  refine (alive11_any W).mono ?_
  intro e w2 hal
  obtain ⟨rfl, b2⟩ := hal
  obtain ⟨c0, c1, c2, c3, c4⟩ := HC.out w2 b2
  have HB2 := Lib.hid b2
  clear b2
  go_wp2_with fail
  refine (HG.out w2 HB2.out).mono ?_
  rintro e w3 ⟨B, rfl, hgb, b3⟩
  have HB3 := Lib.hid (HB2.out.trans (b3.mono HB2.out.size))
  clear b3 c0 c1 c2 c3 c4
  cases B with
  | true =>
    go_wp2_with fail
    refine (alive11_any w3).mono ?_
    intro e w4 hal
    obtain ⟨rfl, b4⟩ := hal
    have HB4 := Lib.hid (HB3.out.trans (b4.mono HB3.out.size))
    clear b4
    go_wp2
    go_ret
    exact ⟨rfl, HEND.out _ HB4.out⟩
  | false =>
    obtain ⟨hs1, hs2⟩ := hgb.out rfl
    have hln : ln ≤ 300 := by rw [HLN.out]; omega
    have han : an ≤ 300 := by rw [HAN.out]; omega
    have hrn : rn ≤ 300 := by rw [HRN.out]; omega
    obtain ⟨c0, c1, c2, c3, c4⟩ := HC.out w3 HB3.out
    have HDO := Lib.hid (do_n w3 (.slice la ln lc) (.agg #[.slice aa an ac, .slice ra rn rc, .int .u32 x.jo, .int .u32 x.nx, .int .u64 x.sq]) l x (HV.out w3 HB3.out).1 (HV.out w3 HB3.out).2 (by omega) (by omega) (by omega) HLO.out (px_small HXO.out))
    go_wp2_with fail
    refine HDO.out.mono ?_
    rintro e w5 ⟨r, q, n, a, c, rfl, HN, HQ, HD, HR, hc, hm, HK, HL, b5⟩
    have HB5 := Lib.hid (HB3.out.trans (b5.mono HB3.out.size))
    have hn600 : n ≤ 600 := by have := HL.out; omega
    clear b5 HDO c0 c1 c2 c3 c4 HG HB2 HB3
    rcases HQ with rfl | rfl
    case inr =>
      have hr0 : n = 0 := by rw [HN.out, (doR_bad HD.out (by omega)).2.1]; rfl
      subst hr0
      go_wp2
      go_ret
      exact ⟨rfl, HEND.out _ HB5.out⟩
    have HORD := Lib.hid (fun k hk => order_lt HD.out rfl k hk)
    have HIN := Lib.hid (fun f hf => order_in HD.out rfl f hf)
    have HLEN := Lib.hid (order_len HD.out rfl)
    go_upto_region 7 with (fail)
    go_loopw [7] (fun i wr => ∃ k : Nat, k + 1 ≤ max n 1 ∧ i = .int .i64 ((k : Int) + 1) ∧ Below W.heap.size W wr ∧ Below w5.heap.size w5 wr) (fun i _ => n - (intOf i).toNat)
    case atStart => exact ⟨0, by omega, rfl, HB5.out, Below.refl _ _⟩
    case round =>
      obtain ⟨k, hk, rfl, bel, bel5⟩ := hrel
      have HBR := Lib.hid bel
      have HBR5 := Lib.hid bel5
      clear bel bel5
      by_cases hlt : k + 1 < n
      · have hkl : k + 1 < r.length := by rw [← HN.out]; exact hlt
        have HRr := Lib.hid (HR.out.below HBR5.out)
        obtain ⟨b, off, hsl, p0, p1, _, _⟩ := rdF_at HRr.out k (by omega)
        obtain ⟨b', off', hsl', q0, q1, _, _⟩ := rdF_at HRr.out (k + 1) hkl
        subst hsl
        simp only [Option.some.injEq, Addr.mk.injEq, and_true] at hsl'
        obtain ⟨rfl, rfl⟩ := hsl'
        have hord := HORD.out k hkl
        obtain ⟨f, hf⟩ : ∃ f, f = r[k] := ⟨_, rfl⟩
        obtain ⟨g, hg⟩ : ∃ f, f = r[k + 1] := ⟨_, rfl⟩
        rw [← hf] at p0 p1 hord
        rw [← hg] at q0 q1 hord
        clear hf hg
        obtain ⟨fn, fl, fa, fb⟩ := f
        obtain ⟨gn, gl, ga, gb⟩ := g
        unfold ltF at hord
        simp only at p0 p1 q0 q1 hord
        have h1 : decide (fl > gl) = false := by simp; omega
        rcases hord with hord | ⟨hord, hor2⟩
        · have h2 : (fl == gl) = false := by simp; omega
          clear hord
          go_upto_region 9 with (fail)
          go_quiet (fail)
          have HBQ := Lib.hid (HBR.out.trans ((drewN_below wr nq).mono HBR.out.size))
          have HBQ5 := Lib.hid (HBR5.out.trans ((drewN_below wr nq).mono HBR5.out.size))
          go_wp2_with fail
          go_roundw
          case rel => exact ⟨k + 1, by omega, by go_num, HBQ.out, HBQ5.out⟩
          case measure => simp [intOf]; omega
        · subst hord
          have h3 : decide (fn ≥ gn) = false := by simp; omega
          have h3' : ¬ (gn ≤ fn) := by omega
          clear hor2
          go_upto_region 9 with (fail)
          go_quiet (fail)
          have HBQ := Lib.hid (HBR.out.trans ((drewN_below wr nq).mono HBR.out.size))
          have HBQ5 := Lib.hid (HBR5.out.trans ((drewN_below wr nq).mono HBR5.out.size))
          go_wp2_with fail
          go_roundw
          case rel => exact ⟨k + 1, by omega, by go_num, HBQ.out, HBQ5.out⟩
          case measure => simp [intOf]; omega
      · skip
        go_upto_region 13 with (fail)
        go_loopw [8, 9] (fun nn i wr => ∃ k : Nat, k ≤ ln ∧ i = .int .i64 k ∧ (∃ m : Nat, nn = .int .i64 m ∧ Hid (m = (keepF x.rem (l.take k)).length)) ∧ Below W.heap.size W wr ∧ Below w5.heap.size w5 wr) (fun _ i _ => ln - (intOf i).toNat)
        case atStart => exact ⟨0, Nat.zero_le _, rfl, ⟨0, rfl, rfl⟩, HBR.out, HBR5.out⟩
        case round =>
          clear HBR HBR5
          rename_i wold
          obtain ⟨k, hk, rfl, ⟨m, rfl, hmk⟩, bel, bel5⟩ := hrel
          have HBR := Lib.hid bel
          have HBR5 := Lib.hid bel5
          clear bel bel5
          by_cases hlt : k < ln
          · have hkl : k < l.length := by rw [← HLN.out]; exact hlt
            obtain ⟨lb, loff, hsl, p0, p1, p2, p3⟩ := rdF_at (HV.out wr HBR.out).1 k hkl
            subst hsl
            have hkt := keep_take (rem := x.rem) k hkl
            have hm3 : m ≤ k := by
              rw [hmk.out]
              exact Nat.le_trans (List.length_filter_le _ _) (by rw [List.length_take]; omega)
            have hw1 : wrap64 ((m : Int) + 1) = (m : Int) + 1 := by unfold wrap64; omega
            have HKT := Lib.hid hkt
            have HFM : Hid (l[k] ∈ l) := Lib.hid (List.getElem_mem hkl)
            clear hkt
            obtain ⟨f, hf⟩ : ∃ f, f = l[k] := ⟨_, rfl⟩
            rw [← hf] at p0 p1 p2 p3 HKT HFM
            clear hf
            have HPP : Hid (∀ w', Below wr.heap.size wr w' → w'.cell? ⟨lb, loff + k * 4, none⟩ = some (.int .u32 f.n) ∧ w'.cell? ⟨lb, loff + k * 4 + 1, none⟩ = some (.int .i64 f.lv) ∧ w'.cell? ⟨lb, loff + k * 4 + 2, none⟩ = some (.string f.a) ∧ w'.cell? ⟨lb, loff + k * 4 + 3, none⟩ = some (.string f.b)) := Lib.hid fun w' hb => ⟨Below.keeps hb _ _ _ p0, Below.keeps hb _ _ _ p1, Below.keeps hb _ _ _ p2, Below.keeps hb _ _ _ p3⟩
            clear p0 p1 p2 p3
            obtain ⟨wo, hwo⟩ := the_world HBR.out
            subst hwo
            go_upto_region 17 with (fail)
            go_loopw [10, 11] (fun gn i wq => ∃ j : Nat, j ≤ rn ∧ i = .int .i64 j ∧ (∃ G : Bool, gn = .bool G ∧ Hid (G = decide (f.n ∈ x.rem.take j))) ∧ Below wo.heap.size wo wq) (fun _ i _ => rn - (intOf i).toNat)
            case atStart => exact ⟨0, Nat.zero_le _, rfl, ⟨false, rfl, Lib.hid (by simp)⟩, Below.refl _ _⟩
            case round =>
              obtain ⟨j, hj, rfl, ⟨G, rfl, hG⟩, belq⟩ := hrel
              have HBJ := Lib.hid belq
              have HBJW := Lib.hid (HBR.out.trans (belq.mono HBR.out.size))
              clear belq
              by_cases hjl : j < rn
              · have hjr : j < x.rem.length := by rw [← HRN.out]; exact hjl
                obtain ⟨c0, c1, c2, c3, c4⟩ := HC.out wr HBJW.out
                clear c0 c2 c3 c4
                obtain ⟨rb, roff, hsr, t0⟩ := rdU_at (HVA.out wr HBJW.out).2 j hjr
                subst hsr
                obtain ⟨p0, p1, p2, p3⟩ := HPP.out wr HBJ.out
                clear p1 p2 p3
                have HTK := Lib.hid (List.take_succ_eq_append_getElem hjr)
                obtain ⟨z, hz⟩ : ∃ z, z = x.rem[j] := ⟨_, rfl⟩
                rw [← hz] at t0 HTK
                clear hz
                have HGN : Hid ((G || decide (z = f.n)) = decide (f.n ∈ x.rem.take (j + 1))) := Lib.hid (by
                  rw [HTK.out, hG.out]
                  have h3 : (f.n = z) ↔ (z = f.n) := eq_comm
                  by_cases h1 : f.n ∈ x.rem.take j <;> by_cases h2 : z = f.n <;> simp only [List.mem_append, List.mem_singleton, h1, h3, h2] <;> rfl)
                cases G with
                | true =>
                  go_upto_region 19 with (fail)
                  go_quiet (fail)
                  have HBQ := Lib.hid (HBJ.out.trans ((drewN_below wr nq).mono HBJ.out.size))
                  go_wp2_with fail
                  go_roundw
                  case rel => exact ⟨j + 1, by omega, by go_num, ⟨true, rfl, Lib.hid (by have := HGN.out; simpa using this)⟩, HBQ.out⟩
                  case measure => simp [intOf]; omega
                | false =>
                  by_cases hzf : z = f.n
                  · have hd : ((z : Int) == (f.n : Int)) = true := by simp; omega
                    have HZF := Lib.hid hzf
                    clear hzf
                    go_upto_region 19 with (fail)
                    go_quiet (fail)
                    have HBQ := Lib.hid (HBJ.out.trans ((drewN_below wr nq).mono HBJ.out.size))
                    go_wp2_with fail
                    go_roundw
                    case rel => exact ⟨j + 1, by omega, by go_num, ⟨true, rfl, Lib.hid (by have := HGN.out; rw [HZF.out] at this; simpa using this)⟩, HBQ.out⟩
                    case measure => simp [intOf]; omega
                  · have hd : ((z : Int) == (f.n : Int)) = false := by simp; omega
                    have HZF := Lib.hid hzf
                    clear hzf
                    go_upto_region 19 with (fail)
                    go_quiet (fail)
                    have HBQ := Lib.hid (HBJ.out.trans ((drewN_below wr nq).mono HBJ.out.size))
                    go_wp2_with fail
                    go_roundw
                    case rel => exact ⟨j + 1, by omega, by go_num, ⟨false, rfl, Lib.hid (by have := HGN.out; simpa [HZF.out] using this)⟩, HBQ.out⟩
                    case measure => simp [intOf]; omega
              · have hjn : j = rn := by omega
                obtain ⟨c0, c1, c2, c3, c4⟩ := HC.out wr HBJW.out
                clear c0 c2 c3 c4
                have hgg : G = decide (f.n ∈ x.rem) := by
                  rw [hG.out, hjn, HRN.out, List.take_length]
                have HGG := Lib.hid hgg
                clear hgg hG
                obtain ⟨p0, p1, p2, p3⟩ := HPP.out wr HBJ.out
                have HBJ5 := Lib.hid (HBR5.out.trans (HBJ.out.mono HBR5.out.size))
                cases G with
                | true =>
                  go_wp2_with fail
                  go_roundw
                  case rel => exact ⟨k + 1, by omega, by go_num, ⟨m, rfl, Lib.hid (by rw [HKT.out, ← hmk.out, if_pos (of_decide_eq_true HGG.out.symm)]; rfl)⟩, HBJW.out, HBJ5.out⟩
                  case measure => simp [intOf]; omega
                | false =>
                  have HI := Lib.hid (in_any wr (.slice a n c) r f (HR.out.below HBJ5.out))
                  have hin : inF r f = true := (inF_iff _ _).2 (HIN.out f (.inl ⟨HFM.out, of_decide_eq_false HGG.out.symm⟩))
                  rw [hin] at HI
                  clear hin
                  go_wp2_with fail
                  refine HI.out.mono ?_
                  rintro e w9 ⟨rfl, b9⟩
                  have HB9 := Lib.hid (HBJW.out.trans (b9.mono HBJW.out.size))
                  have HB95 := Lib.hid (HBJ5.out.trans (b9.mono HBJ5.out.size))
                  clear b9
                  go_wp2_with fail
                  go_roundw
                  case rel => exact ⟨k + 1, by omega, by go_num, ⟨m + 1, by first | rfl | go_num, Lib.hid (by rw [HKT.out, ← hmk.out, if_neg (of_decide_eq_false HGG.out.symm)])⟩, HB9.out, HB95.out⟩
                  case measure => simp [intOf]; omega
          · have hkn : k = ln := by omega
            have hm2 : m = (keepF x.rem l).length := by rw [hmk.out, hkn, HLN.out, List.take_length]
            have HM2 := Lib.hid hm2
            clear hm2 hmk
            subst hkn
            obtain ⟨wo, hwo⟩ := the_world HBR.out
            subst hwo
            go_upto_region 25 with (fail)
            go_loopw [12] (fun i wr => ∃ j : Nat, j ≤ an ∧ i = .int .i64 j ∧ Below W.heap.size W wr ∧ Below w5.heap.size w5 wr) (fun i _ => an - (intOf i).toNat)
            case atStart => exact ⟨0, Nat.zero_le _, rfl, HBR.out, HBR5.out⟩
            case round =>
              obtain ⟨j, hj, rfl, belq, belq5⟩ := hrel
              have HBJ := Lib.hid belq
              have HBJ5 := Lib.hid belq5
              clear belq belq5
              obtain ⟨c0, c1, c2, c3, c4⟩ := HC.out wr HBJ.out
              clear c1 c2 c3 c4
              by_cases hjl : j < an
              · have hja : j < x.add.length := by rw [← HAN.out]; exact hjl
                obtain ⟨ab, aoff, hsl, p0, p1, p2, p3⟩ := rdF_at (HVA.out wr HBJ.out).1 j hja
                subst hsl
                have HI := Lib.hid (in_any wr (.slice a n c) r x.add[j] (HR.out.below HBJ5.out))
                have hin : inF r x.add[j] = true := (inF_iff _ _).2 (HIN.out _ (.inr (List.getElem_mem hja)))
                rw [hin] at HI
                obtain ⟨f, hf⟩ : ∃ f, f = x.add[j] := ⟨_, rfl⟩
                rw [← hf] at p0 p1 p2 p3 HI
                clear hf hin
                go_wp2_with fail
                refine HI.out.mono ?_
                rintro e w9 ⟨rfl, b9⟩
                have HB9 := Lib.hid (HBJ.out.trans (b9.mono HBJ.out.size))
                have HB95 := Lib.hid (HBJ5.out.trans (b9.mono HBJ5.out.size))
                clear b9
                go_wp2_with fail
                go_roundw
                case rel => exact ⟨j + 1, by omega, by go_num, HB9.out, HB95.out⟩
                case measure => simp [intOf]; omega
              · have hz : n = m + an := by rw [HN.out, HLEN.out, HM2.out, HAN.out]
                have hw : wrap64 ((m : Int) + (an : Int)) = n := by unfold wrap64; omega
                clear hz
                go_wp2
                go_ret
                exact ⟨rfl, HEND.out _ HBJ.out⟩
end Go.Proofs.Ytmonmfamnbfhcaa

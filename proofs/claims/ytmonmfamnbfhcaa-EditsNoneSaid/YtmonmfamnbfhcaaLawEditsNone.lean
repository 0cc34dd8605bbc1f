/- Walk of law11.EditsNone. The conditions: as the law itself asks. -/
import Derived.Test.YtmonmfamnbfhcaaFlR
import Derived.Deep.Cut
namespace Go.Proofs.Ytmonmfamnbfhcaa
open Go.RowKit


theorem none_again {l add r r' : List PF} {rem : List Nat} {q q' : Nat} (h : DoR l add rem r q) (hq : q = 0) (h' : DoR r [] [] r' q') : q' = 0 ∧ r' = r := by
  obtain ⟨⟨a1, a2, a3, a4, a5, a6⟩, hp, hs⟩ := doR_ok h hq
  have hn : (nums r).Nodup := (hp.map PF.n).nodup_iff.2 a6
  have hm : r.all mayF = true := fine_perm hp (fine_app (fine_keep a1) a2)
  obtain ⟨h0, h1, h2⟩ := doR_is h' ⟨hm, rfl, hn, List.nodup_nil, by simp, by rw [keepF_nil, List.append_nil]; exact hn⟩
  rw [keepF_nil, List.append_nil] at h1
  exact ⟨h0, sorted_one h2 hs h1⟩
theorem none_first {l add r r' : List PF} {rem : List Nat} {q q' : Nat} (h : DoR l add rem r q) (hq : q = 0) (h' : DoR l [] [] r' q') : q' = 0 := (doR_is h' (can_none (doR_ok h hq).1)).1
theorem none_perm {l r : List PF} {q : Nat} (h : DoR l [] [] r q) (hq : q = 0) : r.Perm l := by
  have := (doR_ok h hq).2.1
  rwa [keepF_nil, List.append_nil] at this
set_option maxRecDepth 100000 in
set_option maxHeartbeats 1000000 in
theorem editsNone_walk (w : World) (v : Value) (l : List PF) (vx : Value) (x : PX) (hv : RdF w v l) (hl : l.length ≤ 2932031007402 ∧ ∀ f ∈ l, f.ok) (hx : RdX w vx x) (hxo : x.ok) :
    Calls Try.prog 8 #[v, vx] w fun e w' => e = .returned (.bool true) ∧ Below w.heap.size w w' := by
  obtain ⟨va, vr, rfl, hva, hvr⟩ := hx
  obtain ⟨la, ln, lc, rfl, HLN, hlc, hlm⟩ := rdF_sl hv
  obtain ⟨aa, an, ac, rfl, HAN, hac, ham⟩ := rdF_sl hva
  obtain ⟨ra, rn, rc, rfl, HRN, hrc, hrm⟩ := rdU_sl hvr
  obtain ⟨W, hW⟩ : ∃ W, W = w.alloc (.cells #[.slice aa an ac, .slice ra rn rc, .int .u32 x.jo, .int .u32 x.nx, .int .u64 x.sq] 27) := ⟨_, rfl⟩
  have hBlk : Blk W w.heap.size #[.slice aa an ac, .slice ra rn rc, .int .u32 x.jo, .int .u32 x.nx, .int .u64 x.sq] 27 := by rw [hW]; exact Blk.new _ _ _
  have HBW : Hid (Below w.heap.size w W) := Lib.hid (by rw [hW]; exact alloc_bel _ _)
  have HC : Hid (∀ w', Below W.heap.size W w' → w'.cell? ⟨w.heap.size, 0, none⟩ = some (.slice aa an ac) ∧ w'.cell? ⟨w.heap.size, 1, none⟩ = some (.slice ra rn rc) ∧ w'.cell? ⟨w.heap.size, 2, none⟩ = some (.int .u32 x.jo) ∧ w'.cell? ⟨w.heap.size, 3, none⟩ = some (.int .u32 x.nx) ∧ w'.cell? ⟨w.heap.size, 4, none⟩ = some (.int .u64 x.sq)) := Lib.hid fun w' hb => ⟨Below.keeps hb _ _ _ (hBlk.cell 0), Below.keeps hb _ _ _ (hBlk.cell 1), Below.keeps hb _ _ _ (hBlk.cell 2), Below.keeps hb _ _ _ (hBlk.cell 3), Below.keeps hb _ _ _ (hBlk.cell 4)⟩
  have HV : Hid (∀ w', Below W.heap.size W w' → RdF w' (.slice la ln lc) l ∧ RdX w' (.agg #[.slice aa an ac, .slice ra rn rc, .int .u32 x.jo, .int .u32 x.nx, .int .u64 x.sq]) x) := Lib.hid fun w' hb => ⟨(hv.below HBW.out).below hb, ⟨_, _, rfl, (hva.below HBW.out).below hb, (hvr.below HBW.out).below hb⟩⟩
  have HG : Hid (∀ w', Below W.heap.size W w' → Calls Try.prog 11 #[.slice la ln lc, (.agg #[.slice aa an ac, .slice ra rn rc, .int .u32 x.jo, .int .u32 x.nx, .int .u64 x.sq])] w' fun e w'' => ∃ b, e = .returned (.bool b) ∧ Hid (b = false → l.length + x.add.length + x.rem.length ≤ 300 ∧ filesLen l + filesLen x.add ≤ 20000) ∧ Below w'.heap.size w' w'') := Lib.hid fun w' hb => great_any w' _ _ l x (HV.out w' hb).1 (HV.out w' hb).2 hl hxo
  have HLO := Lib.hid hl.2
  have HXO := Lib.hid hxo
  have HEND : Hid (∀ w', Below W.heap.size W w' → Below w.heap.size w w') := Lib.hid fun w' hb => HBW.out.trans (hb.mono HBW.out.size)
  clear hv hva hvr hBlk hl hxo
  go_enter Try.func8, Try.ntmps8
  go_wp2_with fail
  rw [← hW]
  clear hW
  refine (alive11_any W).mono ?_
  intro e w2 hal
  obtain ⟨rfl, b2⟩ := hal
  obtain ⟨c0, c1, c2, c3, c4⟩ := HC.out w2 b2
  have HB2 := Lib.hid b2
  clear b2
  go_wp2_with fail
  refine (HG.out w2 HB2.out).mono ?_
  rintro e w3 ⟨B, rfl, hgb, b3⟩
  have HB3 := Lib.hid (HB2.out.trans (b3.mono HB2.out.size))
  clear b3 c0 c1 c2 c3 c4
  cases B with
  | true =>
    go_wp2_with fail
    refine (alive11_any w3).mono ?_
    intro e w4 hal
    obtain ⟨rfl, b4⟩ := hal
    have HB4 := Lib.hid (HB3.out.trans (b4.mono HB3.out.size))
    clear b4
    go_wp2
    go_ret
    exact ⟨rfl, HEND.out _ HB4.out⟩
  | false =>
    obtain ⟨hs1, hs2⟩ := hgb.out rfl
    have hln : ln ≤ 300 := by rw [HLN.out]; omega
    obtain ⟨V, hVd⟩ : ∃ V, V = w3.alloc (.cells #[.slice none 0 0, .slice none 0 0, .int .u32 x.jo, .int .u32 x.nx, .int .u64 x.sq] 27) := ⟨_, rfl⟩
    have hBV : Blk V w3.heap.size #[.slice none 0 0, .slice none 0 0, .int .u32 x.jo, .int .u32 x.nx, .int .u64 x.sq] 27 := by rw [hVd]; exact Blk.new _ _ _
    have HBV : Hid (Below W.heap.size W V) := Lib.hid (by rw [hVd]; exact HB3.out.trans ((alloc_bel w3 _).mono HB3.out.size))
    have HCC : Hid (∀ w', Below V.heap.size V w' → w'.cell? ⟨w.heap.size, 0, none⟩ = some (.slice aa an ac) ∧ w'.cell? ⟨w.heap.size, 1, none⟩ = some (.slice ra rn rc) ∧ w'.cell? ⟨w.heap.size, 2, none⟩ = some (.int .u32 x.jo) ∧ w'.cell? ⟨w.heap.size, 3, none⟩ = some (.int .u32 x.nx) ∧ w'.cell? ⟨w.heap.size, 4, none⟩ = some (.int .u64 x.sq) ∧ w'.cell? ⟨w3.heap.size, 0, none⟩ = some (.slice none 0 0) ∧ w'.cell? ⟨w3.heap.size, 1, none⟩ = some (.slice none 0 0) ∧ w'.cell? ⟨w3.heap.size, 2, none⟩ = some (.int .u32 x.jo) ∧ w'.cell? ⟨w3.heap.size, 3, none⟩ = some (.int .u32 x.nx) ∧ w'.cell? ⟨w3.heap.size, 4, none⟩ = some (.int .u64 x.sq)) := Lib.hid fun w' hb => by
      obtain ⟨p0, p1, p2, p3, p4⟩ := HC.out w' (HBV.out.trans (hb.mono HBV.out.size))
      exact ⟨p0, p1, p2, p3, p4, Below.keeps hb _ _ _ (hBV.cell 0), Below.keeps hb _ _ _ (hBV.cell 1), Below.keeps hb _ _ _ (hBV.cell 2), Below.keeps hb _ _ _ (hBV.cell 3), Below.keeps hb _ _ _ (hBV.cell 4)⟩
    have HVV : Hid (∀ w', Below V.heap.size V w' → RdF w' (.slice la ln lc) l ∧ RdX w' (.agg #[.slice aa an ac, .slice ra rn rc, .int .u32 x.jo, .int .u32 x.nx, .int .u64 x.sq]) x ∧ RdX w' (.agg #[.slice none 0 0, .slice none 0 0, .int .u32 x.jo, .int .u32 x.nx, .int .u64 x.sq]) ⟨[], [], x.jo, x.nx, x.sq⟩) := Lib.hid fun w' hb => by
      obtain ⟨p0, p1⟩ := HV.out w' (HBV.out.trans (hb.mono HBV.out.size))
      exact ⟨p0, p1, ⟨_, _, rfl, RdF.nil _, RdU.nil _⟩⟩
    have HEV : Hid (∀ w', Below V.heap.size V w' → Below w.heap.size w w') := Lib.hid fun w' hb => HEND.out w' (HBV.out.trans (hb.mono HBV.out.size))
    have HB4 : Hid (Below V.heap.size V V) := Lib.hid (Below.refl _ _)
    obtain ⟨c0, c1, c2, c3, c4⟩ := HC.out w3 HB3.out
    go_upto_region 4 with (fail)
    rw [← hVd]
    clear hVd hBV c0 c1 c2 c3 c4 HG HC HV HB2 HB3
    obtain ⟨c0, c1, c2, c3, c4, d0, d1, d2, d3, d4⟩ := HCC.out V HB4.out
    have HDO5 := Lib.hid (do_n V (.slice la ln lc) (.agg #[.slice none 0 0, .slice none 0 0, .int .u32 x.jo, .int .u32 x.nx, .int .u64 x.sq]) l ⟨[], [], x.jo, x.nx, x.sq⟩ (HVV.out V HB4.out).1 (HVV.out V HB4.out).2.2 (by omega) (by simp) (by simp) HLO.out (fun f hf => by cases hf))
    go_wp2_with fail
    refine HDO5.out.mono ?_
    rintro e w5 ⟨r1, q1, n1, a1, k1, rfl, HN5, HQ5, HD5, HR5, hc5, hm5, HK5, HL5, b5⟩
    have HB5 := Lib.hid (HB4.out.trans (b5.mono HB4.out.size))
    clear b5 HDO5 c0 c1 c2 c3 c4 d0 d1 d2 d3 d4
    obtain ⟨c0, c1, c2, c3, c4, d0, d1, d2, d3, d4⟩ := HCC.out w5 HB5.out
    have HDO6 := Lib.hid (do_n w5 (.slice la ln lc) (.agg #[.slice aa an ac, .slice ra rn rc, .int .u32 x.jo, .int .u32 x.nx, .int .u64 x.sq]) l x (HVV.out w5 HB5.out).1 (HVV.out w5 HB5.out).2.1 (by omega) (by omega) (by omega) HLO.out (px_small HXO.out))
    go_wp2_with fail
    refine HDO6.out.mono ?_
    rintro e w6 ⟨r2, q2, n2, a2, k2, rfl, HN6, HQ6, HD6, HR6, hc6, hm6, HK6, HL6, b6⟩
    have HB6 := Lib.hid (HB5.out.trans (b6.mono HB5.out.size))
    have HR5' := Lib.hid (HR5.out.below b6)
    clear b6 HDO6 c0 c1 c2 c3 c4 d0 d1 d2 d3 d4
    obtain ⟨c0, c1, c2, c3, c4, d0, d1, d2, d3, d4⟩ := HCC.out w6 HB6.out
    have HDO7 := Lib.hid (do_n w6 (.slice a1 n1 k1) (.agg #[.slice none 0 0, .slice none 0 0, .int .u32 x.jo, .int .u32 x.nx, .int .u64 x.sq]) r1 ⟨[], [], x.jo, x.nx, x.sq⟩ HR5'.out (HVV.out w6 HB6.out).2.2 (by have := HN5.out; have := HL5.out; simp only [List.length_nil] at this; omega) (by simp) (by simp) HK5.out (fun f hf => by cases hf))
    go_wp2_with fail
    refine HDO7.out.mono ?_
    rintro e w7 ⟨r3, q3, n3, a3, k3, rfl, HN7, HQ7, HD7, HR7, hc7, hm7, HK7, HL7, b7⟩
    have HB7 := Lib.hid (HB6.out.trans (b7.mono HB6.out.size))
    have HR6' := Lib.hid (HR6.out.below b7)
    have HR5'' := Lib.hid (HR5'.out.below b7)
    clear b7 HDO7 c0 c1 c2 c3 c4 d0 d1 d2 d3 d4
    obtain ⟨c0, c1, c2, c3, c4, d0, d1, d2, d3, d4⟩ := HCC.out w7 HB7.out
    have HDO8 := Lib.hid (do_n w7 (.slice a2 n2 k2) (.agg #[.slice none 0 0, .slice none 0 0, .int .u32 x.jo, .int .u32 x.nx, .int .u64 x.sq]) r2 ⟨[], [], x.jo, x.nx, x.sq⟩ HR6'.out (HVV.out w7 HB7.out).2.2 (by have := HN6.out; have := HL6.out; omega) (by simp) (by simp) HK6.out (fun f hf => by cases hf))
    go_wp2_with fail
    refine HDO8.out.mono ?_
    rintro e w8 ⟨r4, q4, n4, a4, k4, rfl, HN8, HQ8, HD8, HR8, hc8, hm8, HK8, HL8, b8⟩
    have HB8 := Lib.hid (HB7.out.trans (b8.mono HB7.out.size))
    have HRA := Lib.hid (HR5''.out.below b8)
    have HRB := Lib.hid (HR6'.out.below b8)
    have HRC := Lib.hid (HR7.out.below b8)
    clear b8 HDO8 c0 c1 c2 c3 c4 d0 d1 d2 d3 d4
    have P1 := fun h2 => none_first HD6.out h2 HD5.out
    have P3 := fun h1 => none_again HD5.out h1 HD7.out
    have P4 := fun h2 => none_again HD6.out h2 HD8.out
    have HP := Lib.hid (fun h1 => none_perm HD5.out h1)
    have HP1 := Lib.hid P1
    have HP3 := Lib.hid P3
    have HP4 := Lib.hid P4
    clear P1 P3 P4 HD5 HD6 HD7 HD8 HR5 HR5' HR5'' HR6 HR6' HR7
    rcases HQ5 with rfl | rfl
    · obtain ⟨rfl, rfl⟩ := HP3.out rfl
      have hp := HP.out rfl
      have HPM := Lib.hid hp
      have en : n1 = ln := by rw [HN5.out, HLN.out]; exact hp.length_eq
      subst en
      clear hp HP HP3
      go_upto_region 10 with (fail)
      go_loopw [14] (fun i wr => ∃ k : Nat, k ≤ n1 ∧ i = .int .i64 k ∧ Below w8.heap.size w8 wr) (fun i _ => n1 - (intOf i).toNat)
      case atStart => exact ⟨0, Nat.zero_le _, rfl, Below.refl _ _⟩
      case round =>
        obtain ⟨k, hk, rfl, bel⟩ := hrel
        have HBR := Lib.hid bel
        have HBW8 := Lib.hid (HB8.out.trans (bel.mono HB8.out.size))
        clear bel
        by_cases hlt : k < n1
        · have hkl : k < l.length := by rw [← HLN.out]; exact hlt
          obtain ⟨b, off, hsl, d0, d1, d2, d3⟩ := rdF_at (HVV.out wr HBW8.out).1 k hkl
          subst hsl
          have HI := Lib.hid (in_any wr (.slice a1 n1 k1) r3 l[k] (HRA.out.below HBR.out))
          have hin : inF r3 l[k] = true := (inF_iff _ _).2 (HPM.out.mem_iff.2 (List.getElem_mem hkl))
          rw [hin] at HI
          obtain ⟨f, hf⟩ : ∃ f, f = l[k] := ⟨_, rfl⟩
          rw [← hf] at d0 d1 d2 d3 HI
          clear hf hin
          go_wp2_with fail
          refine HI.out.mono ?_
          rintro e w9 ⟨rfl, b9⟩
          have HB9 := Lib.hid (HBR.out.trans (b9.mono HBR.out.size))
          clear b9
          go_wp2_with fail
          go_roundw
          case rel => exact ⟨k + 1, by omega, by go_num, HB9.out⟩
          case measure => simp [intOf]; omega
        · have hkn : k = n1 := by omega
          subst hkn
          have HS1 := Lib.hid (sameF_any wr _ _ r3 (HRA.out.below HBR.out) (HRC.out.below HBR.out))
          rcases HQ6 with rfl | rfl
          · obtain ⟨rfl, rfl⟩ := HP4.out rfl
            go_wp2_with fail
            refine HS1.out.mono ?_
            rintro e w9 ⟨rfl, b9⟩
            have HB9 := Lib.hid (HBR.out.trans (b9.mono HBR.out.size))
            have HS2 := Lib.hid (sameF_any w9 _ _ r4 (HRB.out.below HB9.out) (HR8.out.below HB9.out))
            clear b9
            go_wp2_with fail
            refine HS2.out.mono ?_
            rintro e w10 ⟨rfl, b10⟩
            have HB10 := Lib.hid (HB9.out.trans (b10.mono HB9.out.size))
            clear b10
            go_wp2
            go_ret
            exact ⟨rfl, HEV.out _ (HB8.out.trans (HB10.out.mono HB8.out.size))⟩
          · go_wp2_with fail
            refine HS1.out.mono ?_
            rintro e w9 ⟨rfl, b9⟩
            have HB9 := Lib.hid (HBR.out.trans (b9.mono HBR.out.size))
            clear b9
            go_wp2
            go_ret
            exact ⟨rfl, HEV.out _ (HB8.out.trans (HB9.out.mono HB8.out.size))⟩
    · have h2 : q2 = 1 := by
        rcases HQ6 with h | h
        · have := HP1.out h
          omega
        · exact h
      subst h2
      go_wp2
      go_ret
      exact ⟨rfl, HEV.out _ HB8.out⟩
end Go.Proofs.Ytmonmfamnbfhcaa

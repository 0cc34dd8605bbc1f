/- Walk of law11.EditsParts. The conditions: as the law itself asks. -/
import Derived.Test.YtmonmfamnbfhcaaFlR
import Derived.Deep.Cut
import Derived.Test.YtmonmfamnbfhcaaFlT
namespace Go.Proofs.Ytmonmfamnbfhcaa
open Go.RowKit


theorem keep_len {l : List PF} {R : List Nat} (hn : (nums l).Nodup) (hr : R.Nodup) (hs : ∀ k ∈ R, k ∈ nums l) : (keepF R l).length + R.length = l.length := by
  have h1 : (l.filter fun f => decide (f.n ∈ R)).length = R.length := by
    have hp : (nums (l.filter fun f => decide (f.n ∈ R))).Perm R := by
      refine (List.perm_ext_iff_of_nodup (nodup_sub hn _) hr).2 fun k => ?_
      constructor
      · intro h
        obtain ⟨f, hf, rfl⟩ := List.mem_map.1 h
        simpa using (List.mem_filter.1 hf).2
      · intro h
        obtain ⟨f, hf, rfl⟩ := List.mem_map.1 (hs k h)
        exact nums_mem (List.mem_filter.2 ⟨hf, by simpa using h⟩)
    have := hp.length_eq
    unfold nums at this
    rwa [List.length_map] at this
  have h2 := (List.filter_append_perm (fun f : PF => decide (f.n ∉ R)) l).length_eq
  have h3 : (l.filter fun f => !decide (f.n ∉ R)) = l.filter fun f => decide (f.n ∈ R) := by
    congr 1; funext f; simp
  rw [List.length_append, h3] at h2
  unfold keepF
  omega
theorem parts_all {r1 add r2 : List PF} {rem : List Nat} {q : Nat} (h : DoR r1 add rem r2 q) (hq : q = 0) :
    r2.length ≤ ((r1 ++ add).filter (inF r2)).length ∧ r2.length + rem.length = r1.length + add.length := by
  obtain ⟨⟨a1, a2, a3, a4, a5, a6⟩, hp, hs⟩ := doR_ok h hq
  have hk := keep_len a3 a4 a5
  have hl : r2.length = (keepF rem r1).length + add.length := by rw [hp.length_eq, List.length_append]
  refine ⟨?_, by omega⟩
  have hsub : (keepF rem r1 ++ add).Sublist (r1 ++ add) := (List.filter_sublist).append_right _
  have h3 : (keepF rem r1 ++ add).filter (inF r2) = keepF rem r1 ++ add := by
    rw [List.filter_eq_self]
    intro f hf
    rw [inF_iff]
    exact hp.mem_iff.2 hf
  have h4 := (hsub.filter (inF r2)).length_le
  rw [h3, List.length_append] at h4
  omega
theorem filter_take {l : List PF} (p : PF → Bool) (k : Nat) (hk : k < l.length) : ((l.take (k + 1)).filter p).length = ((l.take k).filter p).length + if p l[k] then 1 else 0 := by
  rw [List.take_succ_eq_append_getElem hk, List.filter_append, List.length_append]
  by_cases h : p l[k] <;> simp [h]
set_option maxRecDepth 100000 in
set_option maxHeartbeats 1000000 in
theorem editsParts_walk (w : World) (v : Value) (l : List PF) (vx : Value) (x : PX) (vy : Value) (y : PX) (hv : RdF w v l) (hl : l.length ≤ 2932031007402 ∧ ∀ f ∈ l, f.ok) (hx : RdX w vx x) (hxo : x.ok) (hy : RdX w vy y) (hyo : y.ok) :
    Calls Try.prog 6 #[v, vx, vy] w fun e w' => e = .returned (.bool true) ∧ Below w.heap.size w w' := by
  obtain ⟨va, vr, rfl, hva, hvr⟩ := hx
  obtain ⟨la, ln, lc, rfl, HLN, hlc, hlm⟩ := rdF_sl hv
  obtain ⟨aa, an, ac, rfl, HAN, hac, ham⟩ := rdF_sl hva
  obtain ⟨ra, rn, rc, rfl, HRN, hrc, hrm⟩ := rdU_sl hvr
  obtain ⟨vb, vs, rfl, hvb, hvs⟩ := hy
  obtain ⟨ba, bn, bc, rfl, HBN, hbc, hbm⟩ := rdF_sl hvb
  obtain ⟨sa, sn, sc, rfl, HSN, hsc, hsm⟩ := rdU_sl hvs
  obtain ⟨W, hW⟩ : ∃ W, W = (w.alloc (.cells #[.slice aa an ac, .slice ra rn rc, .int .u32 x.jo, .int .u32 x.nx, .int .u64 x.sq] 27)).alloc (.cells #[.slice ba bn bc, .slice sa sn sc, .int .u32 y.jo, .int .u32 y.nx, .int .u64 y.sq] 27) := ⟨_, rfl⟩
  have hBlk : Blk W w.heap.size #[.slice aa an ac, .slice ra rn rc, .int .u32 x.jo, .int .u32 x.nx, .int .u64 x.sq] 27 := by rw [hW]; exact (Blk.new _ _ _).alloc _
  have hBlkY : Blk W (w.heap.size + 1) #[.slice ba bn bc, .slice sa sn sc, .int .u32 y.jo, .int .u32 y.nx, .int .u64 y.sq] 27 := by rw [hW]; exact Blk.new_at _ _ _ _ (by simp)
  have HBW : Hid (Below w.heap.size w W) := Lib.hid (by rw [hW]; exact (alloc_bel _ _).trans ((alloc_bel _ _).mono (alloc_bel _ _).size))
  have HC : Hid (∀ w', Below W.heap.size W w' → w'.cell? ⟨w.heap.size, 0, none⟩ = some (.slice aa an ac) ∧ w'.cell? ⟨w.heap.size, 1, none⟩ = some (.slice ra rn rc) ∧ w'.cell? ⟨w.heap.size, 2, none⟩ = some (.int .u32 x.jo) ∧ w'.cell? ⟨w.heap.size, 3, none⟩ = some (.int .u32 x.nx) ∧ w'.cell? ⟨w.heap.size, 4, none⟩ = some (.int .u64 x.sq)) := Lib.hid fun w' hb => ⟨Below.keeps hb _ _ _ (hBlk.cell 0), Below.keeps hb _ _ _ (hBlk.cell 1), Below.keeps hb _ _ _ (hBlk.cell 2), Below.keeps hb _ _ _ (hBlk.cell 3), Below.keeps hb _ _ _ (hBlk.cell 4)⟩
  have HCY : Hid (∀ w', Below W.heap.size W w' → w'.cell? ⟨w.heap.size + 1, 0, none⟩ = some (.slice ba bn bc) ∧ w'.cell? ⟨w.heap.size + 1, 1, none⟩ = some (.slice sa sn sc) ∧ w'.cell? ⟨w.heap.size + 1, 2, none⟩ = some (.int .u32 y.jo) ∧ w'.cell? ⟨w.heap.size + 1, 3, none⟩ = some (.int .u32 y.nx) ∧ w'.cell? ⟨w.heap.size + 1, 4, none⟩ = some (.int .u64 y.sq)) := Lib.hid fun w' hb => ⟨Below.keeps hb _ _ _ (hBlkY.cell 0), Below.keeps hb _ _ _ (hBlkY.cell 1), Below.keeps hb _ _ _ (hBlkY.cell 2), Below.keeps hb _ _ _ (hBlkY.cell 3), Below.keeps hb _ _ _ (hBlkY.cell 4)⟩
  have HV : Hid (∀ w', Below W.heap.size W w' → RdF w' (.slice la ln lc) l ∧ RdX w' (.agg #[.slice aa an ac, .slice ra rn rc, .int .u32 x.jo, .int .u32 x.nx, .int .u64 x.sq]) x ∧ RdX w' (.agg #[.slice ba bn bc, .slice sa sn sc, .int .u32 y.jo, .int .u32 y.nx, .int .u64 y.sq]) y) := Lib.hid fun w' hb => ⟨(hv.below HBW.out).below hb, ⟨_, _, rfl, (hva.below HBW.out).below hb, (hvr.below HBW.out).below hb⟩, ⟨_, _, rfl, (hvb.below HBW.out).below hb, (hvs.below HBW.out).below hb⟩⟩
  have HG : Hid (∀ w', Below W.heap.size W w' → Calls Try.prog 11 #[.slice la ln lc, (.agg #[.slice aa an ac, .slice ra rn rc, .int .u32 x.jo, .int .u32 x.nx, .int .u64 x.sq])] w' fun e w'' => ∃ b, e = .returned (.bool b) ∧ Hid (b = false → l.length + x.add.length + x.rem.length ≤ 300 ∧ filesLen l + filesLen x.add ≤ 20000) ∧ Below w'.heap.size w' w'') := Lib.hid fun w' hb => great_any w' _ _ l x (HV.out w' hb).1 (HV.out w' hb).2.1 hl hxo
  have HGY : Hid (∀ w', Below W.heap.size W w' → Calls Try.prog 11 #[.slice none 0 0, (.agg #[.slice ba bn bc, .slice sa sn sc, .int .u32 y.jo, .int .u32 y.nx, .int .u64 y.sq])] w' fun e w'' => ∃ b, e = .returned (.bool b) ∧ Hid (b = false → ([] : List PF).length + y.add.length + y.rem.length ≤ 300 ∧ filesLen [] + filesLen y.add ≤ 20000) ∧ Below w'.heap.size w' w'') := Lib.hid fun w' hb => great_any w' _ _ [] y (RdF.nil _) (HV.out w' hb).2.2 ⟨by simp, fun f hf => by cases hf⟩ hyo
  have HYO := Lib.hid hyo
  clear hvb hvs hBlkY hyo
  have HVA : Hid (∀ w', Below W.heap.size W w' → RdF w' (.slice aa an ac) x.add ∧ RdU w' (.slice ra rn rc) x.rem) := Lib.hid fun w' hb => ⟨(hva.below HBW.out).below hb, (hvr.below HBW.out).below hb⟩
  have HLO := Lib.hid hl.2
  have HXO := Lib.hid hxo
  have HEND : Hid (∀ w', Below W.heap.size W w' → Below w.heap.size w w') := Lib.hid fun w' hb => HBW.out.trans (hb.mono HBW.out.size)
  clear hv hva hvr hBlk hl hxo
  go_enter Try.func6, Try.ntmps6
  go_wp2_with fail
  rw [← hW]
  clear hW
  refine (alive11_any W).mono ?_
  intro e w2 hal
  obtain ⟨rfl, b2⟩ := hal
  obtain ⟨c0, c1, c2, c3, c4⟩ := HC.out w2 b2
  have HB2 := Lib.hid b2
  clear b2
  go_wp2_with fail
  refine (HG.out w2 HB2.out).mono ?_
  rintro e w3 ⟨B, rfl, hgb, b3⟩
  have HB3 := Lib.hid (HB2.out.trans (b3.mono HB2.out.size))
  clear b3 c0 c1 c2 c3 c4
  cases B with
  | true =>
    go_wp2_with fail
    refine (alive11_any w3).mono ?_
    intro e w4 hal
    obtain ⟨rfl, b4⟩ := hal
    have HB4 := Lib.hid (HB3.out.trans (b4.mono HB3.out.size))
    clear b4
    go_wp2
    go_ret
    exact ⟨rfl, HEND.out _ HB4.out⟩
  | false =>
    have HGB := Lib.hid (hgb.out rfl)
    clear hgb
    obtain ⟨c0, c1, c2, c3, c4⟩ := HCY.out w3 HB3.out
    go_wp2_with fail
    refine (HGY.out w3 HB3.out).mono ?_
    rintro e w4 ⟨B, rfl, hgy, b4⟩
    have HB4 := Lib.hid (HB3.out.trans (b4.mono HB3.out.size))
    clear b4 c0 c1 c2 c3 c4
    cases B with
    | true =>
      go_wp2_with fail
      refine (alive11_any w4).mono ?_
      intro e w5 hal
      obtain ⟨rfl, b5⟩ := hal
      have HB5 := Lib.hid (HB4.out.trans (b5.mono HB4.out.size))
      clear b5
      go_wp2
      go_ret
      exact ⟨rfl, HEND.out _ HB5.out⟩
    | false =>
      obtain ⟨hs1, hs2⟩ := HGB.out
      obtain ⟨hy1, hy2⟩ := hgy.out rfl
      have hln : l.length ≤ 300 := by omega
      have han : x.add.length ≤ 300 := by omega
      have hrn : x.rem.length ≤ 300 := by omega
      have hbn : y.add.length ≤ 300 := by simp only [List.length_nil] at hy1; omega
      have hsn : y.rem.length ≤ 300 := by simp only [List.length_nil] at hy1; omega
      have hbn' : bn ≤ 300 := by rw [HBN.out]; exact hbn
      have hsn' : sn ≤ 300 := by rw [HSN.out]; exact hsn
      clear hs1 hs2 hy1 hy2
      obtain ⟨c0, c1, c2, c3, c4⟩ := HC.out w4 HB4.out
      have HDO5 := Lib.hid (do_n w4 (.slice la ln lc) (.agg #[.slice aa an ac, .slice ra rn rc, .int .u32 x.jo, .int .u32 x.nx, .int .u64 x.sq]) l x (HV.out w4 HB4.out).1 (HV.out w4 HB4.out).2.1 (by omega) (by omega) (by omega) HLO.out (px_small HXO.out))
      go_wp2_with fail
      refine HDO5.out.mono ?_
      rintro e w5 ⟨r1, q1, n1, a1, k1, rfl, HN5, HQ5, HD5, HR5, hc5, hm5, HK5, HL5, b5⟩
      have HB5 := Lib.hid (HB4.out.trans (b5.mono HB4.out.size))
      clear b5 HDO5 c0 c1 c2 c3 c4
      have HLr1 : Hid (r1.length ≤ 600 ∧ n1 ≤ 600) := Lib.hid (by have h1 := HN5.out; have h2 := HL5.out; omega)
      obtain ⟨c0, c1, c2, c3, c4⟩ := HCY.out w5 HB5.out
      have HDO6 := Lib.hid (do_n w5 (.slice a1 n1 k1) (.agg #[.slice ba bn bc, .slice sa sn sc, .int .u32 y.jo, .int .u32 y.nx, .int .u64 y.sq]) r1 y HR5.out (HV.out w5 HB5.out).2.2 (by have := HLr1.out.1; omega) (by omega) (by omega) HK5.out (px_small HYO.out))
      go_wp2_with fail
      refine HDO6.out.mono ?_
      rintro e w6 ⟨r2, q2, n2, a2, k2, rfl, HN6, HQ6, HD6, HR6, hc6, hm6, HK6, HL6, b6⟩
      have HB6 := Lib.hid (HB5.out.trans (b6.mono HB5.out.size))
      have HR5' := Lib.hid (HR5.out.below b6)
      clear b6 HDO6 c0 c1 c2 c3 c4
      have HLr2 : Hid (n2 ≤ 900) := Lib.hid (by have h1 := HN6.out; have h2 := HL6.out; have := HLr1.out.1; omega)
      obtain ⟨V, hVd⟩ : ∃ V, V = w6.alloc (.cells #[.slice aa an ac, .slice ra rn rc, .int .u32 0, .int .u32 0, .int .u64 0] 27) := ⟨_, rfl⟩
      have hBV : Blk V w6.heap.size #[.slice aa an ac, .slice ra rn rc, .int .u32 0, .int .u32 0, .int .u64 0] 27 := by rw [hVd]; exact Blk.new _ _ _
      have HV6 : Hid (Below w6.heap.size w6 V) := Lib.hid (by rw [hVd]; exact alloc_bel _ _)
      have HB7 : Hid (Below W.heap.size W V) := Lib.hid (HB6.out.trans (HV6.out.mono HB6.out.size))
      have HCB : Hid (∀ w', Below V.heap.size V w' → w'.cell? ⟨w6.heap.size, 0, none⟩ = some (.slice aa an ac) ∧ w'.cell? ⟨w6.heap.size, 1, none⟩ = some (.slice ra rn rc) ∧ w'.cell? ⟨w6.heap.size, 2, none⟩ = some (.int .u32 0) ∧ w'.cell? ⟨w6.heap.size, 3, none⟩ = some (.int .u32 0) ∧ w'.cell? ⟨w6.heap.size, 4, none⟩ = some (.int .u64 0)) := Lib.hid fun w' hb => ⟨Below.keeps hb _ _ _ (hBV.cell 0), Below.keeps hb _ _ _ (hBV.cell 1), Below.keeps hb _ _ _ (hBV.cell 2), Below.keeps hb _ _ _ (hBV.cell 3), Below.keeps hb _ _ _ (hBV.cell 4)⟩
      obtain ⟨c0, c1, c2, c3, c4⟩ := HC.out w6 HB6.out
      clear c2 c3 c4
      go_upto_region 6 with (fail)
      rw [← hVd]
      clear hVd hBV c0 c1
      have HRa := Lib.hid (HR5'.out.below HV6.out)
      have HRb := Lib.hid (HR6.out.below HV6.out)
      clear HR5 HR5' HR6
      obtain ⟨c0, c1, c2, c3, c4⟩ := HCB.out V (Below.refl _ _)
      have HDO := Lib.hid (do_n V (.slice la ln lc) (.agg #[.slice aa an ac, .slice ra rn rc, .int .u32 0, .int .u32 0, .int .u64 0]) l ⟨x.add, x.rem, 0, 0, 0⟩ (HV.out V HB7.out).1 ⟨_, _, rfl, (HVA.out V HB7.out).1, (HVA.out V HB7.out).2⟩ (by omega) (by show x.add.length ≤ _; omega) (by show x.rem.length ≤ _; omega) HLO.out (show ∀ f ∈ x.add, f.ok from px_small HXO.out))
      go_wp2_with fail
      refine HDO.out.mono ?_
      rintro e w8 ⟨r3, q3, n3, a3, k3, rfl, HN8, HQ8, HD8, HR8, hc8, hm8, HK8, HL8, b8⟩
      have HB8 := Lib.hid (HB7.out.trans (b8.mono HB7.out.size))
      have HRa8 := Lib.hid (HRa.out.below b8)
      have HRb8 := Lib.hid (HRb.out.below b8)
      clear b8 HDO c0 c1 c2 c3 c4 HRa HRb
      obtain ⟨rfl, hrr⟩ := doR_one HD8.out HD5.out
      have HR8' := HR8
      rw [hrr] at HR8'
      clear hrr HQ8
      have HS := Lib.hid (sameF_any w8 _ _ r1 HRa8.out HR8'.out)
      have HPA := Lib.hid (fun h => parts_all HD6.out h)
      clear HR8 HD8 HN8 HL8 HK8
      rcases HQ5 with rfl | rfl
      case inr =>
        go_wp2_with fail
        refine HS.out.mono ?_
        rintro e w9 ⟨rfl, b9⟩
        have HB9 := Lib.hid (HB8.out.trans (b9.mono HB8.out.size))
        clear b9
        go_wp2
        go_ret
        exact ⟨rfl, HEND.out _ HB9.out⟩
      rcases HQ6 with rfl | rfl
      case inr =>
        go_wp2_with fail
        refine HS.out.mono ?_
        rintro e w9 ⟨rfl, b9⟩
        have HB9 := Lib.hid (HB8.out.trans (b9.mono HB8.out.size))
        clear b9
        go_wp2
        go_ret
        exact ⟨rfl, HEND.out _ HB9.out⟩
      obtain ⟨hpa1, hpa2⟩ := HPA.out rfl
      have HPL : Hid (n2 + sn = n1 + bn) := Lib.hid (by rw [HN6.out, HSN.out, HN5.out, HBN.out]; exact hpa2)
      have HPC := Lib.hid hpa1
      clear HPA hpa1 hpa2
      go_wp2_with fail
      refine HS.out.mono ?_
      rintro e w9 ⟨rfl, b9⟩
      have HB9 := Lib.hid (HB8.out.trans (b9.mono HB8.out.size))
      have HRa9 := Lib.hid (HRa8.out.below b9)
      have HRb9 := Lib.hid (HRb8.out.below b9)
      clear b9 HS HRa8 HRb8 HR8'
      go_upto_region 11 with (fail)
      have HSB : Hid (∀ w1' w2', Below w9.heap.size w9 w1' → Below w1'.heap.size w1' w2' → (w2'.cell? ⟨w.heap.size + 1, 0, none⟩ = some (.slice ba bn bc) ∧ Below w9.heap.size w9 w2')) := Lib.hid fun w1' w2' h hb => by
        have h2 := h.trans (hb.mono h.size)
        obtain ⟨p0, p1, p2, p3, p4⟩ := HCY.out w2' (HB9.out.trans (h2.mono HB9.out.size))
        exact ⟨p0, h2⟩
      have HS0 := Lib.hid (HSB.out w9 w9.drew (Below.refl _ _) (Below.drew (Below.refl _ _)))
      have HTW : Hid (∀ w', Below w9.heap.size w9 w' → Calls Try.prog 21 #[.slice a1 n1 k1] w' fun e w'' => ∃ a n c, e = .returned (.slice a n c) ∧ Hid (n = r1.length) ∧ Hid (Own w'' w'.heap.size 33 4 (.slice a n c) n (fcells r1)) ∧ Below w'.heap.size w' w'') := Lib.hid fun w' hb => twinF_any w' _ r1 (HRa9.out.below hb) (by have := HLr1.out.1; omega)
      have HYA : Hid (∀ w', Below W.heap.size W w' → Reads w' 4 (.slice ba bn bc) bn (fcells y.add)) := Lib.hid fun w' hb => by
        obtain ⟨u, _, e, hu, _⟩ := (HV.out w' hb).2.2
        simp only [Value.agg.injEq, Array.mk.injEq, List.cons.injEq] at e
        rw [e.1]
        have := rdF_reads hu
        rw [HBN.out]
        exact this
      obtain ⟨i0, hi, hz, hz1, hz2⟩ := info_parts info_file
      obtain ⟨ALL, hALL⟩ : ∃ z, z = r1 ++ y.add := ⟨_, rfl⟩
      have HAL := Lib.hid hALL
      clear hALL
      refine wp_region_held_drew (S := fun w' => w'.cell? ⟨w.heap.size + 1, 0, none⟩ = some (.slice ba bn bc) ∧ Below w9.heap.size w9 w') (by kernel_rfl) (HS0.out) (fun hHeld => ?_)
      refine wpAnyH_take (i := 0) (v := ?vq1) (by simp only [List.getElem?_toArray]; rfl) (by kernel_rfl) (by kernel_rfl) (by kernel_rfl) (by exact fun _ _ _ h => h) (Or.inl ⟨by rfl, ?yq1⟩) (by assumption) ?rq1
      case yq1 => (intro w hSw; (try dsimp only at hSw); go_simp; try with_reducible rfl)
      try simp only [Act.put, List.setIfInBounds_toArray, List.set_cons_zero, List.set_cons_succ]
      refine wpAnyH_take (i := 2) (v := ?vq2) (by simp only [List.getElem?_toArray]; rfl) (by kernel_rfl) (by kernel_rfl) (by kernel_rfl) (by exact fun _ _ _ h => h) (Or.inl ⟨by rfl, ?yq2⟩) (by assumption) ?rq2
      case yq2 => (intro w hSw; (try dsimp only at hSw); go_simp; try with_reducible rfl)
      try simp only [Act.put, List.setIfInBounds_toArray, List.set_cons_zero, List.set_cons_succ]
      refine wpAnyH_take (i := 3) (v := ?vq3) (by simp only [List.getElem?_toArray]; rfl) (by kernel_rfl) (by kernel_rfl) (by kernel_rfl) (by exact fun _ _ _ h => h) (Or.inl ⟨by rfl, ?yq3⟩) (by assumption) ?rq3
      case yq3 => (intro w hSw; (try dsimp only at hSw); go_simp; try with_reducible rfl)
      try simp only [Act.put, List.setIfInBounds_toArray, List.set_cons_zero, List.set_cons_succ]
      refine wpAnyH_ready (rs := [1]) (by kernel_rfl) (by simp) ?_
      refine AllReadyH.cons (by simp only [List.getElem?_toArray]; rfl) (fun K hK => ?_) AllReadyH.nil
      go_simp
      refine (HTW.out _ hHeld.2).mono ?_
      rintro e10 w10 ⟨ta, tn, tc, rfl, HTN, HTO, b10⟩
      have HNR : Hid (tn + bn = ALL.length) := Lib.hid (by rw [HAL.out, List.length_append, ← HTN.out, ← HBN.out])
      have htn : tn ≤ 600 := by rw [HTN.out]; exact HLr1.out.1
      refine hK.out _ _ (HSB.out _ _ hHeld.2 b10) (fun hHeld => ?_)
      clear hK K
      try simp only [Act.put, List.setIfInBounds_toArray, List.set_cons_zero, List.set_cons_succ]
      refine wpAnyH_ready (rs := [4]) (by kernel_rfl) (by simp) ?_
      refine AllReadyH.cons (by simp only [List.getElem?_toArray]; rfl) (fun K hK => ?_) AllReadyH.nil
      refine step_app_el2 rfl _ _ rfl Try.underlying22 hi hz hz1 hz2 rfl (by omega) _ tn bn (.slice ta tn tc) (.slice ba bn bc) (fcells r1) (fcells y.add) (fcells ALL) (tn + bn) rfl rfl HTO.out (HYA.out _ (HB9.out.trans (hHeld.2.mono HB9.out.size))) (one_fcells _) rfl (by rw [HAL.out, fcells_app]) (by omega) (by omega) b10.size ?_
      intro ua uc w11 HX11 HG11
      have HB11 := Lib.hid (Below.trans (b10.mono (Nat.le_refl _)) HG11.out.below)
      refine hK.out _ _ (HSB.out w9.drew _ (Below.drew (Below.refl _ _)) HB11.out) (fun hHeld => ?_)
      clear hK K
      try simp only [Act.put, List.setIfInBounds_toArray, List.set_cons_zero, List.set_cons_succ]
      refine wpAnyH_take (i := 5) (v := ?vq4) (by simp only [List.getElem?_toArray]; rfl) (by kernel_rfl) (by kernel_rfl) (by kernel_rfl) (by exact fun _ _ _ h => h) (Or.inl ⟨by rfl, ?yq4⟩) (by assumption) ?rq4
      case yq4 => (intro w hSw; (try dsimp only at hSw); go_simp; try with_reducible rfl)
      try simp only [Act.put, List.setIfInBounds_toArray, List.set_cons_zero, List.set_cons_succ]
      refine wpAnyH_done (by kernel_rfl) ?_ _
      have HB12 := Lib.hid (HB9.out.trans (hHeld.2.mono HB9.out.size))
      have HR12 := Lib.hid (HRb9.out.below hHeld.2)
      have HRA := Lib.hid (rdF_of (reads_of_own HX11.out)).2
      have hal := (own_clip HX11.out).1
      clear hHeld HSB HS0 HTW HYA HX11 HG11 HB11 HRa9 HRb9
      have HAN2 : Hid (tn + bn ≤ 1000) := Lib.hid (by omega)
      generalize htb : tn + bn = an2 at *
      clear htb
      go_upto_region 14 with (fail)
      go_loopw [15, 16] (fun nn i wr => ∃ k : Nat, k ≤ an2 ∧ i = .int .i64 k ∧ (∃ m : Nat, nn = .int .i64 m ∧ Hid (m = ((ALL.take k).filter (inF r2)).length)) ∧ Below w11.heap.size w11 wr) (fun _ i _ => an2 - (intOf i).toNat)
      case atStart => exact ⟨0, Nat.zero_le _, rfl, ⟨0, rfl, rfl⟩, Below.refl _ _⟩
      case round =>
        obtain ⟨k, hk, rfl, ⟨m, rfl, hmk⟩, bel⟩ := hrel
        have HBR := Lib.hid bel
        have HBRW := Lib.hid (HB12.out.trans (bel.mono HB12.out.size))
        clear bel
        by_cases hlt : k < an2
        · have hkl : k < ALL.length := by rw [← HNR.out]; exact hlt
          obtain ⟨b, off, hsl, p0, p1, p2, p3⟩ := rdF_at (HRA.out.below HBR.out) k hkl
          subst hsl
          have HFT := Lib.hid (filter_take (inF r2) k hkl)
          have hm3 : m ≤ k := by
            rw [hmk.out]
            exact Nat.le_trans (List.length_filter_le _ _) (by rw [List.length_take]; omega)
          have han2 : an2 ≤ 1000 := HAN2.out
          have hm4 : m ≤ 1000 := by omega
          obtain ⟨f, hf⟩ : ∃ f, f = ALL[k] := ⟨_, rfl⟩
          rw [← hf] at p0 p1 p2 p3 HFT
          clear hf
          have HI := Lib.hid (in_any wr (.slice a2 n2 k2) r2 f (HR12.out.below HBR.out))
          obtain ⟨B, hB⟩ : ∃ b, b = inF r2 f := ⟨_, rfl⟩
          rw [← hB] at HI HFT
          clear hB
          go_wp2_with fail
          refine HI.out.mono ?_
          rintro e w13 ⟨rfl, b13⟩
          have HB13 := Lib.hid (HBR.out.trans (b13.mono HBR.out.size))
          clear b13
          cases B with
          | true =>
            go_wp2_with fail
            go_roundw
            case rel => exact ⟨k + 1, by omega, by go_num, ⟨m + 1, by first | rfl | go_num, Lib.hid (by rw [HFT.out, ← hmk.out]; rfl)⟩, HB13.out⟩
            case measure => simp [intOf]; omega
          | false =>
            go_wp2_with fail
            go_roundw
            case rel => exact ⟨k + 1, by omega, by go_num, ⟨m, rfl, Lib.hid (by rw [HFT.out, ← hmk.out]; rfl)⟩, HB13.out⟩
            case measure => simp [intOf]; omega
        · have hm2 : m = (ALL.filter (inF r2)).length := by rw [hmk.out, List.take_of_length_le (by rw [← HNR.out]; omega)]
          have hmn : n2 ≤ m := by
            rw [hm2, HAL.out, HN6.out]
            exact HPC.out
          clear hm2 hmk
          obtain ⟨c0, c1, c2, c3, c4⟩ := HCY.out wr HBRW.out
          clear c2 c3 c4
          have hn1 := HLr1.out.2
          have hpl := HPL.out
          have hq : ((n2 : Int) == (n1 : Int) + (bn : Int) - (sn : Int)) = true := by simp; omega
          have hd : decide ((n2 : Int) ≤ (m : Int)) = true := by simp; omega
          have hd2 : decide (n2 ≤ m) = true := by simp; omega
          clear hpl
          go_wp2
          go_ret
          exact ⟨rfl, HEND.out _ HBRW.out⟩
end Go.Proofs.Ytmonmfamnbfhcaa

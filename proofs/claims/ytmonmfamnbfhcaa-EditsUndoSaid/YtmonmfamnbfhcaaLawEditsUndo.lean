/- Walk of law11.EditsUndo. The conditions: as the law itself asks. -/
import Derived.Test.YtmonmfamnbfhcaaFlR
import Derived.Deep.Cut
import Derived.Test.YtmonmfamnbfhcaaFlS
import Derived.Test.YtmonmfamnbfhcaaFlT
namespace Go.Proofs.Ytmonmfamnbfhcaa
open Go.RowKit


/-- what the undoing edit brings: the files that were removed -/
def backA (rem : List Nat) (l : List PF) : List PF := l.flatMap fun f => List.replicate (rem.count f.n) f
theorem backA_filter {rem : List Nat} (h : rem.Nodup) (l : List PF) : backA rem l = l.filter (fun f => decide (f.n ∈ rem)) := by
  unfold backA
  induction l with
  | nil => rfl
  | cons f l ih =>
    rw [List.flatMap_cons, ih, List.filter_cons]
    by_cases hm : f.n ∈ rem
    · have hc : rem.count f.n = 1 := by
        have h1 := List.nodup_iff_count.1 h f.n
        have h2 := List.count_pos_iff.2 hm
        omega
      rw [hc]; simp [hm]
    · rw [List.count_eq_zero_of_not_mem hm]; simp [hm]
theorem backA_mem {rem : List Nat} {l : List PF} {f : PF} (h : f ∈ backA rem l) : f ∈ l := by
  obtain ⟨g, hg, hf⟩ := List.mem_flatMap.1 h
  rw [(List.mem_replicate.1 hf).2]; exact hg
theorem backA_take {rem : List Nat} {l : List PF} (k : Nat) (hk : k < l.length) : backA rem (l.take (k + 1)) = backA rem (l.take k) ++ List.replicate (rem.count l[k].n) l[k] := by
  unfold backA
  rw [List.take_succ_eq_append_getElem hk, List.flatMap_append]
  simp
theorem count_take {rem : List Nat} (n j : Nat) (hj : j < rem.length) : (rem.take (j + 1)).count n = (rem.take j).count n + if rem[j] = n then 1 else 0 := by
  rw [List.take_succ_eq_append_getElem hj, List.count_append]
  by_cases h : rem[j] = n <;> simp [h]
theorem undo_same {l add r was r2 : List PF} {rem : List Nat} {q q1 q2 : Nat} (h : DoR l add rem r q) (hq : q = 0) (h1 : DoR l [] [] was q1) (h2 : DoR r (backA rem l) (nums add) r2 q2) : q2 = 0 ∧ r2 = was := by
  obtain ⟨c, hp, hs⟩ := doR_ok h hq
  obtain ⟨a1, a2, a3, a4, a5, a6⟩ := c
  rw [backA_filter a4] at h2
  have hd := a6
  rw [nums_app, List.nodup_append] at hd
  have hk : (keepF (nums add) r).Perm (keepF rem l) := by
    have h3 : (keepF (nums add) r).Perm (keepF (nums add) (keepF rem l ++ add)) := hp.filter _
    rw [keepF_app, keep_all (l := keepF rem l) (fun f hf hx => hd.2.2 _ (nums_mem hf) _ hx rfl)] at h3
    have h4 : keepF (nums add) add = [] := by
      unfold keepF
      rw [List.filter_eq_nil_iff]
      intro f hf
      simp only [decide_eq_true_eq]
      exact fun h => h (nums_mem hf)
    rw [h4, List.append_nil] at h3
    exact h3
  have hl : (keepF rem l ++ l.filter (fun f => decide (f.n ∈ rem))).Perm l := by
    have h3 := List.filter_append_perm (fun f : PF => decide (f.n ∉ rem)) l
    have h4 : (l.filter fun f => !decide (f.n ∉ rem)) = l.filter fun f => decide (f.n ∈ rem) := by congr 1; funext f; simp
    rw [h4] at h3
    exact h3
  have hkl := (hk.append_right (l.filter fun f => decide (f.n ∈ rem))).trans hl
  obtain ⟨g0, g1, g2⟩ := doR_is h2 ⟨fine_perm hp (fine_app (fine_keep a1) a2), fine_keep a1, (hp.map PF.n).nodup_iff.2 a6, hd.2.1, fun k hk => ((hp.map PF.n).mem_iff).2 (by
    show k ∈ nums (keepF rem l ++ add)
    rw [nums_app]; exact List.mem_append.2 (.inr hk)), (hkl.map PF.n).nodup_iff.2 a3⟩
  obtain ⟨e0, e1, e2⟩ := doR_is h1 (can_none ⟨a1, a2, a3, a4, a5, a6⟩)
  rw [keepF_nil, List.append_nil] at e1
  exact ⟨g0, sorted_one g2 e2 ((g1.trans hkl).trans e1.symm)⟩
theorem none_first {l add r r' : List PF} {rem : List Nat} {q q' : Nat} (h : DoR l add rem r q) (hq : q = 0) (h' : DoR l [] [] r' q') : q' = 0 := (doR_is h' (can_none (doR_ok h hq).1)).1
theorem rep_snoc (k : Nat) (f : PF) (l : List PF) : l ++ List.replicate (k + 1) f = (l ++ List.replicate k f) ++ [f] := by
  rw [List.replicate_succ', List.append_assoc]

/-- a store into a block below those that are owned -/
theorem own_kept_base {w w' : World} {base g : Nat} {e : TypeId} {size : Nat} {v : Value} {n : Nat} {xs : List Value} (h : Own w base e size v n xs) (hg : Only w w' g) (hlt : g < base) : Own w' base e size v n xs := by
  rcases h with h | ⟨h1, g2, cap, cur, fr, rfl, h3, h4, h5⟩
  · exact .inl h
  · exact own_kept (.inr ⟨h1, g2, cap, cur, fr, rfl, h3, h4, h5⟩) hg (.inr (by simp [Value.ownBlock]; omega))
set_option maxRecDepth 100000 in
set_option maxHeartbeats 1000000 in
theorem editsUndo_walk (w : World) (v : Value) (l : List PF) (vx : Value) (x : PX) (hv : RdF w v l) (hl : l.length ≤ 2932031007402 ∧ ∀ f ∈ l, f.ok) (hx : RdX w vx x) (hxo : x.ok) :
    Calls Try.prog 5 #[v, vx] w fun e w' => e = .returned (.bool true) ∧ Below w.heap.size w w' := by
  obtain ⟨va, vr, rfl, hva, hvr⟩ := hx
  obtain ⟨la, ln, lc, rfl, HLN, hlc, hlm⟩ := rdF_sl hv
  obtain ⟨aa, an, ac, rfl, HAN, hac, ham⟩ := rdF_sl hva
  obtain ⟨ra, rn, rc, rfl, HRN, hrc, hrm⟩ := rdU_sl hvr
  obtain ⟨W, hW⟩ : ∃ W, W = w.alloc (.cells #[.slice aa an ac, .slice ra rn rc, .int .u32 x.jo, .int .u32 x.nx, .int .u64 x.sq] 27) := ⟨_, rfl⟩
  have hBlk : Blk W w.heap.size #[.slice aa an ac, .slice ra rn rc, .int .u32 x.jo, .int .u32 x.nx, .int .u64 x.sq] 27 := by rw [hW]; exact Blk.new _ _ _
  have HBW : Hid (Below w.heap.size w W) := Lib.hid (by rw [hW]; exact alloc_bel _ _)
  have HC : Hid (∀ w', Below W.heap.size W w' → w'.cell? ⟨w.heap.size, 0, none⟩ = some (.slice aa an ac) ∧ w'.cell? ⟨w.heap.size, 1, none⟩ = some (.slice ra rn rc) ∧ w'.cell? ⟨w.heap.size, 2, none⟩ = some (.int .u32 x.jo) ∧ w'.cell? ⟨w.heap.size, 3, none⟩ = some (.int .u32 x.nx) ∧ w'.cell? ⟨w.heap.size, 4, none⟩ = some (.int .u64 x.sq)) := Lib.hid fun w' hb => ⟨Below.keeps hb _ _ _ (hBlk.cell 0), Below.keeps hb _ _ _ (hBlk.cell 1), Below.keeps hb _ _ _ (hBlk.cell 2), Below.keeps hb _ _ _ (hBlk.cell 3), Below.keeps hb _ _ _ (hBlk.cell 4)⟩
  have HV : Hid (∀ w', Below W.heap.size W w' → RdF w' (.slice la ln lc) l ∧ RdX w' (.agg #[.slice aa an ac, .slice ra rn rc, .int .u32 x.jo, .int .u32 x.nx, .int .u64 x.sq]) x) := Lib.hid fun w' hb => ⟨(hv.below HBW.out).below hb, ⟨_, _, rfl, (hva.below HBW.out).below hb, (hvr.below HBW.out).below hb⟩⟩
  have HG : Hid (∀ w', Below W.heap.size W w' → Calls Try.prog 11 #[.slice la ln lc, (.agg #[.slice aa an ac, .slice ra rn rc, .int .u32 x.jo, .int .u32 x.nx, .int .u64 x.sq])] w' fun e w'' => ∃ b, e = .returned (.bool b) ∧ Hid (b = false → l.length + x.add.length + x.rem.length ≤ 300 ∧ filesLen l + filesLen x.add ≤ 20000) ∧ Below w'.heap.size w' w'') := Lib.hid fun w' hb => great_any w' _ _ l x (HV.out w' hb).1 (HV.out w' hb).2 hl hxo
  have HVA : Hid (∀ w', Below W.heap.size W w' → RdF w' (.slice aa an ac) x.add ∧ RdU w' (.slice ra rn rc) x.rem) := Lib.hid fun w' hb => ⟨(hva.below HBW.out).below hb, (hvr.below HBW.out).below hb⟩
  have HLO := Lib.hid hl.2
  have HXO := Lib.hid hxo
  have HEND : Hid (∀ w', Below W.heap.size W w' → Below w.heap.size w w') := Lib.hid fun w' hb => HBW.out.trans (hb.mono HBW.out.size)
  clear hv hva hvr hBlk hl hxo
  go_enter Try.func5, Try.ntmps5
  go_wp2_with fail
  rw [← hW]
  clear hW
  refine (alive11_any W).mono ?_
  intro e w2 hal
  obtain ⟨rfl, b2⟩ := hal
  obtain ⟨c0, c1, c2, c3, c4⟩ := HC.out w2 b2
  have HB2 := Lib.hid b2
  clear b2
  go_wp2_with fail
  refine (HG.out w2 HB2.out).mono ?_
  rintro e w3 ⟨B, rfl, hgb, b3⟩
  have HB3 := Lib.hid (HB2.out.trans (b3.mono HB2.out.size))
  clear b3 c0 c1 c2 c3 c4
  cases B with
  | true =>
    go_wp2_with fail
    refine (alive11_any w3).mono ?_
    intro e w4 hal
    obtain ⟨rfl, b4⟩ := hal
    have HB4 := Lib.hid (HB3.out.trans (b4.mono HB3.out.size))
    clear b4
    go_wp2
    go_ret
    exact ⟨rfl, HEND.out _ HB4.out⟩
  | false =>
    obtain ⟨hs1, hs2⟩ := hgb.out rfl
    have hln : ln ≤ 300 := by rw [HLN.out]; omega
    have han : an ≤ 300 := by rw [HAN.out]; omega
    have hrn : rn ≤ 300 := by rw [HRN.out]; omega
    have HLL : Hid (l.length ≤ 300 ∧ x.add.length ≤ 300 ∧ x.rem.length ≤ 300) := Lib.hid ⟨by omega, by omega, by omega⟩
    clear hs1 hs2 hgb
    have HDO4 := Lib.hid (do_n w3 (.slice la ln lc) (.agg #[.slice none 0 0, .slice none 0 0, .int .u32 0, .int .u32 0, .int .u64 0]) l ⟨[], [], 0, 0, 0⟩ (HV.out w3 HB3.out).1 ⟨_, _, rfl, RdF.nil _, RdU.nil _⟩ (by have := HLL.out; omega) (by simp) (by simp) HLO.out (fun f hf => by cases hf))
    go_wp2_with fail
    refine HDO4.out.mono ?_
    rintro e w4 ⟨r0, q0, n0, a0, k0, rfl, HN4, HQ4, HD4, HR4, hc4, hm4, HK4, HL4, b4⟩
    have HB4 := Lib.hid (HB3.out.trans (b4.mono HB3.out.size))
    clear b4 HDO4
    obtain ⟨c0, c1, c2, c3, c4⟩ := HC.out w4 HB4.out
    have HDO5 := Lib.hid (do_n w4 (.slice la ln lc) (.agg #[.slice aa an ac, .slice ra rn rc, .int .u32 x.jo, .int .u32 x.nx, .int .u64 x.sq]) l x (HV.out w4 HB4.out).1 (HV.out w4 HB4.out).2 (by have := HLL.out; omega) (by have := HLL.out; omega) (by have := HLL.out; omega) HLO.out (px_small HXO.out))
    go_wp2_with fail
    refine HDO5.out.mono ?_
    rintro e w5 ⟨r1, q1, n1, a1, k1, rfl, HN5, HQ5, HD5, HR5, hc5, hm5, HK5, HL5, b5⟩
    have HB5 := Lib.hid (HB4.out.trans (b5.mono HB4.out.size))
    have HR4' := Lib.hid (HR4.out.below b5)
    clear b5 HDO5
    clear c0 c1 c2 c3 c4 HR4
    have HP1 := Lib.hid (fun h1 => none_first HD5.out h1 HD4.out)
    have HLr1 : Hid (r1.length ≤ 600) := Lib.hid (by have h1 := HN5.out; have h2 := HL5.out; have := HLL.out; omega)
    rcases HQ5 with rfl | rfl
    case inr =>
      rcases HQ4 with rfl | rfl
      all_goals
        go_wp2
        go_ret
        exact ⟨rfl, HEND.out _ HB5.out⟩
    obtain rfl := HP1.out rfl
    have HUN := Lib.hid (fun (r2 : List PF) (q2 : Nat) h2 => undo_same (r2 := r2) (q2 := q2) HD5.out rfl HD4.out h2)
    clear HP1 HD4 HD5 HQ4 HL4 HL5 HN4 HN5 hc4 hm4 HK4
    go_upto_region 8 with (fail)
    obtain ⟨Z, hZ⟩ : ∃ Z, Z = w5.alloc (.cells #[.slice none 0 0, .slice none 0 0, .int .u32 0, .int .u32 0, .int .u64 0] 27) := ⟨_, rfl⟩
    have HBZ : Hid (Blk Z w5.heap.size #[.slice none 0 0, .slice none 0 0, .int .u32 0, .int .u32 0, .int .u64 0] 27) := Lib.hid (by rw [hZ]; exact Blk.new _ _ _)
    have HZ5 : Hid (Below w5.heap.size w5 Z) := Lib.hid (by rw [hZ]; exact alloc_bel _ _)
    rw [← hZ]
    clear hZ
    have HCA : Hid (∀ w', Below w5.heap.size w5 w' → w'.cell? ⟨w.heap.size, 0, none⟩ = some (.slice aa an ac) ∧ w'.cell? ⟨w.heap.size, 1, none⟩ = some (.slice ra rn rc) ∧ w'.cell? ⟨w.heap.size, 2, none⟩ = some (.int .u32 x.jo) ∧ w'.cell? ⟨w.heap.size, 3, none⟩ = some (.int .u32 x.nx) ∧ w'.cell? ⟨w.heap.size, 4, none⟩ = some (.int .u64 x.sq)) := Lib.hid fun w' hb => HC.out w' (HB5.out.trans (hb.mono HB5.out.size))
    have HVX : Hid (∀ w', Below w5.heap.size w5 w' → RdF w' (.slice la ln lc) l ∧ RdF w' (.slice aa an ac) x.add ∧ RdU w' (.slice ra rn rc) x.rem) := Lib.hid fun w' hb => ⟨(HV.out w' (HB5.out.trans (hb.mono HB5.out.size))).1, HVA.out w' (HB5.out.trans (hb.mono HB5.out.size))⟩
    have HEV : Hid (∀ w', Below w5.heap.size w5 w' → Below w.heap.size w w') := Lib.hid fun w' hb => HEND.out w' (HB5.out.trans (hb.mono HB5.out.size))
    have HXI : Hid (∀ w', Below w5.heap.size w5 w' → RdF w' (.slice a0 n0 k0) r0 ∧ RdF w' (.slice a1 n1 k1) r1) := Lib.hid fun w' hb => ⟨HR4'.out.below hb, HR5.out.below hb⟩
    clear HC HV HVA HG HB2 HB3 HB4 HB5 HR4' HR5 HEND
    obtain ⟨i0, hi, hz, hz1, hz2⟩ := info_parts info_u32
    obtain ⟨j0, ji, jz, jz1, jz2⟩ := info_parts info_file
    go_upto_region 9 with (fail)
    go_loopw [10] (fun i wr => ∃ (k c : Nat) (a : Option Addr), k ≤ an ∧ i = .int .i64 k ∧ Hid (Blk wr w5.heap.size #[.slice none 0 0, .slice a k c, .int .u32 0, .int .u32 0, .int .u64 0] 27) ∧ Hid (Own wr (w5.heap.size + 1) 24 1 (.slice a k c) k (ucells (nums (x.add.take k)))) ∧ Hid (∀ b, (Value.slice a k c).ownBlock = some b → w5.heap.size < b ∧ b < wr.heap.size) ∧ Below w5.heap.size w5 wr) (fun i _ => an - (intOf i).toNat)
    case atStart => exact ⟨0, 0, none, Nat.zero_le _, rfl, HBZ, own_none _ _ _ _, Lib.hid (fun b h => by simp [Value.ownBlock] at h), HZ5.out⟩
    case round =>
      obtain ⟨k, c, a, hk, rfl, HBK, HO, HLW, bel⟩ := hrel
      have HB := Lib.hid bel
      clear bel
      obtain ⟨c0, c1, c2, c3, c4⟩ := HCA.out wr HB.out
      clear c2 c3 c4
      by_cases hlt : k < an
      · have hka : k < x.add.length := by rw [← HAN.out]; exact hlt
        obtain ⟨b, off, hsl, p0, _, _, _⟩ := rdF_at (HVX.out wr HB.out).2.1 k hka
        have HSL := Lib.hid hsl
        subst hsl
        have HNX : Hid (nums (x.add.take (k + 1)) = nums (x.add.take k) ++ [x.add[k].n]) := Lib.hid (by rw [List.take_succ_eq_append_getElem hka, nums_app]; rfl)
        have HP0 : Hid (∀ w', Below w5.heap.size w5 w' → w'.cell? ⟨b, off + k * 4, none⟩ = some (.int .u32 x.add[k].n)) := Lib.hid fun w' hb => by
          obtain ⟨b', off', h', q0, _⟩ := rdF_at (HVX.out w' hb).2.1 k hka
          simp only [Option.some.injEq, Addr.mk.injEq, and_true] at h'
          obtain ⟨rfl, rfl⟩ := h'
          exact q0
        obtain ⟨z, hz'⟩ : ∃ z, z = x.add[k].n := ⟨_, rfl⟩
        rw [← hz'] at p0 HNX HP0
        clear hz' c1 p0
        obtain ⟨W2, hW2⟩ : ∃ x, x = (wr.alloc (.cells #[.int .u32 z] 24)).drew := ⟨_, rfl⟩
        have hb2 : Below wr.heap.size wr W2 := by rw [hW2]; exact (alloc_bel _ _).drew
        have HB2 := Lib.hid (HB.out.trans (hb2.mono HB.out.size))
        have HBK2 := Lib.hid (HBK.out.below hb2)
        have HO2 := Lib.hid (own_below HO.out hb2)
        have HRO : Hid (Reads W2 1 (.slice (some ⟨wr.heap.size, 0, none⟩) 1 1) 1 (ucells [z])) := Lib.hid (by rw [hW2]; exact (reads_one32 wr z 24).later (Below.refl _ _).drew)
        have HSZ : Hid (w5.heap.size + 1 ≤ W2.heap.size) := Lib.hid (Nat.le_trans HBK.out.lt hb2.size)
        have HLW2 : Hid (some w5.heap.size ≠ (Value.slice a k c).ownBlock) := Lib.hid fun e => by have := HLW.out _ e.symm; omega
        clear hb2
        have q1 : wr.drew.cell? ⟨w5.heap.size, 1, none⟩ = some (.slice a k c) := HBK.out.cell 1
        have q2 : wr.cell? ⟨w5.heap.size, 1, none⟩ = some (.slice a k c) := HBK.out.cell 1
        have q3 : (wr.alloc (.cells #[.int .u32 z] 24)).cell? ⟨w5.heap.size, 1, none⟩ = some (.slice a k c) := HBK.out.alloc _ |>.cell 1
        have HSB : Hid (∀ w', Below w5.heap.size w5 w' → w'.cell? ⟨w.heap.size, 0, none⟩ = some (.slice (some ⟨b, off, none⟩) an ac) ∧ w'.cell? ⟨b, off + k * 4, none⟩ = some (.int .u32 z)) := Lib.hid fun w' hb => ⟨(HCA.out w' hb).1, HP0.out w' hb⟩
        go_upto_region 11 with (fail)
        refine wp_region_held_drew (S := fun w' => w'.cell? ⟨w.heap.size, 0, none⟩ = some (.slice (some ⟨b, off, none⟩) an ac) ∧ w'.cell? ⟨b, off + k * 4, none⟩ = some (.int .u32 z)) (by kernel_rfl) (HSB.out _ HB.out.drew) (fun hHeld => ?_)
        refine wpAnyH_take (i := 0) (v := ?vq9) (by simp only [List.getElem?_toArray]; rfl) (by kernel_rfl) (by kernel_rfl) (by kernel_rfl) (by exact fun _ _ _ h => h) (Or.inl ⟨by rfl, ?yq9⟩) (by assumption) ?rq9
        case yq9 => (intro w hSw; (try dsimp only at hSw); go_simp; try with_reducible rfl)
        try simp only [Act.put, List.setIfInBounds_toArray, List.set_cons_zero, List.set_cons_succ]
        refine wpAnyH_take (i := 2) (v := ?vq10) (by simp only [List.getElem?_toArray]; rfl) (by kernel_rfl) (by kernel_rfl) (by kernel_rfl) (by exact fun _ _ _ h => h) (Or.inl ⟨by rfl, ?yq10⟩) (by assumption) ?rq10
        case yq10 => (intro w hSw; (try dsimp only at hSw); go_simp; try with_reducible rfl)
        try simp only [Act.put, List.setIfInBounds_toArray, List.set_cons_zero, List.set_cons_succ]
        refine wpAnyH_take (i := 3) (v := ?vq11) (by simp only [List.getElem?_toArray]; rfl) (by kernel_rfl) (by kernel_rfl) (by kernel_rfl) (by exact fun _ _ _ h => h) (Or.inl ⟨by rfl, ?yq11⟩) (by assumption) ?rq11
        case yq11 => (intro w hSw; (try dsimp only at hSw); go_simp; try with_reducible rfl)
        try simp only [Act.put, List.setIfInBounds_toArray, List.set_cons_zero, List.set_cons_succ]
        refine wpAnyH_take (i := 4) (v := ?vq12) (by simp only [List.getElem?_toArray]; rfl) (by kernel_rfl) (by kernel_rfl) (by kernel_rfl) (by exact fun _ _ _ h => h) (Or.inl ⟨by rfl, ?yq12⟩) (by assumption) ?rq12
        case yq12 => (intro w hSw; (try dsimp only at hSw); go_simp; try with_reducible rfl)
        try simp only [Act.put, List.setIfInBounds_toArray, List.set_cons_zero, List.set_cons_succ]
        refine wpAnyH_take (i := 5) (v := ?vq13) (by simp only [List.getElem?_toArray]; rfl) (by kernel_rfl) (by kernel_rfl) (by kernel_rfl) (by exact fun _ _ _ h => h) (Or.inl ⟨by rfl, ?yq13⟩) (by assumption) ?rq13
        case yq13 => (intro w hSw; (try dsimp only at hSw); go_simp; try with_reducible rfl)
        try simp only [Act.put, List.setIfInBounds_toArray, List.set_cons_zero, List.set_cons_succ]
        refine wpAnyH_take (i := 6) (v := ?vq14) (by simp only [List.getElem?_toArray]; rfl) (by kernel_rfl) (by kernel_rfl) (by kernel_rfl) (by exact fun _ _ _ h => h) (Or.inl ⟨by rfl, ?yq14⟩) (by assumption) ?rq14
        case yq14 => (intro w hSw; (try dsimp only at hSw); go_simp; try with_reducible rfl)
        try simp only [Act.put, List.setIfInBounds_toArray, List.set_cons_zero, List.set_cons_succ]
        refine wpAnyH_take (i := 7) (v := ?vq15) (by simp only [List.getElem?_toArray]; rfl) (by kernel_rfl) (by kernel_rfl) (by kernel_rfl) (by exact fun _ _ _ h => h) (Or.inl ⟨by rfl, ?yq15⟩) (by assumption) ?rq15
        case yq15 => (intro w hSw; (try dsimp only at hSw); go_simp; try with_reducible rfl)
        try simp only [Act.put, List.setIfInBounds_toArray, List.set_cons_zero, List.set_cons_succ]
        refine wpAnyH_ready (rs := [1, 8]) (by kernel_rfl) (by simp) ?_
        refine AllReadyH.cons (by simp only [List.getElem?_toArray]; rfl) (fun K hK => ?way1) (AllReadyH.cons (by simp only [List.getElem?_toArray]; rfl) (fun K hK => ?way2) AllReadyH.nil)
        case way1 =>
          go_simp
          refine hK.out _ _ ((HSB.out _ (HB.out.drew))) (fun hHeld => ?_)
          clear hK K
          try simp only [Act.put, List.setIfInBounds_toArray, List.set_cons_zero, List.set_cons_succ]
          refine wpAnyH_ready (rs := [8]) (by kernel_rfl) (by simp) ?_
          refine AllReadyH.cons (by simp only [List.getElem?_toArray]; rfl) (fun K hK => ?_) AllReadyH.nil
          go_simp
          refine hK.out _ _ ((HSB.out _ ((HB.out.alloc HB.out.size _).drew))) (fun hHeld => ?_)
          clear hK K
          try simp only [Act.put, List.setIfInBounds_toArray, List.set_cons_zero, List.set_cons_succ]
          refine wpAnyH_ready (rs := [9]) (by kernel_rfl) (by simp) ?_
          refine AllReadyH.cons (by simp only [List.getElem?_toArray]; rfl) (fun K hK => ?_) AllReadyH.nil
          rw [← hW2]
          refine step_app_el2 rfl _ _ rfl Try.underlying23 hi hz hz1 hz2 rfl (by omega) (w5.heap.size + 1) k 1 (.slice a k c) _ (ucells (nums (x.add.take k))) (ucells [z]) (ucells (nums (x.add.take (k + 1)))) (k + 1) rfl rfl HO2.out HRO.out (one_ucells _) rfl (by rw [HNX.out, ucells_app]) (by omega) (by omega) HSZ.out ?_
          intro ba bc w7 HU HG
          have HB7 := Lib.hid (HB2.out.trans (HG.out.below.mono (Nat.le_succ _)))
          have hg7 := HBK2.out.grown HG.out.rows HLW2.out
          have r1 : w7.cell? ⟨w5.heap.size, 1, none⟩ = some (.slice a k c) := hg7.cell 1
          have rf := hg7.free 1
          have HBK7 := Lib.hid hg7
          clear hg7
          refine hK.out _ _ ((HSB.out _ (HB7.out))) (fun hHeld => ?_)
          clear hK K
          try simp only [Act.put, List.setIfInBounds_toArray, List.set_cons_zero, List.set_cons_succ]
          refine wpAnyH_take (i := 10) (v := ?vq24) (by simp only [List.getElem?_toArray]; rfl) (by kernel_rfl) (by kernel_rfl) (by kernel_rfl) (by exact fun _ _ _ h => h) (Or.inl ⟨by rfl, ?yq24⟩) (by assumption) ?rq24
          case yq24 => (intro w hSw; (try dsimp only at hSw); go_simp; try with_reducible rfl)
          try simp only [Act.put, List.setIfInBounds_toArray, List.set_cons_zero, List.set_cons_succ]
          refine wpAnyH_ready (rs := [11]) (by kernel_rfl) (by simp) ?_
          refine AllReadyH.cons (by simp only [List.getElem?_toArray]; rfl) (fun K hK => ?_) AllReadyH.nil
          go_simp
          refine hK.out _ _ ((HSB.out _ (Only.below HB7.out (Only.set w7 w5.heap.size 1 (.slice ba (k + 1) bc)) (Nat.le_refl _) HB7.out.size))) (fun hHeld => ?_)
          clear hK K
          try simp only [Act.put, List.setIfInBounds_toArray, List.set_cons_zero, List.set_cons_succ]
          refine wpAnyH_done (by kernel_rfl) ?_ _
          have HLW8 : Hid (∀ b, (Value.slice ba (k + 1) bc).ownBlock = some b → w5.heap.size < b ∧ b < w7.heap.size) := Lib.hid fun b' h => by have := own_lt HU.out (by omega) b' h; omega
          have HO8 := Lib.hid (own_kept HU.out (Only.set w7 w5.heap.size 1 (.slice ba (k + 1) bc)) (.inr (fun e => by have := HLW8.out _ e; omega)))
          have HBK8 := Lib.hid (HBK7.out.set 1 (.slice ba (k + 1) bc))
          have HB8 := Lib.hid (Only.below HB7.out (Only.set w7 w5.heap.size 1 (.slice ba (k + 1) bc)) (Nat.le_refl _) HB7.out.size)
          have HLW9 : Hid (∀ b, (Value.slice ba (k + 1) bc).ownBlock = some b → w5.heap.size < b ∧ b < (w7.setCell ⟨w5.heap.size, 1, none⟩ (.slice ba (k + 1) bc)).heap.size) := Lib.hid fun b' h => ⟨(HLW8.out b' h).1, Nat.lt_of_lt_of_le (HLW8.out b' h).2 (Only.set w7 w5.heap.size 1 (.slice ba (k + 1) bc)).size⟩
          clear r1 rf q1 q2 q3 c0 HU HG HBK7 HLW8 hHeld
          generalize w7.setCell ⟨w5.heap.size, 1, none⟩ (.slice ba (k + 1) bc) = wt at HO8 HBK8 HB8 HLW9 ⊢
          go_wp2_with fail
          go_roundw
          case rel => exact ⟨k + 1, bc, ba, by omega, by go_num, HBK8, HO8, HLW9, HB8.out⟩
          case measure => simp [intOf]; omega
        case way2 =>
          go_simp
          refine hK.out _ _ ((HSB.out _ ((HB.out.alloc HB.out.size _).drew))) (fun hHeld => ?_)
          clear hK K
          try simp only [Act.put, List.setIfInBounds_toArray, List.set_cons_zero, List.set_cons_succ]
          refine wpAnyH_ready (rs := [1]) (by kernel_rfl) (by simp) ?_
          refine AllReadyH.cons (by simp only [List.getElem?_toArray]; rfl) (fun K hK => ?_) AllReadyH.nil
          go_simp
          refine hK.out _ _ ((HSB.out _ ((HB.out.alloc HB.out.size _).drew))) (fun hHeld => ?_)
          clear hK K
          try simp only [Act.put, List.setIfInBounds_toArray, List.set_cons_zero, List.set_cons_succ]
          refine wpAnyH_ready (rs := [9]) (by kernel_rfl) (by simp) ?_
          refine AllReadyH.cons (by simp only [List.getElem?_toArray]; rfl) (fun K hK => ?_) AllReadyH.nil
          rw [← hW2]
          refine step_app_el2 rfl _ _ rfl Try.underlying23 hi hz hz1 hz2 rfl (by omega) (w5.heap.size + 1) k 1 (.slice a k c) _ (ucells (nums (x.add.take k))) (ucells [z]) (ucells (nums (x.add.take (k + 1)))) (k + 1) rfl rfl HO2.out HRO.out (one_ucells _) rfl (by rw [HNX.out, ucells_app]) (by omega) (by omega) HSZ.out ?_
          intro ba bc w7 HU HG
          have HB7 := Lib.hid (HB2.out.trans (HG.out.below.mono (Nat.le_succ _)))
          have hg7 := HBK2.out.grown HG.out.rows HLW2.out
          have r1 : w7.cell? ⟨w5.heap.size, 1, none⟩ = some (.slice a k c) := hg7.cell 1
          have rf := hg7.free 1
          have HBK7 := Lib.hid hg7
          clear hg7
          refine hK.out _ _ ((HSB.out _ (HB7.out))) (fun hHeld => ?_)
          clear hK K
          try simp only [Act.put, List.setIfInBounds_toArray, List.set_cons_zero, List.set_cons_succ]
          refine wpAnyH_take (i := 10) (v := ?vq32) (by simp only [List.getElem?_toArray]; rfl) (by kernel_rfl) (by kernel_rfl) (by kernel_rfl) (by exact fun _ _ _ h => h) (Or.inl ⟨by rfl, ?yq32⟩) (by assumption) ?rq32
          case yq32 => (intro w hSw; (try dsimp only at hSw); go_simp; try with_reducible rfl)
          try simp only [Act.put, List.setIfInBounds_toArray, List.set_cons_zero, List.set_cons_succ]
          refine wpAnyH_ready (rs := [11]) (by kernel_rfl) (by simp) ?_
          refine AllReadyH.cons (by simp only [List.getElem?_toArray]; rfl) (fun K hK => ?_) AllReadyH.nil
          go_simp
          refine hK.out _ _ ((HSB.out _ (Only.below HB7.out (Only.set w7 w5.heap.size 1 (.slice ba (k + 1) bc)) (Nat.le_refl _) HB7.out.size))) (fun hHeld => ?_)
          clear hK K
          try simp only [Act.put, List.setIfInBounds_toArray, List.set_cons_zero, List.set_cons_succ]
          refine wpAnyH_done (by kernel_rfl) ?_ _
          have HLW8 : Hid (∀ b, (Value.slice ba (k + 1) bc).ownBlock = some b → w5.heap.size < b ∧ b < w7.heap.size) := Lib.hid fun b' h => by have := own_lt HU.out (by omega) b' h; omega
          have HO8 := Lib.hid (own_kept HU.out (Only.set w7 w5.heap.size 1 (.slice ba (k + 1) bc)) (.inr (fun e => by have := HLW8.out _ e; omega)))
          have HBK8 := Lib.hid (HBK7.out.set 1 (.slice ba (k + 1) bc))
          have HB8 := Lib.hid (Only.below HB7.out (Only.set w7 w5.heap.size 1 (.slice ba (k + 1) bc)) (Nat.le_refl _) HB7.out.size)
          have HLW9 : Hid (∀ b, (Value.slice ba (k + 1) bc).ownBlock = some b → w5.heap.size < b ∧ b < (w7.setCell ⟨w5.heap.size, 1, none⟩ (.slice ba (k + 1) bc)).heap.size) := Lib.hid fun b' h => ⟨(HLW8.out b' h).1, Nat.lt_of_lt_of_le (HLW8.out b' h).2 (Only.set w7 w5.heap.size 1 (.slice ba (k + 1) bc)).size⟩
          clear r1 rf q1 q2 q3 c0 HU HG HBK7 HLW8 hHeld
          generalize w7.setCell ⟨w5.heap.size, 1, none⟩ (.slice ba (k + 1) bc) = wt at HO8 HBK8 HB8 HLW9 ⊢
          go_wp2_with fail
          go_roundw
          case rel => exact ⟨k + 1, bc, ba, by omega, by go_num, HBK8, HO8, HLW9, HB8.out⟩
          case measure => simp [intOf]; omega
      · have hkn : x.add.take k = x.add := List.take_of_length_le (by rw [← HAN.out]; omega)
        rw [hkn] at HO
        clear hkn
        obtain ⟨a2, ha2⟩ : ∃ z, z = a := ⟨_, rfl⟩
        obtain ⟨e2, he2⟩ : ∃ z, z = c := ⟨_, rfl⟩
        rw [← ha2, ← he2] at HBK HO HLW
        clear ha2 he2
        have hkn : k = an := by omega
        subst hkn
        obtain ⟨wo, hwo⟩ := the_world HB.out
        subst hwo
        clear HBZ HZ5
        go_upto_region 13 with (fail)
        clear c0 c1
        try show Code.wp _ _ _ _ _
        go_loopw [11] (fun i wr => ∃ (i1 n c : Nat) (a : Option Addr), i1 ≤ ln ∧ i = .int .i64 i1 ∧ n ≤ i1 * 300 ∧ Hid (Blk wr w5.heap.size #[.slice a n c, .slice a2 k e2, .int .u32 0, .int .u32 0, .int .u64 0] 27) ∧ Hid (Own wr (w5.heap.size + 1) 24 1 (.slice a2 k e2) k (ucells (nums x.add))) ∧ Hid (Own wr (w5.heap.size + 1) 33 4 (.slice a n c) n (fcells (backA x.rem (l.take i1)))) ∧ Hid (∀ b, (Value.slice a n c).ownBlock = some b → w5.heap.size < b ∧ b < wr.heap.size) ∧ Hid (Apart wr (.slice a2 k e2) (.slice a n c)) ∧ Below w5.heap.size w5 wr) (fun i _ => ln - (intOf i).toNat)
        case atStart => exact ⟨0, 0, 0, none, Nat.zero_le _, rfl, Nat.zero_le _, HBK, HO, own_none _ _ _ _, Lib.hid (fun b h => by simp [Value.ownBlock] at h), Lib.hid (fun b h => ⟨(HLW.out b h).2, by simp [Value.ownBlock]⟩), HB.out⟩
        case round =>
          clear HB HBK HO HLW
          obtain ⟨i1, n, c, a, hi1, rfl, hn1, HBK, HOI, HO, HLW, HAP, bel⟩ := hrel
          have HB := Lib.hid bel
          clear bel
          by_cases hlt2 : i1 < ln
          · have hil : i1 < l.length := by rw [← HLN.out]; exact hlt2
            obtain ⟨b, off, hsl, _, _, _, _⟩ := rdF_at (HVX.out wr HB.out).1 i1 hil
            subst hsl
            have HF : Hid (∀ w', Below w5.heap.size w5 w' → w'.cell? ⟨b, off + i1 * 4, none⟩ = some (.int .u32 l[i1].n) ∧ w'.cell? ⟨b, off + i1 * 4 + 1, none⟩ = some (.int .i64 l[i1].lv) ∧ w'.cell? ⟨b, off + i1 * 4 + 2, none⟩ = some (.string l[i1].a) ∧ w'.cell? ⟨b, off + i1 * 4 + 3, none⟩ = some (.string l[i1].b)) := Lib.hid fun w' hb => by
              obtain ⟨b', off', h', q0, q1, q2, q3⟩ := rdF_at (HVX.out w' hb).1 i1 hil
              simp only [Option.some.injEq, Addr.mk.injEq, and_true] at h'
              obtain ⟨rfl, rfl⟩ := h'
              exact ⟨q0, q1, q2, q3⟩
            have HTK := Lib.hid (backA_take (rem := x.rem) i1 hil)
            obtain ⟨f, hf⟩ : ∃ f, f = l[i1] := ⟨_, rfl⟩
            rw [← hf] at HF HTK
            clear hf
            obtain ⟨PRE, hPRE⟩ : ∃ P, P = backA x.rem (l.take i1) := ⟨_, rfl⟩
            rw [← hPRE] at HO HTK
            clear hPRE
            go_upto_region 16 with (fail)
            obtain ⟨wq, hwq⟩ := the_world HB.out
            subst hwq
            try show Code.wp _ _ _ _ _
            go_loopw [12] (fun jv wz => ∃ (j n2 c2 : Nat) (a' : Option Addr), j ≤ rn ∧ jv = .int .i64 j ∧ n2 ≤ i1 * 300 + j ∧ Hid (Blk wz w5.heap.size #[.slice a' n2 c2, .slice a2 k e2, .int .u32 0, .int .u32 0, .int .u64 0] 27) ∧ Hid (Own wz (w5.heap.size + 1) 24 1 (.slice a2 k e2) k (ucells (nums x.add))) ∧ Hid (Own wz (w5.heap.size + 1) 33 4 (.slice a' n2 c2) n2 (fcells (PRE ++ List.replicate ((x.rem.take j).count f.n) f))) ∧ Hid (∀ b, (Value.slice a' n2 c2).ownBlock = some b → w5.heap.size < b ∧ b < wz.heap.size) ∧ Hid (Apart wz (.slice a2 k e2) (.slice a' n2 c2)) ∧ Below w5.heap.size w5 wz) (fun jv _ => rn - (intOf jv).toNat)
            case atStart => exact ⟨0, n, c, a, Nat.zero_le _, rfl, by omega, HBK, HOI, Lib.hid (by simpa using HO.out), HLW, HAP, HB.out⟩
            case round =>
              clear HB HBK HO HLW HOI HAP
              obtain ⟨j, n2, c2, a', hj, rfl, hn2, HBK, HOI, HO, HLW, HAP, bel⟩ := hrel
              have HB := Lib.hid bel
              clear bel
              obtain ⟨_, kc1, _, _, _⟩ := HCA.out wr HB.out
              by_cases hlt3 : j < rn
              · have hjr : j < x.rem.length := by rw [← HRN.out]; exact hlt3
                obtain ⟨b2, off2, hsl2, p0⟩ := rdU_at (HVX.out wr HB.out).2.2 j hjr
                subst hsl2
                have HCT := Lib.hid (count_take (rem := x.rem) f.n j hjr)
                obtain ⟨z, hz'⟩ : ∃ z, z = x.rem[j] := ⟨_, rfl⟩
                rw [← hz'] at p0 HCT
                clear hz'
                obtain ⟨f0, f1, f2, f3⟩ := HF.out wr HB.out
                clear f1 f2 f3
                by_cases hzf : z = f.n
                · have hd : ((z : Int) == (f.n : Int)) = true := by simp; omega
                  have HC1 : Hid ((x.rem.take (j + 1)).count f.n = (x.rem.take j).count f.n + 1) := Lib.hid (by rw [HCT.out, if_pos hzf])
                  clear hzf HCT
                  go_upto_region 18 with (fail)
                  go_quiet (fail)
                  have hdq := drewN_below wr nq
                  have HBq := Lib.hid (HB.out.trans (hdq.mono HB.out.size))
                  have HBKq := Lib.hid (HBK.out.below hdq)
                  have HOIq := Lib.hid (own_below HOI.out hdq)
                  have HOq := Lib.hid (own_below HO.out hdq)
                  have HLWq : Hid (∀ b, (Value.slice a' n2 c2).ownBlock = some b → w5.heap.size < b ∧ b < (wr.drewN nq).heap.size) := Lib.hid fun b h => ⟨(HLW.out b h).1, Nat.lt_of_lt_of_le (HLW.out b h).2 hdq.size⟩
                  have HAPq := Lib.hid (HAP.out.later hdq.size)
                  clear p0 f0 kc1 hdq HB HBK HOI HO HLW HAP hd
                  go_upto_region 19 with (fail)
                  generalize wr.drewN nq = wv at HBq HBKq HOIq HOq HLWq HAPq ⊢
                  obtain ⟨W2, hW2⟩ : ∃ x, x = (wv.alloc (.cells #[.int .u32 f.n, .int .i64 f.lv, .string f.a, .string f.b] 33)).drew := ⟨_, rfl⟩
                  have hb2 : Below wv.heap.size wv W2 := by rw [hW2]; exact (alloc_bel _ _).drew
                  have HB2 := Lib.hid (HBq.out.trans (hb2.mono HBq.out.size))
                  have HBK2 := Lib.hid (HBKq.out.below hb2)
                  have HO2 := Lib.hid (own_below HOq.out hb2)
                  have HOI2 := Lib.hid (own_below HOIq.out hb2)
                  have HAP2 := Lib.hid (HAPq.out.later hb2.size)
                  have HRO : Hid (Reads W2 4 (.slice (some ⟨wv.heap.size, 0, none⟩) 1 1) 1 (fcells [f])) := Lib.hid (by rw [hW2]; exact (reads_file wv f 33).later (Below.refl _ _).drew)
                  have HSZ : Hid (w5.heap.size + 1 ≤ W2.heap.size) := Lib.hid (Nat.le_trans HBKq.out.lt hb2.size)
                  have HLW2 : Hid (some w5.heap.size ≠ (Value.slice a' n2 c2).ownBlock) := Lib.hid fun e => by have := HLWq.out _ e.symm; omega
                  clear hb2
                  have q1 : wv.drew.cell? ⟨w5.heap.size, 0, none⟩ = some (.slice a' n2 c2) := HBKq.out.cell 0
                  have q2 : wv.cell? ⟨w5.heap.size, 0, none⟩ = some (.slice a' n2 c2) := HBKq.out.cell 0
                  have q3 : (wv.alloc (.cells #[.int .u32 f.n, .int .i64 f.lv, .string f.a, .string f.b] 33)).cell? ⟨w5.heap.size, 0, none⟩ = some (.slice a' n2 c2) := HBKq.out.alloc _ |>.cell 0
                  have hn2b : n2 ≤ 100000 := by omega
                  refine wp_region_held_drew (S := fun w' => w'.cell? ⟨b, off + i1 * 4, none⟩ = some (.int .u32 f.n) ∧ w'.cell? ⟨b, off + i1 * 4 + 1, none⟩ = some (.int .i64 f.lv) ∧ w'.cell? ⟨b, off + i1 * 4 + 2, none⟩ = some (.string f.a) ∧ w'.cell? ⟨b, off + i1 * 4 + 3, none⟩ = some (.string f.b)) (by kernel_rfl) (HF.out _ HBq.out.drew) (fun hHeld => ?_)
                  refine wpAnyH_take (i := 0) (v := ?vq33) (by simp only [List.getElem?_toArray]; rfl) (by kernel_rfl) (by kernel_rfl) (by kernel_rfl) (by exact fun _ _ _ h => h) (Or.inl ⟨by rfl, ?yq33⟩) (by assumption) ?rq33
                  case yq33 => (intro w hSw; (try dsimp only at hSw); go_simp; try with_reducible rfl)
                  try simp only [Act.put, List.setIfInBounds_toArray, List.set_cons_zero, List.set_cons_succ]
                  refine wpAnyH_take (i := 2) (v := ?vq34) (by simp only [List.getElem?_toArray]; rfl) (by kernel_rfl) (by kernel_rfl) (by kernel_rfl) (by exact fun _ _ _ h => h) (Or.inl ⟨by rfl, ?yq34⟩) (by assumption) ?rq34
                  case yq34 => (intro w hSw; (try dsimp only at hSw); go_simp; try with_reducible rfl)
                  try simp only [Act.put, List.setIfInBounds_toArray, List.set_cons_zero, List.set_cons_succ]
                  refine wpAnyH_take (i := 3) (v := ?vq35) (by simp only [List.getElem?_toArray]; rfl) (by kernel_rfl) (by kernel_rfl) (by kernel_rfl) (by exact fun _ _ _ h => h) (Or.inl ⟨by rfl, ?yq35⟩) (by assumption) ?rq35
                  case yq35 => (intro w hSw; (try dsimp only at hSw); go_simp; try with_reducible rfl)
                  try simp only [Act.put, List.setIfInBounds_toArray, List.set_cons_zero, List.set_cons_succ]
                  refine wpAnyH_take (i := 4) (v := ?vq36) (by simp only [List.getElem?_toArray]; rfl) (by kernel_rfl) (by kernel_rfl) (by kernel_rfl) (by exact fun _ _ _ h => h) (Or.inl ⟨by rfl, ?yq36⟩) (by assumption) ?rq36
                  case yq36 => (intro w hSw; (try dsimp only at hSw); go_simp; try with_reducible rfl)
                  try simp only [Act.put, List.setIfInBounds_toArray, List.set_cons_zero, List.set_cons_succ]
                  refine wpAnyH_take (i := 5) (v := ?vq37) (by simp only [List.getElem?_toArray]; rfl) (by kernel_rfl) (by kernel_rfl) (by kernel_rfl) (by exact fun _ _ _ h => h) (Or.inl ⟨by rfl, ?yq37⟩) (by assumption) ?rq37
                  case yq37 => (intro w hSw; (try dsimp only at hSw); go_simp; try with_reducible rfl)
                  try simp only [Act.put, List.setIfInBounds_toArray, List.set_cons_zero, List.set_cons_succ]
                  refine wpAnyH_ready (rs := [1, 6]) (by kernel_rfl) (by simp) ?_
                  refine AllReadyH.cons (by simp only [List.getElem?_toArray]; rfl) (fun K hK => ?way1) (AllReadyH.cons (by simp only [List.getElem?_toArray]; rfl) (fun K hK => ?way2) AllReadyH.nil)
                  case way1 =>
                    go_simp
                    refine hK.out _ _ ((HF.out _ (HBq.out.drew))) (fun hHeld => ?_)
                    clear hK K
                    try simp only [Act.put, List.setIfInBounds_toArray, List.set_cons_zero, List.set_cons_succ]
                    refine wpAnyH_ready (rs := [6]) (by kernel_rfl) (by simp) ?_
                    refine AllReadyH.cons (by simp only [List.getElem?_toArray]; rfl) (fun K hK => ?_) AllReadyH.nil
                    go_simp
                    refine hK.out _ _ ((HF.out _ ((HBq.out.alloc HBq.out.size _).drew))) (fun hHeld => ?_)
                    clear hK K
                    try simp only [Act.put, List.setIfInBounds_toArray, List.set_cons_zero, List.set_cons_succ]
                    refine wpAnyH_ready (rs := [7]) (by kernel_rfl) (by simp) ?_
                    refine AllReadyH.cons (by simp only [List.getElem?_toArray]; rfl) (fun K hK => ?_) AllReadyH.nil
                    rw [← hW2]
                    refine step_app_el2 rfl _ _ rfl Try.underlying22 ji jz jz1 jz2 rfl (by omega) (w5.heap.size + 1) n2 1 (.slice a' n2 c2) _ (fcells (PRE ++ List.replicate ((x.rem.take j).count f.n) f)) (fcells [f]) (fcells (PRE ++ List.replicate ((x.rem.take (j + 1)).count f.n) f)) (n2 + 1) rfl rfl HO2.out HRO.out (one_fcells _) rfl (by rw [HC1.out, rep_snoc, fcells_app _ [f]]) (by omega) (by omega) HSZ.out ?_
                    intro ba bc w7 HU HG
                    have HB7 := Lib.hid (HB2.out.trans (HG.out.below.mono (Nat.le_succ _)))
                    have hg7 := HBK2.out.grown HG.out.rows HLW2.out
                    have r1 : w7.cell? ⟨w5.heap.size, 0, none⟩ = some (.slice a' n2 c2) := hg7.cell 0
                    have rf := hg7.free 0
                    have HBK7 := Lib.hid hg7
                    have HOI7 := Lib.hid (HG.out.keep _ _ _ _ _ _ HOI2.out HAP2.out)
                    have HAP7 := Lib.hid (HG.out.apart _ HAP2.out)
                    clear hg7
                    refine hK.out _ _ ((HF.out _ (HB7.out))) (fun hHeld => ?_)
                    clear hK K
                    try simp only [Act.put, List.setIfInBounds_toArray, List.set_cons_zero, List.set_cons_succ]
                    refine wpAnyH_take (i := 8) (v := ?vq44) (by simp only [List.getElem?_toArray]; rfl) (by kernel_rfl) (by kernel_rfl) (by kernel_rfl) (by exact fun _ _ _ h => h) (Or.inl ⟨by rfl, ?yq44⟩) (by assumption) ?rq44
                    case yq44 => (intro w hSw; (try dsimp only at hSw); go_simp; try with_reducible rfl)
                    try simp only [Act.put, List.setIfInBounds_toArray, List.set_cons_zero, List.set_cons_succ]
                    refine wpAnyH_ready (rs := [9]) (by kernel_rfl) (by simp) ?_
                    refine AllReadyH.cons (by simp only [List.getElem?_toArray]; rfl) (fun K hK => ?_) AllReadyH.nil
                    go_simp
                    refine hK.out _ _ ((HF.out _ (Only.below HB7.out (Only.set w7 w5.heap.size 0 (.slice ba (n2 + 1) bc)) (Nat.le_refl _) HB7.out.size))) (fun hHeld => ?_)
                    clear hK K
                    try simp only [Act.put, List.setIfInBounds_toArray, List.set_cons_zero, List.set_cons_succ]
                    refine wpAnyH_done (by kernel_rfl) ?_ _
                    have HLW8 : Hid (∀ b, (Value.slice ba (n2 + 1) bc).ownBlock = some b → w5.heap.size < b ∧ b < w7.heap.size) := Lib.hid fun b' h => by have := own_lt HU.out (by omega) b' h; omega
                    have HON := Only.set w7 w5.heap.size 0 (.slice ba (n2 + 1) bc)
                    have HO8 := Lib.hid (own_kept HU.out HON (.inr (fun e => by have := HLW8.out _ e; omega)))
                    have HOI8 : Hid (Own (w7.setCell ⟨w5.heap.size, 0, none⟩ (.slice ba (n2 + 1) bc)) (w5.heap.size + 1) 24 1 (.slice a2 k e2) k (ucells (nums x.add))) := Lib.hid (own_kept_base HOI7.out HON (Nat.lt_succ_self _))
                    have HAP8 := Lib.hid (HAP7.out.later HON.size)
                    have HBK8 := Lib.hid (HBK7.out.set 0 (.slice ba (n2 + 1) bc))
                    have HB8 := Lib.hid (Only.below HB7.out HON (Nat.le_refl _) HB7.out.size)
                    have HLW9 : Hid (∀ b, (Value.slice ba (n2 + 1) bc).ownBlock = some b → w5.heap.size < b ∧ b < (w7.setCell ⟨w5.heap.size, 0, none⟩ (.slice ba (n2 + 1) bc)).heap.size) := Lib.hid fun b' h => ⟨(HLW8.out b' h).1, Nat.lt_of_lt_of_le (HLW8.out b' h).2 HON.size⟩
                    clear r1 rf q1 q2 q3 HU HG HBK7 HLW8 hHeld HON
                    generalize w7.setCell ⟨w5.heap.size, 0, none⟩ (.slice ba (n2 + 1) bc) = wt at HO8 HBK8 HB8 HLW9 HOI8 HAP8 ⊢
                    go_wp2_with fail
                    go_roundw
                    case rel => exact ⟨j + 1, n2 + 1, bc, ba, by omega, by go_num, by omega, HBK8, HOI8, HO8, HLW9, HAP8, HB8.out⟩
                    case measure => simp [intOf]; omega
                  case way2 =>
                    go_simp
                    refine hK.out _ _ ((HF.out _ ((HBq.out.alloc HBq.out.size _).drew))) (fun hHeld => ?_)
                    clear hK K
                    try simp only [Act.put, List.setIfInBounds_toArray, List.set_cons_zero, List.set_cons_succ]
                    refine wpAnyH_ready (rs := [1]) (by kernel_rfl) (by simp) ?_
                    refine AllReadyH.cons (by simp only [List.getElem?_toArray]; rfl) (fun K hK => ?_) AllReadyH.nil
                    go_simp
                    refine hK.out _ _ ((HF.out _ ((HBq.out.alloc HBq.out.size _).drew))) (fun hHeld => ?_)
                    clear hK K
                    try simp only [Act.put, List.setIfInBounds_toArray, List.set_cons_zero, List.set_cons_succ]
                    refine wpAnyH_ready (rs := [7]) (by kernel_rfl) (by simp) ?_
                    refine AllReadyH.cons (by simp only [List.getElem?_toArray]; rfl) (fun K hK => ?_) AllReadyH.nil
                    rw [← hW2]
                    refine step_app_el2 rfl _ _ rfl Try.underlying22 ji jz jz1 jz2 rfl (by omega) (w5.heap.size + 1) n2 1 (.slice a' n2 c2) _ (fcells (PRE ++ List.replicate ((x.rem.take j).count f.n) f)) (fcells [f]) (fcells (PRE ++ List.replicate ((x.rem.take (j + 1)).count f.n) f)) (n2 + 1) rfl rfl HO2.out HRO.out (one_fcells _) rfl (by rw [HC1.out, rep_snoc, fcells_app _ [f]]) (by omega) (by omega) HSZ.out ?_
                    intro ba bc w7 HU HG
                    have HB7 := Lib.hid (HB2.out.trans (HG.out.below.mono (Nat.le_succ _)))
                    have hg7 := HBK2.out.grown HG.out.rows HLW2.out
                    have r1 : w7.cell? ⟨w5.heap.size, 0, none⟩ = some (.slice a' n2 c2) := hg7.cell 0
                    have rf := hg7.free 0
                    have HBK7 := Lib.hid hg7
                    have HOI7 := Lib.hid (HG.out.keep _ _ _ _ _ _ HOI2.out HAP2.out)
                    have HAP7 := Lib.hid (HG.out.apart _ HAP2.out)
                    clear hg7
                    refine hK.out _ _ ((HF.out _ (HB7.out))) (fun hHeld => ?_)
                    clear hK K
                    try simp only [Act.put, List.setIfInBounds_toArray, List.set_cons_zero, List.set_cons_succ]
                    refine wpAnyH_take (i := 8) (v := ?vq50) (by simp only [List.getElem?_toArray]; rfl) (by kernel_rfl) (by kernel_rfl) (by kernel_rfl) (by exact fun _ _ _ h => h) (Or.inl ⟨by rfl, ?yq50⟩) (by assumption) ?rq50
                    case yq50 => (intro w hSw; (try dsimp only at hSw); go_simp; try with_reducible rfl)
                    try simp only [Act.put, List.setIfInBounds_toArray, List.set_cons_zero, List.set_cons_succ]
                    refine wpAnyH_ready (rs := [9]) (by kernel_rfl) (by simp) ?_
                    refine AllReadyH.cons (by simp only [List.getElem?_toArray]; rfl) (fun K hK => ?_) AllReadyH.nil
                    go_simp
                    refine hK.out _ _ ((HF.out _ (Only.below HB7.out (Only.set w7 w5.heap.size 0 (.slice ba (n2 + 1) bc)) (Nat.le_refl _) HB7.out.size))) (fun hHeld => ?_)
                    clear hK K
                    try simp only [Act.put, List.setIfInBounds_toArray, List.set_cons_zero, List.set_cons_succ]
                    refine wpAnyH_done (by kernel_rfl) ?_ _
                    have HLW8 : Hid (∀ b, (Value.slice ba (n2 + 1) bc).ownBlock = some b → w5.heap.size < b ∧ b < w7.heap.size) := Lib.hid fun b' h => by have := own_lt HU.out (by omega) b' h; omega
                    have HON := Only.set w7 w5.heap.size 0 (.slice ba (n2 + 1) bc)
                    have HO8 := Lib.hid (own_kept HU.out HON (.inr (fun e => by have := HLW8.out _ e; omega)))
                    have HOI8 : Hid (Own (w7.setCell ⟨w5.heap.size, 0, none⟩ (.slice ba (n2 + 1) bc)) (w5.heap.size + 1) 24 1 (.slice a2 k e2) k (ucells (nums x.add))) := Lib.hid (own_kept_base HOI7.out HON (Nat.lt_succ_self _))
                    have HAP8 := Lib.hid (HAP7.out.later HON.size)
                    have HBK8 := Lib.hid (HBK7.out.set 0 (.slice ba (n2 + 1) bc))
                    have HB8 := Lib.hid (Only.below HB7.out HON (Nat.le_refl _) HB7.out.size)
                    have HLW9 : Hid (∀ b, (Value.slice ba (n2 + 1) bc).ownBlock = some b → w5.heap.size < b ∧ b < (w7.setCell ⟨w5.heap.size, 0, none⟩ (.slice ba (n2 + 1) bc)).heap.size) := Lib.hid fun b' h => ⟨(HLW8.out b' h).1, Nat.lt_of_lt_of_le (HLW8.out b' h).2 HON.size⟩
                    clear r1 rf q1 q2 q3 HU HG HBK7 HLW8 hHeld HON
                    generalize w7.setCell ⟨w5.heap.size, 0, none⟩ (.slice ba (n2 + 1) bc) = wt at HO8 HBK8 HB8 HLW9 HOI8 HAP8 ⊢
                    go_wp2_with fail
                    go_roundw
                    case rel => exact ⟨j + 1, n2 + 1, bc, ba, by omega, by go_num, by omega, HBK8, HOI8, HO8, HLW9, HAP8, HB8.out⟩
                    case measure => simp [intOf]; omega
                · have hd : ((z : Int) == (f.n : Int)) = false := by simp; omega
                  have HC1 : Hid ((x.rem.take (j + 1)).count f.n = (x.rem.take j).count f.n) := Lib.hid (by rw [HCT.out, if_neg hzf]; rfl)
                  clear hzf HCT
                  go_upto_region 18 with (fail)
                  go_quiet (fail)
                  have hdq := drewN_below wr nq
                  have HBq := Lib.hid (HB.out.trans (hdq.mono HB.out.size))
                  have HBKq := Lib.hid (HBK.out.below hdq)
                  have HOIq := Lib.hid (own_below HOI.out hdq)
                  have HOq : Hid (Own (wr.drewN nq) (w5.heap.size + 1) 33 4 (.slice a' n2 c2) n2 (fcells (PRE ++ List.replicate ((x.rem.take (j + 1)).count f.n) f))) := Lib.hid (by rw [HC1.out]; exact own_below HO.out hdq)
                  have HLWq : Hid (∀ b, (Value.slice a' n2 c2).ownBlock = some b → w5.heap.size < b ∧ b < (wr.drewN nq).heap.size) := Lib.hid fun b h => ⟨(HLW.out b h).1, Nat.lt_of_lt_of_le (HLW.out b h).2 hdq.size⟩
                  have HAPq := Lib.hid (HAP.out.later hdq.size)
                  clear p0 f0 kc1 hdq HB HBK HOI HO HLW HAP
                  go_wp2_with fail
                  go_roundw
                  case rel => exact ⟨j + 1, n2, c2, a', by omega, by go_num, by omega, HBKq, HOIq, HOq, HLWq, HAPq, HBq.out⟩
                  case measure => simp [intOf]; omega
              · have hjn : x.rem.take j = x.rem := List.take_of_length_le (by rw [← HRN.out]; omega)
                rw [hjn, ← HTK.out] at HO
                clear hjn
                go_wp2_with fail
                go_roundw
                case rel => exact ⟨i1 + 1, n2, c2, a', by omega, by go_num, by omega, HBK, HOI, HO, HLW, HAP, HB.out⟩
                case measure => simp [intOf]; omega
          · have hil : l.take i1 = l := List.take_of_length_le (by rw [← HLN.out]; omega)
            rw [hil] at HO
            clear hil
            have kc0 : wr.cell? ⟨w5.heap.size, 0, none⟩ = some (.slice a n c) := HBK.out.cell 0
            have kc1 : wr.cell? ⟨w5.heap.size, 1, none⟩ = some (.slice a2 k e2) := HBK.out.cell 1
            have kc2 : wr.cell? ⟨w5.heap.size, 2, none⟩ = some (.int .u32 0) := HBK.out.cell 2
            have kc3 : wr.cell? ⟨w5.heap.size, 3, none⟩ = some (.int .u32 0) := HBK.out.cell 3
            have kc4 : wr.cell? ⟨w5.heap.size, 4, none⟩ = some (.int .u64 0) := HBK.out.cell 4
            obtain ⟨hnb, hrb⟩ := rdF_of (reads_of_own HO.out)
            obtain ⟨hni, hri⟩ := rdU_of (reads_of_own HOI.out)
            have hnk : n ≤ 90000 := by omega
            have HDO := Lib.hid (do_n wr (.slice a1 n1 k1) (.agg #[.slice a n c, .slice a2 k e2, .int .u32 0, .int .u32 0, .int .u64 0]) r1 ⟨backA x.rem l, nums x.add, 0, 0, 0⟩ (HXI.out wr HB.out).2 ⟨_, _, rfl, hrb, hri⟩ (by have := HLr1.out; omega) (by show (backA x.rem l).length ≤ _; omega) (by show (nums x.add).length ≤ _; omega) HK5.out (fun f hf => HLO.out f (backA_mem hf)))
            clear hnb hrb hni hri hnk
            go_wp2_with fail
            refine HDO.out.mono ?_
            rintro e w9 ⟨r2, q2, n2, a3, k3', rfl, HN9, HQ9, HD9, HR9, hc9, hm9, HK9, HL9, b9⟩
            have HB9 := Lib.hid (HB.out.trans (b9.mono HB.out.size))
            obtain ⟨rfl, rfl⟩ := HUN.out r2 q2 HD9.out
            have HS := Lib.hid (sameF_any w9 _ _ r2 HR9.out ((HXI.out w9 HB9.out).1))
            clear b9 HDO kc0 kc1 kc2 kc3 kc4
            go_wp2_with fail
            refine HS.out.mono ?_
            rintro e w10 ⟨rfl, b10⟩
            have HB10 := Lib.hid (HB9.out.trans (b10.mono HB9.out.size))
            clear b10
            go_wp2
            go_ret
            exact ⟨rfl, HEV.out _ HB10.out⟩
end Go.Proofs.Ytmonmfamnbfhcaa

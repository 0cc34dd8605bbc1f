/- Two edits that have no number in common: plain; law11.nums, law11.meet. The conditions: lists of 100000 elements at most. -/
import Derived.Test.YtmonmfamnbfhcaaFlR
import Derived.Deep.Cut
namespace Go.Proofs.Ytmonmfamnbfhcaa
open Go.RowKit

def numsX (x : PX) : List Nat := x.rem ++ nums x.add
def meetB (x y : PX) : Bool := (numsX x).any fun k => decide (k ∈ numsX y)
theorem keep_comm (R S : List Nat) (l : List PF) : keepF R (keepF S l) = keepF S (keepF R l) := by
  unfold keepF
  rw [List.filter_filter, List.filter_filter]
  congr 1; funext f; rw [Bool.and_comm]
theorem keep_all {R : List Nat} {l : List PF} (h : ∀ f ∈ l, f.n ∉ R) : keepF R l = l := by
  unfold keepF
  rw [List.filter_eq_self]
  intro f hf
  simpa using h f hf
theorem meet_no {x y : PX} (h : meetB x y = false) : ∀ k, k ∈ x.rem ∨ k ∈ nums x.add → k ∉ y.rem ∧ k ∉ nums y.add := by
  intro k hk
  unfold meetB numsX at h
  rw [List.any_eq_false] at h
  have := h k (by simpa using hk)
  simpa using this
theorem both_can {l r1 : List PF} {x y : PX} {q1 : Nat} (h1 : DoR l x.add x.rem r1 q1) (e1 : q1 = 0) {r2 : List PF} {q2 : Nat} (h2 : DoR l y.add y.rem r2 q2) (e2 : q2 = 0) (hm : meetB x y = false) :
    Can r1 y.add y.rem ∧ (keepF y.rem r1 ++ y.add).Perm (keepF y.rem (keepF x.rem l) ++ x.add ++ y.add) := by
  have hn := meet_no hm
  obtain ⟨⟨a1, a2, a3, a4, a5, a6⟩, hp, hs⟩ := doR_ok h1 e1
  obtain ⟨⟨b1, b2, b3, b4, b5, b6⟩, _, _⟩ := doR_ok h2 e2
  have hax : keepF y.rem x.add = x.add := keep_all fun f hf => (hn f.n (.inr (nums_mem hf))).1
  have hpp : (keepF y.rem r1).Perm (keepF y.rem (keepF x.rem l) ++ x.add) := by
    have h3 : (keepF y.rem r1).Perm (keepF y.rem (keepF x.rem l ++ x.add)) := hp.filter _
    rw [keepF_app, hax] at h3
    exact h3
  refine ⟨⟨fine_perm hp (fine_app (fine_keep a1) a2), b2, (hp.map PF.n).nodup_iff.2 a6, b4, fun k hk => ?_, ?_⟩, hpp.append_right _⟩
  · have hkl := b5 k hk
    obtain ⟨f, hf, rfl⟩ := List.mem_map.1 hkl
    have hfx : f.n ∉ x.rem := fun hx => (hn f.n (.inl hx)).1 hk
    exact nums_mem (hp.mem_iff.2 (List.mem_append.2 (.inl (mem_keepF.2 ⟨hf, hfx⟩))))
  · refine (((hpp.append_right y.add).map PF.n).nodup_iff).2 ?_
    show (nums (keepF y.rem (keepF x.rem l) ++ x.add ++ y.add)).Nodup
    rw [nums_app]
    have c1 : (nums (keepF y.rem (keepF x.rem l) ++ x.add)).Nodup := by
      have hsub : (keepF y.rem (keepF x.rem l) ++ x.add).Sublist (keepF x.rem l ++ x.add) := (List.filter_sublist).append_right _
      exact a6.sublist (hsub.map _)
    have c2 : (nums y.add).Nodup := by
      rw [nums_app] at b6
      exact (List.nodup_append.1 b6).2.1
    refine List.nodup_append.2 ⟨c1, c2, fun u hu v hv e => ?_⟩
    subst e
    rw [nums_app, List.mem_append] at hu
    rcases hu with hu | hu
    · rw [keep_comm] at hu
      obtain ⟨f, hf, rfl⟩ := List.mem_map.1 hu
      have hf2 := (mem_keepF.1 hf).1
      rw [nums_app] at b6
      exact (List.nodup_append.1 b6).2.2 _ (nums_mem hf2) _ hv rfl
    · exact (hn u (.inr hu)).2 hv
theorem meet_comm {x y : PX} (h : meetB x y = false) : meetB y x = false := by
  have hn := meet_no h
  unfold meetB numsX
  rw [List.any_eq_false]
  intro k hk
  simp only [List.mem_append, decide_eq_true_eq] at hk ⊢
  intro h2
  have := hn k h2
  rcases hk with hk | hk
  · exact this.1 hk
  · exact this.2 hk
theorem both_same {l r1 r2 r3 r4 : List PF} {x y : PX} {q1 q2 q3 q4 : Nat} (h1 : DoR l x.add x.rem r1 q1) (e1 : q1 = 0) (h2 : DoR l y.add y.rem r2 q2) (e2 : q2 = 0) (hm : meetB x y = false)
    (h3 : DoR r1 y.add y.rem r3 q3) (h4 : DoR r2 x.add x.rem r4 q4) : q3 = 0 ∧ q4 = 0 ∧ r3 = r4 := by
  obtain ⟨c1, p1⟩ := both_can h1 e1 h2 e2 hm
  obtain ⟨c2, p2⟩ := both_can h2 e2 h1 e1 (meet_comm hm)
  obtain ⟨f3, g3, s3⟩ := doR_is h3 c1
  obtain ⟨f4, g4, s4⟩ := doR_is h4 c2
  refine ⟨f3, f4, sorted_one s3 s4 (((g3.trans p1).trans ?_).trans (g4.trans p2).symm)⟩
  rw [keep_comm]
  rw [List.append_assoc, List.append_assoc]
  exact List.perm_append_comm.append_left _

theorem reads_one32 (w : World) (f : Nat) (ty : TypeId) : Reads (w.alloc (.cells #[.int .u32 f] ty)) 1 (.slice (some ⟨w.heap.size, 0, none⟩) 1 1) 1 (ucells [f]) :=
  reads_new w #[.int .u32 f] ty 1 1 rfl (by decide)
set_option maxRecDepth 100000 in
set_option maxHeartbeats 1000000 in
theorem numsX_any (w : World) (vx : Value) (x : PX) (hx : RdX w vx x) (ha : x.add.length ≤ 100000) (hr : x.rem.length ≤ 100000) :
    Calls Try.prog 53 #[vx] w fun e w' => ∃ a n c, e = .returned (.slice a n c) ∧ Hid (n = (numsX x).length) ∧ Hid (Own w' w.heap.size 24 1 (.slice a n c) n (ucells (numsX x))) ∧ Below w.heap.size w w' := by
  obtain ⟨va, vr, rfl, hva, hvr⟩ := hx
  obtain ⟨aa, an, ac, rfl, HAN, hac, ham⟩ := rdF_sl hva
  obtain ⟨ra, rn, rc, rfl, HRN, hrc, hrm⟩ := rdU_sl hvr
  obtain ⟨W, hW⟩ : ∃ W, W = w.alloc (.cells #[.slice aa an ac, .slice ra rn rc, .int .u32 x.jo, .int .u32 x.nx, .int .u64 x.sq] 27) := ⟨_, rfl⟩
  have hBlk : Blk W w.heap.size #[.slice aa an ac, .slice ra rn rc, .int .u32 x.jo, .int .u32 x.nx, .int .u64 x.sq] 27 := by rw [hW]; exact Blk.new _ _ _
  have HBW : Hid (Below w.heap.size w W) := Lib.hid (by rw [hW]; exact alloc_bel _ _)
  have HC : Hid (∀ w', Below W.heap.size W w' → w'.cell? ⟨w.heap.size, 0, none⟩ = some (.slice aa an ac)) := Lib.hid fun w' hb => Below.keeps hb _ _ _ (hBlk.cell 0)
  have k1 : W.cell? ⟨w.heap.size, 1, none⟩ = some (.slice ra rn rc) := hBlk.cell 1
  have HVA : Hid (∀ w', Below W.heap.size W w' → RdF w' (.slice aa an ac) x.add) := Lib.hid fun w' hb => (hva.below HBW.out).below hb
  have HVR : Hid (Reads W 1 (.slice ra rn rc) rn (ucells x.rem)) := Lib.hid (by have := rdU_reads (hvr.below HBW.out); rwa [← HRN.out] at this)
  obtain ⟨i0, hi, hz, hz1, hz2⟩ := info_parts info_u32
  have han : an ≤ 100000 := by rw [HAN.out]; exact ha
  have hrn : rn ≤ 100000 := by rw [HRN.out]; exact hr
  clear hva hvr hBlk ha hr
  go_enter Try.func53, Try.ntmps53
  go_upto_region 1 with (fail)
  rw [← hW]
  clear hW
  go_wp2_with (at_builtin; go_loud (refine wp_app_el2 rfl _ _ rfl Try.underlying23 hi hz hz1 hz2 rfl (by omega) W.heap.size 0 rn (.slice none 0 0) (.slice ra rn rc) [] (ucells x.rem) (ucells x.rem) rn rfl rfl (own_nil _ _ _ _) HVR.out (one_ucells _) (by omega) rfl (by omega) (by omega) (Nat.le_refl _) ?_); intro ua uc w2 HX2 HG2)
  have HB2 : Hid (Below W.heap.size W w2) := Lib.hid HG2.out.below
  clear k1 HG2
  obtain ⟨c0⟩ : Nonempty (w2.cell? ⟨w.heap.size, 0, none⟩ = some (.slice aa an ac)) := ⟨HC.out w2 HB2.out⟩
  go_upto_region 3 with (fail)
  go_loopw [3, 4] (fun lv i wr => ∃ (k n c : Nat) (a : Option Addr), k ≤ an ∧ i = .int .i64 k ∧ lv = .slice a n c ∧ Hid (n = (x.rem ++ nums (x.add.take k)).length) ∧ Hid (Own wr W.heap.size 24 1 (.slice a n c) n (ucells (x.rem ++ nums (x.add.take k)))) ∧ Below W.heap.size W wr) (fun _ i _ => an - (intOf i).toNat)
  case atStart => exact ⟨0, rn, uc, ua, Nat.zero_le _, rfl, rfl, Lib.hid (by simpa [nums] using HRN.out), by simpa [nums] using HX2, HB2.out⟩
  case round =>
    obtain ⟨k, n, c, a, hk, rfl, rfl, hn, hO, bel⟩ := hrel
    have HB := Lib.hid bel
    clear bel
    have k0 := HC.out wr HB.out
    by_cases hlt : k < an
    · have hka : k < x.add.length := by rw [← HAN.out]; exact hlt
      obtain ⟨b, off, hsl, p0, _, _, _⟩ := rdF_at (HVA.out wr HB.out) k hka
      subst hsl
      have hnx : nums (x.add.take (k + 1)) = nums (x.add.take k) ++ [x.add[k].n] := by rw [List.take_succ_eq_append_getElem hka, nums_app]; rfl
      have HNX := Lib.hid hnx
      obtain ⟨z, hz'⟩ : ∃ z, z = x.add[k].n := ⟨_, rfl⟩
      rw [← hz'] at p0 HNX
      clear hz' hnx
      have hn2 : n ≤ 200000 := by
        rw [hn.out]
        simp only [List.length_append, nums, List.length_map, List.length_take]
        rw [← HRN.out]
        omega
      have HO2 := Lib.hid (own_below hO.out (alloc_bel wr (.cells #[.int .u32 z] 24)))
      have HSZ : Hid (W.heap.size ≤ (wr.alloc (.cells #[.int .u32 z] 24)).heap.size) := Lib.hid (Nat.le_trans HB.out.size (alloc_bel wr _).size)
      have HB3 := Lib.hid (HB.out.trans ((alloc_bel wr (.cells #[.int .u32 z] 24)).mono HB.out.size))
      have HRO := Lib.hid (reads_one32 wr z 24)
      go_wp2_with (at_builtin; go_loud (refine wp_app_el2 rfl _ _ rfl Try.underlying23 hi hz hz1 hz2 rfl (by omega) W.heap.size n 1 (.slice a n c) _ (ucells (x.rem ++ nums (x.add.take k))) (ucells [z]) (ucells (x.rem ++ nums (x.add.take (k + 1)))) (n + 1) rfl rfl HO2.out HRO.out (one_ucells _) rfl (by rw [HNX.out, ← List.append_assoc, ← ucells_app]) (by omega) (by omega) HSZ.out ?_); intro va vc w3 HX3 HG3)
      go_roundw
      case rel => exact ⟨k + 1, n + 1, vc, va, by omega, by go_num, rfl, Lib.hid (by rw [HNX.out, ← List.append_assoc, List.length_append, ← hn.out]; rfl), HX3, HB3.out.trans HG3.out.below⟩
      case measure => simp [intOf]; omega
    · have hkn : x.add.take k = x.add := List.take_of_length_le (by rw [← HAN.out]; omega)
      rw [hkn] at hn hO
      clear hkn
      go_wp2
      go_ret
      exact ⟨a, n, c, rfl, hn, Lib.hid (own_mono hO.out HBW.out.size), HBW.out.trans (HB.out.mono HBW.out.size)⟩

set_option maxRecDepth 100000 in
set_option maxHeartbeats 1000000 in
theorem meet_any (w : World) (vx vy : Value) (x y : PX) (hx : RdX w vx x) (hy : RdX w vy y) (ha : x.add.length ≤ 100000) (hr : x.rem.length ≤ 100000) (hb : y.add.length ≤ 100000) (hs : y.rem.length ≤ 100000) :
    Calls Try.prog 23 #[vx, vy] w fun e w' => e = .returned (.bool (meetB x y)) ∧ Below w.heap.size w w' := by
  obtain ⟨va, vr, rfl, hva, hvr⟩ := hx
  obtain ⟨vb, vs, rfl, hvb, hvs⟩ := hy
  obtain ⟨aa, an, ac, rfl, _, _, _⟩ := rdF_sl hva
  obtain ⟨ra, rn, rc, rfl, _, _, _⟩ := rdU_sl hvr
  obtain ⟨ba, bn, bc, rfl, _, _, _⟩ := rdF_sl hvb
  obtain ⟨sa, sn, sc, rfl, _, _, _⟩ := rdU_sl hvs
  obtain ⟨W, hW⟩ : ∃ W, W = (w.alloc (.cells #[.slice aa an ac, .slice ra rn rc, .int .u32 x.jo, .int .u32 x.nx, .int .u64 x.sq] 27)).alloc (.cells #[.slice ba bn bc, .slice sa sn sc, .int .u32 y.jo, .int .u32 y.nx, .int .u64 y.sq] 27) := ⟨_, rfl⟩
  have hBlk : Blk W w.heap.size #[.slice aa an ac, .slice ra rn rc, .int .u32 x.jo, .int .u32 x.nx, .int .u64 x.sq] 27 := by rw [hW]; exact (Blk.new _ _ _).alloc _
  have hBlkY : Blk W (w.heap.size + 1) #[.slice ba bn bc, .slice sa sn sc, .int .u32 y.jo, .int .u32 y.nx, .int .u64 y.sq] 27 := by rw [hW]; exact Blk.new_at _ _ _ _ (by simp)
  have HBW : Hid (Below w.heap.size w W) := Lib.hid (by rw [hW]; exact (alloc_bel _ _).trans ((alloc_bel _ _).mono (alloc_bel _ _).size))
  have HC : Hid (∀ w', Below W.heap.size W w' → (w'.cell? ⟨w.heap.size, 0, none⟩ = some (.slice aa an ac) ∧ w'.cell? ⟨w.heap.size, 1, none⟩ = some (.slice ra rn rc) ∧ w'.cell? ⟨w.heap.size, 2, none⟩ = some (.int .u32 x.jo) ∧ w'.cell? ⟨w.heap.size, 3, none⟩ = some (.int .u32 x.nx) ∧ w'.cell? ⟨w.heap.size, 4, none⟩ = some (.int .u64 x.sq)) ∧ (w'.cell? ⟨w.heap.size + 1, 0, none⟩ = some (.slice ba bn bc) ∧ w'.cell? ⟨w.heap.size + 1, 1, none⟩ = some (.slice sa sn sc) ∧ w'.cell? ⟨w.heap.size + 1, 2, none⟩ = some (.int .u32 y.jo) ∧ w'.cell? ⟨w.heap.size + 1, 3, none⟩ = some (.int .u32 y.nx) ∧ w'.cell? ⟨w.heap.size + 1, 4, none⟩ = some (.int .u64 y.sq))) := Lib.hid fun w' hb => ⟨⟨Below.keeps hb _ _ _ (hBlk.cell 0), Below.keeps hb _ _ _ (hBlk.cell 1), Below.keeps hb _ _ _ (hBlk.cell 2), Below.keeps hb _ _ _ (hBlk.cell 3), Below.keeps hb _ _ _ (hBlk.cell 4)⟩, ⟨Below.keeps hb _ _ _ (hBlkY.cell 0), Below.keeps hb _ _ _ (hBlkY.cell 1), Below.keeps hb _ _ _ (hBlkY.cell 2), Below.keeps hb _ _ _ (hBlkY.cell 3), Below.keeps hb _ _ _ (hBlkY.cell 4)⟩⟩
  have HV : Hid (∀ w', Below W.heap.size W w' → RdX w' (.agg #[.slice aa an ac, .slice ra rn rc, .int .u32 x.jo, .int .u32 x.nx, .int .u64 x.sq]) x ∧ RdX w' (.agg #[.slice ba bn bc, .slice sa sn sc, .int .u32 y.jo, .int .u32 y.nx, .int .u64 y.sq]) y) := Lib.hid fun w' hb => ⟨⟨_, _, rfl, (hva.below HBW.out).below hb, (hvr.below HBW.out).below hb⟩, ⟨_, _, rfl, (hvb.below HBW.out).below hb, (hvs.below HBW.out).below hb⟩⟩
  clear hva hvr hvb hvs hBlk hBlkY
  obtain ⟨⟨c0, c1, c2, c3, c4⟩, _⟩ := HC.out W (Below.refl _ _)
  obtain ⟨B, hB⟩ : ∃ b, b = meetB x y := ⟨_, rfl⟩
  have HBB := Lib.hid hB
  rw [← hB]
  clear hB
  have HN1 := Lib.hid (numsX_any W (.agg #[.slice aa an ac, .slice ra rn rc, .int .u32 x.jo, .int .u32 x.nx, .int .u64 x.sq]) x (HV.out W (Below.refl _ _)).1 ha hr)
  go_enter Try.func23, Try.ntmps23
  go_wp2_with fail
  rw [← hW]
  clear hW
  go_wp2_with fail
  refine HN1.out.mono ?_
  rintro e w2 ⟨na, nn, nc, rfl, HNN, HNO, b2⟩
  have HB2 := Lib.hid b2
  clear b2 c0 c1 c2 c3 c4
  obtain ⟨_, ⟨c0, c1, c2, c3, c4⟩⟩ := HC.out w2 HB2.out
  have HN2 := Lib.hid (numsX_any w2 (.agg #[.slice ba bn bc, .slice sa sn sc, .int .u32 y.jo, .int .u32 y.nx, .int .u64 y.sq]) y (HV.out w2 HB2.out).2 hb hs)
  go_wp2_with fail
  refine HN2.out.mono ?_
  rintro e w3 ⟨ma, mn, mc, rfl, HMN, HMO, b3⟩
  have HB3 := Lib.hid (HB2.out.trans (b3.mono HB2.out.size))
  have HR1 := Lib.hid (rdU_of (reads_of_own (own_below HNO.out b3))).2
  have HR2 := Lib.hid (rdU_of (reads_of_own HMO.out)).2
  have hn1 : nn ≤ 200000 := by rw [HNN.out]; simp only [numsX, nums, List.length_append, List.length_map]; omega
  have hm1 : mn ≤ 200000 := by rw [HMN.out]; simp only [numsX, nums, List.length_append, List.length_map]; omega
  obtain ⟨p, hp⟩ : ∃ p, p = numsX x := ⟨_, rfl⟩
  obtain ⟨r, hr2⟩ : ∃ p, p = numsX y := ⟨_, rfl⟩
  have HMB : Hid (meetB x y = p.any fun k => decide (k ∈ r)) := Lib.hid (by rw [hp, hr2]; rfl)
  rw [← hp] at HNN HR1
  rw [← hr2] at HMN HR2
  obtain ⟨_, _, he, g1, g2, _⟩ := HR1.out
  obtain ⟨_, _, he', g1', g2', _⟩ := HR2.out
  simp only [Value.slice.injEq] at he he'
  obtain ⟨rfl, _, rfl⟩ := he
  obtain ⟨rfl, _, rfl⟩ := he'
  rw [← HNN.out] at g1
  rw [← HMN.out] at g1'
  clear b3 c0 c1 c2 c3 c4 HN1 HN2 HNO HMO hp hr2 ha hr hb hs HC HV HB2
  go_upto_region 4 with (fail)
  go_loopw [7] (fun i wr => ∃ k : Nat, k ≤ nn ∧ i = .int .i64 k ∧ Hid (∀ j, (h : j < k) → (h2 : j < p.length) → p[j] ∉ r) ∧ Below w3.heap.size w3 wr) (fun i _ => nn - (intOf i).toNat)
  case atStart => exact ⟨0, Nat.zero_le _, rfl, Lib.hid (fun j h => by omega), Below.refl _ _⟩
  case round =>
    obtain ⟨k, hk, rfl, hno, bel⟩ := hrel
    have HBR := Lib.hid bel
    clear bel
    by_cases hlt : k < nn
    · have hkp : k < p.length := by rw [← HNN.out]; exact hlt
      obtain ⟨b, off, hsl, p0⟩ := rdU_at (HR1.out.below HBR.out) k hkp
      subst hsl
      obtain ⟨z, hz⟩ : ∃ z, z = p[k] := ⟨_, rfl⟩
      rw [← hz] at p0
      have HZ := Lib.hid hz
      clear hz
      obtain ⟨wo, hwo⟩ := the_world HBR.out
      subst hwo
      have HP0 : Hid (∀ w', Below wo.heap.size wo w' → w'.cell? ⟨b, off + k, none⟩ = some (.int .u32 z)) := Lib.hid fun w' hb => Below.keeps hb _ _ _ p0
      clear p0
      go_upto_region 7 with (fail)
      go_loopw [8] (fun i wr => ∃ j : Nat, j ≤ mn ∧ i = .int .i64 j ∧ Hid (∀ t, (h : t < j) → (h2 : t < r.length) → r[t] ≠ z) ∧ Below wo.heap.size wo wr) (fun i _ => mn - (intOf i).toNat)
      case atStart => exact ⟨0, Nat.zero_le _, rfl, Lib.hid (fun j h => by omega), Below.refl _ _⟩
      case round =>
        obtain ⟨j, hj, rfl, hne, belq⟩ := hrel
        have HBJ := Lib.hid belq
        have HBJ3 := Lib.hid (HBR.out.trans (belq.mono HBR.out.size))
        clear belq
        by_cases hjl : j < mn
        · have hjr : j < r.length := by rw [← HMN.out]; exact hjl
          obtain ⟨b2, off2, hsl2, q0⟩ := rdU_at (HR2.out.below HBJ3.out) j hjr
          subst hsl2
          have p0 := HP0.out wr HBJ.out
          obtain ⟨y', hy'⟩ : ∃ z, z = r[j] := ⟨_, rfl⟩
          rw [← hy'] at q0
          have HY := Lib.hid hy'
          clear hy'
          by_cases hzy : z = y'
          · have hd : ((z : Int) == (y' : Int)) = true := by simp; omega
            have hmt : meetB x y = true := by
              rw [HMB.out, List.any_eq_true]
              exact ⟨z, by rw [HZ.out]; exact List.getElem_mem hkp, by rw [decide_eq_true_eq, hzy, HY.out]; exact List.getElem_mem hjr⟩
            have HB' : Hid (B = true) := Lib.hid (HBB.out.trans hmt)
            clear hzy hmt
            go_upto_region 9 with (fail)
            go_quiet (fail)
            have HBQ := Lib.hid (HBJ3.out.trans ((drewN_below wr nq).mono HBJ3.out.size))
            go_wp2
            go_ret
            exact ⟨ret_bool HB'.out.symm, HBW.out.trans ((HB3.out.trans (HBQ.out.mono HB3.out.size)).mono HBW.out.size)⟩
          · have hd : ((z : Int) == (y' : Int)) = false := by simp; omega
            have HZY := Lib.hid hzy
            clear hzy
            go_upto_region 9 with (fail)
            go_quiet (fail)
            have HBQ := Lib.hid (HBJ.out.trans ((drewN_below wr nq).mono HBJ.out.size))
            go_wp2_with fail
            go_roundw
            case rel =>
              refine ⟨j + 1, by omega, by go_num, Lib.hid (fun t h h2 => ?_), HBQ.out⟩
              by_cases e : t = j
              · subst e; rw [← HY.out]; exact fun h => HZY.out h.symm
              · exact hne.out t (by omega) h2
            case measure => simp [intOf]; omega
        · have hnr : z ∉ r := by
            intro h
            obtain ⟨t, ht, e⟩ := List.getElem_of_mem h
            exact hne.out t (by rw [← HMN.out] at ht; omega) ht e
          have HNR := Lib.hid hnr
          clear hnr hne
          go_wp2_with fail
          go_roundw
          case rel =>
            refine ⟨k + 1, by omega, by go_num, Lib.hid (fun t h h2 => ?_), HBJ3.out⟩
            by_cases e : t = k
            · subst e; rw [← HZ.out]; exact HNR.out
            · exact hno.out t (by omega) h2
          case measure => simp [intOf]; omega
    · have hmf : meetB x y = false := by
        rw [HMB.out, List.any_eq_false]
        intro z hz
        obtain ⟨t, ht, e⟩ := List.getElem_of_mem hz
        have := hno.out t (by rw [← HNN.out] at ht; omega) ht
        rw [e] at this
        simpa using this
      have HB' : Hid (B = false) := Lib.hid (HBB.out.trans hmf)
      clear hmf hno
      go_wp2
      go_ret
      exact ⟨ret_bool HB'.out.symm, HBW.out.trans ((HB3.out.trans (HBR.out.mono HB3.out.size)).mono HBW.out.size)⟩
end Go.Proofs.Ytmonmfamnbfhcaa

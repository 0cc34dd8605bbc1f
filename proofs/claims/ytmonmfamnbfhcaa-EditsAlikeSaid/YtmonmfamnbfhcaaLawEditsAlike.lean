/- Walk of law11.EditsAlike. The conditions: as the law itself asks. -/
import Derived.Test.YtmonmfamnbfhcaaFlR
import Derived.Deep.Cut
import Derived.Test.YtmonmfamnbfhcaaFlS
import Derived.Test.YtmonmfamnbfhcaaFlT
namespace Go.Proofs.Ytmonmfamnbfhcaa
open Go.RowKit


theorem own_kept_base {w w' : World} {base g : Nat} {e : TypeId} {size : Nat} {v : Value} {n : Nat} {xs : List Value} (h : Own w base e size v n xs) (hg : Only w w' g) (hlt : g < base) : Own w' base e size v n xs := by
  rcases h with h | ⟨h1, g2, cap, cur, fr, rfl, h3, h4, h5⟩
  · exact .inl h
  · exact own_kept (.inr ⟨h1, g2, cap, cur, fr, rfl, h3, h4, h5⟩) hg (.inr (by simp [Value.ownBlock]; omega))
theorem drop_take_perm {α : Type} (l : List α) (k : Nat) : (l.drop k ++ l.take k).Perm l := by
  have := List.perm_append_comm (l₁ := l.drop k) (l₂ := l.take k)
  rwa [List.take_append_drop] at this
set_option maxRecDepth 100000 in
set_option maxHeartbeats 1000000 in
theorem turned_any (w : World) (v : Value) (l : List PF) (from_ : Nat) (hv : RdF w v l) (hl : l.length ≤ 100000) (hf : from_ ≤ 255) :
    Calls Try.prog 22 #[v, .int .i64 from_] w fun e w' => ∃ a n c r, e = .returned (.slice a n c) ∧ Hid (n = r.length) ∧ Hid (r.Perm l) ∧ Hid (Own w' w.heap.size 33 4 (.slice a n c) n (fcells r)) ∧ Below w.heap.size w w' := by
  obtain ⟨la, n, lc, rfl, HN, hlc, hlm⟩ := rdF_sl hv
  have hn : n ≤ 100000 := by rw [HN.out]; exact hl
  obtain ⟨i0, hi, hz, hz1, hz2⟩ := info_parts info_file
  rcases Nat.eq_zero_or_pos n with h0 | h0
  · have hl0 : l = [] := List.eq_nil_of_length_eq_zero (by rw [← HN.out]; exact h0)
    subst h0 hl0
    clear hv hi hz hz1 hz2
    go_enter Try.func22, Try.ntmps22
    go_wp2
    go_ret
    exact ⟨none, 0, 0, [], rfl, Lib.hid rfl, Lib.hid (.refl _), own_none _ _ _ _, Below.refl _ _⟩
  · have hd0 : ((n : Int) == 0) = false := by simp; omega
    have hq0 : ¬ ((n : Int) = 0) := by omega
    obtain ⟨k, hk⟩ : ∃ k, k = from_ % n := ⟨_, rfl⟩
    have hkn : k < n := by rw [hk]; exact Nat.mod_lt _ h0
    have hq1 : (from_ : Int) % (n : Int) = (k : Int) := by rw [hk]; exact (Int.natCast_emod _ _).symm
    have hq2 : (from_ : Int).tmod (n : Int) = (k : Int) := by rw [Int.tmod_eq_emod_of_nonneg (by omega)]; exact hq1
    clear hk
    have hvR := rdF_reads hv
    rw [← HN.out] at hvR
    obtain ⟨a1, c1, hcutA, _, hcutA2, hrdA⟩ := reads_cut Try.underlying22 hi hz1 (by omega) hvR k n (by omega) (Nat.le_refl _)
    obtain ⟨a2, c2, hcutB, hcutB2, _, hrdB⟩ := reads_cut Try.underlying22 hi hz1 (by omega) hvR 0 k (by omega) (by omega)
    have sA := fun w' => hcutA2 rfl w' .i64
    have sB := fun w' => hcutB2 rfl w' .i64
    rw [Nat.sub_zero] at hrdB
    simp only [Nat.sub_zero] at sB
    rw [Nat.zero_mul, List.drop_zero, fcells_take l k (by rw [← HN.out]; omega)] at hrdB
    rw [List.take_of_length_le (by rw [fcells_length, HN.out]; exact Nat.le_refl _), fcells_drop l k (by rw [← HN.out]; omega)] at hrdA
    obtain ⟨m, hm⟩ : ∃ m, m = n - k := ⟨_, rfl⟩
    rw [← hm] at hrdA
    simp only [← hm] at sA
    have HM : Hid (m + k = n) := Lib.hid (by omega)
    have hmn : m ≤ n := by omega
    clear hcutA hcutB hcutA2 hcutB2 hm hvR hv
    have HRA : Hid (Reads w.drew 4 (.slice a1 m c1) m (fcells (l.drop k))) := Lib.hid (hrdA.later (Below.refl _ _).drew)
    have HRB : Hid (∀ w', Below w.heap.size w w' → Reads w' 4 (.slice a2 k c2) k (fcells (l.take k))) := Lib.hid fun w' hb => hrdB.later hb
    have HBd : Hid (Below w.heap.size w w.drew) := Lib.hid (Below.refl _ _).drew
    clear hrdA hrdB
    go_enter Try.func22, Try.ntmps22
    go_upto_region 4 with (fail)
    refine wp_region_held_drew (S := fun _ => True) (by kernel_rfl) (trivial) (fun hHeld => ?_)
    refine wpAnyH_take (i := 0) (v := ?vq1) (by simp only [List.getElem?_toArray]; rfl) (by kernel_rfl) (by kernel_rfl) (by kernel_rfl) (by exact fun _ _ _ h => h) (Or.inl ⟨by rfl, ?yq1⟩) (by assumption) ?rq1
    case yq1 => (intro w hSw; (try dsimp only at hSw); go_simp; try with_reducible rfl)
    try simp only [Act.put, List.setIfInBounds_toArray, List.set_cons_zero, List.set_cons_succ]
    refine wpAnyH_take (i := 1) (v := ?vq2) (by simp only [List.getElem?_toArray]; rfl) (by kernel_rfl) (by kernel_rfl) (by kernel_rfl) (by exact fun _ _ _ h => h) (Or.inl ⟨by rfl, ?yq2⟩) (by assumption) ?rq2
    case yq2 => (intro w hSw; (try dsimp only at hSw); go_simp; try with_reducible rfl)
    try simp only [Act.put, List.setIfInBounds_toArray, List.set_cons_zero, List.set_cons_succ]
    refine wpAnyH_take (i := 2) (v := ?vq3) (by simp only [List.getElem?_toArray]; rfl) (by kernel_rfl) (by kernel_rfl) (by kernel_rfl) (by exact fun _ _ _ h => h) (Or.inl ⟨by rfl, ?yq3⟩) (by assumption) ?rq3
    case yq3 => (intro w hSw; (try dsimp only at hSw); go_simp; try with_reducible rfl)
    try simp only [Act.put, List.setIfInBounds_toArray, List.set_cons_zero, List.set_cons_succ]
    refine wpAnyH_take (i := 4) (v := ?vq4) (by simp only [List.getElem?_toArray]; rfl) (by kernel_rfl) (by kernel_rfl) (by kernel_rfl) (by exact fun _ _ _ h => h) (Or.inl ⟨by rfl, ?yq4⟩) (by assumption) ?rq4
    case yq4 => (intro w hSw; (try dsimp only at hSw); go_simp; try with_reducible rfl)
    try simp only [Act.put, List.setIfInBounds_toArray, List.set_cons_zero, List.set_cons_succ]
    refine wpAnyH_take (i := 5) (v := ?vq5) (by simp only [List.getElem?_toArray]; rfl) (by kernel_rfl) (by kernel_rfl) (by kernel_rfl) (by exact fun _ _ _ h => h) (Or.inl ⟨by rfl, ?yq5⟩) (by assumption) ?rq5
    case yq5 => (intro w hSw; (try dsimp only at hSw); go_simp; try with_reducible rfl)
    try simp only [Act.put, List.setIfInBounds_toArray, List.set_cons_zero, List.set_cons_succ]
    refine wpAnyH_take (i := 6) (v := ?vq6) (by simp only [List.getElem?_toArray]; rfl) (by kernel_rfl) (by kernel_rfl) (by kernel_rfl) (by exact fun _ _ _ h => h) (Or.inl ⟨by rfl, ?yq6⟩) (by assumption) ?rq6
    case yq6 => (intro w hSw; (try dsimp only at hSw); go_simp; try with_reducible rfl)
    try simp only [Act.put, List.setIfInBounds_toArray, List.set_cons_zero, List.set_cons_succ]
    refine wpAnyH_ready (rs := [3]) (by kernel_rfl) (by simp) ?_
    refine AllReadyH.cons (by simp only [List.getElem?_toArray]; rfl) (fun K hK => ?_) AllReadyH.nil
    refine step_app_el2 rfl _ _ rfl Try.underlying22 hi hz hz1 hz2 rfl (by omega) w.heap.size 0 m (.slice none 0 0) (.slice a1 m c1) [] (fcells (l.drop k)) (fcells (l.drop k)) m rfl rfl (own_none _ _ _ _) HRA.out (one_fcells _) (by omega) rfl (by omega) (by omega) (Nat.le_refl _) ?_
    intro ua ud w2 HX1 HG1
    refine hK.out _ _ (trivial) (fun hHeld => ?_)
    clear hK K
    try simp only [Act.put, List.setIfInBounds_toArray, List.set_cons_zero, List.set_cons_succ]
    refine wpAnyH_ready (rs := [7]) (by kernel_rfl) (by simp) ?_
    refine AllReadyH.cons (by simp only [List.getElem?_toArray]; rfl) (fun K hK => ?_) AllReadyH.nil
    refine step_app_el2 rfl _ _ rfl Try.underlying22 hi hz hz1 hz2 rfl (by omega) w.heap.size m k (.slice ua m ud) (.slice a2 k c2) (fcells (l.drop k)) (fcells (l.take k)) (fcells (l.drop k ++ l.take k)) n rfl rfl HX1.out (HRB.out _ (HBd.out.trans HG1.out.below)) (one_fcells _) HM.out (by rw [fcells_app]) (by omega) (by omega) HG1.out.below.size ?_
    intro ub uc w3 HX2 HG2
    refine hK.out _ _ (trivial) (fun hHeld => ?_)
    clear hK K
    try simp only [Act.put, List.setIfInBounds_toArray, List.set_cons_zero, List.set_cons_succ]
    refine wpAnyH_take (i := 8) (v := ?vq7) (by simp only [List.getElem?_toArray]; rfl) (by kernel_rfl) (by kernel_rfl) (by kernel_rfl) (by exact fun _ _ _ h => h) (Or.inl ⟨by rfl, ?yq7⟩) (by assumption) ?rq7
    case yq7 => (intro w hSw; (try dsimp only at hSw); go_simp; try with_reducible rfl)
    try simp only [Act.put, List.setIfInBounds_toArray, List.set_cons_zero, List.set_cons_succ]
    refine wpAnyH_done (by kernel_rfl) ?_ _
    go_wp2
    go_ret
    refine ⟨ub, n, uc, l.drop k ++ l.take k, rfl, Lib.hid ?_, Lib.hid (drop_take_perm l k), HX2, HBd.out.trans (HG1.out.below.trans HG2.out.below)⟩
    rw [HN.out]; exact (drop_take_perm l k).length_eq.symm

theorem own_free {w : World} {base : Nat} {e : TypeId} {sz g n c : Nat} {xs : List Value} (h : Own w base e sz (.slice (some ⟨g, 0, none⟩) n c) n xs) (i : Nat) (hi : i < n * sz) : w.frozen? ⟨g, i, none⟩ = false := by
  rcases h with ⟨rfl, _⟩ | ⟨h1, g', cap, cur, fr, e2, hb, hg, hf, hnc, hm, hcs, ht⟩
  · omega
  · simp only [Value.slice.injEq, Option.some.injEq, Addr.mk.injEq, and_true, true_and] at e2
    obtain ⟨rfl, rfl⟩ := e2
    have hle : n * sz ≤ c * sz := Nat.mul_le_mul_right _ hnc
    have := hf i (by omega)
    simp only [World.frozen?, hg]
    simp
    omega
theorem own_storeG {w : World} {base : Nat} {e : TypeId} {sz g n c : Nat} {xs : List Value} (h : Own w base e sz (.slice (some ⟨g, 0, none⟩) n c) n xs) (i : Nat) (hi : i < n * sz) (x : Value) :
    Own (w.setCell ⟨g, i, none⟩ x) base e sz (.slice (some ⟨g, 0, none⟩) n c) n (xs.set i x) := by
  rcases h with ⟨rfl, _⟩ | ⟨h1, g', cap, cur, fr, e2, hb, hg, hf, hnc, hm, hcs, ht⟩
  · omega
  · simp only [Value.slice.injEq, Option.some.injEq, Addr.mk.injEq, and_true, true_and] at e2
    obtain ⟨rfl, rfl⟩ := e2
    refine .inr ⟨by simpa using h1, g, c, cur.setIfInBounds i x, fr, rfl, hb, ?_, by simpa using hf, hnc, hm, by simpa using hcs, ?_⟩
    · rw [setCell_eq_setRow w g i cur e fr _ hg, setRow_heap w g cur _ _ fr hg]
    · rw [← ht]
      simp [List.take_set]
theorem rdF_pos {w : World} {a : Option Addr} {n c : Nat} {l : List PF} (h1 : n = l.length) (h2 : n ≤ c ∧ c ≤ 9223372036854775807) (h : 0 < n → RdF w (.slice a n c) l) : RdF w (.slice a n c) l := by
  rcases Nat.eq_zero_or_pos n with h0 | h0
  · subst h0
    obtain rfl : l = [] := List.eq_nil_of_length_eq_zero h1.symm
    exact ⟨a, c, rfl, by simp, h2.2, fun j hj => absurd hj (by simp)⟩
  · exact h h0
theorem rdU_pos {w : World} {a : Option Addr} {n c : Nat} {l : List Nat} (h1 : n = l.length) (h2 : n ≤ c ∧ c ≤ 9223372036854775807) (h : 0 < n → RdU w (.slice a n c) l) : RdU w (.slice a n c) l := by
  rcases Nat.eq_zero_or_pos n with h0 | h0
  · subst h0
    obtain rfl : l = [] := List.eq_nil_of_length_eq_zero h1.symm
    exact ⟨a, c, rfl, by simp, h2.2, fun j hj => absurd hj (by simp)⟩
  · exact h h0
theorem doR_swap {l l' add add' : List PF} {rem rem' : List Nat} {r : List PF} {q : Nat} (h1 : l'.Perm l) (h2 : add'.Perm add) (h3 : rem'.Perm rem) (h : DoR l' add' rem' r q) : DoR l add rem r q := by
  rcases h with ⟨rfl, c, p, s⟩ | ⟨rfl, rfl, c⟩
  · refine .inl ⟨rfl, can_perm h1 h2 h3 c, p.trans ?_, s⟩
    have e2 : keepF rem' l' = keepF rem l' := by
      unfold keepF; congr 1; funext f; simp [h3.mem_iff]
    rw [e2]
    exact (h1.filter _).append h2
  · exact .inr ⟨rfl, rfl, fun c' => c (can_perm h1.symm h2.symm h3.symm c')⟩
theorem ucells_set (l : List Nat) (i z : Nat) : ucells (l.set i z) = (ucells l).set i (.int .u32 z) := by simp [ucells, List.map_set]
set_option maxRecDepth 100000 in
set_option maxHeartbeats 1000000 in
theorem editsAlike_walk0 (w : World) (v : Value) (l : List PF) (vx : Value) (x : PX) (fr : Nat) (hfr : fr ≤ 255) (hv : RdF w v l) (hl : l.length ≤ 2932031007402 ∧ ∀ f ∈ l, f.ok) (hx : RdX w vx x) (hxo : x.ok) :
    Calls Try.prog 7 #[v, vx, .int .u8 fr] w fun e w' => e = .returned (.bool true) ∧ Below w.heap.size w w' := by
  obtain ⟨va, vr, rfl, hva, hvr⟩ := hx
  obtain ⟨la, ln, lc, rfl, HLN, hlc, hlm⟩ := rdF_sl hv
  obtain ⟨aa, an, ac, rfl, HAN, hac, ham⟩ := rdF_sl hva
  obtain ⟨ra, rn, rc, rfl, HRN, hrc, hrm⟩ := rdU_sl hvr
  obtain ⟨W, hW⟩ : ∃ W, W = w.alloc (.cells #[.slice aa an ac, .slice ra rn rc, .int .u32 x.jo, .int .u32 x.nx, .int .u64 x.sq] 27) := ⟨_, rfl⟩
  have hBlk : Blk W w.heap.size #[.slice aa an ac, .slice ra rn rc, .int .u32 x.jo, .int .u32 x.nx, .int .u64 x.sq] 27 := by rw [hW]; exact Blk.new _ _ _
  have HBW : Hid (Below w.heap.size w W) := Lib.hid (by rw [hW]; exact alloc_bel _ _)
  have HC : Hid (∀ w', Below W.heap.size W w' → w'.cell? ⟨w.heap.size, 0, none⟩ = some (.slice aa an ac) ∧ w'.cell? ⟨w.heap.size, 1, none⟩ = some (.slice ra rn rc) ∧ w'.cell? ⟨w.heap.size, 2, none⟩ = some (.int .u32 x.jo) ∧ w'.cell? ⟨w.heap.size, 3, none⟩ = some (.int .u32 x.nx) ∧ w'.cell? ⟨w.heap.size, 4, none⟩ = some (.int .u64 x.sq)) := Lib.hid fun w' hb => ⟨Below.keeps hb _ _ _ (hBlk.cell 0), Below.keeps hb _ _ _ (hBlk.cell 1), Below.keeps hb _ _ _ (hBlk.cell 2), Below.keeps hb _ _ _ (hBlk.cell 3), Below.keeps hb _ _ _ (hBlk.cell 4)⟩
  have HV : Hid (∀ w', Below W.heap.size W w' → RdF w' (.slice la ln lc) l ∧ RdX w' (.agg #[.slice aa an ac, .slice ra rn rc, .int .u32 x.jo, .int .u32 x.nx, .int .u64 x.sq]) x) := Lib.hid fun w' hb => ⟨(hv.below HBW.out).below hb, ⟨_, _, rfl, (hva.below HBW.out).below hb, (hvr.below HBW.out).below hb⟩⟩
  have HG : Hid (∀ w', Below W.heap.size W w' → Calls Try.prog 11 #[.slice la ln lc, (.agg #[.slice aa an ac, .slice ra rn rc, .int .u32 x.jo, .int .u32 x.nx, .int .u64 x.sq])] w' fun e w'' => ∃ b, e = .returned (.bool b) ∧ Hid (b = false → l.length + x.add.length + x.rem.length ≤ 300 ∧ filesLen l + filesLen x.add ≤ 20000) ∧ Below w'.heap.size w' w'') := Lib.hid fun w' hb => great_any w' _ _ l x (HV.out w' hb).1 (HV.out w' hb).2 hl hxo
  have HVA : Hid (∀ w', Below W.heap.size W w' → RdF w' (.slice aa an ac) x.add ∧ RdU w' (.slice ra rn rc) x.rem) := Lib.hid fun w' hb => ⟨(hva.below HBW.out).below hb, (hvr.below HBW.out).below hb⟩
  have HLO := Lib.hid hl.2
  have HXO := Lib.hid hxo
  have HEND : Hid (∀ w', Below W.heap.size W w' → Below w.heap.size w w') := Lib.hid fun w' hb => HBW.out.trans (hb.mono HBW.out.size)
  have HFR := Lib.hid hfr
  clear hv hva hvr hBlk hl hxo
  go_enter Try.func7, Try.ntmps7
  go_wp2_with fail
  rw [← hW]
  clear hW
  refine (alive11_any W).mono ?_
  intro e w2 hal
  obtain ⟨rfl, b2⟩ := hal
  obtain ⟨c0, c1, c2, c3, c4⟩ := HC.out w2 b2
  have HB2 := Lib.hid b2
  clear b2
  go_wp2_with fail
  refine (HG.out w2 HB2.out).mono ?_
  rintro e w3 ⟨B, rfl, hgb, b3⟩
  have HB3 := Lib.hid (HB2.out.trans (b3.mono HB2.out.size))
  clear b3 c0 c1 c2 c3 c4
  cases B with
  | true =>
    go_wp2_with fail
    refine (alive11_any w3).mono ?_
    intro e w4 hal
    obtain ⟨rfl, b4⟩ := hal
    have HB4 := Lib.hid (HB3.out.trans (b4.mono HB3.out.size))
    clear b4
    go_wp2
    go_ret
    exact ⟨rfl, HEND.out _ HB4.out⟩
  | false =>
    have HXO0 := HXO
    obtain ⟨hs1, hs2⟩ := hgb.out rfl
    have hln : ln ≤ 300 := by rw [HLN.out]; omega
    have han : an ≤ 300 := by rw [HAN.out]; omega
    have hrn : rn ≤ 300 := by rw [HRN.out]; omega
    have HLL : Hid (l.length ≤ 300 ∧ x.add.length ≤ 300 ∧ x.rem.length ≤ 300) := Lib.hid ⟨by omega, by omega, by omega⟩
    clear hs1 hs2 hgb
    obtain ⟨c0, c1, c2, c3, c4⟩ := HC.out w3 HB3.out
    have HDO4 := Lib.hid (do_n w3 (.slice la ln lc) (.agg #[.slice aa an ac, .slice ra rn rc, .int .u32 x.jo, .int .u32 x.nx, .int .u64 x.sq]) l x (HV.out w3 HB3.out).1 (HV.out w3 HB3.out).2 (by have := HLL.out; omega) (by have := HLL.out; omega) (by have := HLL.out; omega) HLO.out (px_small HXO.out))
    go_wp2_with fail
    refine HDO4.out.mono ?_
    rintro e w4 ⟨r1, q1, n1, a1, k1, rfl, HN4, HQ4, HD4, HR4, hc4, hm4, HK4, HL4, b4⟩
    have HB4 := Lib.hid (HB3.out.trans (b4.mono HB3.out.size))
    clear b4 HDO4 c0 c1 c2 c3 c4 HN4 HK4 HL4 HG HB2 HB3
    obtain ⟨i0, hi, hz, hz1, hz2⟩ := info_parts info_u32
    have HCA : Hid (∀ w', Below w4.heap.size w4 w' → w'.cell? ⟨w.heap.size, 0, none⟩ = some (.slice aa an ac) ∧ w'.cell? ⟨w.heap.size, 1, none⟩ = some (.slice ra rn rc)) := Lib.hid fun w' hb => ⟨(HC.out w' (HB4.out.trans (hb.mono HB4.out.size))).1, (HC.out w' (HB4.out.trans (hb.mono HB4.out.size))).2.1⟩
    have HRX : Hid (∀ w', Below w4.heap.size w4 w' → Reads w' 1 (.slice ra rn rc) rn (ucells x.rem)) := Lib.hid fun w' hb => by
      have := rdU_reads (HVA.out w' (HB4.out.trans (hb.mono HB4.out.size))).2
      rwa [← HRN.out] at this
    have HTU : Hid (∀ w', Below w4.heap.size w4 w' → Calls Try.prog 22 #[.slice aa an ac, .int .i64 fr] w' fun e w'' => ∃ a n c r, e = .returned (.slice a n c) ∧ Hid (n = r.length) ∧ Hid (r.Perm x.add) ∧ Hid (Own w'' w'.heap.size 33 4 (.slice a n c) n (fcells r)) ∧ Below w'.heap.size w' w'') := Lib.hid fun w' hb => turned_any w' _ x.add fr (HVA.out w' (HB4.out.trans (hb.mono HB4.out.size))).1 (by have := HLL.out; omega) HFR.out
    have HTL : Hid (∀ w', Below w4.heap.size w4 w' → Calls Try.prog 22 #[.slice la ln lc, .int .i64 fr] w' fun e w'' => ∃ a n c r, e = .returned (.slice a n c) ∧ Hid (n = r.length) ∧ Hid (r.Perm l) ∧ Hid (Own w'' w'.heap.size 33 4 (.slice a n c) n (fcells r)) ∧ Below w'.heap.size w' w'') := Lib.hid fun w' hb => turned_any w' _ l fr (HV.out w' (HB4.out.trans (hb.mono HB4.out.size))).1 (by have := HLL.out; omega) HFR.out
    have HR1 : Hid (∀ w', Below w4.heap.size w4 w' → RdF w' (.slice a1 n1 k1) r1) := Lib.hid fun w' hb => HR4.out.below hb
    have HEV : Hid (∀ w', Below w4.heap.size w4 w' → Below w.heap.size w w') := Lib.hid fun w' hb => HEND.out w' (HB4.out.trans (hb.mono HB4.out.size))
    clear HC HV HVA HB4 HEND HR4
    have HSB : Hid (∀ w1' w2', Below w4.heap.size w4 w1' → Below w1'.heap.size w1' w2' → (w2'.cell? ⟨w.heap.size, 0, none⟩ = some (.slice aa an ac) ∧ w2'.cell? ⟨w.heap.size, 1, none⟩ = some (.slice ra rn rc)) ∧ Below w4.heap.size w4 w2') := Lib.hid fun w1' w2' h hb => by
      have h2 := h.trans (hb.mono h.size)
      exact ⟨HCA.out w2' h2, h2⟩
    have HS0 := Lib.hid (HSB.out w4 w4.drew (Below.refl _ _) (Below.refl _ _).drew)
    have hfw : IntKind.i64.wrap (fr : Int) = (fr : Int) := IntWalk.i64_in _ (by have := HFR.out; omega)
    go_upto_region 4 with (fail)
    go_cut [9] from 28 (fun s9 w' => ∃ (p : Nat) (ya : Option Addr) (yn yc : Nat) (xa : Option Addr) (xc : Nat) (ry : List PF), s9 = .pointer (some ⟨p, 0, none⟩) ∧ Hid (Blk w' p #[.slice ya yn yc, .slice xa rn xc, .int .u32 0, .int .u32 0, .int .u64 0] 27) ∧ Hid (yn = ry.length ∧ ry.Perm x.add) ∧ Hid (0 < yn → Own w' w4.heap.size 33 4 (.slice ya yn yc) yn (fcells ry)) ∧ Hid (yn ≤ yc ∧ yc ≤ 9223372036854775807) ∧ Hid (0 < rn → Own w' w4.heap.size 24 1 (.slice xa rn xc) rn (ucells x.rem)) ∧ Hid (rn ≤ xc ∧ xc ≤ 9223372036854775807) ∧ Hid (0 < rn → ∀ b, (Value.slice xa rn xc).ownBlock = some b → b ≠ p ∧ (0 < yn → (Value.slice ya yn yc).ownBlock ≠ some b)) ∧ Below w4.heap.size w4 w')
    case first =>
      refine wp_region_held_drew (S := fun w' => (w'.cell? ⟨w.heap.size, 0, none⟩ = some (.slice aa an ac) ∧ w'.cell? ⟨w.heap.size, 1, none⟩ = some (.slice ra rn rc)) ∧ Below w4.heap.size w4 w') (by kernel_rfl) (HS0.out) (fun hHeld => ?_)
      refine wpAnyH_take (i := 0) (v := ?vq8) (by simp only [List.getElem?_toArray]; rfl) (by kernel_rfl) (by kernel_rfl) (by kernel_rfl) (by exact fun _ _ _ h => h) (Or.inl ⟨by rfl, ?yq8⟩) (by assumption) ?rq8
      case yq8 => (intro w hSw; (try dsimp only at hSw); go_simp; try with_reducible rfl)
      try simp only [Act.put, List.setIfInBounds_toArray, List.set_cons_zero, List.set_cons_succ]
      refine wpAnyH_take (i := 1) (v := ?vq9) (by simp only [List.getElem?_toArray]; rfl) (by kernel_rfl) (by kernel_rfl) (by kernel_rfl) (by exact fun _ _ _ h => h) (Or.inl ⟨by rfl, ?yq9⟩) (by assumption) ?rq9
      case yq9 => (intro w hSw; (try dsimp only at hSw); go_simp; try with_reducible rfl)
      try simp only [Act.put, List.setIfInBounds_toArray, List.set_cons_zero, List.set_cons_succ]
      refine wpAnyH_take (i := 3) (v := ?vq10) (by simp only [List.getElem?_toArray]; rfl) (by kernel_rfl) (by kernel_rfl) (by kernel_rfl) (by exact fun _ _ _ h => h) (Or.inl ⟨by rfl, ?yq10⟩) (by assumption) ?rq10
      case yq10 => (intro w hSw; (try dsimp only at hSw); go_simp; try with_reducible rfl)
      try simp only [Act.put, List.setIfInBounds_toArray, List.set_cons_zero, List.set_cons_succ]
      refine wpAnyH_take (i := 4) (v := ?vq11) (by simp only [List.getElem?_toArray]; rfl) (by kernel_rfl) (by kernel_rfl) (by kernel_rfl) (by exact fun _ _ _ h => h) (Or.inl ⟨by rfl, ?yq11⟩) (by assumption) ?rq11
      case yq11 => (intro w hSw; (try dsimp only at hSw); go_simp; try with_reducible rfl)
      try simp only [Act.put, List.setIfInBounds_toArray, List.set_cons_zero, List.set_cons_succ]
      refine wpAnyH_take (i := 5) (v := ?vq12) (by simp only [List.getElem?_toArray]; rfl) (by kernel_rfl) (by kernel_rfl) (by kernel_rfl) (by exact fun _ _ _ h => h) (Or.inl ⟨by rfl, ?yq12⟩) (by assumption) ?rq12
      case yq12 => (intro w hSw; (try dsimp only at hSw); go_simp; try with_reducible rfl)
      try simp only [Act.put, List.setIfInBounds_toArray, List.set_cons_zero, List.set_cons_succ]
      refine wpAnyH_take (i := 6) (v := ?vq13) (by simp only [List.getElem?_toArray]; rfl) (by kernel_rfl) (by kernel_rfl) (by kernel_rfl) (by exact fun _ _ _ h => h) (Or.inl ⟨by rfl, ?yq13⟩) (by assumption) ?rq13
      case yq13 => (intro w hSw; (try dsimp only at hSw); go_simp; try with_reducible rfl)
      try simp only [Act.put, List.setIfInBounds_toArray, List.set_cons_zero, List.set_cons_succ]
      clear HS0
      generalize w4.drew = wd at hHeld ⊢
      refine wpAnyH_ready (rs := [2, 9]) (by kernel_rfl) (by simp) ?_
      refine AllReadyH.cons (by simp only [List.getElem?_toArray]; rfl) (fun K hK => ?wayA) (AllReadyH.cons (by simp only [List.getElem?_toArray]; rfl) (fun K hK => ?wayM) AllReadyH.nil)
      case wayA =>
        have HH := Lib.hid hHeld.2
        refine step_app_el2 rfl _ _ rfl Try.underlying23 hi hz hz1 hz2 rfl (by omega) wd.heap.size 0 rn (.slice none 0 0) (.slice ra rn rc) [] (ucells x.rem) (ucells x.rem) rn rfl rfl (own_none _ _ _ _) (HRX.out _ HH.out) (one_ucells _) (by omega) rfl (by omega) (by omega) (Nat.le_refl _) ?_
        intro xa xc wA HXO HXG
        have HST := Lib.hid HXG.out.below
        have HXO := Lib.hid (own_mono HXO.out HH.out.size)
        refine hK.out _ _ (HSB.out _ _ HH.out HST.out) (fun hHeld => ?_)
        clear hK K HST HH
        try simp only [Act.put, List.setIfInBounds_toArray, List.set_cons_zero, List.set_cons_succ]
        refine wpAnyH_ready (rs := [7, 9]) (by kernel_rfl) (by simp) ?_
        refine AllReadyH.cons (by simp only [List.getElem?_toArray]; rfl) (fun K hK => ?wayAC) (AllReadyH.cons (by simp only [List.getElem?_toArray]; rfl) (fun K hK => ?wayAM) AllReadyH.nil)
        case wayAC =>
          have HH := Lib.hid hHeld.2
          go_simp
          (with_reducible refine (HTU.out _ HH.out).mono ?_)
          rintro ec wAC ⟨ya, yn, yc, ry, rfl, HYN, HYP, HYO, bq⟩
          have HST := Lib.hid bq
          clear bq
          have HXY : Hid (∀ b, (Value.slice xa rn xc).ownBlock = some b → 0 < rn → 0 < yn → (Value.slice ya yn yc).ownBlock ≠ some b) := Lib.hid (fun b h h0 h1 e => by have q1 := (own_lt HYO.out h1 b e).1; have q2 := (own_lt HXO.out h0 b h).2; omega)
          have HYO := Lib.hid (own_mono HYO.out HH.out.size)
          have HXO := Lib.hid (own_below HXO.out HST.out)
          refine hK.out _ _ (HSB.out _ _ HH.out HST.out) (fun hHeld => ?_)
          clear hK K HST HH
          try simp only [Act.put, List.setIfInBounds_toArray, List.set_cons_zero, List.set_cons_succ]
          refine wpAnyH_take (i := 8) (v := ?vq14) (by simp only [List.getElem?_toArray]; rfl) (by kernel_rfl) (by kernel_rfl) (by kernel_rfl) (by exact fun _ _ _ h => h) (Or.inl ⟨by rfl, ?yq14⟩) (by assumption) ?rq14
          case yq14 => (intro w hSw; (try dsimp only at hSw); go_simp; try with_reducible rfl)
          try simp only [Act.put, List.setIfInBounds_toArray, List.set_cons_zero, List.set_cons_succ]
          refine wpAnyH_ready (rs := [9]) (by kernel_rfl) (by simp) ?_
          refine AllReadyH.cons (by simp only [List.getElem?_toArray]; rfl) (fun K hK => ?wayACM) AllReadyH.nil
          case wayACM =>
            have HH := Lib.hid hHeld.2
            go_simp
            obtain ⟨wACM, hw2⟩ : ∃ z, z = wAC.alloc (.cells #[.slice none 0 0, .slice none 0 0, .int .u32 0, .int .u32 0, .int .u64 0] 27) := ⟨_, rfl⟩
            have HBL : Hid (Blk wACM wAC.heap.size #[.slice none 0 0, .slice none 0 0, .int .u32 0, .int .u32 0, .int .u64 0] 27) := Lib.hid (by rw [hw2]; exact Blk.new _ _ _)
            have HST : Hid (Below wAC.heap.size wAC wACM) := Lib.hid (by rw [hw2]; exact alloc_bel _ _)
            rw [← hw2]
            clear hw2
            obtain ⟨p, hp⟩ : ∃ z, z = wAC.heap.size := ⟨_, rfl⟩
            rw [← hp] at HBL ⊢
            have HPW : Hid (w4.heap.size ≤ p) := Lib.hid (by rw [hp]; exact HH.out.size)
            have HPX : Hid (∀ b, (Value.slice xa rn xc).ownBlock = some b → 0 < rn → b < p) := Lib.hid (fun b h h0 => by rw [hp]; exact (own_lt HXO.out h0 b h).2)
            have HPY : Hid (∀ b, (Value.slice ya yn yc).ownBlock = some b → 0 < yn → b < p) := Lib.hid (fun b h h0 => by rw [hp]; exact (own_lt HYO.out h0 b h).2)
            clear hp
            have HXO := Lib.hid (own_below HXO.out HST.out)
            have HYO := Lib.hid (own_below HYO.out HST.out)
            refine hK.out _ _ (HSB.out _ _ HH.out HST.out) (fun hHeld => ?_)
            clear hK K HST HH
            try simp only [Act.put, List.setIfInBounds_toArray, List.set_cons_zero, List.set_cons_succ]
            have k0 : wACM.cell? ⟨p, 0, none⟩ = some (.slice none 0 0) := HBL.out.cell 0
            have k1' : wACM.cell? ⟨p, 1, none⟩ = some (.slice none 0 0) := HBL.out.cell 1
            have k2 : wACM.cell? ⟨p, 2, none⟩ = some (.int .u32 0) := HBL.out.cell 2
            have k3 : wACM.cell? ⟨p, 3, none⟩ = some (.int .u32 0) := HBL.out.cell 3
            have k4 : wACM.cell? ⟨p, 4, none⟩ = some (.int .u64 0) := HBL.out.cell 4
            have f0 := HBL.out.free 0
            have f1 := HBL.out.free 1
            have f2 := HBL.out.free 2
            have f3 := HBL.out.free 3
            have f4 := HBL.out.free 4
            have HH := Lib.hid hHeld.2
            refine wpAnyH_ready (rs := [10]) (by kernel_rfl) (by simp) ?_
            refine AllReadyH.cons (by simp only [List.getElem?_toArray]; rfl) (fun K hK => ?_) AllReadyH.nil
            go_simp
            clear k0 k1' k2 k3 k4 f0 f1 f2 f3 f4
            obtain ⟨wf, hwf⟩ : ∃ z, z = ((((wACM.setCell ⟨p, 0, none⟩ (.slice ya yn yc)).setCell ⟨p, 1, none⟩ (.slice xa rn xc)).setCell ⟨p, 2, none⟩ (.int .u32 0)).setCell ⟨p, 3, none⟩ (.int .u32 0)).setCell ⟨p, 4, none⟩ (.int .u64 0) := ⟨_, rfl⟩
            have hOn : Only wACM wf p := by rw [hwf]; exact ((((Only.set _ _ _ _).trans (Only.set _ _ _ _)).trans (Only.set _ _ _ _)).trans (Only.set _ _ _ _)).trans (Only.set _ _ _ _)
            have HBF : Hid (Blk wf p #[.slice ya yn yc, .slice xa rn xc, .int .u32 0, .int .u32 0, .int .u64 0] 27) := Lib.hid (by rw [hwf]; exact ((((HBL.out.set 0 (.slice ya yn yc)).set 1 (.slice xa rn xc)).set 2 (.int .u32 0)).set 3 (.int .u32 0)).set 4 (.int .u64 0))
            rw [← hwf]
            clear hwf
            have HWF : Hid (Below w4.heap.size w4 wf) := Lib.hid (Only.below HH.out hOn HPW.out HH.out.size)
            have HXC : Hid (rn ≤ xc ∧ xc ≤ 9223372036854775807) := Lib.hid (by
              obtain ⟨_, _, e, _, h1, h2, _⟩ := reads_of_own HXO.out
              simp only [Value.slice.injEq] at e
              omega)
            have HYC : Hid (yn ≤ yc ∧ yc ≤ 9223372036854775807) := Lib.hid (by
              obtain ⟨_, _, e, _, h1, h2, _⟩ := reads_of_own HYO.out
              simp only [Value.slice.injEq] at e
              omega)
            have HXF : Hid (0 < rn → Own wf w4.heap.size 24 1 (.slice xa rn xc) rn (ucells x.rem)) := Lib.hid fun h0 => own_kept HXO.out hOn (.inr fun e => by have := HPX.out p e h0; omega)
            have HYF : Hid (0 < yn → Own wf w4.heap.size 33 4 (.slice ya yn yc) yn (fcells ry)) := Lib.hid fun h0 => own_kept HYO.out hOn (.inr fun e => by have := HPY.out p e h0; omega)
            have HDJ : Hid (0 < rn → ∀ b, (Value.slice xa rn xc).ownBlock = some b → b ≠ p ∧ (0 < yn → (Value.slice ya yn yc).ownBlock ≠ some b)) := Lib.hid fun h0 b hb => ⟨fun e => by have := HPX.out b hb h0; omega, fun h1 => HXY.out b hb h0 h1⟩
            refine hK.out _ _ ⟨HCA.out _ HWF.out, HWF.out⟩ (fun hHeld => ?_)
            clear hK K
            try simp only [Act.put, List.setIfInBounds_toArray, List.set_cons_zero, List.set_cons_succ]
            refine wpAnyH_done (by kernel_rfl) ?_ _
            go_wp2_with fail
            go_meet
            case rel => exact ⟨p, ya, yn, yc, xa, xc, ry, rfl, HBF, Lib.hid ⟨HYN.out, HYP.out⟩, HYF, HYC, HXF, HXC, HDJ, HWF.out⟩
        case wayAM =>
          have HH := Lib.hid hHeld.2
          go_simp
          obtain ⟨wAM, hw2⟩ : ∃ z, z = wA.alloc (.cells #[.slice none 0 0, .slice none 0 0, .int .u32 0, .int .u32 0, .int .u64 0] 27) := ⟨_, rfl⟩
          have HBL : Hid (Blk wAM wA.heap.size #[.slice none 0 0, .slice none 0 0, .int .u32 0, .int .u32 0, .int .u64 0] 27) := Lib.hid (by rw [hw2]; exact Blk.new _ _ _)
          have HST : Hid (Below wA.heap.size wA wAM) := Lib.hid (by rw [hw2]; exact alloc_bel _ _)
          rw [← hw2]
          clear hw2
          obtain ⟨p, hp⟩ : ∃ z, z = wA.heap.size := ⟨_, rfl⟩
          rw [← hp] at HBL ⊢
          have HPW : Hid (w4.heap.size ≤ p) := Lib.hid (by rw [hp]; exact HH.out.size)
          have HPX : Hid (∀ b, (Value.slice xa rn xc).ownBlock = some b → 0 < rn → b < p) := Lib.hid (fun b h h0 => by rw [hp]; exact (own_lt HXO.out h0 b h).2)
          clear hp
          have HXO := Lib.hid (own_below HXO.out HST.out)
          refine hK.out _ _ (HSB.out _ _ HH.out HST.out) (fun hHeld => ?_)
          clear hK K HST HH
          try simp only [Act.put, List.setIfInBounds_toArray, List.set_cons_zero, List.set_cons_succ]
          refine wpAnyH_ready (rs := [7]) (by kernel_rfl) (by simp) ?_
          refine AllReadyH.cons (by simp only [List.getElem?_toArray]; rfl) (fun K hK => ?wayAMC) AllReadyH.nil
          case wayAMC =>
            have HH := Lib.hid hHeld.2
            go_simp
            (with_reducible refine (HTU.out _ HH.out).mono ?_)
            rintro ec wAMC ⟨ya, yn, yc, ry, rfl, HYN, HYP, HYO, bq⟩
            have HST := Lib.hid bq
            clear bq
            have HXY : Hid (∀ b, (Value.slice xa rn xc).ownBlock = some b → 0 < rn → 0 < yn → (Value.slice ya yn yc).ownBlock ≠ some b) := Lib.hid (fun b h h0 h1 e => by have q1 := (own_lt HYO.out h1 b e).1; have q2 := (own_lt HXO.out h0 b h).2; omega)
            have HPY : Hid (∀ b, (Value.slice ya yn yc).ownBlock = some b → 0 < yn → p < b) := Lib.hid (fun b h h0 => by have q1 := (own_lt HYO.out h0 b h).1; have q2 := HBL.out.lt; omega)
            have HYO := Lib.hid (own_mono HYO.out HH.out.size)
            have HXO := Lib.hid (own_below HXO.out HST.out)
            have HBL := Lib.hid (HBL.out.below HST.out)
            refine hK.out _ _ (HSB.out _ _ HH.out HST.out) (fun hHeld => ?_)
            clear hK K HST HH
            try simp only [Act.put, List.setIfInBounds_toArray, List.set_cons_zero, List.set_cons_succ]
            refine wpAnyH_take (i := 8) (v := ?vq15) (by simp only [List.getElem?_toArray]; rfl) (by kernel_rfl) (by kernel_rfl) (by kernel_rfl) (by exact fun _ _ _ h => h) (Or.inl ⟨by rfl, ?yq15⟩) (by assumption) ?rq15
            case yq15 => (intro w hSw; (try dsimp only at hSw); go_simp; try with_reducible rfl)
            try simp only [Act.put, List.setIfInBounds_toArray, List.set_cons_zero, List.set_cons_succ]
            have k0 : wAMC.cell? ⟨p, 0, none⟩ = some (.slice none 0 0) := HBL.out.cell 0
            have k1' : wAMC.cell? ⟨p, 1, none⟩ = some (.slice none 0 0) := HBL.out.cell 1
            have k2 : wAMC.cell? ⟨p, 2, none⟩ = some (.int .u32 0) := HBL.out.cell 2
            have k3 : wAMC.cell? ⟨p, 3, none⟩ = some (.int .u32 0) := HBL.out.cell 3
            have k4 : wAMC.cell? ⟨p, 4, none⟩ = some (.int .u64 0) := HBL.out.cell 4
            have f0 := HBL.out.free 0
            have f1 := HBL.out.free 1
            have f2 := HBL.out.free 2
            have f3 := HBL.out.free 3
            have f4 := HBL.out.free 4
            have HH := Lib.hid hHeld.2
            refine wpAnyH_ready (rs := [10]) (by kernel_rfl) (by simp) ?_
            refine AllReadyH.cons (by simp only [List.getElem?_toArray]; rfl) (fun K hK => ?_) AllReadyH.nil
            go_simp
            clear k0 k1' k2 k3 k4 f0 f1 f2 f3 f4
            obtain ⟨wf, hwf⟩ : ∃ z, z = ((((wAMC.setCell ⟨p, 0, none⟩ (.slice ya yn yc)).setCell ⟨p, 1, none⟩ (.slice xa rn xc)).setCell ⟨p, 2, none⟩ (.int .u32 0)).setCell ⟨p, 3, none⟩ (.int .u32 0)).setCell ⟨p, 4, none⟩ (.int .u64 0) := ⟨_, rfl⟩
            have hOn : Only wAMC wf p := by rw [hwf]; exact ((((Only.set _ _ _ _).trans (Only.set _ _ _ _)).trans (Only.set _ _ _ _)).trans (Only.set _ _ _ _)).trans (Only.set _ _ _ _)
            have HBF : Hid (Blk wf p #[.slice ya yn yc, .slice xa rn xc, .int .u32 0, .int .u32 0, .int .u64 0] 27) := Lib.hid (by rw [hwf]; exact ((((HBL.out.set 0 (.slice ya yn yc)).set 1 (.slice xa rn xc)).set 2 (.int .u32 0)).set 3 (.int .u32 0)).set 4 (.int .u64 0))
            rw [← hwf]
            clear hwf
            have HWF : Hid (Below w4.heap.size w4 wf) := Lib.hid (Only.below HH.out hOn HPW.out HH.out.size)
            have HXC : Hid (rn ≤ xc ∧ xc ≤ 9223372036854775807) := Lib.hid (by
              obtain ⟨_, _, e, _, h1, h2, _⟩ := reads_of_own HXO.out
              simp only [Value.slice.injEq] at e
              omega)
            have HYC : Hid (yn ≤ yc ∧ yc ≤ 9223372036854775807) := Lib.hid (by
              obtain ⟨_, _, e, _, h1, h2, _⟩ := reads_of_own HYO.out
              simp only [Value.slice.injEq] at e
              omega)
            have HXF : Hid (0 < rn → Own wf w4.heap.size 24 1 (.slice xa rn xc) rn (ucells x.rem)) := Lib.hid fun h0 => own_kept HXO.out hOn (.inr fun e => by have := HPX.out p e h0; omega)
            have HYF : Hid (0 < yn → Own wf w4.heap.size 33 4 (.slice ya yn yc) yn (fcells ry)) := Lib.hid fun h0 => own_kept HYO.out hOn (.inr fun e => by have := HPY.out p e h0; omega)
            have HDJ : Hid (0 < rn → ∀ b, (Value.slice xa rn xc).ownBlock = some b → b ≠ p ∧ (0 < yn → (Value.slice ya yn yc).ownBlock ≠ some b)) := Lib.hid fun h0 b hb => ⟨fun e => by have := HPX.out b hb h0; omega, fun h1 => HXY.out b hb h0 h1⟩
            refine hK.out _ _ ⟨HCA.out _ HWF.out, HWF.out⟩ (fun hHeld => ?_)
            clear hK K
            try simp only [Act.put, List.setIfInBounds_toArray, List.set_cons_zero, List.set_cons_succ]
            refine wpAnyH_done (by kernel_rfl) ?_ _
            go_wp2_with fail
            go_meet
            case rel => exact ⟨p, ya, yn, yc, xa, xc, ry, rfl, HBF, Lib.hid ⟨HYN.out, HYP.out⟩, HYF, HYC, HXF, HXC, HDJ, HWF.out⟩
      case wayM =>
        have HH := Lib.hid hHeld.2
        go_simp
        obtain ⟨wM, hw2⟩ : ∃ z, z = wd.alloc (.cells #[.slice none 0 0, .slice none 0 0, .int .u32 0, .int .u32 0, .int .u64 0] 27) := ⟨_, rfl⟩
        have HBL : Hid (Blk wM wd.heap.size #[.slice none 0 0, .slice none 0 0, .int .u32 0, .int .u32 0, .int .u64 0] 27) := Lib.hid (by rw [hw2]; exact Blk.new _ _ _)
        have HST : Hid (Below wd.heap.size wd wM) := Lib.hid (by rw [hw2]; exact alloc_bel _ _)
        rw [← hw2]
        clear hw2
        obtain ⟨p, hp⟩ : ∃ z, z = wd.heap.size := ⟨_, rfl⟩
        rw [← hp] at HBL ⊢
        have HPW : Hid (w4.heap.size ≤ p) := Lib.hid (by rw [hp]; exact HH.out.size)
        clear hp
        refine hK.out _ _ (HSB.out _ _ HH.out HST.out) (fun hHeld => ?_)
        clear hK K HST HH
        try simp only [Act.put, List.setIfInBounds_toArray, List.set_cons_zero, List.set_cons_succ]
        refine wpAnyH_ready (rs := [2]) (by kernel_rfl) (by simp) ?_
        refine AllReadyH.cons (by simp only [List.getElem?_toArray]; rfl) (fun K hK => ?wayMA) AllReadyH.nil
        case wayMA =>
          have HH := Lib.hid hHeld.2
          refine step_app_el2 rfl _ _ rfl Try.underlying23 hi hz hz1 hz2 rfl (by omega) wM.heap.size 0 rn (.slice none 0 0) (.slice ra rn rc) [] (ucells x.rem) (ucells x.rem) rn rfl rfl (own_none _ _ _ _) (HRX.out _ HH.out) (one_ucells _) (by omega) rfl (by omega) (by omega) (Nat.le_refl _) ?_
          intro xa xc wMA HXO HXG
          have HST := Lib.hid HXG.out.below
          have HPX : Hid (∀ b, (Value.slice xa rn xc).ownBlock = some b → 0 < rn → p < b) := Lib.hid (fun b h h0 => by have q1 := (own_lt HXO.out h0 b h).1; have q2 := HBL.out.lt; omega)
          have HXO := Lib.hid (own_mono HXO.out HH.out.size)
          have HBL := Lib.hid (HBL.out.below HST.out)
          refine hK.out _ _ (HSB.out _ _ HH.out HST.out) (fun hHeld => ?_)
          clear hK K HST HH
          try simp only [Act.put, List.setIfInBounds_toArray, List.set_cons_zero, List.set_cons_succ]
          refine wpAnyH_ready (rs := [7]) (by kernel_rfl) (by simp) ?_
          refine AllReadyH.cons (by simp only [List.getElem?_toArray]; rfl) (fun K hK => ?wayMAC) AllReadyH.nil
          case wayMAC =>
            have HH := Lib.hid hHeld.2
            go_simp
            (with_reducible refine (HTU.out _ HH.out).mono ?_)
            rintro ec wMAC ⟨ya, yn, yc, ry, rfl, HYN, HYP, HYO, bq⟩
            have HST := Lib.hid bq
            clear bq
            have HXY : Hid (∀ b, (Value.slice xa rn xc).ownBlock = some b → 0 < rn → 0 < yn → (Value.slice ya yn yc).ownBlock ≠ some b) := Lib.hid (fun b h h0 h1 e => by have q1 := (own_lt HYO.out h1 b e).1; have q2 := (own_lt HXO.out h0 b h).2; omega)
            have HPY : Hid (∀ b, (Value.slice ya yn yc).ownBlock = some b → 0 < yn → p < b) := Lib.hid (fun b h h0 => by have q1 := (own_lt HYO.out h0 b h).1; have q2 := HBL.out.lt; omega)
            have HYO := Lib.hid (own_mono HYO.out HH.out.size)
            have HXO := Lib.hid (own_below HXO.out HST.out)
            have HBL := Lib.hid (HBL.out.below HST.out)
            refine hK.out _ _ (HSB.out _ _ HH.out HST.out) (fun hHeld => ?_)
            clear hK K HST HH
            try simp only [Act.put, List.setIfInBounds_toArray, List.set_cons_zero, List.set_cons_succ]
            refine wpAnyH_take (i := 8) (v := ?vq16) (by simp only [List.getElem?_toArray]; rfl) (by kernel_rfl) (by kernel_rfl) (by kernel_rfl) (by exact fun _ _ _ h => h) (Or.inl ⟨by rfl, ?yq16⟩) (by assumption) ?rq16
            case yq16 => (intro w hSw; (try dsimp only at hSw); go_simp; try with_reducible rfl)
            try simp only [Act.put, List.setIfInBounds_toArray, List.set_cons_zero, List.set_cons_succ]
            have k0 : wMAC.cell? ⟨p, 0, none⟩ = some (.slice none 0 0) := HBL.out.cell 0
            have k1' : wMAC.cell? ⟨p, 1, none⟩ = some (.slice none 0 0) := HBL.out.cell 1
            have k2 : wMAC.cell? ⟨p, 2, none⟩ = some (.int .u32 0) := HBL.out.cell 2
            have k3 : wMAC.cell? ⟨p, 3, none⟩ = some (.int .u32 0) := HBL.out.cell 3
            have k4 : wMAC.cell? ⟨p, 4, none⟩ = some (.int .u64 0) := HBL.out.cell 4
            have f0 := HBL.out.free 0
            have f1 := HBL.out.free 1
            have f2 := HBL.out.free 2
            have f3 := HBL.out.free 3
            have f4 := HBL.out.free 4
            have HH := Lib.hid hHeld.2
            refine wpAnyH_ready (rs := [10]) (by kernel_rfl) (by simp) ?_
            refine AllReadyH.cons (by simp only [List.getElem?_toArray]; rfl) (fun K hK => ?_) AllReadyH.nil
            go_simp
            clear k0 k1' k2 k3 k4 f0 f1 f2 f3 f4
            obtain ⟨wf, hwf⟩ : ∃ z, z = ((((wMAC.setCell ⟨p, 0, none⟩ (.slice ya yn yc)).setCell ⟨p, 1, none⟩ (.slice xa rn xc)).setCell ⟨p, 2, none⟩ (.int .u32 0)).setCell ⟨p, 3, none⟩ (.int .u32 0)).setCell ⟨p, 4, none⟩ (.int .u64 0) := ⟨_, rfl⟩
            have hOn : Only wMAC wf p := by rw [hwf]; exact ((((Only.set _ _ _ _).trans (Only.set _ _ _ _)).trans (Only.set _ _ _ _)).trans (Only.set _ _ _ _)).trans (Only.set _ _ _ _)
            have HBF : Hid (Blk wf p #[.slice ya yn yc, .slice xa rn xc, .int .u32 0, .int .u32 0, .int .u64 0] 27) := Lib.hid (by rw [hwf]; exact ((((HBL.out.set 0 (.slice ya yn yc)).set 1 (.slice xa rn xc)).set 2 (.int .u32 0)).set 3 (.int .u32 0)).set 4 (.int .u64 0))
            rw [← hwf]
            clear hwf
            have HWF : Hid (Below w4.heap.size w4 wf) := Lib.hid (Only.below HH.out hOn HPW.out HH.out.size)
            have HXC : Hid (rn ≤ xc ∧ xc ≤ 9223372036854775807) := Lib.hid (by
              obtain ⟨_, _, e, _, h1, h2, _⟩ := reads_of_own HXO.out
              simp only [Value.slice.injEq] at e
              omega)
            have HYC : Hid (yn ≤ yc ∧ yc ≤ 9223372036854775807) := Lib.hid (by
              obtain ⟨_, _, e, _, h1, h2, _⟩ := reads_of_own HYO.out
              simp only [Value.slice.injEq] at e
              omega)
            have HXF : Hid (0 < rn → Own wf w4.heap.size 24 1 (.slice xa rn xc) rn (ucells x.rem)) := Lib.hid fun h0 => own_kept HXO.out hOn (.inr fun e => by have := HPX.out p e h0; omega)
            have HYF : Hid (0 < yn → Own wf w4.heap.size 33 4 (.slice ya yn yc) yn (fcells ry)) := Lib.hid fun h0 => own_kept HYO.out hOn (.inr fun e => by have := HPY.out p e h0; omega)
            have HDJ : Hid (0 < rn → ∀ b, (Value.slice xa rn xc).ownBlock = some b → b ≠ p ∧ (0 < yn → (Value.slice ya yn yc).ownBlock ≠ some b)) := Lib.hid fun h0 b hb => ⟨fun e => by have := HPX.out b hb h0; omega, fun h1 => HXY.out b hb h0 h1⟩
            refine hK.out _ _ ⟨HCA.out _ HWF.out, HWF.out⟩ (fun hHeld => ?_)
            clear hK K
            try simp only [Act.put, List.setIfInBounds_toArray, List.set_cons_zero, List.set_cons_succ]
            refine wpAnyH_done (by kernel_rfl) ?_ _
            go_wp2_with fail
            go_meet
            case rel => exact ⟨p, ya, yn, yc, xa, xc, ry, rfl, HBF, Lib.hid ⟨HYN.out, HYP.out⟩, HYF, HYC, HXF, HXC, HDJ, HWF.out⟩
    case rest =>
      obtain ⟨p, ya, yn, yc, xa, xc, ry, rfl, HBK, HRY, HYO, HYC, HXO, HXC, HDJ, belc⟩ := hcut
      have HBC := Lib.hid belc
      clear belc HSB HRX HTU hfw
      have HYL : Hid (yn ≤ 300) := Lib.hid (by rw [HRY.out.1, HRY.out.2.length_eq]; exact HLL.out.2.1)
      obtain ⟨h2, hh2⟩ : ∃ z, z = rn / 2 := ⟨_, rfl⟩
      have HH2 := Lib.hid hh2
      have hh3 : h2 ≤ 150 := by omega
      have hq1 : (rn : Int) / 2 = (h2 : Int) := by omega
      have hq2 : (rn : Int).tdiv 2 = (h2 : Int) := by rw [Int.tdiv_eq_ediv_of_nonneg (by omega)]; exact hq1
      clear hh2
      have hxc1 := HXC.out.1
      have hxc2 := HXC.out.2
      go_upto_region 6 with (fail)
      try show Code.wp _ _ _ _ _
      go_loopw [10] (fun i wr => ∃ (k : Nat) (rl : List Nat), k ≤ h2 ∧ i = .int .i64 k ∧ Hid (Blk wr p #[.slice ya yn yc, .slice xa rn xc, .int .u32 0, .int .u32 0, .int .u64 0] 27) ∧ Hid (0 < yn → Own wr w4.heap.size 33 4 (.slice ya yn yc) yn (fcells ry)) ∧ Hid (0 < rn → Own wr w4.heap.size 24 1 (.slice xa rn xc) rn (ucells rl)) ∧ Hid (rl.Perm x.rem) ∧ Hid (Below w4.heap.size w4 wr)) (fun i _ => h2 - (intOf i).toNat)
      case atStart => exact ⟨0, x.rem, Nat.zero_le _, rfl, HBK, HYO, HXO, Lib.hid (.refl _), HBC⟩
      case round =>
        clear HBK HYO HXO HBC
        obtain ⟨k, rl, hk, rfl, HBK, HYO, HXO, HPM, HBC⟩ := hrel
        have y1 : wr.cell? ⟨p, 1, none⟩ = some (.slice xa rn xc) := HBK.out.cell 1
        by_cases hlt : k < h2
        · have h0 : 0 < rn := by have := HH2.out; omega
          have hXO := HXO.out h0
          obtain ⟨g, rfl⟩ : ∃ g, xa = some ⟨g, 0, none⟩ := by
            rcases hXO with ⟨e, _⟩ | ⟨_, g, cap, cur, fr, e2, _⟩
            · omega
            · simp only [Value.slice.injEq] at e2
              exact ⟨g, e2.1⟩
          obtain ⟨kk, hkk0⟩ : ∃ z, z = rn - 1 - k := ⟨_, rfl⟩
          have hkk : (rn : Int) - 1 - (k : Int) = (kk : Int) := by have := HH2.out; omega
          have hkr : k < rn := by have := HH2.out; omega
          have hkkr : kk < rn := by omega
          clear hkk0
          have hrl : rl.length = rn := by rw [HPM.out.length_eq]; exact HRN.out.symm
          have hnp : g ≠ p := (HDJ.out h0 g rfl).1
          have hny : 0 < yn → (Value.slice ya yn yc).ownBlock ≠ some g := (HDJ.out h0 g rfl).2
          have fk := own_free hXO k (by omega)
          have fkk := own_free hXO kk (by omega)
          obtain ⟨b1, o1, e1, q1⟩ := rdU_at (rdU_of (reads_of_own hXO)).2 k (by omega)
          obtain ⟨b2, o2, e2, q2⟩ := rdU_at (rdU_of (reads_of_own hXO)).2 kk (by omega)
          simp only [Option.some.injEq, Addr.mk.injEq, and_true] at e1 e2
          obtain ⟨rfl, rfl⟩ := e1
          obtain ⟨rfl, rfl⟩ := e2
          rw [Nat.zero_add] at q1 q2
          have HST : Hid (Own ((wr.setCell ⟨g, k, none⟩ (.int .u32 (rl[kk]'(by omega)))).setCell ⟨g, kk, none⟩ (.int .u32 (rl[k]'(by omega)))) w4.heap.size 24 1 (.slice (some ⟨g, 0, none⟩) rn xc) rn (ucells ((rl.set k (rl[kk]'(by omega))).set kk (rl[k]'(by omega))))) := Lib.hid (by
            have := own_storeG (own_storeG hXO k (by omega) (.int .u32 (rl[kk]'(by omega)))) kk (by omega) (.int .u32 (rl[k]'(by omega)))
            rw [← ucells_set, ← ucells_set] at this
            exact this)
          have HPM2 : Hid (((rl.set k (rl[kk]'(by omega))).set kk (rl[k]'(by omega))).Perm x.rem) := Lib.hid ((List.set_set_perm (by omega) (by omega)).trans HPM.out)
          generalize (rl.set k (rl[kk]'(by omega))).set kk (rl[k]'(by omega)) = rl2 at HST HPM2
          obtain ⟨zk, hzk⟩ : ∃ z, z = rl[k]'(by omega) := ⟨_, rfl⟩
          obtain ⟨zkk, hzkk⟩ : ∃ z, z = rl[kk]'(by omega) := ⟨_, rfl⟩
          rw [← hzk] at q1 HST
          rw [← hzkk] at q2 HST
          have hO := (Only.set wr g k (.int .u32 (zkk : Int))).trans (Only.set _ g kk (.int .u32 (zk : Int)))
          have HBK2 : Hid (Blk ((wr.setCell ⟨g, k, none⟩ (.int .u32 zkk)).setCell ⟨g, kk, none⟩ (.int .u32 zk)) p #[.slice ya yn yc, .slice (some ⟨g, 0, none⟩) rn xc, .int .u32 0, .int .u32 0, .int .u64 0] 27) := Lib.hid (HBK.out.only hO hnp.symm)
          have HYO2 : Hid (0 < yn → Own ((wr.setCell ⟨g, k, none⟩ (.int .u32 zkk)).setCell ⟨g, kk, none⟩ (.int .u32 zk)) w4.heap.size 33 4 (.slice ya yn yc) yn (fcells ry)) := Lib.hid fun h => own_kept (HYO.out h) hO (.inr (hny h))
          have hgb : w4.heap.size ≤ g := (own_lt hXO h0 g rfl).1
          have HBC2 := Lib.hid (Only.below HBC.out hO hgb HBC.out.size)
          have f2 : (wr.setCell ⟨g, k, none⟩ (.int .u32 zkk)).frozen? ⟨g, kk, none⟩ = false := own_free (own_storeG hXO k (by omega) (.int .u32 zkk)) kk (by omega)
          have q3 : ∃ v, (wr.setCell ⟨g, k, none⟩ (.int .u32 zkk)).cell? ⟨g, kk, none⟩ = some v := cell?_setCell_some (w := wr) (p := ⟨g, k, none⟩) (x := .int .u32 zkk) (q := ⟨g, kk, none⟩) q2
          obtain ⟨v3, q3⟩ := q3
          have ysd : wr.drew.cell? ⟨p, 1, none⟩ = some (.slice (some ⟨g, 0, none⟩) rn xc) := y1
          have ys2 : (wr.setCell ⟨g, k, none⟩ (.int .u32 zkk)).drew.cell? ⟨p, 1, none⟩ = some (.slice (some ⟨g, 0, none⟩) rn xc) := (World.cell?_setCell_far wr ⟨g, k, none⟩ ⟨p, 1, none⟩ _ hnp).trans y1
          have ys3 : ((wr.setCell ⟨g, k, none⟩ (.int .u32 zkk)).setCell ⟨g, kk, none⟩ (.int .u32 zk)).drew.cell? ⟨p, 1, none⟩ = some (.slice (some ⟨g, 0, none⟩) rn xc) := (World.cell?_setCell_far _ ⟨g, kk, none⟩ ⟨p, 1, none⟩ _ hnp).trans ys2
          have HDR := Lib.hid (Below.drew (Below.refl ((wr.setCell ⟨g, k, none⟩ (.int .u32 zkk)).setCell ⟨g, kk, none⟩ (.int .u32 zk)).heap.size ((wr.setCell ⟨g, k, none⟩ (.int .u32 zkk)).setCell ⟨g, kk, none⟩ (.int .u32 zk))))
          have hkc : (k : Int) < (rn : Int) := by omega
          have hkkc : (kk : Int) < (rn : Int) := by omega
          clear hrl hzk hzkk hO hgb hnp hny hXO
          go_upto_region 9 with (fail)
          refine wp_region_held_drew (S := fun w' => w'.cell? ⟨p, 1, none⟩ = some (.slice (some ⟨g, 0, none⟩) rn xc)) (by kernel_rfl) (ysd) (fun hHeld => ?_)
          refine wpAnyH_take (i := 0) (v := ?vq17) (by simp only [List.getElem?_toArray]; rfl) (by kernel_rfl) (by kernel_rfl) (by kernel_rfl) (by exact fun _ _ _ h => h) (Or.inl ⟨by rfl, ?yq17⟩) (by assumption) ?rq17
          case yq17 => (intro w hSw; (try dsimp only at hSw); go_simp; try with_reducible rfl)
          try simp only [Act.put, List.setIfInBounds_toArray, List.set_cons_zero, List.set_cons_succ]
          refine wpAnyH_take (i := 1) (v := ?vq18) (by simp only [List.getElem?_toArray]; rfl) (by kernel_rfl) (by kernel_rfl) (by kernel_rfl) (by exact fun _ _ _ h => h) (Or.inl ⟨by rfl, ?yq18⟩) (by assumption) ?rq18
          case yq18 => (intro w hSw; (try dsimp only at hSw); go_simp; try with_reducible rfl)
          try simp only [Act.put, List.setIfInBounds_toArray, List.set_cons_zero, List.set_cons_succ]
          refine wpAnyH_take (i := 2) (v := ?vq19) (by simp only [List.getElem?_toArray]; rfl) (by kernel_rfl) (by kernel_rfl) (by kernel_rfl) (by exact fun _ _ _ h => h) (Or.inl ⟨by rfl, ?yq19⟩) (by assumption) ?rq19
          case yq19 => (intro w hSw; (try dsimp only at hSw); go_simp; try with_reducible rfl)
          try simp only [Act.put, List.setIfInBounds_toArray, List.set_cons_zero, List.set_cons_succ]
          refine wpAnyH_take (i := 3) (v := ?vq20) (by simp only [List.getElem?_toArray]; rfl) (by kernel_rfl) (by kernel_rfl) (by kernel_rfl) (by exact fun _ _ _ h => h) (Or.inl ⟨by rfl, ?yq20⟩) (by assumption) ?rq20
          case yq20 => (intro w hSw; (try dsimp only at hSw); go_simp; try with_reducible rfl)
          try simp only [Act.put, List.setIfInBounds_toArray, List.set_cons_zero, List.set_cons_succ]
          refine wpAnyH_take (i := 4) (v := ?vq21) (by simp only [List.getElem?_toArray]; rfl) (by kernel_rfl) (by kernel_rfl) (by kernel_rfl) (by exact fun _ _ _ h => h) (Or.inl ⟨by rfl, ?yq21⟩) (by assumption) ?rq21
          case yq21 => (intro w hSw; (try dsimp only at hSw); go_simp; try with_reducible rfl)
          try simp only [Act.put, List.setIfInBounds_toArray, List.set_cons_zero, List.set_cons_succ]
          refine wpAnyH_take (i := 5) (v := ?vq22) (by simp only [List.getElem?_toArray]; rfl) (by kernel_rfl) (by kernel_rfl) (by kernel_rfl) (by exact fun _ _ _ h => h) (Or.inl ⟨by rfl, ?yq22⟩) (by assumption) ?rq22
          case yq22 => (intro w hSw; (try dsimp only at hSw); go_simp; try with_reducible rfl)
          try simp only [Act.put, List.setIfInBounds_toArray, List.set_cons_zero, List.set_cons_succ]
          refine wpAnyH_take (i := 6) (v := ?vq23) (by simp only [List.getElem?_toArray]; rfl) (by kernel_rfl) (by kernel_rfl) (by kernel_rfl) (by exact fun _ _ _ h => h) (Or.inl ⟨by rfl, ?yq23⟩) (by assumption) ?rq23
          case yq23 => (intro w hSw; (try dsimp only at hSw); go_simp; try with_reducible rfl)
          try simp only [Act.put, List.setIfInBounds_toArray, List.set_cons_zero, List.set_cons_succ]
          refine wpAnyH_take (i := 7) (v := ?vq24) (by simp only [List.getElem?_toArray]; rfl) (by kernel_rfl) (by kernel_rfl) (by kernel_rfl) (by exact fun _ _ _ h => h) (Or.inl ⟨by rfl, ?yq24⟩) (by assumption) ?rq24
          case yq24 => (intro w hSw; (try dsimp only at hSw); go_simp; try with_reducible rfl)
          try simp only [Act.put, List.setIfInBounds_toArray, List.set_cons_zero, List.set_cons_succ]
          refine wpAnyH_take (i := 8) (v := ?vq25) (by simp only [List.getElem?_toArray]; rfl) (by kernel_rfl) (by kernel_rfl) (by kernel_rfl) (by exact fun _ _ _ h => h) (Or.inl ⟨by rfl, ?yq25⟩) (by assumption) ?rq25
          case yq25 => (intro w hSw; (try dsimp only at hSw); go_simp; try with_reducible rfl)
          try simp only [Act.put, List.setIfInBounds_toArray, List.set_cons_zero, List.set_cons_succ]
          refine wpAnyH_take (i := 9) (v := ?vq26) (by simp only [List.getElem?_toArray]; rfl) (by kernel_rfl) (by kernel_rfl) (by kernel_rfl) (by exact fun _ _ _ h => h) (Or.inl ⟨by rfl, ?yq26⟩) (by assumption) ?rq26
          case yq26 => (intro w hSw; (try dsimp only at hSw); go_simp; try with_reducible rfl)
          try simp only [Act.put, List.setIfInBounds_toArray, List.set_cons_zero, List.set_cons_succ]
          refine wpAnyH_take (i := 11) (v := ?vq27) (by simp only [List.getElem?_toArray]; rfl) (by kernel_rfl) (by kernel_rfl) (by kernel_rfl) (by exact fun _ _ _ h => h) (Or.inl ⟨by rfl, ?yq27⟩) (by assumption) ?rq27
          case yq27 => (intro w hSw; (try dsimp only at hSw); go_simp; try with_reducible rfl)
          try simp only [Act.put, List.setIfInBounds_toArray, List.set_cons_zero, List.set_cons_succ]
          refine wpAnyH_take (i := 12) (v := ?vq28) (by simp only [List.getElem?_toArray]; rfl) (by kernel_rfl) (by kernel_rfl) (by kernel_rfl) (by exact fun _ _ _ h => h) (Or.inl ⟨by rfl, ?yq28⟩) (by assumption) ?rq28
          case yq28 => (intro w hSw; (try dsimp only at hSw); go_simp; try with_reducible rfl)
          try simp only [Act.put, List.setIfInBounds_toArray, List.set_cons_zero, List.set_cons_succ]
          refine wpAnyH_take (i := 13) (v := ?vq29) (by simp only [List.getElem?_toArray]; rfl) (by kernel_rfl) (by kernel_rfl) (by kernel_rfl) (by exact fun _ _ _ h => h) (Or.inl ⟨by rfl, ?yq29⟩) (by assumption) ?rq29
          case yq29 => (intro w hSw; (try dsimp only at hSw); go_simp; try with_reducible rfl)
          try simp only [Act.put, List.setIfInBounds_toArray, List.set_cons_zero, List.set_cons_succ]
          refine wpAnyH_take (i := 14) (v := ?vq30) (by simp only [List.getElem?_toArray]; rfl) (by kernel_rfl) (by kernel_rfl) (by kernel_rfl) (by exact fun _ _ _ h => h) (Or.inl ⟨by rfl, ?yq30⟩) (by assumption) ?rq30
          case yq30 => (intro w hSw; (try dsimp only at hSw); go_simp; try with_reducible rfl)
          try simp only [Act.put, List.setIfInBounds_toArray, List.set_cons_zero, List.set_cons_succ]
          refine wpAnyH_ready (rs := [10, 15]) (by kernel_rfl) (by simp) ?_
          refine AllReadyH.cons (by simp only [List.getElem?_toArray]; rfl) (fun K hK => ?way1) (AllReadyH.cons (by simp only [List.getElem?_toArray]; rfl) (fun K hK => ?way2) AllReadyH.nil)
          case way1 =>
            go_simp
            refine hK.out _ _ (hHeld) (fun hHeld => ?_)
            clear hK K
            try simp only [Act.put, List.setIfInBounds_toArray, List.set_cons_zero, List.set_cons_succ]
            refine wpAnyH_ready (rs := [15]) (by kernel_rfl) (by simp) ?_
            refine AllReadyH.cons (by simp only [List.getElem?_toArray]; rfl) (fun K hK => ?_) AllReadyH.nil
            go_simp
            refine hK.out _ _ (hHeld) (fun hHeld => ?_)
            clear hK K
            try simp only [Act.put, List.setIfInBounds_toArray, List.set_cons_zero, List.set_cons_succ]
            refine wpAnyH_take (i := 16) (v := ?vq31) (by simp only [List.getElem?_toArray]; rfl) (by kernel_rfl) (by kernel_rfl) (by kernel_rfl) (by exact fun _ _ _ h => h) (Or.inl ⟨by rfl, ?yq31⟩) (by assumption) ?rq31
            case yq31 => (intro w hSw; (try dsimp only at hSw); go_simp; try with_reducible rfl)
            try simp only [Act.put, List.setIfInBounds_toArray, List.set_cons_zero, List.set_cons_succ]
            refine wpAnyH_ready (rs := [17]) (by kernel_rfl) (by simp) ?_
            refine AllReadyH.cons (by simp only [List.getElem?_toArray]; rfl) (fun K hK => ?_) AllReadyH.nil
            go_simp
            refine hK.out _ _ (ys2) (fun hHeld => ?_)
            clear hK K
            try simp only [Act.put, List.setIfInBounds_toArray, List.set_cons_zero, List.set_cons_succ]
            refine wpAnyH_take (i := 18) (v := ?vq32) (by simp only [List.getElem?_toArray]; rfl) (by kernel_rfl) (by kernel_rfl) (by kernel_rfl) (by exact fun _ _ _ h => h) (Or.inl ⟨by rfl, ?yq32⟩) (by assumption) ?rq32
            case yq32 => (intro w hSw; (try dsimp only at hSw); go_simp; try with_reducible rfl)
            try simp only [Act.put, List.setIfInBounds_toArray, List.set_cons_zero, List.set_cons_succ]
            refine wpAnyH_ready (rs := [19]) (by kernel_rfl) (by simp) ?_
            refine AllReadyH.cons (by simp only [List.getElem?_toArray]; rfl) (fun K hK => ?_) AllReadyH.nil
            go_simp
            refine hK.out _ _ (ys3) (fun hHeld => ?_)
            clear hK K
            try simp only [Act.put, List.setIfInBounds_toArray, List.set_cons_zero, List.set_cons_succ]
            refine wpAnyH_done (by kernel_rfl) ?_ _
            have HF1 := Lib.hid (HBK2.out.below HDR.out)
            have HF2 : Hid (0 < yn → Own ((wr.setCell ⟨g, k, none⟩ (.int .u32 zkk)).setCell ⟨g, kk, none⟩ (.int .u32 zk)).drew w4.heap.size 33 4 (.slice ya yn yc) yn (fcells ry)) := Lib.hid fun h => own_below (HYO2.out h) HDR.out
            have HF3 : Hid (0 < rn → Own ((wr.setCell ⟨g, k, none⟩ (.int .u32 zkk)).setCell ⟨g, kk, none⟩ (.int .u32 zk)).drew w4.heap.size 24 1 (.slice (some ⟨g, 0, none⟩) rn xc) rn (ucells rl2)) := Lib.hid fun _ => own_below HST.out HDR.out
            have HF4 := Lib.hid (HBC2.out.trans (HDR.out.mono HBC2.out.size))
            clear HBK2 HYO2 HST HBC2 HDR q1 q2 q3 f2 fk fkk ysd ys2 ys3 y1 hHeld
            generalize ((wr.setCell ⟨g, k, none⟩ (.int .u32 zkk)).setCell ⟨g, kk, none⟩ (.int .u32 zk)).drew = wt at HF1 HF2 HF3 HF4 ⊢
            go_wp2_with fail
            go_roundw
            case rel => exact ⟨k + 1, rl2, by omega, by go_num, HF1, HF2, HF3, HPM2, HF4⟩
            case measure => simp [intOf]; omega
          case way2 =>
            go_simp
            refine hK.out _ _ (hHeld) (fun hHeld => ?_)
            clear hK K
            try simp only [Act.put, List.setIfInBounds_toArray, List.set_cons_zero, List.set_cons_succ]
            refine wpAnyH_ready (rs := [10]) (by kernel_rfl) (by simp) ?_
            refine AllReadyH.cons (by simp only [List.getElem?_toArray]; rfl) (fun K hK => ?_) AllReadyH.nil
            go_simp
            refine hK.out _ _ (hHeld) (fun hHeld => ?_)
            clear hK K
            try simp only [Act.put, List.setIfInBounds_toArray, List.set_cons_zero, List.set_cons_succ]
            refine wpAnyH_take (i := 16) (v := ?vq33) (by simp only [List.getElem?_toArray]; rfl) (by kernel_rfl) (by kernel_rfl) (by kernel_rfl) (by exact fun _ _ _ h => h) (Or.inl ⟨by rfl, ?yq33⟩) (by assumption) ?rq33
            case yq33 => (intro w hSw; (try dsimp only at hSw); go_simp; try with_reducible rfl)
            try simp only [Act.put, List.setIfInBounds_toArray, List.set_cons_zero, List.set_cons_succ]
            refine wpAnyH_ready (rs := [17]) (by kernel_rfl) (by simp) ?_
            refine AllReadyH.cons (by simp only [List.getElem?_toArray]; rfl) (fun K hK => ?_) AllReadyH.nil
            go_simp
            refine hK.out _ _ (ys2) (fun hHeld => ?_)
            clear hK K
            try simp only [Act.put, List.setIfInBounds_toArray, List.set_cons_zero, List.set_cons_succ]
            refine wpAnyH_take (i := 18) (v := ?vq34) (by simp only [List.getElem?_toArray]; rfl) (by kernel_rfl) (by kernel_rfl) (by kernel_rfl) (by exact fun _ _ _ h => h) (Or.inl ⟨by rfl, ?yq34⟩) (by assumption) ?rq34
            case yq34 => (intro w hSw; (try dsimp only at hSw); go_simp; try with_reducible rfl)
            try simp only [Act.put, List.setIfInBounds_toArray, List.set_cons_zero, List.set_cons_succ]
            refine wpAnyH_ready (rs := [19]) (by kernel_rfl) (by simp) ?_
            refine AllReadyH.cons (by simp only [List.getElem?_toArray]; rfl) (fun K hK => ?_) AllReadyH.nil
            go_simp
            refine hK.out _ _ (ys3) (fun hHeld => ?_)
            clear hK K
            try simp only [Act.put, List.setIfInBounds_toArray, List.set_cons_zero, List.set_cons_succ]
            refine wpAnyH_done (by kernel_rfl) ?_ _
            have HF1 := Lib.hid (HBK2.out.below HDR.out)
            have HF2 : Hid (0 < yn → Own ((wr.setCell ⟨g, k, none⟩ (.int .u32 zkk)).setCell ⟨g, kk, none⟩ (.int .u32 zk)).drew w4.heap.size 33 4 (.slice ya yn yc) yn (fcells ry)) := Lib.hid fun h => own_below (HYO2.out h) HDR.out
            have HF3 : Hid (0 < rn → Own ((wr.setCell ⟨g, k, none⟩ (.int .u32 zkk)).setCell ⟨g, kk, none⟩ (.int .u32 zk)).drew w4.heap.size 24 1 (.slice (some ⟨g, 0, none⟩) rn xc) rn (ucells rl2)) := Lib.hid fun _ => own_below HST.out HDR.out
            have HF4 := Lib.hid (HBC2.out.trans (HDR.out.mono HBC2.out.size))
            clear HBK2 HYO2 HST HBC2 HDR q1 q2 q3 f2 fk fkk ysd ys2 ys3 y1 hHeld
            generalize ((wr.setCell ⟨g, k, none⟩ (.int .u32 zkk)).setCell ⟨g, kk, none⟩ (.int .u32 zk)).drew = wt at HF1 HF2 HF3 HF4 ⊢
            go_wp2_with fail
            go_roundw
            case rel => exact ⟨k + 1, rl2, by omega, by go_num, HF1, HF2, HF3, HPM2, HF4⟩
            case measure => simp [intOf]; omega
        · have y0 : wr.cell? ⟨p, 0, none⟩ = some (.slice ya yn yc) := HBK.out.cell 0
          have y2 : wr.cell? ⟨p, 2, none⟩ = some (.int .u32 0) := HBK.out.cell 2
          have y3 : wr.cell? ⟨p, 3, none⟩ = some (.int .u32 0) := HBK.out.cell 3
          have y4 : wr.cell? ⟨p, 4, none⟩ = some (.int .u64 0) := HBK.out.cell 4
          have HRL : Hid (rn = rl.length) := Lib.hid (by rw [HPM.out.length_eq]; exact HRN.out)
          have HXX : Hid (∀ w', Below wr.heap.size wr w' → RdX w' (.agg #[.slice ya yn yc, .slice xa rn xc, .int .u32 0, .int .u32 0, .int .u64 0]) ⟨ry, rl, 0, 0, 0⟩) := Lib.hid fun w' hb => ⟨_, _, rfl, (rdF_pos HRY.out.1 HYC.out fun h => (rdF_of (reads_of_own (HYO.out h))).2).below hb, (rdU_pos HRL.out HXC.out fun h => (rdU_of (reads_of_own (HXO.out h))).2).below hb⟩
          have HSW : Hid (∀ w', Below wr.heap.size wr w' → w'.cell? ⟨p, 0, none⟩ = some (.slice ya yn yc) ∧ w'.cell? ⟨p, 1, none⟩ = some (.slice xa rn xc) ∧ w'.cell? ⟨p, 2, none⟩ = some (.int .u32 0) ∧ w'.cell? ⟨p, 3, none⟩ = some (.int .u32 0) ∧ w'.cell? ⟨p, 4, none⟩ = some (.int .u64 0) ∧ Below wr.heap.size wr w') := Lib.hid fun w' hb => ⟨Below.keeps hb _ _ _ y0, Below.keeps hb _ _ _ y1, Below.keeps hb _ _ _ y2, Below.keeps hb _ _ _ y3, Below.keeps hb _ _ _ y4, hb⟩
          have HSQ : Hid (∀ w1' w2', Below wr.heap.size wr w1' → Below w1'.heap.size w1' w2' → w2'.cell? ⟨p, 0, none⟩ = some (.slice ya yn yc) ∧ w2'.cell? ⟨p, 1, none⟩ = some (.slice xa rn xc) ∧ w2'.cell? ⟨p, 2, none⟩ = some (.int .u32 0) ∧ w2'.cell? ⟨p, 3, none⟩ = some (.int .u32 0) ∧ w2'.cell? ⟨p, 4, none⟩ = some (.int .u64 0) ∧ Below wr.heap.size wr w2') := Lib.hid fun w1' w2' h hb => HSW.out w2' (h.trans (hb.mono h.size))
          have HSD := Lib.hid (HSW.out wr.drew (Below.refl _ _).drew)
          have hfw : IntKind.i64.wrap (fr : Int) = (fr : Int) := IntWalk.i64_in _ (by have := HFR.out; omega)
          go_upto_region 10 with (fail)
          clear y0 y1 y2 y3 y4
          refine wp_region_held_drew (S := fun w' => w'.cell? ⟨p, 0, none⟩ = some (.slice ya yn yc) ∧ w'.cell? ⟨p, 1, none⟩ = some (.slice xa rn xc) ∧ w'.cell? ⟨p, 2, none⟩ = some (.int .u32 0) ∧ w'.cell? ⟨p, 3, none⟩ = some (.int .u32 0) ∧ w'.cell? ⟨p, 4, none⟩ = some (.int .u64 0) ∧ Below wr.heap.size wr w') (by kernel_rfl) (HSD.out) (fun hHeld => ?_)
          refine wpAnyH_take (i := 0) (v := ?vq35) (by simp only [List.getElem?_toArray]; rfl) (by kernel_rfl) (by kernel_rfl) (by kernel_rfl) (by exact fun _ _ _ h => h) (Or.inl ⟨by rfl, ?yq35⟩) (by assumption) ?rq35
          case yq35 => (intro w hSw; (try dsimp only at hSw); go_simp; try with_reducible rfl)
          try simp only [Act.put, List.setIfInBounds_toArray, List.set_cons_zero, List.set_cons_succ]
          refine wpAnyH_take (i := 1) (v := ?vq36) (by simp only [List.getElem?_toArray]; rfl) (by kernel_rfl) (by kernel_rfl) (by kernel_rfl) (by exact fun _ _ _ h => h) (Or.inl ⟨by rfl, ?yq36⟩) (by assumption) ?rq36
          case yq36 => (intro w hSw; (try dsimp only at hSw); go_simp; try with_reducible rfl)
          try simp only [Act.put, List.setIfInBounds_toArray, List.set_cons_zero, List.set_cons_succ]
          refine wpAnyH_take (i := 2) (v := ?vq37) (by simp only [List.getElem?_toArray]; rfl) (by kernel_rfl) (by kernel_rfl) (by kernel_rfl) (by exact fun _ _ _ h => h) (Or.inl ⟨by rfl, ?yq37⟩) (by assumption) ?rq37
          case yq37 => (intro w hSw; (try dsimp only at hSw); go_simp; try with_reducible rfl)
          try simp only [Act.put, List.setIfInBounds_toArray, List.set_cons_zero, List.set_cons_succ]
          refine wpAnyH_take (i := 4) (v := ?vq38) (by simp only [List.getElem?_toArray]; rfl) (by kernel_rfl) (by kernel_rfl) (by kernel_rfl) (by exact fun _ _ _ h => h) (Or.inl ⟨by rfl, ?yq38⟩) (by assumption) ?rq38
          case yq38 => (intro w hSw; (try dsimp only at hSw); go_simp; try with_reducible rfl)
          try simp only [Act.put, List.setIfInBounds_toArray, List.set_cons_zero, List.set_cons_succ]
          refine wpAnyH_ready (rs := [3]) (by kernel_rfl) (by simp) ?_
          refine AllReadyH.cons (by simp only [List.getElem?_toArray]; rfl) (fun K hK => ?_) AllReadyH.nil
          have HH := Lib.hid hHeld.2.2.2.2.2
          go_simp
          (with_reducible refine (HTL.out _ (HBC.out.trans (HH.out.mono HBC.out.size))).mono ?_)
          rintro ec w11 ⟨ta, tn, tc, rt, rfl, HTN, HTP, HTO, b11⟩
          refine hK.out _ _ (HSQ.out _ _ HH.out b11) (fun hHeld => ?_)
          clear hK K
          try simp only [Act.put, List.setIfInBounds_toArray, List.set_cons_zero, List.set_cons_succ]
          refine wpAnyH_ready (rs := [5]) (by kernel_rfl) (by simp) ?_
          refine AllReadyH.cons (by simp only [List.getElem?_toArray]; rfl) (fun K hK => ?_) AllReadyH.nil
          have HH2 := Lib.hid hHeld.2.2.2.2.2
          have HTR := Lib.hid (rdF_of (reads_of_own HTO.out)).2
          have HDO := Lib.hid (do_n w11 (.slice ta tn tc) (.agg #[.slice ya yn yc, .slice xa rn xc, .int .u32 0, .int .u32 0, .int .u64 0]) rt ⟨ry, rl, 0, 0, 0⟩ HTR.out (HXX.out _ HH2.out) (by rw [HTP.out.length_eq]; have := HLL.out; omega) (by show ry.length ≤ _; rw [HRY.out.2.length_eq]; have := HLL.out; omega) (by show rl.length ≤ _; rw [HPM.out.length_eq]; have := HLL.out; omega) (fun f hf => HLO.out f (HTP.out.mem_iff.1 hf)) (fun f hf => px_small HXO0.out f (HRY.out.2.mem_iff.1 hf)))
          go_simp
          (with_reducible refine HDO.out.mono ?_)
          rintro ec w12 ⟨r2, q2, n2, a2, k2, rfl, HN12, HQ12, HD12, HR12, hc12, hm12, HK12, HL12, b12⟩
          have DRX := Lib.hid (doR_swap HTP.out HRY.out.2 HPM.out HD12.out)
          refine hK.out _ _ (HSQ.out _ _ HH2.out b12) (fun hHeld => ?_)
          clear hK K
          try simp only [Act.put, List.setIfInBounds_toArray, List.set_cons_zero, List.set_cons_succ]
          refine wpAnyH_take (i := 6) (v := ?vq39) (by simp only [List.getElem?_toArray]; rfl) (by kernel_rfl) (by kernel_rfl) (by kernel_rfl) (by exact fun _ _ _ h => h) (Or.inl ⟨by rfl, ?yq39⟩) (by assumption) ?rq39
          case yq39 => (intro w hSw; (try dsimp only at hSw); go_simp; try with_reducible rfl)
          try simp only [Act.put, List.setIfInBounds_toArray, List.set_cons_zero, List.set_cons_succ]
          refine wpAnyH_take (i := 7) (v := ?vq40) (by simp only [List.getElem?_toArray]; rfl) (by kernel_rfl) (by kernel_rfl) (by kernel_rfl) (by exact fun _ _ _ h => h) (Or.inl ⟨by rfl, ?yq40⟩) (by assumption) ?rq40
          case yq40 => (intro w hSw; (try dsimp only at hSw); go_simp; try with_reducible rfl)
          try simp only [Act.put, List.setIfInBounds_toArray, List.set_cons_zero, List.set_cons_succ]
          refine wpAnyH_take (i := 8) (v := ?vq41) (by simp only [List.getElem?_toArray]; rfl) (by kernel_rfl) (by kernel_rfl) (by kernel_rfl) (by exact fun _ _ _ h => h) (Or.inl ⟨by rfl, ?yq41⟩) (by assumption) ?rq41
          case yq41 => (intro w hSw; (try dsimp only at hSw); go_simp; try with_reducible rfl)
          try simp only [Act.put, List.setIfInBounds_toArray, List.set_cons_zero, List.set_cons_succ]
          refine wpAnyH_take (i := 9) (v := ?vq42) (by simp only [List.getElem?_toArray]; rfl) (by kernel_rfl) (by kernel_rfl) (by kernel_rfl) (by exact fun _ _ _ h => h) (Or.inl ⟨by rfl, ?yq42⟩) (by assumption) ?rq42
          case yq42 => (intro w hSw; (try dsimp only at hSw); go_simp; try with_reducible rfl)
          try simp only [Act.put, List.setIfInBounds_toArray, List.set_cons_zero, List.set_cons_succ]
          refine wpAnyH_take (i := 10) (v := ?vq43) (by simp only [List.getElem?_toArray]; rfl) (by kernel_rfl) (by kernel_rfl) (by kernel_rfl) (by exact fun _ _ _ h => h) (Or.inl ⟨by rfl, ?yq43⟩) (by assumption) ?rq43
          case yq43 => (intro w hSw; (try dsimp only at hSw); go_simp; try with_reducible rfl)
          try simp only [Act.put, List.setIfInBounds_toArray, List.set_cons_zero, List.set_cons_succ]
          refine wpAnyH_done (by kernel_rfl) ?_ _
          have HB12 := Lib.hid hHeld.2.2.2.2.2
          obtain ⟨rfl, hrr⟩ := doR_perm (List.Perm.refl _) (List.Perm.refl _) (List.Perm.refl _) HD4.out (DRX.out)
          have HR12' := HR12
          rw [← hrr] at HR12'
          have HS := Lib.hid (sameF_any w12 (.slice a1 n1 k1) (.slice a2 n2 k2) r1 (HR1.out w12 (HBC.out.trans (HB12.out.mono HBC.out.size))) HR12'.out)
          clear hHeld hrr HSQ HSD HSW HXX
          go_wp2_with fail
          refine HS.out.mono ?_
          rintro e w13 ⟨rfl, b13⟩
          have HB13 := Lib.hid (HB12.out.trans (b13.mono HB12.out.size))
          clear b13
          go_wp2
          go_ret
          exact ⟨by first | rfl | (simp; done), HEV.out _ (HBC.out.trans (HB13.out.mono HBC.out.size))⟩
theorem editsAlike_walk (w : World) (v : Value) (l : List PF) (vx : Value) (x : PX) (a2 : Int) (hv : RdF w v l) (hl : l.length ≤ 2932031007402 ∧ ∀ f ∈ l, f.ok) (hx : RdX w vx x) (hxo : x.ok) (wa : (Lit.int .u8 a2).wf = true) :
    Calls Try.prog 7 #[v, vx, .int .u8 a2] w fun e w' => e = .returned (.bool true) ∧ Below w.heap.size w w' := by
  have h : 0 ≤ a2 ∧ a2 ≤ 255 := by simpa [Lit.wf, IntKind.min, IntKind.max, IntKind.signed, IntKind.bits] using wa
  obtain ⟨c, rfl⟩ := Int.eq_ofNat_of_zero_le h.1
  exact editsAlike_walk0 w v l vx x c (by omega) hv hl hx hxo
end Go.Proofs.Ytmonmfamnbfhcaa

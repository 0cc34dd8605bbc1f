/- Walk of law11.alive. No condition. -/
import Derived.Test.YtmonmfamnbfhcaaFlP
import Derived.Test.YtmonmfamnbfhcaaAlive1
namespace Go.Proofs.Ytmonmfamnbfhcaa
open Go.RowKit
theorem ePutX (w : World) (x : PX) (vx : Value) (hx : RdX w vx x) (hf : x.fit) (hm : x.add.all mayF = true) :
    Calls Try.prog 13 #[vx] w fun e w' => ∃ a n c, e = .returned (.tuple #[.slice a n c, .int .i64 0]) ∧ Hid (n = (ePut x).length) ∧ Hid (Own w' w.heap.size 5 1 (.slice a n c) n (u8s (ePut x))) ∧ Below w.heap.size w w' := by
  refine (putX_any w vx x hx hf).mono ?_
  rintro e w' ⟨l, q, a, n, c, rfl, h, h1, h2, h3⟩
  rcases h.out with ⟨_, rfl, rfl⟩ | ⟨h, _⟩
  · exact ⟨a, n, c, rfl, h1, h2, h3⟩
  · rw [hm] at h; cases h
theorem ePutN (w : World) (x : PX) (vx : Value) (hx : RdX w vx x) (hf : x.fit) (hm : x.add.all mayF = false) :
    Calls Try.prog 13 #[vx] w fun e w' => ∃ a n c, e = .returned (.tuple #[.slice a n c, .int .i64 1]) ∧ Below w.heap.size w w' := by
  refine (putX_any w vx x hx hf).mono ?_
  rintro e w' ⟨l, q, a, n, c, rfl, h, h1, h2, h3⟩
  rcases h.out with ⟨h, _⟩ | ⟨_, rfl, rfl⟩
  · rw [hm] at h; cases h
  · exact ⟨a, n, c, rfl, h3⟩
theorem eDoN (w : World) (v vx : Value) (l : List PF) (x : PX) (hv : RdF w v l) (hx : RdX w vx x) (hs : (decide (l.length ≤ 100) && decide (x.add.length ≤ 100) && decide (x.rem.length ≤ 100)) = true) (hlo : ∀ f ∈ l, f.ok) (hao : ∀ f ∈ x.add, f.ok) (hn : ∀ r q, DoR l x.add x.rem r q → q = 1) :
    Calls Try.prog 18 #[v, vx] w fun e w' => ∃ a n c, e = .returned (.tuple #[.slice a n c, .int .i64 1]) ∧ Below w.heap.size w w' := by
  simp only [Bool.and_eq_true, decide_eq_true_eq] at hs
  refine (do_any w v vx l x hv hx (by omega) (by omega) (by omega) hlo hao).mono ?_
  rintro e w' ⟨r, q, a, c, rfl, h, _, h3⟩
  obtain rfl := hn r q h.out
  exact ⟨a, _, c, rfl, h3⟩
theorem ok_one {f : PF} (h : f.ok) : ∀ g ∈ [f], g.ok := fun g hg => by rw [List.mem_singleton.1 hg]; exact h
theorem ok_nil : ∀ g ∈ ([] : List PF), g.ok := fun g hg => by cases hg
theorem fit_one (f : PF) (h : f.n < 4294967296) : (PX.mk [f] [] 0 0 0).fit := ⟨by show (1 : Nat) ≤ _; omega, Nat.zero_le _, fun g hg => by rw [List.mem_singleton.1 hg]; exact h, fun k hk => (by cases hk), by show (0 : Nat) < _; omega, by show (0 : Nat) < _; omega, by show (0 : Nat) < _; omega⟩
set_option maxRecDepth 100000 in
set_option maxHeartbeats 4000000 in
theorem alive11_any (w : World) : Calls Try.prog 10 #[] w (RetTrue w) := by
  go_enter Try.func10, Try.ntmps10
  go_wp2_with fail
  refine (file_any _ 300 1 ⟨#[97]⟩ ⟨#[98, 99]⟩).mono ?_
  rintro e w1 ⟨rfl, b1⟩
  have HB1 := Lib.hid b1
  clear b1
  go_upto_region 2 with (fail)
  obtain ⟨W, hW⟩ : ∃ W, W = ((w1.alloc (.cells #[.int .u32 300, .int .i64 1, .string ⟨#[97]⟩, .string ⟨#[98, 99]⟩] 33)).alloc (.cells #[.int .u32 5] 24)).alloc (.cells #[.slice (some ⟨w1.heap.size, 0, none⟩) 1 1, .slice (some ⟨w1.heap.size + 1, 0, none⟩) 1 1, .int .u32 6, .int .u32 7, .int .u64 200] 27) := ⟨_, rfl⟩
  have hA : RdF (w1.alloc (.cells #[.int .u32 300, .int .i64 1, .string ⟨#[97]⟩, .string ⟨#[98, 99]⟩] 33)) (.slice (some ⟨w1.heap.size, 0, none⟩) 1 1) xA.add := rdF_lit w1 _ xA.add _ 1 rfl rfl (by decide)
  have hR : RdU ((w1.alloc (.cells #[.int .u32 300, .int .i64 1, .string ⟨#[97]⟩, .string ⟨#[98, 99]⟩] 33)).alloc (.cells #[.int .u32 5] 24)) (.slice (some ⟨w1.heap.size + 1, 0, none⟩) 1 1) xA.rem := by
    have := rdU_lit (w1.alloc (.cells #[.int .u32 300, .int .i64 1, .string ⟨#[97]⟩, .string ⟨#[98, 99]⟩] 33)) #[.int .u32 5] xA.rem 24 1 rfl rfl (by decide)
    simpa using this
  have HX : Hid (∀ w', Below W.heap.size W w' → RdX w' (.agg #[.slice (some ⟨w1.heap.size, 0, none⟩) 1 1, .slice (some ⟨w1.heap.size + 1, 0, none⟩) 1 1, .int .u32 6, .int .u32 7, .int .u64 200]) xA) := Lib.hid fun w' hb => ⟨_, _, rfl, ((hA.below (alloc_bel _ _)).below (by rw [hW] at hb; exact Below.trans (alloc_bel _ _) (hb.mono (alloc_bel _ _).size))), (hR.below (by rw [hW] at hb; exact Below.trans (alloc_bel _ _) (hb.mono (alloc_bel _ _).size)))⟩
  have hBlk : Blk W (w1.heap.size + 2) #[.slice (some ⟨w1.heap.size, 0, none⟩) 1 1, .slice (some ⟨w1.heap.size + 1, 0, none⟩) 1 1, .int .u32 6, .int .u32 7, .int .u64 200] 27 := by rw [hW]; exact Blk.new_at _ _ _ _ (by simp)
  have HC : Hid (∀ w', Below W.heap.size W w' → w'.cell? ⟨w1.heap.size + 2, 0, none⟩ = some (.slice (some ⟨w1.heap.size, 0, none⟩) 1 1) ∧ w'.cell? ⟨w1.heap.size + 2, 1, none⟩ = some (.slice (some ⟨w1.heap.size + 1, 0, none⟩) 1 1) ∧ w'.cell? ⟨w1.heap.size + 2, 2, none⟩ = some (.int .u32 6) ∧ w'.cell? ⟨w1.heap.size + 2, 3, none⟩ = some (.int .u32 7) ∧ w'.cell? ⟨w1.heap.size + 2, 4, none⟩ = some (.int .u64 200)) := Lib.hid fun w' hb => ⟨Below.keeps hb _ _ _ (hBlk.cell 0), Below.keeps hb _ _ _ (hBlk.cell 1), Below.keeps hb _ _ _ (hBlk.cell 2), Below.keeps hb _ _ _ (hBlk.cell 3), Below.keeps hb _ _ _ (hBlk.cell 4)⟩
  have HBW : Hid (Below w.heap.size w W) := Lib.hid (by
    rw [hW]
    have a1 := alloc_bel w1 (.cells #[.int .u32 300, .int .i64 1, .string ⟨#[97]⟩, .string ⟨#[98, 99]⟩] 33)
    have a2 := a1.trans ((alloc_bel (w1.alloc (.cells #[.int .u32 300, .int .i64 1, .string ⟨#[97]⟩, .string ⟨#[98, 99]⟩] 33)) (.cells #[.int .u32 5] 24)).mono a1.size)
    exact HB1.out.trans ((a2.trans ((alloc_bel _ _).mono a2.size)).mono HB1.out.size))
  rw [← hW]
  clear hW hA hR hBlk
  obtain ⟨k0, k1, k2, k3, k4⟩ := HC.out W (Below.refl _ _)
  go_wp2_with fail
  refine (ePutX W xA _ (HX.out W (Below.refl _ _)) xA_fit xA_may).mono ?_
  rintro e w4 ⟨pa, pn, pc, rfl, HPN, HPO, b4⟩
  rw [xA_put] at HPO
  have HW4 := Lib.hid b4
  clear k0 k1 k2 k3 k4 b4
  go_upto_region 3 with (fail)
  have HO1 : Hid (∀ f ∈ [fA 5 0 [97] [98], fA 3 1 [97] [99]], f.ok) := Lib.hid fun f hf => by
    rcases List.mem_cons.1 hf with rfl | hf
    · exact fA_ok _ _ _ _ (by decide)
    · exact ok_one (fA_ok _ _ _ _ (by decide)) f hf
  have HO2 : Hid (∀ f ∈ xA.add, f.ok) := Lib.hid (ok_one (fA_ok _ _ _ _ (by decide)))
  have HSB : Hid (∀ w1' w2', Below w4.heap.size w4 w1' → Below w1'.heap.size w1' w2' → (w2'.cell? ⟨w1.heap.size + 2, 0, none⟩ = some (.slice (some ⟨w1.heap.size, 0, none⟩) 1 1) ∧ w2'.cell? ⟨w1.heap.size + 2, 1, none⟩ = some (.slice (some ⟨w1.heap.size + 1, 0, none⟩) 1 1) ∧ w2'.cell? ⟨w1.heap.size + 2, 2, none⟩ = some (.int .u32 6) ∧ w2'.cell? ⟨w1.heap.size + 2, 3, none⟩ = some (.int .u32 7) ∧ w2'.cell? ⟨w1.heap.size + 2, 4, none⟩ = some (.int .u64 200) ∧ Below w4.heap.size w4 w2')) := Lib.hid fun w1' w2' h hb => by
    have h2 := h.trans (hb.mono h.size)
    obtain ⟨p0, p1, p2, p3, p4⟩ := HC.out w2' (HW4.out.trans (h2.mono HW4.out.size))
    exact ⟨p0, p1, p2, p3, p4, h2⟩
  have HS0 := Lib.hid (HSB.out w4 w4.drew (Below.refl _ _) (Below.drew (Below.refl _ _)))
  refine wp_region_held_drew (S := fun w' => w'.cell? ⟨w1.heap.size + 2, 0, none⟩ = some (.slice (some ⟨w1.heap.size, 0, none⟩) 1 1) ∧ w'.cell? ⟨w1.heap.size + 2, 1, none⟩ = some (.slice (some ⟨w1.heap.size + 1, 0, none⟩) 1 1) ∧ w'.cell? ⟨w1.heap.size + 2, 2, none⟩ = some (.int .u32 6) ∧ w'.cell? ⟨w1.heap.size + 2, 3, none⟩ = some (.int .u32 7) ∧ w'.cell? ⟨w1.heap.size + 2, 4, none⟩ = some (.int .u64 200) ∧ Below w4.heap.size w4 w') (by kernel_rfl) (HS0.out) (fun hHeld => ?_)
  refine wpAnyH_take (i := 3) (v := ?vq1) (by simp only [List.getElem?_toArray]; rfl) (by kernel_rfl) (by kernel_rfl) (by kernel_rfl) (by exact fun _ _ _ h => h) (Or.inl ⟨by rfl, ?yq1⟩) (by assumption) ?rq1
  case yq1 => (intro w hSw; (try dsimp only at hSw); go_simp; try with_reducible rfl)
  try simp only [Act.put, List.setIfInBounds_toArray, List.set_cons_zero, List.set_cons_succ]
  refine wpAnyH_ready (rs := [0]) (by kernel_rfl) (by simp) ?_
  refine AllReadyH.cons (by simp only [List.getElem?_toArray]; rfl) (fun K hK => ?_) AllReadyH.nil
  go_simp
  refine (file_any _ 5 0 ⟨#[97]⟩ ⟨#[98]⟩).mono ?_
  rintro e5 w5 ⟨rfl, b5⟩
  refine hK.out _ _ (HSB.out _ _ hHeld.2.2.2.2.2 b5) (fun hHeld => ?_)
  clear hK K
  try simp only [Act.put, List.setIfInBounds_toArray, List.set_cons_zero, List.set_cons_succ]
  refine wpAnyH_ready (rs := [1]) (by kernel_rfl) (by simp) ?_
  refine AllReadyH.cons (by simp only [List.getElem?_toArray]; rfl) (fun K hK => ?_) AllReadyH.nil
  go_simp
  refine (file_any _ 3 1 ⟨#[97]⟩ ⟨#[99]⟩).mono ?_
  rintro e6 w6 ⟨rfl, b6⟩
  refine hK.out _ _ (HSB.out _ _ hHeld.2.2.2.2.2 b6) (fun hHeld => ?_)
  clear hK K
  try simp only [Act.put, List.setIfInBounds_toArray, List.set_cons_zero, List.set_cons_succ]
  refine wpAnyH_ready (rs := [2]) (by kernel_rfl) (by simp) ?_
  refine AllReadyH.cons (by simp only [List.getElem?_toArray]; rfl) (fun K hK => ?_) AllReadyH.nil
  go_simp
  refine hK.out _ _ (HSB.out _ _ hHeld.2.2.2.2.2 (alloc_bel _ _)) (fun hHeld => ?_)
  clear hK K
  try simp only [Act.put, List.setIfInBounds_toArray, List.set_cons_zero, List.set_cons_succ]
  refine wpAnyH_ready (rs := [4]) (by kernel_rfl) (by simp) ?_
  refine AllReadyH.cons (by simp only [List.getElem?_toArray]; rfl) (fun K hK => ?_) AllReadyH.nil
  go_simp
  refine (do_any _ _ _ [fA 5 0 [97] [98], fA 3 1 [97] [99]] xA (rdF_lit w6 _ [fA 5 0 [97] [98], fA 3 1 [97] [99]] _ 2 rfl rfl (by decide)) (HX.out _ (HW4.out.trans (hHeld.2.2.2.2.2.mono HW4.out.size))) (by decide) (by decide) (by decide) HO1.out HO2.out).mono ?_
  rintro e7 w7 ⟨r, q, ra, rc, rfl, HD, HRO, b7⟩
  obtain ⟨rfl, rfl⟩ := do_1 HD.out
  refine hK.out _ _ (HSB.out _ _ hHeld.2.2.2.2.2 b7) (fun hHeld => ?_)
  clear hK K
  try simp only [Act.put, List.setIfInBounds_toArray, List.set_cons_zero, List.set_cons_succ]
  refine wpAnyH_take (i := 5) (v := ?vq2) (by simp only [List.getElem?_toArray]; rfl) (by kernel_rfl) (by kernel_rfl) (by kernel_rfl) (by exact fun _ _ _ h => h) (Or.inl ⟨by rfl, ?yq2⟩) (by assumption) ?rq2
  case yq2 => (intro w hSw; (try dsimp only at hSw); go_simp; try with_reducible rfl)
  try simp only [Act.put, List.setIfInBounds_toArray, List.set_cons_zero, List.set_cons_succ]
  refine wpAnyH_take (i := 6) (v := ?vq3) (by simp only [List.getElem?_toArray]; rfl) (by kernel_rfl) (by kernel_rfl) (by kernel_rfl) (by exact fun _ _ _ h => h) (Or.inl ⟨by rfl, ?yq3⟩) (by assumption) ?rq3
  case yq3 => (intro w hSw; (try dsimp only at hSw); go_simp; try with_reducible rfl)
  try simp only [Act.put, List.setIfInBounds_toArray, List.set_cons_zero, List.set_cons_succ]
  refine wpAnyH_take (i := 7) (v := ?vq4) (by simp only [List.getElem?_toArray]; rfl) (by kernel_rfl) (by kernel_rfl) (by kernel_rfl) (by exact fun _ _ _ h => h) (Or.inl ⟨by rfl, ?yq4⟩) (by assumption) ?rq4
  case yq4 => (intro w hSw; (try dsimp only at hSw); go_simp; try with_reducible rfl)
  try simp only [Act.put, List.setIfInBounds_toArray, List.set_cons_zero, List.set_cons_succ]
  refine wpAnyH_take (i := 8) (v := ?vq5) (by simp only [List.getElem?_toArray]; rfl) (by kernel_rfl) (by kernel_rfl) (by kernel_rfl) (by exact fun _ _ _ h => h) (Or.inl ⟨by rfl, ?yq5⟩) (by assumption) ?rq5
  case yq5 => (intro w hSw; (try dsimp only at hSw); go_simp; try with_reducible rfl)
  try simp only [Act.put, List.setIfInBounds_toArray, List.set_cons_zero, List.set_cons_succ]
  refine wpAnyH_take (i := 9) (v := ?vq6) (by simp only [List.getElem?_toArray]; rfl) (by kernel_rfl) (by kernel_rfl) (by kernel_rfl) (by exact fun _ _ _ h => h) (Or.inl ⟨by rfl, ?yq6⟩) (by assumption) ?rq6
  case yq6 => (intro w hSw; (try dsimp only at hSw); go_simp; try with_reducible rfl)
  try simp only [Act.put, List.setIfInBounds_toArray, List.set_cons_zero, List.set_cons_succ]
  refine wpAnyH_done (by kernel_rfl) ?_ _
  have HBF : Hid (Below w.heap.size w w7) := Lib.hid (HBW.out.trans ((HW4.out.trans (hHeld.2.2.2.2.2.mono HW4.out.size)).mono HBW.out.size))
  have HP7 := Lib.hid ((rd_of_own HPO.out).2.below hHeld.2.2.2.2.2)
  have HR7 := Lib.hid (rdF_of (reads_of_own HRO.out)).2
  have HB7 : Hid (Below w7.heap.size w7 w7) := Lib.hid (Below.refl _ _)
  clear hHeld HSB HS0 HC HX
  go_upto_region 4 with (fail)
  have hR5 : RdU (w7.alloc (.cells #[.int .u32 5] 24)) (.slice (some ⟨w7.heap.size, 0, none⟩) 1 1) [5] := rdU_lit w7 #[.int .u32 5] [5] 24 1 rfl rfl (by decide)
  have HD4 := Lib.hid (eDoN (w7.alloc (.cells #[.int .u32 5] 24)) (.slice none 0 0) (.agg #[.slice none 0 0, .slice (some ⟨w7.heap.size, 0, none⟩) 1 1, .int .u32 0, .int .u32 0, .int .u64 0]) [] ⟨[], [5], 0, 0, 0⟩ (RdF.nil _) ⟨_, _, rfl, RdF.nil _, hR5⟩ (by decide) ok_nil ok_nil (fun r q h => do_2 h))
  have HB7' := Lib.hid (HB7.out.trans ((alloc_bel w7 (.cells #[.int .u32 5] 24)).mono HB7.out.size))
  clear hR5
  go_wp2_with fail
  refine HD4.out.mono ?_
  rintro e8 w8 ⟨da, dn, dc, rfl, b8⟩
  have HB8 := Lib.hid (HB7'.out.trans (b8.mono HB7'.out.size))
  clear b8 HD4 HB7'
  go_upto_region 5 with (fail)
  go_wp2_with fail
  refine (file_any _ 5 0 ⟨#[97]⟩ ⟨#[98]⟩).mono ?_
  rintro e9 w9 ⟨rfl, b9⟩
  have HB9 := Lib.hid (HB8.out.trans (b9.mono HB8.out.size))
  clear b9
  go_wp2_with fail
  have h9 : RdF (w9.alloc (.cells #[.int .u32 5, .int .i64 0, .string ⟨#[97]⟩, .string ⟨#[98]⟩] 33)) (.slice (some ⟨w9.heap.size, 0, none⟩) 1 1) [fA 5 0 [97] [98]] := rdF_lit w9 _ _ _ 1 rfl rfl (by decide)
  have HB9' := Lib.hid (HB9.out.trans ((alloc_bel w9 (.cells #[.int .u32 5, .int .i64 0, .string ⟨#[97]⟩, .string ⟨#[98]⟩] 33)).mono HB9.out.size))
  refine (file_any _ 5 1 ⟨#[97]⟩ ⟨#[98]⟩).mono ?_
  rintro e10 w10 ⟨rfl, b10⟩
  have HB10 := Lib.hid (HB9'.out.trans (b10.mono HB9'.out.size))
  have h10 := h9.below b10
  have h10b : RdF (w10.alloc (.cells #[.int .u32 5, .int .i64 1, .string ⟨#[97]⟩, .string ⟨#[98]⟩] 33)) (.slice (some ⟨w10.heap.size, 0, none⟩) 1 1) [fA 5 1 [97] [98]] := rdF_lit w10 _ _ _ 1 rfl rfl (by decide)
  have HB10' := Lib.hid (HB10.out.trans ((alloc_bel w10 (.cells #[.int .u32 5, .int .i64 1, .string ⟨#[97]⟩, .string ⟨#[98]⟩] 33)).mono HB10.out.size))
  have HD5 := Lib.hid (eDoN (w10.alloc (.cells #[.int .u32 5, .int .i64 1, .string ⟨#[97]⟩, .string ⟨#[98]⟩] 33)) (.slice (some ⟨w9.heap.size, 0, none⟩) 1 1) (.agg #[.slice (some ⟨w10.heap.size, 0, none⟩) 1 1, .slice none 0 0, .int .u32 0, .int .u32 0, .int .u64 0]) [fA 5 0 [97] [98]] ⟨[fA 5 1 [97] [98]], [], 0, 0, 0⟩ (h10.below (alloc_bel _ _)) ⟨_, _, rfl, h10b, RdU.nil _⟩ (by decide) (ok_one (fA_ok _ _ _ _ (by decide))) (ok_one (fA_ok _ _ _ _ (by decide))) (fun r q h => do_3 h))
  clear h9 h10 h10b b10
  go_wp2_with fail
  refine HD5.out.mono ?_
  rintro e11 w11 ⟨ga, gn, gc, rfl, b11⟩
  have HB11 := Lib.hid (HB10'.out.trans (b11.mono HB10'.out.size))
  clear b11 HD5 HB9 HB9' HB10 HB10'
  go_upto_region 6 with (fail)
  go_wp2_with fail
  refine (file_any _ 1 4 ⟨#[97]⟩ ⟨#[98]⟩).mono ?_
  rintro e12 w12 ⟨rfl, b12⟩
  have HB12 := Lib.hid (HB11.out.trans (b12.mono HB11.out.size))
  have HB12' := Lib.hid (HB12.out.trans ((alloc_bel w12 (.cells #[.int .u32 1, .int .i64 4, .string ⟨#[97]⟩, .string ⟨#[98]⟩] 33)).mono HB12.out.size))
  have h12 : RdF (w12.alloc (.cells #[.int .u32 1, .int .i64 4, .string ⟨#[97]⟩, .string ⟨#[98]⟩] 33)) (.slice (some ⟨w12.heap.size, 0, none⟩) 1 1) [fA 1 4 [97] [98]] := rdF_lit w12 _ _ _ 1 rfl rfl (by decide)
  have HD6 := Lib.hid (ePutN (w12.alloc (.cells #[.int .u32 1, .int .i64 4, .string ⟨#[97]⟩, .string ⟨#[98]⟩] 33)) ⟨[fA 1 4 [97] [98]], [], 0, 0, 0⟩ (.agg #[.slice (some ⟨w12.heap.size, 0, none⟩) 1 1, .slice none 0 0, .int .u32 0, .int .u32 0, .int .u64 0]) ⟨_, _, rfl, h12, RdU.nil _⟩ (fit_one _ (by decide)) may_4)
  clear h12 b12
  go_wp2_with fail
  refine HD6.out.mono ?_
  rintro e13 w13 ⟨ia, in_, ic, rfl, b13⟩
  have HB13 := Lib.hid (HB12'.out.trans (b13.mono HB12'.out.size))
  clear b13 HD6 HB12 HB12'
  go_upto_region 7 with (fail)
  go_wp2_with fail
  refine (file_any _ 1 0 ⟨#[98]⟩ ⟨#[97]⟩).mono ?_
  rintro e14 w14 ⟨rfl, b14⟩
  have HB14 := Lib.hid (HB13.out.trans (b14.mono HB13.out.size))
  have HB14' := Lib.hid (HB14.out.trans ((alloc_bel w14 (.cells #[.int .u32 1, .int .i64 0, .string ⟨#[98]⟩, .string ⟨#[97]⟩] 33)).mono HB14.out.size))
  have h14 : RdF (w14.alloc (.cells #[.int .u32 1, .int .i64 0, .string ⟨#[98]⟩, .string ⟨#[97]⟩] 33)) (.slice (some ⟨w14.heap.size, 0, none⟩) 1 1) [fA 1 0 [98] [97]] := rdF_lit w14 _ _ _ 1 rfl rfl (by decide)
  have HD7 := Lib.hid (ePutN (w14.alloc (.cells #[.int .u32 1, .int .i64 0, .string ⟨#[98]⟩, .string ⟨#[97]⟩] 33)) ⟨[fA 1 0 [98] [97]], [], 0, 0, 0⟩ (.agg #[.slice (some ⟨w14.heap.size, 0, none⟩) 1 1, .slice none 0 0, .int .u32 0, .int .u32 0, .int .u64 0]) ⟨_, _, rfl, h14, RdU.nil _⟩ (fit_one _ (by decide)) may_5)
  clear h14 b14
  go_wp2_with fail
  refine HD7.out.mono ?_
  rintro e15 w15 ⟨ja, jn, jc, rfl, b15⟩
  have HB15 := Lib.hid (HB14'.out.trans (b15.mono HB14'.out.size))
  clear b15 HD7 HB14 HB14'
  go_upto_region 8 with (fail)
  have HB15' := Lib.hid (HB15.out.trans ((alloc_bel w15 (.cells #[.int .u8 0, .int .u8 0, .int .u8 0, .int .u8 0] 5)).mono HB15.out.size))
  have HD8 := Lib.hid (getX_any (w15.alloc (.cells #[.int .u8 0, .int .u8 0, .int .u8 0, .int .u8 0] 5)) _ [0, 0, 0, 0] (rd_lit w15 [0, 0, 0, 0] _ _ 4 (by simp [u8s]) rfl (by decide)) (by decide))
  go_wp2_with fail
  refine HD8.out.mono ?_
  rintro e16 w16 ⟨zx, q, za, zr, rfl, hg, hza, hzr, b16⟩
  obtain rfl := get_1 hg.out
  obtain ⟨za1, za3, rfl⟩ := (reads_of_own hza.out).slice
  obtain ⟨zr1, zr3, rfl⟩ := (reads_of_own hzr.out).slice
  generalize zx.add.length = za2 at hza ⊢
  generalize zx.rem.length = zr2 at hzr ⊢
  generalize zx.jo = zjo
  generalize zx.nx = znx
  generalize zx.sq = zsq
  clear hza hzr
  have HB16 := Lib.hid (HB15'.out.trans (b16.mono HB15'.out.size))
  clear b16 HD8 hg
  go_upto_region 9 with (fail)
  have HB17 := Lib.hid (HB16.out.trans ((alloc_bel w16 (.cells #[.slice za1 za2 za3, .slice zr1 zr2 zr3, .int .u32 zjo, .int .u32 znx, .int .u64 zsq] 27)).mono HB16.out.size))
  generalize w16.alloc (.cells #[.slice za1 za2 za3, .slice zr1 zr2 zr3, .int .u32 zjo, .int .u32 znx, .int .u64 zsq] 27) = w17 at HB17 ⊢
  have s1 := run_str (HP7.out.below HB17.out)
  rw [show bs [1, 172, 2, 1, 1, 97, 2, 98, 99, 1, 5, 6, 7, 200, 1] = ⟨#[1, 172, 2, 1, 1, 97, 2, 98, 99, 1, 5, 6, 7, 200, 1]⟩ from rfl] at s1
  obtain ⟨ra2, rc2, he, _, _, hc⟩ := HR7.out.below HB17.out
  simp only [Value.slice.injEq] at he
  obtain ⟨rfl, _, rfl⟩ := he
  obtain ⟨rb, roff, rfl, d0, _, _, _⟩ := hc 0 (by decide)
  obtain ⟨rb2, roff2, he2, d1, _, _, _⟩ := hc 1 (by decide)
  simp only [Option.some.injEq, Addr.mk.injEq, and_true] at he2
  obtain ⟨rfl, rfl⟩ := he2
  replace d0 : w17.cell? ⟨rb, roff, none⟩ = some (.int .u32 3) := d0
  replace d1 : w17.cell? ⟨rb, roff + 4, none⟩ = some (.int .u32 300) := d1
  clear hc
  go_wp2
  go_ret
  exact ⟨rfl, HBF.out.trans (HB17.out.mono HBF.out.size)⟩
end Go.Proofs.Ytmonmfamnbfhcaa

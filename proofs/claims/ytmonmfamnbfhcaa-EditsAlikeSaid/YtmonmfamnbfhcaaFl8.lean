/- The closure that edits.Do sorts files by. No condition. -/
import Derived.Test.YtmonmfamnbfhcaaFl7
namespace Go.Proofs.Ytmonmfamnbfhcaa
open Go.RowKit Go.Sort
set_option maxRecDepth 100000 in
set_option maxHeartbeats 2000000 in
theorem do2_any (x y : PF) (w : World) : Calls Try.prog 48 #[.agg #[.int .u32 x.n, .int .i64 x.lv, .string x.a, .string x.b], .agg #[.int .u32 y.n, .int .i64 y.lv, .string y.a, .string y.b]] w fun e w' =>
    e = .returned (.int .i64 (cfF x y)) ∧ ∃ q os', w' = grow (w.drewN q) os' := by
  have HC : Hid (cfF x y = orI (cmpI x.lv y.lv) (cmpN x.n y.n)) := Lib.hid rfl
  obtain ⟨xn, xl, xa, xb⟩ := x
  obtain ⟨yn, yl, ya, yb⟩ := y
  simp only at HC ⊢
  generalize cfF ⟨xn, xl, xa, xb⟩ ⟨yn, yl, ya, yb⟩ = R at HC ⊢
  obtain ⟨W, hW⟩ : ∃ W, W = (w.alloc (.cells #[.int .u32 xn, .int .i64 xl, .string xa, .string xb] 33)).alloc (.cells #[.int .u32 yn, .int .i64 yl, .string ya, .string yb] 33) := ⟨_, rfl⟩
  have hbl : W.drew = grow (w.drewN 1) #[.cells #[.int .u32 xn, .int .i64 xl, .string xa, .string xb] 33, .cells #[.int .u32 yn, .int .i64 yl, .string ya, .string yb] 33] := by rw [hW, alloc_eq_grow, alloc_eq_grow, grow_grow]; rfl
  have b1 : Blk W w.heap.size #[.int .u32 xn, .int .i64 xl, .string xa, .string xb] 33 := by rw [hW]; exact (Blk.new _ _ _).alloc _
  have b2 : Blk W (w.heap.size + 1) #[.int .u32 yn, .int .i64 yl, .string ya, .string yb] 33 := by rw [hW]; exact Blk.new_at _ _ _ _ (by simp)
  have a0 : W.drew.cell? ⟨w.heap.size, 0, none⟩ = some (.int .u32 xn) := b1.cell 0
  have a1 : W.drew.cell? ⟨w.heap.size, 1, none⟩ = some (.int .i64 xl) := b1.cell 1
  have d0 : W.drew.cell? ⟨w.heap.size + 1, 0, none⟩ = some (.int .u32 yn) := b2.cell 0
  have d1 : W.drew.cell? ⟨w.heap.size + 1, 1, none⟩ = some (.int .i64 yl) := b2.cell 1
  have HS : Hid (∃ q os', W.drew = grow (w.drewN q) os') := Lib.hid ⟨_, _, hbl⟩
  have HSA : Hid (∀ w' o, (w'.cell? ⟨w.heap.size, 0, none⟩ = some (.int .u32 xn) ∧ w'.cell? ⟨w.heap.size, 1, none⟩ = some (.int .i64 xl) ∧ w'.cell? ⟨w.heap.size + 1, 0, none⟩ = some (.int .u32 yn) ∧ w'.cell? ⟨w.heap.size + 1, 1, none⟩ = some (.int .i64 yl) ∧ ∃ q os', w' = grow (w.drewN q) os') →
      ((w'.alloc o).cell? ⟨w.heap.size, 0, none⟩ = some (.int .u32 xn) ∧ (w'.alloc o).cell? ⟨w.heap.size, 1, none⟩ = some (.int .i64 xl) ∧ (w'.alloc o).cell? ⟨w.heap.size + 1, 0, none⟩ = some (.int .u32 yn) ∧ (w'.alloc o).cell? ⟨w.heap.size + 1, 1, none⟩ = some (.int .i64 yl) ∧ ∃ q os', w'.alloc o = grow (w.drewN q) os')) := Lib.hid fun w' o h => by
    obtain ⟨h1, h2, h3, h4, q, os', rfl⟩ := h
    have hb : Below (grow (w.drewN q) os').heap.size (grow (w.drewN q) os') ((grow (w.drewN q) os').alloc o) := alloc_bel _ _
    exact ⟨Below.keeps hb _ _ _ h1, Below.keeps hb _ _ _ h2, Below.keeps hb _ _ _ h3, Below.keeps hb _ _ _ h4, q, os'.push o, by rw [alloc_eq_grow, grow_grow]; congr 1⟩
  clear b1 b2 hbl
  go_enter Try.func48, Try.ntmps48
  go_wp2_with fail
  rw [← hW]
  clear hW
  refine wp_region_held_drew (S := fun w' => w'.cell? ⟨w.heap.size, 0, none⟩ = some (.int .u32 xn) ∧ w'.cell? ⟨w.heap.size, 1, none⟩ = some (.int .i64 xl) ∧ w'.cell? ⟨w.heap.size + 1, 0, none⟩ = some (.int .u32 yn) ∧ w'.cell? ⟨w.heap.size + 1, 1, none⟩ = some (.int .i64 yl) ∧ ∃ q os', w' = grow (w.drewN q) os') (by kernel_rfl) (⟨a0, a1, d0, d1, HS.out⟩) (fun hHeld => ?_)
  refine wpAnyH_take (i := 0) (v := ?vq2) (by simp only [List.getElem?_toArray]; rfl) (by kernel_rfl) (by kernel_rfl) (by kernel_rfl) (by exact fun _ _ _ h => h) (Or.inl ⟨by rfl, ?yq2⟩) (by assumption) ?rq2
  case yq2 => (intro w hSw; (try dsimp only at hSw); go_simp; try with_reducible rfl)
  try simp only [Act.put, List.setIfInBounds_toArray, List.set_cons_zero, List.set_cons_succ]
  refine wpAnyH_take (i := 1) (v := ?vq3) (by simp only [List.getElem?_toArray]; rfl) (by kernel_rfl) (by kernel_rfl) (by kernel_rfl) (by exact fun _ _ _ h => h) (Or.inl ⟨by rfl, ?yq3⟩) (by assumption) ?rq3
  case yq3 => (intro w hSw; (try dsimp only at hSw); go_simp; try with_reducible rfl)
  try simp only [Act.put, List.setIfInBounds_toArray, List.set_cons_zero, List.set_cons_succ]
  refine wpAnyH_take (i := 2) (v := ?vq4) (by simp only [List.getElem?_toArray]; rfl) (by kernel_rfl) (by kernel_rfl) (by kernel_rfl) (by exact fun _ _ _ h => h) (Or.inl ⟨by rfl, ?yq4⟩) (by assumption) ?rq4
  case yq4 => (intro w hSw; (try dsimp only at hSw); go_simp; try with_reducible rfl)
  try simp only [Act.put, List.setIfInBounds_toArray, List.set_cons_zero, List.set_cons_succ]
  refine wpAnyH_take (i := 3) (v := ?vq5) (by simp only [List.getElem?_toArray]; rfl) (by kernel_rfl) (by kernel_rfl) (by kernel_rfl) (by exact fun _ _ _ h => h) (Or.inl ⟨by rfl, ?yq5⟩) (by assumption) ?rq5
  case yq5 => (intro w hSw; (try dsimp only at hSw); go_simp; try with_reducible rfl)
  try simp only [Act.put, List.setIfInBounds_toArray, List.set_cons_zero, List.set_cons_succ]
  refine wpAnyH_take (i := 5) (v := ?vq6) (by simp only [List.getElem?_toArray]; rfl) (by kernel_rfl) (by kernel_rfl) (by kernel_rfl) (by exact fun _ _ _ h => h) (Or.inl ⟨by rfl, ?yq6⟩) (by assumption) ?rq6
  case yq6 => (intro w hSw; (try dsimp only at hSw); go_simp; try with_reducible rfl)
  try simp only [Act.put, List.setIfInBounds_toArray, List.set_cons_zero, List.set_cons_succ]
  refine wpAnyH_take (i := 6) (v := ?vq7) (by simp only [List.getElem?_toArray]; rfl) (by kernel_rfl) (by kernel_rfl) (by kernel_rfl) (by exact fun _ _ _ h => h) (Or.inl ⟨by rfl, ?yq7⟩) (by assumption) ?rq7
  case yq7 => (intro w hSw; (try dsimp only at hSw); go_simp; try with_reducible rfl)
  try simp only [Act.put, List.setIfInBounds_toArray, List.set_cons_zero, List.set_cons_succ]
  refine wpAnyH_take (i := 7) (v := ?vq8) (by simp only [List.getElem?_toArray]; rfl) (by kernel_rfl) (by kernel_rfl) (by kernel_rfl) (by exact fun _ _ _ h => h) (Or.inl ⟨by rfl, ?yq8⟩) (by assumption) ?rq8
  case yq8 => (intro w hSw; (try dsimp only at hSw); go_simp; try with_reducible rfl)
  try simp only [Act.put, List.setIfInBounds_toArray, List.set_cons_zero, List.set_cons_succ]
  refine wpAnyH_take (i := 8) (v := ?vq9) (by simp only [List.getElem?_toArray]; rfl) (by kernel_rfl) (by kernel_rfl) (by kernel_rfl) (by exact fun _ _ _ h => h) (Or.inl ⟨by rfl, ?yq9⟩) (by assumption) ?rq9
  case yq9 => (intro w hSw; (try dsimp only at hSw); go_simp; try with_reducible rfl)
  try simp only [Act.put, List.setIfInBounds_toArray, List.set_cons_zero, List.set_cons_succ]
  refine wpAnyH_ready (rs := [4]) (by kernel_rfl) (by simp) ?_
  refine AllReadyH.cons (by simp only [List.getElem?_toArray]; rfl) (fun K hK => ?_) AllReadyH.nil
  go_simp
  refine (cmpInt_any _ _ _).mono ?_
  rintro e9 w9 ⟨rfl, rfl⟩
  refine hK.out _ _ hHeld (fun hHeld => ?_)
  clear hK K
  try simp only [Act.put, List.setIfInBounds_toArray, List.set_cons_zero, List.set_cons_succ]
  refine wpAnyH_ready (rs := [9]) (by kernel_rfl) (by simp) ?_
  refine AllReadyH.cons (by simp only [List.getElem?_toArray]; rfl) (fun K hK => ?_) AllReadyH.nil
  go_simp
  refine (cmpU32_any _ _ _).mono ?_
  rintro e9 w9 ⟨rfl, rfl⟩
  refine hK.out _ _ hHeld (fun hHeld => ?_)
  clear hK K
  try simp only [Act.put, List.setIfInBounds_toArray, List.set_cons_zero, List.set_cons_succ]
  refine wpAnyH_ready (rs := [10]) (by kernel_rfl) (by simp) ?_
  refine AllReadyH.cons (by simp only [List.getElem?_toArray]; rfl) (fun K hK => ?_) AllReadyH.nil
  go_simp
  refine hK.out _ _ (HSA.out _ _ hHeld) (fun hHeld => ?_)
  clear hK K
  try simp only [Act.put, List.setIfInBounds_toArray, List.set_cons_zero, List.set_cons_succ]
  refine wpAnyH_ready (rs := [11]) (by kernel_rfl) (by simp) ?_
  refine AllReadyH.cons (by simp only [List.getElem?_toArray]; rfl) (fun K hK => ?_) AllReadyH.nil
  go_simp
  refine (cmpOr_any _ _ _ _ (World.cell?_alloc_at _ _ _ _ rfl) (World.cell?_alloc_at _ _ _ _ rfl)).mono ?_
  rintro e9 w9 ⟨rfl, rfl⟩
  refine hK.out _ _ hHeld (fun hHeld => ?_)
  clear hK K
  try simp only [Act.put, List.setIfInBounds_toArray, List.set_cons_zero, List.set_cons_succ]
  refine wpAnyH_take (i := 12) (v := ?vq1) (by simp only [List.getElem?_toArray]; rfl) (by kernel_rfl) (by kernel_rfl) (by kernel_rfl) (by exact fun _ _ _ h => h) (Or.inl ⟨by rfl, ?yq1⟩) (by assumption) ?rq1
  case yq1 => (intro w hSw; (try dsimp only at hSw); go_simp; try with_reducible rfl)
  try simp only [Act.put, List.setIfInBounds_toArray, List.set_cons_zero, List.set_cons_succ]
  refine wpAnyH_done (by kernel_rfl) ?_ _
  go_wp2
  go_ret
  exact ⟨ret_num (by rw [HC.out]), hHeld.2.2.2.2⟩
end Go.Proofs.Ytmonmfamnbfhcaa

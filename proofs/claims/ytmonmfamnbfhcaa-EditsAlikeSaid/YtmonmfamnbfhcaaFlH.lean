/- Walk of edits.Put: a file, lists, an edit. The conditions: lists of 100000 elements at most. -/
import Derived.Test.YtmonmfamnbfhcaaFlE
import Derived.Test.YtmonmfamnbfhcaaFlG
import Derived.Test.YtmonmfamnbfhcaaRet
namespace Go.Proofs.Ytmonmfamnbfhcaa
open Go.RowKit

theorem put_my (w : World) (v : Value) (l : List UInt8) (n : Nat) (hv : Rd w v l) (hn : n < 18446744073709551616) (hl : l.length ≤ 137438953472) :
    Calls Try.prog 31 #[v, .int .u64 n] w (RetMy (l ++ vint n) w) := (put_any w v l n hv hn (by omega)).mono fun _ _ h => my_of_own h
theorem putText_my (w : World) (v : Value) (l : List UInt8) (s : ByteArray) (hv : Rd w v l) (hs : s.size ≤ 137438953472) (hl : l.length ≤ 137438953472) :
    Calls Try.prog 32 #[v, .string s] w (RetMy (l ++ (vint s.size ++ s.data.toList)) w) := (putText_any w v l s hv hs hl).mono fun _ _ h => my_of_own h
theorem wrapU (n : Nat) (h : n < 18446744073709551616) : IntKind.u64.wrap (n : Int) = n := by
  simp only [IntKind.wrap, IntKind.signed, IntKind.bits]
  simp
  omega
set_option maxRecDepth 100000 in
set_option maxHeartbeats 2000000 in
theorem put1_file (w : World) (v : Value) (l : List UInt8) (fn lv : Nat) (fa fb : ByteArray) (hv : Rd w v l) (hl : l.length ≤ 1000000000) (h1 : fn < 4294967296) (h2 : lv < 4) (h3 : fa.size ≤ 32) (h4 : fb.size ≤ 32) :
    Calls Try.prog 30 #[v, .agg #[.int .u32 fn, .int .i64 lv, .string fa, .string fb]] w (RetMy (l ++ fput ⟨fn, lv, fa, fb⟩) w) := by
  obtain ⟨W, hW⟩ : ∃ W, W = w.alloc (.cells #[.int .u32 fn, .int .i64 lv, .string fa, .string fb] 33) := ⟨_, rfl⟩
  have hB : Blk W w.heap.size #[.int .u32 fn, .int .i64 lv, .string fa, .string fb] 33 := by rw [hW]; exact Blk.new _ _ _
  have hbW : Below w.heap.size w W := by rw [hW]; exact alloc_bel _ _
  have HV : Hid (∀ w', Below w.heap.size w w' → Rd w' v l) := Lib.hid fun w' hb => hv.below hb
  have HSW : Hid (W.drew.cell? ⟨w.heap.size, 0, none⟩ = some (.int .u32 fn) ∧ W.drew.cell? ⟨w.heap.size, 1, none⟩ = some (.int .i64 lv) ∧ W.drew.cell? ⟨w.heap.size, 2, none⟩ = some (.string fa) ∧ W.drew.cell? ⟨w.heap.size, 3, none⟩ = some (.string fb) ∧ Below w.heap.size w W.drew) :=
    Lib.hid ⟨hB.cell 0, hB.cell 1, hB.cell 2, hB.cell 3, hbW.drew⟩
  have HSB : Hid (∀ w1 w2, (w1.cell? ⟨w.heap.size, 0, none⟩ = some (.int .u32 fn) ∧ w1.cell? ⟨w.heap.size, 1, none⟩ = some (.int .i64 lv) ∧ w1.cell? ⟨w.heap.size, 2, none⟩ = some (.string fa) ∧ w1.cell? ⟨w.heap.size, 3, none⟩ = some (.string fb) ∧ Below w.heap.size w w1) → Below w1.heap.size w1 w2 →
      (w2.cell? ⟨w.heap.size, 0, none⟩ = some (.int .u32 fn) ∧ w2.cell? ⟨w.heap.size, 1, none⟩ = some (.int .i64 lv) ∧ w2.cell? ⟨w.heap.size, 2, none⟩ = some (.string fa) ∧ w2.cell? ⟨w.heap.size, 3, none⟩ = some (.string fb) ∧ Below w.heap.size w w2)) :=
    Lib.hid fun w1 w2 ⟨p0, p1, p2, p3, p4⟩ hb => ⟨Below.keeps hb _ _ _ p0, Below.keeps hb _ _ _ p1, Below.keeps hb _ _ _ p2, Below.keeps hb _ _ _ p3, p4.trans (hb.mono p4.size)⟩
  have hw1 : IntKind.u64.wrap (fn : Int) = fn := wrapU fn (by omega)
  have hw2 : IntKind.u64.wrap (lv : Int) = lv := wrapU lv (by omega)
  have q1 := vint_le fn
  have q2 := vint_le lv
  have q3 := vint_le fa.size
  clear hB hbW hv
  go_enter Try.func30, Try.ntmps30
  go_wp2_with fail
  rw [← hW]
  clear hW
  refine wp_region_held_drew (S := fun w' => w'.cell? ⟨w.heap.size, 0, none⟩ = some (.int .u32 fn) ∧ w'.cell? ⟨w.heap.size, 1, none⟩ = some (.int .i64 lv) ∧ w'.cell? ⟨w.heap.size, 2, none⟩ = some (.string fa) ∧ w'.cell? ⟨w.heap.size, 3, none⟩ = some (.string fb) ∧ Below w.heap.size w w') (by kernel_rfl) (HSW.out) (fun hHeld => ?_)
  refine wpAnyH_take (i := 0) (v := ?vq1) (by simp only [List.getElem?_toArray]; rfl) (by kernel_rfl) (by kernel_rfl) (by kernel_rfl) (by exact fun _ _ _ h => h) (Or.inl ⟨by rfl, ?yq1⟩) (by assumption) ?rq1
  case yq1 => (intro w hSw; (try dsimp only at hSw); go_simp; try with_reducible rfl)
  try simp only [Act.put, List.setIfInBounds_toArray, List.set_cons_zero, List.set_cons_succ]
  refine wpAnyH_take (i := 1) (v := ?vq2) (by simp only [List.getElem?_toArray]; rfl) (by kernel_rfl) (by kernel_rfl) (by kernel_rfl) (by exact fun _ _ _ h => h) (Or.inl ⟨by rfl, ?yq2⟩) (by assumption) ?rq2
  case yq2 => (intro w hSw; (try dsimp only at hSw); go_simp; try with_reducible rfl)
  try simp only [Act.put, List.setIfInBounds_toArray, List.set_cons_zero, List.set_cons_succ]
  refine wpAnyH_take (i := 2) (v := ?vq3) (by simp only [List.getElem?_toArray]; rfl) (by kernel_rfl) (by kernel_rfl) (by kernel_rfl) (by exact fun _ _ _ h => h) (Or.inl ⟨by rfl, ?yq3⟩) (by assumption) ?rq3
  case yq3 => (intro w hSw; (try dsimp only at hSw); go_simp; try with_reducible rfl)
  try simp only [Act.put, List.setIfInBounds_toArray, List.set_cons_zero, List.set_cons_succ]
  refine wpAnyH_take (i := 3) (v := ?vq4) (by simp only [List.getElem?_toArray]; rfl) (by kernel_rfl) (by kernel_rfl) (by kernel_rfl) (by exact fun _ _ _ h => h) (Or.inl ⟨by rfl, ?yq4⟩) (by assumption) ?rq4
  case yq4 => (intro w hSw; (try dsimp only at hSw); go_simp; try with_reducible rfl)
  try simp only [Act.put, List.setIfInBounds_toArray, List.set_cons_zero, List.set_cons_succ]
  refine wpAnyH_take (i := 5) (v := ?vq5) (by simp only [List.getElem?_toArray]; rfl) (by kernel_rfl) (by kernel_rfl) (by kernel_rfl) (by exact fun _ _ _ h => h) (Or.inl ⟨by rfl, ?yq5⟩) (by assumption) ?rq5
  case yq5 => (intro w hSw; (try dsimp only at hSw); go_simp; try with_reducible rfl)
  try simp only [Act.put, List.setIfInBounds_toArray, List.set_cons_zero, List.set_cons_succ]
  refine wpAnyH_take (i := 6) (v := ?vq6) (by simp only [List.getElem?_toArray]; rfl) (by kernel_rfl) (by kernel_rfl) (by kernel_rfl) (by exact fun _ _ _ h => h) (Or.inl ⟨by rfl, ?yq6⟩) (by assumption) ?rq6
  case yq6 => (intro w hSw; (try dsimp only at hSw); go_simp; try with_reducible rfl)
  try simp only [Act.put, List.setIfInBounds_toArray, List.set_cons_zero, List.set_cons_succ]
  refine wpAnyH_take (i := 7) (v := ?vq7) (by simp only [List.getElem?_toArray]; rfl) (by kernel_rfl) (by kernel_rfl) (by kernel_rfl) (by exact fun _ _ _ h => h) (Or.inl ⟨by rfl, ?yq7⟩) (by assumption) ?rq7
  case yq7 => (intro w hSw; (try dsimp only at hSw); go_simp; try with_reducible rfl)
  try simp only [Act.put, List.setIfInBounds_toArray, List.set_cons_zero, List.set_cons_succ]
  refine wpAnyH_ready (rs := [4]) (by kernel_rfl) (by simp) ?_
  refine AllReadyH.cons (by simp only [List.getElem?_toArray]; rfl) (fun K hK => ?_) AllReadyH.nil
  go_simp
  refine (put_my _ v l fn (HV.out _ hHeld.2.2.2.2) (by omega) (by omega)).mono ?_
  rintro e1 w1 ⟨a1, n1, k1, rfl, HN1, HQ1, b1⟩
  refine hK.out _ _ (HSB.out _ _ hHeld b1) (fun hHeld => ?_)
  clear hK K
  try simp only [Act.put, List.setIfInBounds_toArray, List.set_cons_zero, List.set_cons_succ]
  refine wpAnyH_ready (rs := [8]) (by kernel_rfl) (by simp) ?_
  refine AllReadyH.cons (by simp only [List.getElem?_toArray]; rfl) (fun K hK => ?_) AllReadyH.nil
  go_simp
  refine (put_my _ _ (l ++ vint fn) lv (rd_of_own HQ1.out).2 (by omega) (by rw [List.length_append]; omega)).mono ?_
  rintro e2 w2 ⟨a2, n2, k2, rfl, HN2, HQ2, b2⟩
  refine hK.out _ _ (HSB.out _ _ hHeld b2) (fun hHeld => ?_)
  clear hK K
  try simp only [Act.put, List.setIfInBounds_toArray, List.set_cons_zero, List.set_cons_succ]
  refine wpAnyH_take (i := 9) (v := ?vq8) (by simp only [List.getElem?_toArray]; rfl) (by kernel_rfl) (by kernel_rfl) (by kernel_rfl) (by exact fun _ _ _ h => h) (Or.inl ⟨by rfl, ?yq8⟩) (by assumption) ?rq8
  case yq8 => (intro w hSw; (try dsimp only at hSw); go_simp; try with_reducible rfl)
  try simp only [Act.put, List.setIfInBounds_toArray, List.set_cons_zero]
  refine wpAnyH_done (by kernel_rfl) ?_ _
  have HQ2' := Lib.hid (own_below HQ2.out (Below.drew (Below.refl w2.heap.size w2)))
  have HH := Lib.hid (HSB.out _ _ hHeld (Below.drew (Below.refl w2.heap.size w2)))
  clear hHeld HQ2
  go_upto_region 2 with (fail)
  refine wp_region_held_drew (S := fun w' => w'.cell? ⟨w.heap.size, 0, none⟩ = some (.int .u32 fn) ∧ w'.cell? ⟨w.heap.size, 1, none⟩ = some (.int .i64 lv) ∧ w'.cell? ⟨w.heap.size, 2, none⟩ = some (.string fa) ∧ w'.cell? ⟨w.heap.size, 3, none⟩ = some (.string fb) ∧ Below w.heap.size w w') (by kernel_rfl) (HH.out) (fun hHeld => ?_)
  refine wpAnyH_take (i := 0) (v := ?vq9) (by simp only [List.getElem?_toArray]; rfl) (by kernel_rfl) (by kernel_rfl) (by kernel_rfl) (by exact fun _ _ _ h => h) (Or.inl ⟨by rfl, ?yq9⟩) (by assumption) ?rq9
  case yq9 => (intro w hSw; (try dsimp only at hSw); go_simp; try with_reducible rfl)
  try simp only [Act.put, List.setIfInBounds_toArray, List.set_cons_zero, List.set_cons_succ]
  refine wpAnyH_take (i := 1) (v := ?vq10) (by simp only [List.getElem?_toArray]; rfl) (by kernel_rfl) (by kernel_rfl) (by kernel_rfl) (by exact fun _ _ _ h => h) (Or.inl ⟨by rfl, ?yq10⟩) (by assumption) ?rq10
  case yq10 => (intro w hSw; (try dsimp only at hSw); go_simp; try with_reducible rfl)
  try simp only [Act.put, List.setIfInBounds_toArray, List.set_cons_zero, List.set_cons_succ]
  refine wpAnyH_take (i := 2) (v := ?vq11) (by simp only [List.getElem?_toArray]; rfl) (by kernel_rfl) (by kernel_rfl) (by kernel_rfl) (by exact fun _ _ _ h => h) (Or.inl ⟨by rfl, ?yq11⟩) (by assumption) ?rq11
  case yq11 => (intro w hSw; (try dsimp only at hSw); go_simp; try with_reducible rfl)
  try simp only [Act.put, List.setIfInBounds_toArray, List.set_cons_zero, List.set_cons_succ]
  refine wpAnyH_take (i := 4) (v := ?vq12) (by simp only [List.getElem?_toArray]; rfl) (by kernel_rfl) (by kernel_rfl) (by kernel_rfl) (by exact fun _ _ _ h => h) (Or.inl ⟨by rfl, ?yq12⟩) (by assumption) ?rq12
  case yq12 => (intro w hSw; (try dsimp only at hSw); go_simp; try with_reducible rfl)
  try simp only [Act.put, List.setIfInBounds_toArray, List.set_cons_zero, List.set_cons_succ]
  refine wpAnyH_take (i := 5) (v := ?vq13) (by simp only [List.getElem?_toArray]; rfl) (by kernel_rfl) (by kernel_rfl) (by kernel_rfl) (by exact fun _ _ _ h => h) (Or.inl ⟨by rfl, ?yq13⟩) (by assumption) ?rq13
  case yq13 => (intro w hSw; (try dsimp only at hSw); go_simp; try with_reducible rfl)
  try simp only [Act.put, List.setIfInBounds_toArray, List.set_cons_zero, List.set_cons_succ]
  refine wpAnyH_ready (rs := [3]) (by kernel_rfl) (by simp) ?_
  refine AllReadyH.cons (by simp only [List.getElem?_toArray]; rfl) (fun K hK => ?_) AllReadyH.nil
  go_simp
  refine (putText_my _ _ (l ++ vint fn ++ vint lv) fa (rd_of_own HQ2'.out).2 (by omega) (by rw [List.length_append, List.length_append]; omega)).mono ?_
  rintro e3 w3 ⟨a3, n3, k3, rfl, HN3, HQ3, b3⟩
  refine hK.out _ _ (HSB.out _ _ hHeld b3) (fun hHeld => ?_)
  clear hK K
  try simp only [Act.put, List.setIfInBounds_toArray, List.set_cons_zero, List.set_cons_succ]
  refine wpAnyH_ready (rs := [6]) (by kernel_rfl) (by simp) ?_
  refine AllReadyH.cons (by simp only [List.getElem?_toArray]; rfl) (fun K hK => ?_) AllReadyH.nil
  go_simp
  have hz3 := hHeld.2.2.2.2.size
  refine (putText_my _ _ (l ++ vint fn ++ vint lv ++ (vint fa.size ++ fa.data.toList)) fb (rd_of_own HQ3.out).2 (by omega) (by simp only [List.length_append, size_data]; omega)).mono ?_
  rintro e4 w4 ⟨a4, n4, k4, rfl, HN4, HQ4, b4⟩
  refine hK.out _ _ (HSB.out _ _ hHeld b4) (fun hHeld => ?_)
  clear hK K
  try simp only [Act.put, List.setIfInBounds_toArray, List.set_cons_zero, List.set_cons_succ]
  refine wpAnyH_take (i := 7) (v := ?vq14) (by simp only [List.getElem?_toArray]; rfl) (by kernel_rfl) (by kernel_rfl) (by kernel_rfl) (by exact fun _ _ _ h => h) (Or.inl ⟨by rfl, ?yq14⟩) (by assumption) ?rq14
  case yq14 => (intro w hSw; (try dsimp only at hSw); go_simp; try with_reducible rfl)
  try simp only [Act.put, List.setIfInBounds_toArray, List.set_cons_zero, List.set_cons_succ]
  refine wpAnyH_done (by kernel_rfl) ?_ _
  go_wp2
  go_ret
  have e : l ++ fput ⟨fn, lv, fa, fb⟩ = l ++ vint fn ++ vint lv ++ (vint fa.size ++ fa.data.toList) ++ (vint fb.size ++ fb.data.toList) := by simp [fput, tx, tput]
  rw [← e] at HN4 HQ4
  exact ⟨a4, n4, k4, rfl, HN4, own_mono HQ4.out hz3, hHeld.2.2.2.2⟩
set_option maxRecDepth 100000 in
theorem put2_any (w : World) (v : Value) (l : List UInt8) (n : Nat) (hv : Rd w v l) (hl : l.length ≤ 1000000000) (h1 : n < 4294967296) :
    Calls Try.prog 34 #[v, .int .u32 n] w (RetMy (l ++ vint n) w) := by
  have hw1 : IntKind.u64.wrap (n : Int) = n := wrapU n (by omega)
  have HP := Lib.hid (put_my w v l n hv (by omega) (by omega))
  clear hv
  go_enter Try.func34, Try.ntmps34
  go_wp2_with fail
  refine HP.out.mono ?_
  rintro e1 w1 ⟨a1, n1, k1, rfl, HN1, HQ1, b1⟩
  go_wp2
  go_ret
  exact ⟨a1, n1, k1, rfl, HN1, HQ1, b1⟩
end Go.Proofs.Ytmonmfamnbfhcaa

/- Walks of package blocks: may, each. The condition: a slice of entries. | Walks of package blocks: each, for the closures of may and of Put. The condition: a slice of entries. | Walks of package blocks: may. The condition: a slice of entries. -/
import Derived.Test.YtbcnapkbdbefhaaBlocks1
import Derived.Test.YtbcnapkbdbefhaaListsA
import Derived.Deep.Cut
namespace Go.Proofs.Ytbcnapkbdbefhaa
open Go.RowKit

theorem still_tail {P : Program} {id : Nat} {Q : Exit → Act → World → Prop} {a : Act} {w wd : World} {l : List Oper} (n : Nat) (hm : P.follows .mixedOrders = true) (hB : Region.lexTailB .any l.toArray n = true) (hwd : wd = w.drew)
    (h : wpStill P l.toArray wd (fun a' => wpList P l.toArray Q (l.drop n) a' wd) (l.take n) a) : (Code.region id l.toArray true).wp P Q a w := by
  subst hwd
  exact wp_region_still_tail n hm hB h
theorem still_skip {P : Program} {ops : Array Oper} {w : World} {Q : Act → Prop} {a : Act} {o : Oper} {rest : List Oper} (hw : Region.wanted o (yielded ops a.tmps) = false) (h : wpStill P ops w Q rest (a.put o.dst undef)) : wpStill P ops w Q (o :: rest) a :=
  wpStill_step fun K hK => by rw [if_neg (by rw [hw]; decide)]; exact hK _ h
def entsOf (l : List PE) : List Ent := l.map PE.ent
theorem entsOf_length (l : List PE) : (entsOf l).length = l.length := by simp [entsOf]
theorem entsOf_at (l : List PE) (k : Nat) (h : k < l.length) : atE (entsOf l) k = l[k].ent := by
  rw [atE_get _ _ (by rw [entsOf_length]; exact h)]; simp [entsOf]

set_option maxRecDepth 100000 in
set_option maxHeartbeats 8000000 in
theorem mayStep_any (w0 w : World) (c d : Nat) (v : Value) (l : List PE) (k : Nat) (x : PE) (ok : Bool) (hc : Blk w c #[.bool ok] 4) (hd : Blk w d #[v] 22)
    (hv : RdE w0 v l) (hbel : Below w0.heap.size w0 w) (hk : k < l.length) (hx : x = l[k]) :
    Calls Try.prog 80 #[.int .i64 k, .agg #[.string x.k, .int .u64 x.s, .bool x.g, .string x.u], .pointer (some ⟨c, 0, none⟩), .pointer (some ⟨d, 0, none⟩)] w fun e w' =>
      e = .returned (.tuple #[]) ∧ Hid (Blk w' c #[.bool (ok && okAt (entsOf l) k)] 4) ∧ Hid (Only w w' c) := by
  have HE : Hid (atE (entsOf l) k = x.ent) := by show _ = _; rw [entsOf_at l k hk, hx]
  clear hx
  obtain ⟨xk, xs, xg, xu⟩ := x
  simp only
  have HOK : Hid (okAt (entsOf l) k = (checkK xk.data.toList && (decide (xu.size ≤ 256) && (!xg || xu.toList.isEmpty)) && (k == 0 || decide (cmpE (atE (entsOf l) (k - 1)) (entOf xk xs xg xu) < 0)))) := by
    show _ = _
    unfold okAt
    rw [HE.out]
    simp only [fitE, PE.ent, entOf, Lib.toList_data, size_data]
    rfl
  obtain ⟨wd, hwd⟩ : ∃ wd, wd = (w.alloc (.cells #[.string xk, .int .u64 xs, .bool xg, .string xu] 37)).drew := ⟨_, rfl⟩
  have hbd : Below w.heap.size w wd := by rw [hwd]; exact ((Below.refl _ _).alloc (Nat.le_refl _) _).drew
  have hX : Blk wd w.heap.size #[.string xk, .int .u64 xs, .bool xg, .string xu] 37 := by rw [hwd]; exact (Blk.new _ _ _).drew
  have HWD := Lib.hid hwd
  replace hc := hc.below hbd
  replace hd := hd.below hbd
  have HV := Lib.hid (hv.below (hbel.trans (hbd.mono hbel.size)))
  obtain ⟨va, vc, rfl, _, _, _⟩ := hv
  have c0 := hc.cellv 0 (.bool ok) rfl
  have d0 := hd.cellv 0 (.slice va l.length vc) rfl
  have cf := hc.free 0
  have x0 := hX.cellv 0 (.string xk) rfl
  have x1 := hX.cellv 1 (.int .u64 xs) rfl
  have x2 := hX.cellv 2 (.bool xg) rfl
  have x3 := hX.cellv 3 (.string xu) rfl
  have HCA : ∀ b, checkK xk.data.toList = b → Hid (∀ w', Calls Try.prog 36 #[.string xk] w' fun e w'' => e = .returned (.bool b) ∧ w'' = w') := fun b hb w' =>
    (check_any xk w').mono fun e w'' h => by rw [← hb]; exact ⟨h.1, h.2.symm⟩
  clear hwd HE
  cases ok
  · clear HCA
    go_enter Try.func80, Try.ntmps80
    go_wp2_with fail
    refine still_tail (wd := wd) 36 ?hm ?hB ?hwd ?h
    case hm => kernel_rfl
    case hB => kernel_rfl
    case hwd => exact HWD.out
    simp only [List.take_succ_cons, List.take_zero, List.drop_succ_cons, List.drop_zero]
    repeat (first | ((with_reducible refine still_skip ?hw ?hrest); case hw => rfl; simp only [Act.put, List.setIfInBounds_toArray, List.set_cons_zero, List.set_cons_succ]) | ((with_reducible refine wpStill_step (fun K hK => ?_)); go_simp; refine hK _ ?_; clear hK K))
    try refine wpStill_nil ?_
    go_wp2_with fail
    go_end0
    refine ⟨rfl, ?_, (Only.of_below hbd).trans (Only.set wd c 0 _)⟩
    have h2 := hc.set 0 (.bool false)
    show Blk _ c #[.bool (false && okAt (entsOf l) k)] _
    rw [show (false && okAt (entsOf l) k) = false from Bool.false_and _]
    exact h2
  cases hck : checkK xk.data.toList
  · have HCK := HCA _ hck
    have HCE := Lib.hid hck
    clear HCA hck
    go_enter Try.func80, Try.ntmps80
    go_wp2_with fail
    refine still_tail (wd := wd) 36 ?hm ?hB ?hwd ?h
    case hm => kernel_rfl
    case hB => kernel_rfl
    case hwd => exact HWD.out
    simp only [List.take_succ_cons, List.take_zero, List.drop_succ_cons, List.drop_zero]
    repeat (first | ((with_reducible refine still_skip ?hw ?hrest); case hw => rfl; simp only [Act.put, List.setIfInBounds_toArray, List.set_cons_zero, List.set_cons_succ]) | ((with_reducible refine wpStill_step (fun K hK => ?_)); go_simp; refine hK _ ?_; clear hK K))
    (with_reducible refine wpStill_step (fun K hK => ?_))
    go_simp
    refine ⟨_, HCK.out _, hK _ ?_⟩
    clear hK K
    repeat (first | ((with_reducible refine still_skip ?hw ?hrest); case hw => rfl; simp only [Act.put, List.setIfInBounds_toArray, List.set_cons_zero, List.set_cons_succ]) | ((with_reducible refine wpStill_step (fun K hK => ?_)); go_simp; refine hK _ ?_; clear hK K))
    try refine wpStill_nil ?_
    go_wp2_with fail
    go_end0
    refine ⟨rfl, ?_, (Only.of_below hbd).trans (Only.set wd c 0 _)⟩
    have h2 := hc.set 0 (.bool false)
    show Blk _ c #[.bool (true && okAt (entsOf l) k)] _
    rw [show (true && okAt (entsOf l) k) = false from by rw [HOK.out, HCE.out]; rfl]
    exact h2
  have HCK := HCA _ hck
  have HCE := Lib.hid hck
  clear HCA hck
  by_cases hvl : xu.size ≤ 256
  case neg =>
    have hvd : decide ((xu.size : Int) ≤ 256) = false := by simp; omega
    have HVD : Hid (decide (xu.size ≤ 256) = false) := by show _ = _; simp; omega
    go_enter Try.func80, Try.ntmps80
    go_wp2_with fail
    refine still_tail (wd := wd) 36 ?hm ?hB ?hwd ?h
    case hm => kernel_rfl
    case hB => kernel_rfl
    case hwd => exact HWD.out
    simp only [List.take_succ_cons, List.take_zero, List.drop_succ_cons, List.drop_zero]
    repeat (first | ((with_reducible refine still_skip ?hw ?hrest); case hw => rfl; simp only [Act.put, List.setIfInBounds_toArray, List.set_cons_zero, List.set_cons_succ]) | ((with_reducible refine wpStill_step (fun K hK => ?_)); go_simp; refine hK _ ?_; clear hK K))
    (with_reducible refine wpStill_step (fun K hK => ?_))
    go_simp
    refine ⟨_, HCK.out _, hK _ ?_⟩
    clear hK K
    repeat (first | ((with_reducible refine still_skip ?hw ?hrest); case hw => rfl; simp only [Act.put, List.setIfInBounds_toArray, List.set_cons_zero, List.set_cons_succ]) | ((with_reducible refine wpStill_step (fun K hK => ?_)); go_simp; refine hK _ ?_; clear hK K))
    try refine wpStill_nil ?_
    go_wp2_with fail
    go_end0
    refine ⟨rfl, ?_, (Only.of_below hbd).trans (Only.set wd c 0 _)⟩
    have h2 := hc.set 0 (.bool false)
    show Blk _ c #[.bool (true && okAt (entsOf l) k)] _
    rw [show (true && okAt (entsOf l) k) = false from by rw [HOK.out, HCE.out, HVD.out]; rfl]
    exact h2
  have hvd : decide ((xu.size : Int) ≤ 256) = true := by simp; omega
  have HVD : Hid (decide (xu.size ≤ 256) = true) := by show _ = _; simp; omega
  have hgv : ∃ gv : Bool, (!xg || xu.toList.isEmpty) = gv := ⟨_, rfl⟩
  obtain ⟨gv, hgv⟩ := hgv
  have HGV := Lib.hid hgv
  cases gv
  · obtain ⟨hg1, hg2⟩ : xg = true ∧ xu.toList.isEmpty = false := by simpa using hgv
    subst hg1
    clear hgv
    go_enter Try.func80, Try.ntmps80
    go_wp2_with fail
    refine still_tail (wd := wd) 36 ?hm ?hB ?hwd ?h
    case hm => kernel_rfl
    case hB => kernel_rfl
    case hwd => exact HWD.out
    simp only [List.take_succ_cons, List.take_zero, List.drop_succ_cons, List.drop_zero]
    repeat (first | ((with_reducible refine still_skip ?hw ?hrest); case hw => rfl; simp only [Act.put, List.setIfInBounds_toArray, List.set_cons_zero, List.set_cons_succ]) | ((with_reducible refine wpStill_step (fun K hK => ?_)); go_simp; refine hK _ ?_; clear hK K))
    (with_reducible refine wpStill_step (fun K hK => ?_))
    go_simp
    refine ⟨_, HCK.out _, hK _ ?_⟩
    clear hK K
    repeat (first | ((with_reducible refine still_skip ?hw ?hrest); case hw => rfl; simp only [Act.put, List.setIfInBounds_toArray, List.set_cons_zero, List.set_cons_succ]) | ((with_reducible refine wpStill_step (fun K hK => ?_)); go_simp; refine hK _ ?_; clear hK K))
    try refine wpStill_nil ?_
    go_wp2_with fail
    go_end0
    refine ⟨rfl, ?_, (Only.of_below hbd).trans (Only.set wd c 0 _)⟩
    have h2 := hc.set 0 (.bool false)
    show Blk _ c #[.bool (true && okAt (entsOf l) k)] _
    rw [show (true && okAt (entsOf l) k) = false from by rw [HOK.out, HCE.out, HVD.out, HGV.out]; rfl]
    exact h2
  cases xg
  · clear hgv
    by_cases hk0 : k = 0
    · subst hk0
      go_enter Try.func80, Try.ntmps80
      go_wp2_with fail
      refine still_tail (wd := wd) 36 ?hm ?hB ?hwd ?h
      case hm => kernel_rfl
      case hB => kernel_rfl
      case hwd => exact HWD.out
      simp only [List.take_succ_cons, List.take_zero, List.drop_succ_cons, List.drop_zero]
      repeat (first | ((with_reducible refine still_skip ?hw ?hrest); case hw => rfl; simp only [Act.put, List.setIfInBounds_toArray, List.set_cons_zero, List.set_cons_succ]) | ((with_reducible refine wpStill_step (fun K hK => ?_)); go_simp; refine hK _ ?_; clear hK K))
      (with_reducible refine wpStill_step (fun K hK => ?_))
      go_simp
      refine ⟨_, HCK.out _, hK _ ?_⟩
      clear hK K
      repeat (first | ((with_reducible refine still_skip ?hw ?hrest); case hw => rfl; simp only [Act.put, List.setIfInBounds_toArray, List.set_cons_zero, List.set_cons_succ]) | ((with_reducible refine wpStill_step (fun K hK => ?_)); go_simp; refine hK _ ?_; clear hK K))
      try refine wpStill_nil ?_
      go_wp2_with fail
      go_end0
      refine ⟨rfl, ?_, (Only.of_below hbd).trans (Only.set wd c 0 _)⟩
      have h2 := hc.set 0 (.bool true)
      show Blk _ c #[.bool (true && okAt (entsOf l) 0)] _
      rw [show (true && okAt (entsOf l) 0) = true from by rw [HOK.out, HCE.out, HVD.out, HGV.out]; rfl]
      exact h2
    · have hk1 : ((k : Int) == 0) = false := by simp; omega
      have HK1 : Hid ((k == 0) = false) := by show _ = _; simp; omega
      obtain ⟨j, hj⟩ : ∃ j, j = k - 1 := ⟨_, rfl⟩
      have HJ := Lib.hid hj
      have hkj : ((k : Int) - 1) = (j : Int) := by omega
      have hjl : j < l.length := by omega
      have hwj : IntKind.i64.wrap (j : Int) = (j : Int) := IntWalk.i64_in _ (by omega)
      have HAJ := Lib.hid (entsOf_at l j hjl)
      obtain ⟨a', c', hve, _, _, hcell⟩ := HV.out
      obtain ⟨b3, off3, hae, y0, y1, y2, _⟩ := hcell j hjl
      simp only [Value.slice.injEq] at hve
      obtain ⟨rfl, el, rfl⟩ := hve
      clear el hcell hj
      subst hae
      obtain ⟨y, hy⟩ : ∃ y, y = l[j] := ⟨_, rfl⟩
      rw [← hy] at y0 y1 y2 HAJ
      clear hy
      obtain ⟨yk, ys, yg, yu⟩ := y
      simp only at y0 y1 y2
      obtain ⟨n, hn⟩ : ∃ n, n = cmpM yk.data.toList ys yg xk.data.toList xs false := ⟨_, rfl⟩
      have HN := Lib.hid hn
      have HCM : Hid (Calls Try.prog 19 #[.agg #[.string yk, .int .u64 ys, .bool yg], .agg #[.string xk, .int .u64 xs, .bool false]] wd fun e w' => e = .returned (.int .i64 n) ∧ Below wd.heap.size wd w') := by
        rw [hn]; exact orderCmp_any _ _ _ _ _ _ wd
      clear hn
      go_enter Try.func80, Try.ntmps80
      go_wp2_with fail
      refine still_tail (wd := wd) 36 ?hm ?hB ?hwd ?h
      case hm => kernel_rfl
      case hB => kernel_rfl
      case hwd => exact HWD.out
      simp only [List.take_succ_cons, List.take_zero, List.drop_succ_cons, List.drop_zero]
      repeat (first | ((with_reducible refine still_skip ?hw ?hrest); case hw => rfl; simp only [Act.put, List.setIfInBounds_toArray, List.set_cons_zero, List.set_cons_succ]) | ((with_reducible refine wpStill_step (fun K hK => ?_)); go_simp; refine hK _ ?_; clear hK K))
      (with_reducible refine wpStill_step (fun K hK => ?_))
      go_simp
      refine ⟨_, HCK.out _, hK _ ?_⟩
      clear hK K
      repeat (first | ((with_reducible refine still_skip ?hw ?hrest); case hw => rfl; simp only [Act.put, List.setIfInBounds_toArray, List.set_cons_zero, List.set_cons_succ]) | ((with_reducible refine wpStill_step (fun K hK => ?_)); go_simp; refine hK _ ?_; clear hK K))
      try refine wpStill_nil ?_
      go_wp2_with fail
      refine HCM.out.mono ?_
      rintro e w9 ⟨rfl, bel9⟩
      replace hc := hc.below bel9
      have c9 := hc.cellv 0 (.bool true) rfl
      have cf9 := hc.free 0
      go_wp2_with fail
      go_end0
      refine ⟨rfl, ?_, (Only.of_below (hbd.trans (bel9.mono hbd.size))).trans (Only.set w9 c 0 _)⟩
      have h2 := hc.set 0 (.bool (decide (n < 0)))
      show Blk _ c #[.bool (true && okAt (entsOf l) k)] _
      rw [show (true && okAt (entsOf l) k) = decide (n < 0) from by rw [HOK.out, HCE.out, HVD.out, HGV.out, HK1.out, ← HJ.out, HAJ.out, HN.out]; rfl]
      exact h2
  · have hem : xu.toList.isEmpty = true := by simpa using hgv
    revert hem
    intro hem
    clear hgv
    by_cases hk0 : k = 0
    · subst hk0
      go_enter Try.func80, Try.ntmps80
      go_wp2_with fail
      refine still_tail (wd := wd) 36 ?hm ?hB ?hwd ?h
      case hm => kernel_rfl
      case hB => kernel_rfl
      case hwd => exact HWD.out
      simp only [List.take_succ_cons, List.take_zero, List.drop_succ_cons, List.drop_zero]
      repeat (first | ((with_reducible refine still_skip ?hw ?hrest); case hw => rfl; simp only [Act.put, List.setIfInBounds_toArray, List.set_cons_zero, List.set_cons_succ]) | ((with_reducible refine wpStill_step (fun K hK => ?_)); go_simp; refine hK _ ?_; clear hK K))
      (with_reducible refine wpStill_step (fun K hK => ?_))
      go_simp
      refine ⟨_, HCK.out _, hK _ ?_⟩
      clear hK K
      repeat (first | ((with_reducible refine still_skip ?hw ?hrest); case hw => rfl; simp only [Act.put, List.setIfInBounds_toArray, List.set_cons_zero, List.set_cons_succ]) | ((with_reducible refine wpStill_step (fun K hK => ?_)); go_simp; refine hK _ ?_; clear hK K))
      try refine wpStill_nil ?_
      go_wp2_with fail
      go_end0
      refine ⟨rfl, ?_, (Only.of_below hbd).trans (Only.set wd c 0 _)⟩
      have h2 := hc.set 0 (.bool true)
      show Blk _ c #[.bool (true && okAt (entsOf l) 0)] _
      rw [show (true && okAt (entsOf l) 0) = true from by rw [HOK.out, HCE.out, HVD.out, HGV.out]; rfl]
      exact h2
    · have hk1 : ((k : Int) == 0) = false := by simp; omega
      have HK1 : Hid ((k == 0) = false) := by show _ = _; simp; omega
      obtain ⟨j, hj⟩ : ∃ j, j = k - 1 := ⟨_, rfl⟩
      have HJ := Lib.hid hj
      have hkj : ((k : Int) - 1) = (j : Int) := by omega
      have hjl : j < l.length := by omega
      have hwj : IntKind.i64.wrap (j : Int) = (j : Int) := IntWalk.i64_in _ (by omega)
      have HAJ := Lib.hid (entsOf_at l j hjl)
      obtain ⟨a', c', hve, _, _, hcell⟩ := HV.out
      obtain ⟨b3, off3, hae, y0, y1, y2, _⟩ := hcell j hjl
      simp only [Value.slice.injEq] at hve
      obtain ⟨rfl, el, rfl⟩ := hve
      clear el hcell hj
      subst hae
      obtain ⟨y, hy⟩ : ∃ y, y = l[j] := ⟨_, rfl⟩
      rw [← hy] at y0 y1 y2 HAJ
      clear hy
      obtain ⟨yk, ys, yg, yu⟩ := y
      simp only at y0 y1 y2
      obtain ⟨n, hn⟩ : ∃ n, n = cmpM yk.data.toList ys yg xk.data.toList xs true := ⟨_, rfl⟩
      have HN := Lib.hid hn
      have HCM : Hid (Calls Try.prog 19 #[.agg #[.string yk, .int .u64 ys, .bool yg], .agg #[.string xk, .int .u64 xs, .bool true]] wd fun e w' => e = .returned (.int .i64 n) ∧ Below wd.heap.size wd w') := by
        rw [hn]; exact orderCmp_any _ _ _ _ _ _ wd
      clear hn
      go_enter Try.func80, Try.ntmps80
      go_wp2_with fail
      refine still_tail (wd := wd) 36 ?hm ?hB ?hwd ?h
      case hm => kernel_rfl
      case hB => kernel_rfl
      case hwd => exact HWD.out
      simp only [List.take_succ_cons, List.take_zero, List.drop_succ_cons, List.drop_zero]
      repeat (first | ((with_reducible refine still_skip ?hw ?hrest); case hw => rfl; simp only [Act.put, List.setIfInBounds_toArray, List.set_cons_zero, List.set_cons_succ]) | ((with_reducible refine wpStill_step (fun K hK => ?_)); go_simp; refine hK _ ?_; clear hK K))
      (with_reducible refine wpStill_step (fun K hK => ?_))
      go_simp
      refine ⟨_, HCK.out _, hK _ ?_⟩
      clear hK K
      repeat (first | ((with_reducible refine still_skip ?hw ?hrest); case hw => rfl; simp only [Act.put, List.setIfInBounds_toArray, List.set_cons_zero, List.set_cons_succ]) | ((with_reducible refine wpStill_step (fun K hK => ?_)); go_simp; refine hK _ ?_; clear hK K))
      try refine wpStill_nil ?_
      go_wp2_with fail
      refine HCM.out.mono ?_
      rintro e w9 ⟨rfl, bel9⟩
      replace hc := hc.below bel9
      have c9 := hc.cellv 0 (.bool true) rfl
      have cf9 := hc.free 0
      go_wp2_with fail
      go_end0
      refine ⟨rfl, ?_, (Only.of_below (hbd.trans (bel9.mono hbd.size))).trans (Only.set w9 c 0 _)⟩
      have h2 := hc.set 0 (.bool (decide (n < 0)))
      show Blk _ c #[.bool (true && okAt (entsOf l) k)] _
      rw [show (true && okAt (entsOf l) k) = decide (n < 0) from by rw [HOK.out, HCE.out, HVD.out, HGV.out, HK1.out, ← HJ.out, HAJ.out, HN.out]; rfl]
      exact h2

end Go.Proofs.Ytbcnapkbdbefhaa
namespace Go.Proofs.Ytbcnapkbdbefhaa
open Go.RowKit

def PE.agg (x : PE) : Value := .agg #[.string x.k, .int .u64 x.s, .bool x.g, .string x.u]
set_option maxRecDepth 100000 in
set_option maxHeartbeats 2000000 in
theorem eachMayE_any (w0 w : World) (v : Value) (l : List PE) (p q : Value) (Inv : Nat → World → Prop) (hv : RdE w0 v l) (hinv : Inv 0 w) (hbelow : ∀ k w', Inv k w' → Below w0.heap.size w0 w')
    (hlater : ∀ k w' w'', Inv k w' → Below w'.heap.size w' w'' → Inv k w'')
    (hstep : ∀ k (hk : k < l.length) w', Inv k w' → Calls Try.prog 80 #[.int .i64 k, l[k].agg, p, q] w' fun e w'' => e = .returned (.tuple #[]) ∧ Inv (k + 1) w'') :
    Calls Try.prog 59 #[v, .func (.func 80) #[] #[p, q]] w fun e w' => e = .returned (.tuple #[]) ∧ Inv l.length w' := by
  have HV := Lib.hid hv
  have HB := Lib.hid hbelow
  have HL := Lib.hid hlater
  have HI := Lib.hid hinv
  have HS := Lib.hid hstep
  obtain ⟨va, vc, rfl, h1, h2, _⟩ := hv
  clear hbelow hlater hinv hstep
  obtain ⟨vn, hvn⟩ : ∃ n, n = l.length := ⟨_, rfl⟩
  have HVN := Lib.hid hvn
  rw [← hvn] at h1 HV ⊢
  clear hvn
  go_enter Try.func59, Try.ntmps59
  go_wp2_with fail
  show Code.wp _ _ _ _ _
  go_loopw [8] (fun i wr => ∃ k : Nat, k ≤ vn ∧ i = .int .i64 k ∧ Hid (Inv k wr)) (fun i _ => vn - (intOf i).toNat)
  case atStart => exact ⟨0, Nat.zero_le _, rfl, HI⟩
  case round =>
    obtain ⟨k, hk, rfl, hi⟩ := hrel
    by_cases hlt : k < vn
    · have hkl : k < l.length := by rw [← HVN.out]; exact hlt
      have bel := HB.out _ _ hi.out
      obtain ⟨a', c', hve, _, _, hcell⟩ := HV.out.below bel
      obtain ⟨b3, off3, hae, c0, c1, c2, c3⟩ := hcell k hkl
      simp only [Value.slice.injEq] at hve
      obtain ⟨e1, el, ec⟩ := hve
      rw [hae] at e1
      subst e1
      clear el ec hcell hae
      have hst := HS.out k hkl
      obtain ⟨x, hx⟩ : ∃ x, x = l[k] := ⟨_, rfl⟩
      rw [← hx] at c0 c1 c2 c3 hst
      have HST := Lib.hid hst
      clear hx hst
      obtain ⟨xk, xs, xg, xu⟩ := x
      simp only at c0 c1 c2 c3
      obtain ⟨wr, hwr⟩ := the_world bel
      subst hwr
      clear bel
      go_wp2_with fail
      have hal : Below wr.heap.size wr (wr.alloc (.cells #[.string xk, .int .u64 xs, .bool xg, .string xu] 37)) := (Below.refl _ _).alloc (Nat.le_refl _) _
      refine (HST.out _ (HL.out _ _ _ hi.out hal)).mono ?_
      rintro e w2 ⟨rfl, hi2⟩
      have HI2 := Lib.hid hi2
      clear hi2 hal c0 c1 c2 c3
      go_wp2_with fail
      exact ⟨⟨k + 1, by omega, by go_num, HI2⟩, by simp [intOf]; omega⟩
    · obtain rfl : k = vn := by omega
      go_wp2_with fail
      go_end0
      exact ⟨rfl, hi.out⟩
set_option maxRecDepth 100000 in
set_option maxHeartbeats 2000000 in
theorem eachPutE_any (w0 w : World) (v : Value) (l : List PE) (p q r : Value) (Inv : Nat → World → Prop) (hv : RdE w0 v l) (hinv : Inv 0 w) (hbelow : ∀ k w', Inv k w' → Below w0.heap.size w0 w')
    (hlater : ∀ k w' w'', Inv k w' → Below w'.heap.size w' w'' → Inv k w'')
    (hstep : ∀ k (hk : k < l.length) w', Inv k w' → Calls Try.prog 60 #[.int .i64 k, l[k].agg, p, q, r] w' fun e w'' => e = .returned (.tuple #[]) ∧ Inv (k + 1) w'') :
    Calls Try.prog 59 #[v, .func (.func 60) #[] #[p, q, r]] w fun e w' => e = .returned (.tuple #[]) ∧ Inv l.length w' := by
  have HV := Lib.hid hv
  have HB := Lib.hid hbelow
  have HL := Lib.hid hlater
  have HI := Lib.hid hinv
  have HS := Lib.hid hstep
  obtain ⟨va, vc, rfl, h1, h2, _⟩ := hv
  clear hbelow hlater hinv hstep
  obtain ⟨vn, hvn⟩ : ∃ n, n = l.length := ⟨_, rfl⟩
  have HVN := Lib.hid hvn
  rw [← hvn] at h1 HV ⊢
  clear hvn
  go_enter Try.func59, Try.ntmps59
  go_wp2_with fail
  show Code.wp _ _ _ _ _
  go_loopw [8] (fun i wr => ∃ k : Nat, k ≤ vn ∧ i = .int .i64 k ∧ Hid (Inv k wr)) (fun i _ => vn - (intOf i).toNat)
  case atStart => exact ⟨0, Nat.zero_le _, rfl, HI⟩
  case round =>
    obtain ⟨k, hk, rfl, hi⟩ := hrel
    by_cases hlt : k < vn
    · have hkl : k < l.length := by rw [← HVN.out]; exact hlt
      have bel := HB.out _ _ hi.out
      obtain ⟨a', c', hve, _, _, hcell⟩ := HV.out.below bel
      obtain ⟨b3, off3, hae, c0, c1, c2, c3⟩ := hcell k hkl
      simp only [Value.slice.injEq] at hve
      obtain ⟨e1, el, ec⟩ := hve
      rw [hae] at e1
      subst e1
      clear el ec hcell hae
      have hst := HS.out k hkl
      obtain ⟨x, hx⟩ : ∃ x, x = l[k] := ⟨_, rfl⟩
      rw [← hx] at c0 c1 c2 c3 hst
      have HST := Lib.hid hst
      clear hx hst
      obtain ⟨xk, xs, xg, xu⟩ := x
      simp only at c0 c1 c2 c3
      obtain ⟨wr, hwr⟩ := the_world bel
      subst hwr
      clear bel
      go_wp2_with fail
      have hal : Below wr.heap.size wr (wr.alloc (.cells #[.string xk, .int .u64 xs, .bool xg, .string xu] 37)) := (Below.refl _ _).alloc (Nat.le_refl _) _
      refine (HST.out _ (HL.out _ _ _ hi.out hal)).mono ?_
      rintro e w2 ⟨rfl, hi2⟩
      have HI2 := Lib.hid hi2
      clear hi2 hal c0 c1 c2 c3
      go_wp2_with fail
      exact ⟨⟨k + 1, by omega, by go_num, HI2⟩, by simp [intOf]; omega⟩
    · obtain rfl : k = vn := by omega
      go_wp2_with fail
      go_end0
      exact ⟨rfl, hi.out⟩
end Go.Proofs.Ytbcnapkbdbefhaa
namespace Go.Proofs.Ytbcnapkbdbefhaa
open Go.RowKit

set_option maxRecDepth 100000 in
set_option maxHeartbeats 2000000 in
theorem mayE_any (w : World) (v : Value) (l : List PE) (hv : RdE w v l) :
    Calls Try.prog 58 #[v] w fun e w' => e = .returned (.bool (mayL (entsOf l))) ∧ Below w.heap.size w w' := by
  have HV := Lib.hid hv
  obtain ⟨va, vc, rfl, h1, h2, _⟩ := hv
  have HLL := Lib.hid (entsOf_length l)
  obtain ⟨b, hb⟩ : ∃ b, b = decide (0 < (entsOf l).length ∧ (entsOf l).length ≤ 64) := ⟨_, rfl⟩
  obtain ⟨W, hW⟩ : ∃ W, W = (w.alloc (.cells #[.slice va l.length vc] 22)).alloc (.cells #[.bool b] 4) := ⟨_, rfl⟩
  have hd : Blk W w.heap.size #[.slice va l.length vc] 22 := by rw [hW]; exact (Blk.new _ _ _).alloc _
  have hc : Blk W (w.heap.size + 1) #[.bool b] 4 := by rw [hW]; exact Blk.new_at _ _ _ _ (by simp)
  have hbel : Below w.heap.size w W := by rw [hW]; exact ((Below.refl _ _).alloc (Nat.le_refl _) _).alloc (by simp) _
  have HW := Lib.hid hW
  have hmain := eachMayE_any w W _ l (.pointer (some ⟨w.heap.size + 1, 0, none⟩)) (.pointer (some ⟨w.heap.size, 0, none⟩))
    (fun k w' => Blk w' (w.heap.size + 1) #[.bool (mayN (entsOf l) k)] 4 ∧ Blk w' w.heap.size #[.slice va l.length vc] 22 ∧ Below w.heap.size w w') HV.out ⟨by rw [mayN, ← hb]; exact hc, hd, hbel⟩
    (fun k w' h => h.2.2) (fun k w' w'' h hbl => ⟨h.1.below hbl, h.2.1.below hbl, h.2.2.trans (hbl.mono h.2.2.size)⟩)
    (fun k hk w' h => (mayStep_any w w' (w.heap.size + 1) w.heap.size _ l k l[k] (mayN (entsOf l) k) h.1 h.2.1 HV.out h.2.2 hk rfl).mono fun e w'' ⟨e1, e2, e3⟩ =>
      ⟨e1, e2.out, h.2.1.only e3.out (by omega), Only.below h.2.2 e3.out (by omega) h.2.2.size⟩)
  have HM := Lib.hid hmain
  have d0 := hd.cellv 0 (.slice va l.length vc) rfl
  obtain ⟨n, hn⟩ : ∃ n, n = l.length := ⟨_, rfl⟩
  rw [HLL.out, ← hn] at hb
  rw [← hn] at h1 d0 hd hW HW ⊢
  have hres : Hid (mayL (entsOf l) = mayN (entsOf l) n) := by show _ = _; rw [mayL, HLL.out, hn]
  rw [← hn] at HM
  clear hmain hn HLL HV hc hd hW
  rw [hres.out]
  by_cases hn0 : 0 < n
  · by_cases hn64 : n ≤ 64
    · obtain rfl : b = true := by rw [hb]; simp; omega
      clear hb
      have g1 : decide ((0 : Int) < (n : Int)) = true := by simp; omega
      have g2 : decide ((n : Int) ≤ 64) = true := by simp; omega
      go_enter Try.func58, Try.ntmps58
      go_upto_region 2 with (fail)
      rw [← HW.out]
      go_wp2_with fail
      refine HM.out.mono ?_
      rintro e w2 ⟨rfl, hc2, _, bel2⟩
      have c2 := hc2.cellv 0 (.bool (mayN (entsOf l) n)) rfl
      go_wp2_with fail
      go_ret
      exact ⟨rfl, bel2⟩
    · obtain rfl : b = false := by rw [hb]; simp; omega
      clear hb
      have g1 : decide ((0 : Int) < (n : Int)) = true := by simp; omega
      have g2 : decide ((n : Int) ≤ 64) = false := by simp; omega
      go_enter Try.func58, Try.ntmps58
      go_upto_region 2 with (fail)
      rw [← HW.out]
      go_wp2_with fail
      refine HM.out.mono ?_
      rintro e w2 ⟨rfl, hc2, _, bel2⟩
      have c2 := hc2.cellv 0 (.bool (mayN (entsOf l) n)) rfl
      go_wp2_with fail
      go_ret
      exact ⟨rfl, bel2⟩
  · obtain rfl : b = false := by rw [hb]; simp; omega
    clear hb
    have g1 : decide ((0 : Int) < (n : Int)) = false := by simp; omega
    go_enter Try.func58, Try.ntmps58
    go_upto_region 2 with (fail)
    rw [← HW.out]
    go_wp2_with fail
    refine HM.out.mono ?_
    rintro e w2 ⟨rfl, hc2, _, bel2⟩
    have c2 := hc2.cellv 0 (.bool (mayN (entsOf l) n)) rfl
    go_wp2_with fail
    go_ret
    exact ⟨rfl, bel2⟩
end Go.Proofs.Ytbcnapkbdbefhaa

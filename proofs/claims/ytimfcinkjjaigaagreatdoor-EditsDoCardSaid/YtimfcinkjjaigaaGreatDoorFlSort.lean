/- Walk of edits.twice: have two files one number? The condition: a slice that reads as files. | The order of files: cmp.Or, the closure that edits.Do sorts by, slices.SortFunc at files. The condition: a slice of the call's own. | The closure that edits.Do sorts files by. No condition. | Memory of files: a row of the call's own as the sort's kit reads it, and behind the sort. The condition: an owned slice. | slices.Clone, slices.Delete (of one), slices.Clip at files. The condition: a slice of the call's own, or one that reads as files. | slices.SortFunc at files, by edits.Do's closure. The condition: a slice of the call's own. | Walk of edits.Do. The conditions: a slice of files and an edit, of 100000 elements at most. -/
import Derived.Test.YtimfcinkjjaigaaGreatDoorFl5
import Derived.Maps.OwnSet
import Derived.Sort.Grow
import Derived.Shelf.GgSortFunc.RowK
import Derived.Deep.RegionHeld3
import Derived.Sort.OwnSorted
import Derived.Test.YtimfcinkjjaigaaGreatDoorApart
import Derived.Lib.SliceRun
import Derived.Maps.AppendAt
import Derived.Deep.Cut
import Derived.Test.YtimfcinkjjaigaaGreatDoorLaidSort
import Derived.Shelf.SlSortCmp.WholeK
import Derived.Test.YtimfcinkjjaigaaGreatDoorFlD
namespace Go.Proofs.YtimfcinkjjaigaaGreatDoor
open Go.RowKit Go.Maps

theorem lawU : Keyed Tryz.prog 24 := int_keyed Tryz.underlying24
theorem zeroI (w : World) : (zeroValue 3).run Tryz.prog w = .ok (.int .i64 0) w := by kernel_rfl
/-- what the map tells behind so many files -/
def Seen {H : Type} (ns : List Nat) (D : DataW H) : Prop :=
  Tidy D ∧ (∀ j : Nat, has D (.int .u32 j) = decide (j ∈ ns)) ∧ (ns.Nodup → size D = ns.length) ∧ (¬ ns.Nodup → size D < ns.length)
theorem Seen.start {H : Type} : Seen (H := H) [] (.map []) :=
  ⟨tidy_empty, fun j => by simp [has_eq], fun _ => rfl, fun h => absurd List.nodup_nil h⟩
theorem keyU (j : Nat) : WideAt.IsKeyLit (.int .u32 (j : Int)) := trivial
theorem Seen.step {H : Type} {ns : List Nat} {D : DataW H} (h : Seen ns D) (j : Nat) (d : DataW H) : Seen (ns ++ [j]) (D.put (.int .u32 j) d) := by
  obtain ⟨t, hh, h1, h2⟩ := h
  have hk := keyU j
  refine ⟨t.put hk d, fun i => ?_, fun hn => ?_, fun hn => ?_⟩
  · by_cases e : i = j
    · subst e
      rw [has_put_same t.isMap hk]; simp
    · rw [has_put_other (by simpa using fun h : (i : Int) = j => e (by omega)), hh i]
      simp [e]
  · rw [List.nodup_append] at hn
    have hj : j ∉ ns := fun h => hn.2.2 j h j (by simp) rfl
    rw [size_put t, hh j]
    simp [hj, h1 hn.1]
  · rw [size_put t, hh j]
    by_cases hj : j ∈ ns
    · simp only [hj, decide_true, if_true, List.length_append, List.length_cons, List.length_nil]
      by_cases hd : ns.Nodup
      · have := h1 hd; omega
      · have := h2 hd; omega
    · have hd : ¬ ns.Nodup := fun hd => hn (by
        rw [List.nodup_append]
        exact ⟨hd, by simp, fun a ha b hb => by simp at hb; subst hb; exact fun e => hj (e ▸ ha)⟩)
      have := h2 hd
      simp only [hj, decide_false, Bool.false_eq_true, if_false, List.length_append, List.length_cons, List.length_nil]
      omega
theorem Seen.less {H : Type} {ns : List Nat} {D : DataW H} (h : Seen ns D) : decide (size D < ns.length) = !decide ns.Nodup := by
  by_cases hd : ns.Nodup
  · have := h.2.2.1 hd
    simp [hd, this]
  · have := h.2.2.2 hd
    simp [hd, this]

set_option maxRecDepth 100000 in
set_option maxHeartbeats 2000000 in
theorem twice_any (w : World) (v : Value) (l : List PF) (hv : RdF w v l) (hl : l.length ≤ 1000000) (hlo : ∀ f ∈ l, f.ok) :
    Calls Tryz.prog 49 #[v] w fun e w' => e = .returned (.bool (!decide (nums l).Nodup)) ∧ Below w.heap.size w w' := by
  have HV := Lib.hid hv
  have HLO := Lib.hid hlo
  obtain ⟨a, cap, rfl, h1, h2, h3⟩ := hv
  clear h3 hlo
  obtain ⟨n, hn⟩ : ∃ n, n = l.length := ⟨_, rfl⟩
  have HN := Lib.hid hn
  rw [← hn] at h1 HV hl ⊢
  clear hn
  have hmm := @run_makeMap Tryz.prog
  go_enter Tryz.func49, Tryz.ntmps49
  go_wp2
  go_loopw [9] (fun i wr => ∃ k : Nat, k ≤ n ∧ i = .int .i64 k ∧ (∃ D : DataW Unit, wr.ownsMap Tryz.prog 24 (plainElem Tryz.prog 3) w.heap.size k D ∧ Hid (Seen (nums (l.take k)) D)) ∧ Below w.heap.size w wr)
    (fun i _ => n - (intOf i).toNat)
  case atStart => exact ⟨0, Nat.zero_le _, rfl, ⟨_, World.ownsMap_made _ _ _ _, Lib.hid Seen.start⟩, alloc_bel _ _⟩
  case round =>
    obtain ⟨k, hk, rfl, ⟨D, hown, hseen⟩, bel⟩ := hrel
    have HB := Lib.hid bel
    clear bel
    by_cases hlt : k < n
    · have hkl : k < l.length := by rw [← HN.out]; exact hlt
      obtain ⟨a', c', he, _, _, hc⟩ := HV.out.below HB.out
      simp only [Value.slice.injEq] at he
      obtain ⟨rfl, hnl, rfl⟩ := he
      clear hnl
      obtain ⟨b, off, rfl, c0, c1, c2, c3⟩ := hc k hkl
      have hxo := HLO.out _ (List.getElem_mem hkl)
      have hst := fun d => Seen.step hseen.out l[k].n (d : DataW Unit)
      have e1 : nums (l.take k) ++ [l[k].n] = nums (l.take (k + 1)) := by rw [List.take_succ_eq_append_getElem hkl, nums_app]; rfl
      rw [e1] at hst
      have HST := Lib.hid hst
      obtain ⟨x, hx⟩ : ∃ x, x = l[k] := ⟨_, rfl⟩
      rw [← hx] at c0 c1 c2 c3 hxo HST
      clear hx hc e1 hst
      obtain ⟨xn, xl, xa, xb⟩ := x
      simp only at c0 c1 c2 c3 HST
      have hkey : keyOf Tryz.prog 24 (.int .u32 xn) = some (.int .u32 xn) := keyOf_int_mk Tryz.underlying24 (by have := hxo.1; simp only at this; simp only [Lit.wf, IntKind.min, IntKind.max, IntKind.signed, IntKind.bits]; simp; omega)
      clear hxo
      go_wp2_with (first
        | (at_lookup; refine wpList_lookup_own_int _ rfl _ _ 149 rfl 24 3 .i64 lawU Tryz.underlying149 Tryz.underlying3 (zeroI _) w.heap.size k _ rfl (hown.alloc _) _ _ rfl hkey ?_; intro c hat hwc)
        | (at_mapUpdate; refine wpList_mapUpdate_own _ rfl _ _ _ 149 rfl 24 3 lawU Tryz.underlying149 _ w.heap.size k _ rfl (hown.alloc _) (by unfold maxLen; omega) _ _ _ rfl rfl hkey _ [] (plainElem_int Tryz.underlying3 (wrap64_wf _)) ?_; intro w1 hown1 hgrow1)
        | go_in)
      go_roundw
      case rel =>
        refine ⟨k + 1, by omega, by go_num, ⟨_, hown1, Lib.hid (HST.out _)⟩, ?_⟩
        have b1 := Below.trans HB.out ((alloc_bel wr (.cells #[.int .u32 xn, .int .i64 xl, .string xa, .string xb] 86)).mono HB.out.size)
        exact b1.grown hgrow1 b1.size (fun j hj => by cases hj; exact Nat.le_refl _)
      case measure => simp [intOf]; omega
    · have hkn : k = n := by omega
      subst hkn
      have e : l.take k = l := List.take_of_length_le (by rw [← HN.out]; exact Nat.le_refl _)
      rw [e] at hseen
      have hls := hseen.out.less
      have e2 : (nums l).length = k := by rw [nums, List.length_map]; exact HN.out.symm
      rw [e2] at hls
      have HLS := Lib.hid hls
      clear hls e2 e hseen
      have hlen := fun (ty : TypeId) => hown.len Tryz.underlying149 ty
      go_wp2
      go_ret
      exact ⟨by rw [← HLS.out]; rfl, HB.out⟩
end Go.Proofs.YtimfcinkjjaigaaGreatDoor
namespace Go.Proofs.YtimfcinkjjaigaaGreatDoor
open Go.RowKit Go.Sort

instance : Inhabited PF := ⟨⟨0, 0, .empty, .empty⟩⟩
theorem ret_num {a b : Int} (h : a = b) : Ending.returned (.int .i64 a) = Ending.returned (.int .i64 b) := by rw [h]
def cmpI (a b : Int) : Int := if a < b then -1 else if b < a then 1 else 0
set_option maxRecDepth 100000 in
theorem cmpInt_any (a b : Int) (w : World) : Calls Tryz.prog 57 #[.int .i64 a, .int .i64 b] w fun e w' => e = .returned (.int .i64 (cmpI a b)) ∧ w = w' := by
  by_cases h : a < b
  · have HC : Hid (cmpI a b = -1) := by show _ = _; simp [cmpI, h]
    go_enter Tryz.func57, Tryz.ntmps57
    go_wp2
    go_ret
    exact ⟨ret_num (by rw [HC.out]), rfl⟩
  by_cases h2 : b < a
  · have HC : Hid (cmpI a b = 1) := by show _ = _; simp [cmpI, h, h2]
    go_enter Tryz.func57, Tryz.ntmps57
    go_wp2
    go_ret
    exact ⟨ret_num (by rw [HC.out]), rfl⟩
  · have HC : Hid (cmpI a b = 0) := by show _ = _; simp [cmpI, h, h2]
    go_enter Tryz.func57, Tryz.ntmps57
    go_wp2
    go_ret
    exact ⟨ret_num (by rw [HC.out]), rfl⟩
set_option maxRecDepth 100000 in
theorem cmpU32_any (a b : Nat) (w : World) : Calls Tryz.prog 58 #[.int .u32 a, .int .u32 b] w fun e w' => e = .returned (.int .i64 (cmpN a b)) ∧ w = w' := by
  rcases Nat.lt_trichotomy a b with h | h | h
  · have HC : Hid (cmpN a b = -1) := by show _ = _; simp [cmpN, h]
    go_enter Tryz.func58, Tryz.ntmps58
    go_wp2
    go_ret
    exact ⟨ret_num (by rw [HC.out]), rfl⟩
  · subst h
    have HC : Hid (cmpN a a = 0) := by show _ = _; simp [cmpN]
    go_enter Tryz.func58, Tryz.ntmps58
    go_wp2
    go_ret
    exact ⟨ret_num (by rw [HC.out]), rfl⟩
  · have HC : Hid (cmpN a b = 1) := by show _ = _; simp [cmpN, h]; omega
    go_enter Tryz.func58, Tryz.ntmps58
    go_wp2
    go_ret
    exact ⟨ret_num (by rw [HC.out]), rfl⟩
def orI (a b : Int) : Int := if a = 0 then b else a
set_option maxRecDepth 100000 in
theorem cmpOr_any (a b : Int) (w : World) (g : Nat) (h0 : w.cell? ⟨g, 0, none⟩ = some (.int .i64 a)) (h1 : w.cell? ⟨g, 1, none⟩ = some (.int .i64 b)) :
    Calls Tryz.prog 56 #[.slice (some ⟨g, 0, none⟩) 2 2] w fun e w' => e = .returned (.int .i64 (orI a b)) ∧ w = w' := by
  by_cases ha : a = 0
  · subst ha
    by_cases hb : b = 0
    · subst hb
      go_enter Tryz.func56, Tryz.ntmps56
      go_wp2
      refine wp_loop_rounds 3 ?_
      rw [rounds_succ]
      go_wp2
      rw [rounds_succ]
      go_wp2
      rw [rounds_succ]
      go_wp2
      go_ret
      exact ⟨rfl, rfl⟩
    · have hd : (b != 0) = true := by simpa using hb
      have HC : Hid (orI 0 b = b) := by show _ = _; simp [orI]
      clear hb
      go_enter Tryz.func56, Tryz.ntmps56
      go_wp2
      refine wp_loop_rounds 2 ?_
      rw [rounds_succ]
      go_wp2
      rw [rounds_succ]
      go_wp2
      go_ret
      exact ⟨ret_num (by rw [HC.out]), rfl⟩
  · have hd : (a != 0) = true := by simpa using ha
    have HC : Hid (orI a b = a) := by show _ = _; simp [orI, ha]
    clear ha
    go_enter Tryz.func56, Tryz.ntmps56
    go_wp2
    refine wp_loop_rounds 1 ?_
    rw [rounds_succ]
    go_wp2
    go_ret
    exact ⟨ret_num (by rw [HC.out]), rfl⟩
/-- how two files stand -/
def cfF (x y : PF) : Int := orI (cmpI x.lv y.lv) (cmpN x.n y.n)
instance (x y : PF) : Decidable (ltF x y) := by unfold ltF; infer_instance
end Go.Proofs.YtimfcinkjjaigaaGreatDoor
namespace Go.Proofs.YtimfcinkjjaigaaGreatDoor
open Go.RowKit Go.Sort
set_option maxRecDepth 100000 in
set_option maxHeartbeats 2000000 in
theorem do2_any (x y : PF) (w : World) : Calls Tryz.prog 55 #[.agg #[.int .u32 x.n, .int .i64 x.lv, .string x.a, .string x.b], .agg #[.int .u32 y.n, .int .i64 y.lv, .string y.a, .string y.b]] w fun e w' =>
    e = .returned (.int .i64 (cfF x y)) ∧ ∃ q os', w' = grow (w.drewN q) os' := by
  have HC : Hid (cfF x y = orI (cmpI x.lv y.lv) (cmpN x.n y.n)) := Lib.hid rfl
  obtain ⟨xn, xl, xa, xb⟩ := x
  obtain ⟨yn, yl, ya, yb⟩ := y
  simp only at HC ⊢
  generalize cfF ⟨xn, xl, xa, xb⟩ ⟨yn, yl, ya, yb⟩ = R at HC ⊢
  obtain ⟨W, hW⟩ : ∃ W, W = (w.alloc (.cells #[.int .u32 xn, .int .i64 xl, .string xa, .string xb] 86)).alloc (.cells #[.int .u32 yn, .int .i64 yl, .string ya, .string yb] 86) := ⟨_, rfl⟩
  have hbl : W.drew = grow (w.drewN 1) #[.cells #[.int .u32 xn, .int .i64 xl, .string xa, .string xb] 86, .cells #[.int .u32 yn, .int .i64 yl, .string ya, .string yb] 86] := by rw [hW, alloc_eq_grow, alloc_eq_grow, grow_grow]; rfl
  have b1 : Blk W w.heap.size #[.int .u32 xn, .int .i64 xl, .string xa, .string xb] 86 := by rw [hW]; exact (Blk.new _ _ _).alloc _
  have b2 : Blk W (w.heap.size + 1) #[.int .u32 yn, .int .i64 yl, .string ya, .string yb] 86 := by rw [hW]; exact Blk.new_at _ _ _ _ (by simp)
  have a0 : W.drew.cell? ⟨w.heap.size, 0, none⟩ = some (.int .u32 xn) := b1.cell 0
  have a1 : W.drew.cell? ⟨w.heap.size, 1, none⟩ = some (.int .i64 xl) := b1.cell 1
  have d0 : W.drew.cell? ⟨w.heap.size + 1, 0, none⟩ = some (.int .u32 yn) := b2.cell 0
  have d1 : W.drew.cell? ⟨w.heap.size + 1, 1, none⟩ = some (.int .i64 yl) := b2.cell 1
  have HS : Hid (∃ q os', W.drew = grow (w.drewN q) os') := Lib.hid ⟨_, _, hbl⟩
  have HSA : Hid (∀ w' o, (w'.cell? ⟨w.heap.size, 0, none⟩ = some (.int .u32 xn) ∧ w'.cell? ⟨w.heap.size, 1, none⟩ = some (.int .i64 xl) ∧ w'.cell? ⟨w.heap.size + 1, 0, none⟩ = some (.int .u32 yn) ∧ w'.cell? ⟨w.heap.size + 1, 1, none⟩ = some (.int .i64 yl) ∧ ∃ q os', w' = grow (w.drewN q) os') →
      ((w'.alloc o).cell? ⟨w.heap.size, 0, none⟩ = some (.int .u32 xn) ∧ (w'.alloc o).cell? ⟨w.heap.size, 1, none⟩ = some (.int .i64 xl) ∧ (w'.alloc o).cell? ⟨w.heap.size + 1, 0, none⟩ = some (.int .u32 yn) ∧ (w'.alloc o).cell? ⟨w.heap.size + 1, 1, none⟩ = some (.int .i64 yl) ∧ ∃ q os', w'.alloc o = grow (w.drewN q) os')) := Lib.hid fun w' o h => by
    obtain ⟨h1, h2, h3, h4, q, os', rfl⟩ := h
    have hb : Below (grow (w.drewN q) os').heap.size (grow (w.drewN q) os') ((grow (w.drewN q) os').alloc o) := alloc_bel _ _
    exact ⟨Below.keeps hb _ _ _ h1, Below.keeps hb _ _ _ h2, Below.keeps hb _ _ _ h3, Below.keeps hb _ _ _ h4, q, os'.push o, by rw [alloc_eq_grow, grow_grow]; congr 1⟩
  clear b1 b2 hbl
  go_enter Tryz.func55, Tryz.ntmps55
  go_wp2_with fail
  rw [← hW]
  clear hW
  refine wp_region_held_drew (S := fun w' => w'.cell? ⟨w.heap.size, 0, none⟩ = some (.int .u32 xn) ∧ w'.cell? ⟨w.heap.size, 1, none⟩ = some (.int .i64 xl) ∧ w'.cell? ⟨w.heap.size + 1, 0, none⟩ = some (.int .u32 yn) ∧ w'.cell? ⟨w.heap.size + 1, 1, none⟩ = some (.int .i64 yl) ∧ ∃ q os', w' = grow (w.drewN q) os') (by kernel_rfl) (⟨a0, a1, d0, d1, HS.out⟩) (fun hHeld => ?_)
  refine wpAnyH_take (i := 0) (v := ?vq2) (by simp only [List.getElem?_toArray]; rfl) (by kernel_rfl) (by kernel_rfl) (by kernel_rfl) (by exact fun _ _ _ h => h) (Or.inl ⟨by rfl, ?yq2⟩) (by assumption) ?rq2
  case yq2 => (intro w hSw; (try dsimp only at hSw); go_simp; try with_reducible rfl)
  try simp only [Act.put, List.setIfInBounds_toArray, List.set_cons_zero, List.set_cons_succ]
  refine wpAnyH_take (i := 1) (v := ?vq3) (by simp only [List.getElem?_toArray]; rfl) (by kernel_rfl) (by kernel_rfl) (by kernel_rfl) (by exact fun _ _ _ h => h) (Or.inl ⟨by rfl, ?yq3⟩) (by assumption) ?rq3
  case yq3 => (intro w hSw; (try dsimp only at hSw); go_simp; try with_reducible rfl)
  try simp only [Act.put, List.setIfInBounds_toArray, List.set_cons_zero, List.set_cons_succ]
  refine wpAnyH_take (i := 2) (v := ?vq4) (by simp only [List.getElem?_toArray]; rfl) (by kernel_rfl) (by kernel_rfl) (by kernel_rfl) (by exact fun _ _ _ h => h) (Or.inl ⟨by rfl, ?yq4⟩) (by assumption) ?rq4
  case yq4 => (intro w hSw; (try dsimp only at hSw); go_simp; try with_reducible rfl)
  try simp only [Act.put, List.setIfInBounds_toArray, List.set_cons_zero, List.set_cons_succ]
  refine wpAnyH_take (i := 3) (v := ?vq5) (by simp only [List.getElem?_toArray]; rfl) (by kernel_rfl) (by kernel_rfl) (by kernel_rfl) (by exact fun _ _ _ h => h) (Or.inl ⟨by rfl, ?yq5⟩) (by assumption) ?rq5
  case yq5 => (intro w hSw; (try dsimp only at hSw); go_simp; try with_reducible rfl)
  try simp only [Act.put, List.setIfInBounds_toArray, List.set_cons_zero, List.set_cons_succ]
  refine wpAnyH_take (i := 5) (v := ?vq6) (by simp only [List.getElem?_toArray]; rfl) (by kernel_rfl) (by kernel_rfl) (by kernel_rfl) (by exact fun _ _ _ h => h) (Or.inl ⟨by rfl, ?yq6⟩) (by assumption) ?rq6
  case yq6 => (intro w hSw; (try dsimp only at hSw); go_simp; try with_reducible rfl)
  try simp only [Act.put, List.setIfInBounds_toArray, List.set_cons_zero, List.set_cons_succ]
  refine wpAnyH_take (i := 6) (v := ?vq7) (by simp only [List.getElem?_toArray]; rfl) (by kernel_rfl) (by kernel_rfl) (by kernel_rfl) (by exact fun _ _ _ h => h) (Or.inl ⟨by rfl, ?yq7⟩) (by assumption) ?rq7
  case yq7 => (intro w hSw; (try dsimp only at hSw); go_simp; try with_reducible rfl)
  try simp only [Act.put, List.setIfInBounds_toArray, List.set_cons_zero, List.set_cons_succ]
  refine wpAnyH_take (i := 7) (v := ?vq8) (by simp only [List.getElem?_toArray]; rfl) (by kernel_rfl) (by kernel_rfl) (by kernel_rfl) (by exact fun _ _ _ h => h) (Or.inl ⟨by rfl, ?yq8⟩) (by assumption) ?rq8
  case yq8 => (intro w hSw; (try dsimp only at hSw); go_simp; try with_reducible rfl)
  try simp only [Act.put, List.setIfInBounds_toArray, List.set_cons_zero, List.set_cons_succ]
  refine wpAnyH_take (i := 8) (v := ?vq9) (by simp only [List.getElem?_toArray]; rfl) (by kernel_rfl) (by kernel_rfl) (by kernel_rfl) (by exact fun _ _ _ h => h) (Or.inl ⟨by rfl, ?yq9⟩) (by assumption) ?rq9
  case yq9 => (intro w hSw; (try dsimp only at hSw); go_simp; try with_reducible rfl)
  try simp only [Act.put, List.setIfInBounds_toArray, List.set_cons_zero, List.set_cons_succ]
  refine wpAnyH_ready (rs := [4]) (by kernel_rfl) (by simp) ?_
  refine AllReadyH.cons (by simp only [List.getElem?_toArray]; rfl) (fun K hK => ?_) AllReadyH.nil
  go_simp
  refine (cmpInt_any _ _ _).mono ?_
  rintro e9 w9 ⟨rfl, rfl⟩
  refine hK.out _ _ hHeld (fun hHeld => ?_)
  clear hK K
  try simp only [Act.put, List.setIfInBounds_toArray, List.set_cons_zero, List.set_cons_succ]
  refine wpAnyH_ready (rs := [9]) (by kernel_rfl) (by simp) ?_
  refine AllReadyH.cons (by simp only [List.getElem?_toArray]; rfl) (fun K hK => ?_) AllReadyH.nil
  go_simp
  refine (cmpU32_any _ _ _).mono ?_
  rintro e9 w9 ⟨rfl, rfl⟩
  refine hK.out _ _ hHeld (fun hHeld => ?_)
  clear hK K
  try simp only [Act.put, List.setIfInBounds_toArray, List.set_cons_zero, List.set_cons_succ]
  refine wpAnyH_ready (rs := [10]) (by kernel_rfl) (by simp) ?_
  refine AllReadyH.cons (by simp only [List.getElem?_toArray]; rfl) (fun K hK => ?_) AllReadyH.nil
  go_simp
  refine hK.out _ _ (HSA.out _ _ hHeld) (fun hHeld => ?_)
  clear hK K
  try simp only [Act.put, List.setIfInBounds_toArray, List.set_cons_zero, List.set_cons_succ]
  refine wpAnyH_ready (rs := [11]) (by kernel_rfl) (by simp) ?_
  refine AllReadyH.cons (by simp only [List.getElem?_toArray]; rfl) (fun K hK => ?_) AllReadyH.nil
  go_simp
  refine (cmpOr_any _ _ _ _ (World.cell?_alloc_at _ _ _ _ rfl) (World.cell?_alloc_at _ _ _ _ rfl)).mono ?_
  rintro e9 w9 ⟨rfl, rfl⟩
  refine hK.out _ _ hHeld (fun hHeld => ?_)
  clear hK K
  try simp only [Act.put, List.setIfInBounds_toArray, List.set_cons_zero, List.set_cons_succ]
  refine wpAnyH_take (i := 12) (v := ?vq1) (by simp only [List.getElem?_toArray]; rfl) (by kernel_rfl) (by kernel_rfl) (by kernel_rfl) (by exact fun _ _ _ h => h) (Or.inl ⟨by rfl, ?yq1⟩) (by assumption) ?rq1
  case yq1 => (intro w hSw; (try dsimp only at hSw); go_simp; try with_reducible rfl)
  try simp only [Act.put, List.setIfInBounds_toArray, List.set_cons_zero, List.set_cons_succ]
  refine wpAnyH_done (by kernel_rfl) ?_ _
  go_wp2
  go_ret
  exact ⟨ret_num (by rw [HC.out]), hHeld.2.2.2.2⟩
end Go.Proofs.YtimfcinkjjaigaaGreatDoor
namespace Go.Proofs.YtimfcinkjjaigaaGreatDoor
open Go.RowKit Go.Sort

theorem own_get {w : World} {base : Nat} {e : TypeId} {sz g n c : Nat} {xs : List Value} (h : Own w base e sz (.slice (some ⟨g, 0, none⟩) n c) n xs) (hn : 0 < n) :
    xs.length = n * sz ∧ base ≤ g ∧ n ≤ c ∧ c ≤ maxLen ∧ ∃ cur fr, w.heap[g]? = some (.cells cur e fr) ∧ (∀ i, i < cur.size → ¬ (fr.1 ≤ i ∧ i < fr.2)) ∧ c * sz ≤ cur.size ∧ cur.toList.take (n * sz) = xs := by
  rcases h with ⟨rfl, _⟩ | ⟨h1, g', cap, cur, fr, e2, hb, hg, hf, hnc, hm, hcs, ht⟩
  · omega
  · simp only [Value.slice.injEq, Option.some.injEq, Addr.mk.injEq, and_true, true_and] at e2
    obtain ⟨rfl, rfl⟩ := e2
    exact ⟨h1, hb, hnc, hm, cur, fr, hg, hf, hcs, ht⟩
theorem holds_own {w : World} {base : Nat} {e : TypeId} {sz g n c : Nat} {xs : List Value} (h : Own w base e sz (.slice (some ⟨g, 0, none⟩) n c) n xs) (hn : 0 < n) : Holds id w g 0 xs.toArray := by
  obtain ⟨h1, hb, hnc, hm, cur, fr, hg, hf, hcs, ht⟩ := own_get h hn
  intro j hj
  have hj' : j < n * sz := by rw [← h1]; simpa using hj
  have hle : n * sz ≤ c * sz := Nat.mul_le_mul_right _ hnc
  have hx : xs[j]? = cur[j]? := by rw [← ht, List.getElem?_take_of_lt hj', Array.getElem?_toList]
  rw [Nat.zero_add]
  constructor
  · rw [cell_of_row w g j cur _ fr hg, ← hx]
    simp only [id_eq]
    rw [getElem!_pos xs.toArray j hj]
    simp only [List.getElem_toArray]
    exact List.getElem?_eq_getElem _
  · have := hf j (by omega)
    simp only [World.frozen?, hg]
    simp
    omega
theorem heap_sortedI {w : World} {g m : Nat} {os : Array Obj} {cur : Array Value} {e : TypeId} {fr : Nat × Nat} (d : Array Value) (hb : w.heap[g]? = some (.cells cur e fr)) :
    (grow (putRow id (Sort.ahead w m) g 0 d) os).heap[g]? = some (.cells (putCells id 0 d cur) e fr) := by
  have hg : g < w.heap.size := (Array.getElem?_eq_some_iff.1 hb).1
  rw [heap_grow_old _ _ (by simpa using hg)]
  simp [putRow, mapBlock, Sort.ahead, Array.getElem?_modify, hb, onCells]
theorem grownBy_sortedI {w : World} {g m : Nat} {os : Array Obj} (d : Array Value) : w.grownBy (grow (putRow id (Sort.ahead w m) g 0 d) os) (some g) := by
  refine ⟨rfl, rfl, rfl, by simp, fun k hk hne => ?_⟩
  rw [heap_grow_old _ _ (by simpa using hk)]
  have : g ≠ k := fun e => hne (by rw [e])
  simp [putRow, mapBlock, Sort.ahead, Array.getElem?_modify, this]
theorem take_putCellsI (cur : Array Value) (ts : List Value) (h : ts.length ≤ cur.size) : (putCells id 0 ts.toArray cur).toList.take ts.length = ts := by
  apply List.ext_getElem?
  intro j
  by_cases hj : j < ts.length
  · rw [List.getElem?_take_of_lt hj, Array.getElem?_toList]
    simp [putCells, hj, show j < cur.size by omega]
  · rw [List.getElem?_take_eq_none (by omega), List.getElem?_eq_none (by omega)]
theorem own_putK {w : World} {base : Nat} {e : TypeId} {k g n c m : Nat} {xs ys : List Value} {os : Array Obj} (h : Own w base e k (.slice (some ⟨g, 0, none⟩) n c) n xs) (hn : 0 < n) (hl : ys.length = n * k) :
    Own (grow (putRow id (Sort.ahead w m) g 0 ys.toArray) os) base e k (.slice (some ⟨g, 0, none⟩) n c) n ys := by
  obtain ⟨h1, hb, hnc, hm, cur, fr, hg, hf, hcs, ht⟩ := own_get h hn
  have hle : n * k ≤ c * k := Nat.mul_le_mul_right _ hnc
  exact .inr ⟨hl, g, c, _, fr, rfl, hb, heap_sortedI _ hg, by simpa [putCells] using hf, hnc, hm, by simpa [putCells] using hcs, by rw [← hl]; exact take_putCellsI cur ys (by omega)⟩
theorem fcells_at (l : List PF) (t : Nat) (h : t < l.length * 4) : (fcells l)[t]? = (PF.cells (l[t / 4]'(by omega)))[t % 4]? := by
  have hg := flatM_get PF.cells 4 (fun _ => rfl) l (t / 4) (t % 4) (by omega) (by omega)
  rw [show t / 4 * 4 + t % 4 = t from by omega] at hg
  exact hg
theorem flatK_fcells (l : List PF) : flatK PF.cells 4 l.toArray = (fcells l).toArray := by
  refine ext_get! (by simp [fcells_length]) fun t ht => ?_
  have ht' : t < l.length * 4 := by simpa using ht
  rw [get_flatK _ _ _ _ (by simpa using ht')]
  have h1 : l.toArray[t / 4]! = l[t / 4]'(by omega) := by rw [getElem!_pos l.toArray (t / 4) (by simp; omega)]; simp
  have h2 : (fcells l).toArray[t]? = (PF.cells (l[t / 4]'(by omega)))[t % 4]? := by
    rw [← fcells_at l t ht']; simp
  rw [h1]
  have h3 : t % 4 < (PF.cells (l[t / 4]'(by omega))).length := by show _ < 4; omega
  rw [List.getElem?_eq_getElem h3] at h2
  rw [getElem!_pos (PF.cells (l[t / 4]'(by omega))) (t % 4) h3, Array.getElem!_eq_getD, Array.getD_eq_getD_getElem?, h2]
  rfl
theorem flatK_of (d : Array PF) : flatK PF.cells 4 d = (fcells d.toList).toArray := by
  have := flatK_fcells d.toList
  rwa [Array.toArray_toList] at this
/-- the front of an owned slice -/
theorem own_front {w : World} {base : Nat} {e : TypeId} {sz g n c : Nat} {xs : List Value} (h : Own w base e sz (.slice (some ⟨g, 0, none⟩) n c) n xs) (hn : 0 < n) (k : Nat) (hk : k ≤ n) : Own w base e sz (.slice (some ⟨g, 0, none⟩) k c) k (xs.take (k * sz)) := by
  obtain ⟨h1, hb, hnc, hm, cur, fr, hg, hf, hcs, ht⟩ := own_get h hn
  have hle : k * sz ≤ n * sz := Nat.mul_le_mul_right _ hk
  exact .inr ⟨by rw [List.length_take, h1]; omega, g, c, cur, fr, rfl, hb, hg, hf, by omega, hm, hcs, by rw [← ht, List.take_take, Nat.min_eq_left hle]⟩
end Go.Proofs.YtimfcinkjjaigaaGreatDoor
namespace Go.Proofs.YtimfcinkjjaigaaGreatDoor
open Go.RowKit Go.Sort

theorem run_fits {P : Program} (w : World) (t ty e : TypeId) (i : TypeInfo) (sz : Nat) (ht : P.underlying t = some (.slice e)) (hi : P.info? e = some i) (hs : i.size = sz) (hsz : 0 < sz) (g n c m : Nat) (xs ys : List Value) (v2 : Value)
    (h1 : xs.length = n * sz) (cur : Array Value) (fr : Nat × Nat) (hg : w.heap[g]? = some (.cells cur e fr)) (hf : ∀ i, i < cur.size → ¬ (fr.1 ≤ i ∧ i < fr.2)) (hcs : c * sz ≤ cur.size) (htk : cur.toList.take (n * sz) = xs)
    (hrd : Reads w sz v2 m ys) (hone : ∀ u ∈ ys, u.oneCell' = true) (hroom : n + m ≤ c) :
    ∃ w' cur', (Builtin.append_ #[t, t] ty #[.slice (some ⟨g, 0, none⟩) n c, v2]).run P w = .ok (.slice (some ⟨g, 0, none⟩) (n + m) c) w' ∧ w.grownBy w' (some g) ∧
      w'.heap[g]? = some (.cells cur' e fr) ∧ cur'.size = cur.size ∧ cur'.toList.take ((n + m) * sz) = xs ++ ys ∧ w'.heap.size = w.heap.size := by
  obtain ⟨a2, c2, rfl, hl, hmc, hcm, hcells⟩ := hrd
  have hrc := reads_cells (w := w) (sz := sz) ⟨a2, c2, rfl, hl, hmc, hcm, hcells⟩
  subst hs
  have hle : (n + m) * i.size ≤ c * i.size := Nat.mul_le_mul_right _ hroom
  have hadd : (n + m) * i.size = n * i.size + m * i.size := Nat.add_mul _ _ _
  cases a2 with
  | some ad =>
    have hr := run_append_fr (P := P) w t ty e i ht hi g n c cur fr hg hf ad m c2 ys hl (hrc.2 ad rfl) hone hroom (by omega)
    refine ⟨_, _, hr, ⟨rfl, rfl, rfl, by simp [World.setRow], fun k hk hne => ?_⟩, setRow_heap w g cur _ _ fr hg, ?_, ?_, by simp [World.setRow]⟩
    · have hgk : g ≠ k := fun e => hne (by rw [e])
      simp [World.setRow, Array.getElem?_modify, hgk]
    · simp; omega
    · rw [htk]
      have : (xs ++ ys).length = (n + m) * i.size := by simp [h1, hl, hadd]
      rw [← this, List.toList_toArray]
      exact List.take_left
  | none =>
    have hm0 : m = 0 := by
      rcases Nat.mul_eq_zero.1 (hrc.1 rfl) with h | h
      · exact h
      · omega
    subst hm0
    have hy : ys = [] := List.eq_nil_of_length_eq_zero (by simpa using hl)
    subst hy
    have hnc : n ≤ c := by omega
    have hrun : (Builtin.append_ #[t, t] ty #[.slice (some ⟨g, 0, none⟩) n c, .slice none 0 c2]).run P w = .ok (.slice (some ⟨g, 0, none⟩) n c) w := by
      simp [Builtin.append_, run_underlying ht, sizeOf, typeInfo, hi, Builtin.lenOf, Builtin.firstCells, hnc, storeCells]
    exact ⟨w, cur, hrun, ⟨rfl, rfl, rfl, Nat.le_refl _, fun _ _ _ => rfl⟩, hg, rfl, by simpa using htk, rfl⟩

/-- append within the room of a slice of the call's own, as a step of a region -/
theorem step_fits {ops : Array Oper} {o : Oper} {a : Act} {w : World} {K : Act → World → Prop} {Q : Exit → Act → World → Prop} {E : Prop} (hgd : o.guard = none) (s x : Operand) {t e : TypeId} {i : TypeInfo} {sz : Nat}
    (ho : o.op = .call { callee := .builtin .append, args := #[s, x], argTypes := #[t, t] }) (ht : Tryz.prog.underlying t = some (.slice e)) (hi : Tryz.prog.info? e = some i) (hs : i.size = sz) (hsz : 0 < sz)
    (g n c m : Nat) (xs ys : List Value) (v2 : Value) (hs' : a.eval s = .slice (some ⟨g, 0, none⟩) n c) (hx : a.eval x = v2)
    (h1 : xs.length = n * sz) (cur : Array Value) (fr : Nat × Nat) (hg : w.heap[g]? = some (.cells cur e fr)) (hf : ∀ i, i < cur.size → ¬ (fr.1 ≤ i ∧ i < fr.2)) (hcs : c * sz ≤ cur.size) (htk : cur.toList.take (n * sz) = xs)
    (hrd : Reads w sz v2 m ys) (hone : ∀ u ∈ ys, u.oneCell' = true) (hroom : n + m ≤ c)
    (h : ∀ w' cur', Hid (w.grownBy w' (some g) ∧ w'.heap[g]? = some (.cells cur' e fr) ∧ cur'.size = cur.size ∧ cur'.toList.take ((n + m) * sz) = xs ++ ys ∧ w'.heap.size = w.heap.size) → K (a.put o.dst (.slice (some ⟨g, 0, none⟩) (n + m) c)) w') :
    if Region.wanted o (yielded ops a.tmps) = true then Oper.wp Tryz.prog o a w K Q else E := by
  have hw : Region.wanted o (yielded ops a.tmps) = true := by simp [Region.wanted, hgd]
  rw [if_pos hw]
  obtain ⟨w', cur', hr, hrest⟩ := run_fits (P := Tryz.prog) w t o.type e i sz ht hi hs hsz g n c m xs ys v2 h1 cur fr hg hf hcs htk hrd hone hroom
  unfold Oper.wp execOp
  simp only [ho, resolve, invoke, builtin, Sem.run_bind, Sem.run_pure, Result.andThen_ok, List.map_toArray, List.map_cons, List.map_nil, hs', hx, hr]
  exact h w' cur' hrest

/-- clear of one element of whatever size -/
theorem run_clear_one {P : Program} (w : World) (t e ty : TypeId) (z : Value) (cs : List Value) (ht : P.underlying t = some (.slice e)) (hv : ∀ w, (zeroValue e).run P w = .ok z w) (hz : z.cells = cs.toArray) (h1 : ∀ u ∈ cs, u.oneCell' = true) (b o c : Nat)
    (cur : Array Value) (te : TypeId) (fr : Nat × Nat) (hg : w.heap[b]? = some (.cells cur te fr)) (hf : ∀ i, i < cur.size → ¬ (fr.1 ≤ i ∧ i < fr.2)) (hc : o + cs.length ≤ cur.size) :
    (Builtin.clear_ #[t] ty #[.slice (some ⟨b, o, none⟩) 1 c]).run P w = .ok (.tuple #[]) (w.setRow b (cur.toList.take o ++ cs ++ cur.toList.drop (o + cs.length)).toArray) := by
  have hzc : (Builtin.zeroCells z.cells 1).toList = cs := by
    rw [hz]
    simp [Builtin.zeroCells]
    apply List.ext_getElem
    · simp
    · intro i h1 h2
      have : i < cs.length := h2
      simp [Nat.mod_eq_of_lt this, this]
  have hst := run_storeCells_fr (P := P) b te fr cs o 0 cur w hg hf (by simpa using hc) h1
  simp only [Nat.add_zero] at hst
  simp [Builtin.clear_, run_underlying ht, hv, hzc, hst]
set_option maxRecDepth 100000 in
theorem zero_file (w : World) : (zeroValue 86).run Tryz.prog w = .ok (.agg #[.int .u32 0, .int .i64 0, .string .empty, .string .empty]) w := by kernel_rfl

set_option maxRecDepth 100000 in
set_option maxHeartbeats 1000000 in
theorem clone_any (w : World) (v : Value) (l : List PF) (hv : RdF w v l) (hl : l.length ≤ 1000000) :
    Calls Tryz.prog 50 #[v] w fun e w' => ∃ a c, e = .returned (.slice a l.length c) ∧ Own w' w.heap.size 86 4 (.slice a l.length c) l.length (fcells l) ∧ Below w.heap.size w w' := by
  obtain ⟨a, cap, rfl, h1, h2, h3⟩ := id hv
  obtain ⟨i0, hi, hz, hz1, hz2⟩ := info_parts info_file
  have HV := Lib.hid hv
  clear h3 hv
  cases a with
  | none =>
    have hn : l = [] := List.eq_nil_of_length_eq_zero (by
      rcases Nat.eq_zero_or_pos l.length with h | h
      · exact h
      · obtain ⟨a', c', he, _, _, hc⟩ := HV.out
        simp only [Value.slice.injEq] at he
        obtain ⟨b, off, e, _⟩ := hc 0 h
        rw [e] at he
        simp at he)
    subst hn
    have heq := fun w' => Lib.run_eql_slice_nil (P := Tryz.prog) w' 22 86 none ([] : List PF).length cap 0 0 Tryz.underlying22
    simp only [Option.isNone_none, List.length_nil] at heq
    go_enter Tryz.func50, Tryz.ntmps50
    go_wp2
    go_ret
    exact ⟨none, 0, rfl, own_nil _ _ _ _, Below.refl _ _⟩
  | some ad =>
    have heq := fun w' => Lib.run_eql_slice_nil (P := Tryz.prog) w' 22 86 (some ad) l.length cap 0 0 Tryz.underlying22
    simp only [Option.isNone_some] at heq
    obtain ⟨n, hn⟩ : ∃ n, n = l.length := ⟨_, rfl⟩
    rw [← hn] at heq h1 hl HV ⊢
    have HN := Lib.hid hn
    clear hn
    have HO : Hid (∀ w1 : World, Own w1 w.heap.size 86 4 (.slice (some ⟨w.heap.size, 0, none⟩) 0 0) 0 []) := Lib.hid fun w1 => .inl ⟨rfl, rfl, _, rfl⟩
    have HR : Hid (∀ w1, Below w.heap.size w w1 → Reads w1 4 (.slice (some ad) n cap) n (fcells l)) := Lib.hid fun w1 hb => by have := rdF_reads (HV.out.below hb); rwa [← HN.out] at this
    have HAL : Hid (∀ o, Below w.heap.size w (w.alloc o)) := Lib.hid fun o => alloc_bel w o
    clear HV
    go_enter Tryz.func50, Tryz.ntmps50
    go_wp2_with (at_builtin; go_loud (refine wp_app_el2 rfl _ _ rfl Tryz.underlying22 hi hz hz1 hz2 rfl (by omega) w.heap.size 0 n (.slice (some ⟨w.heap.size, 0, none⟩) 0 0) (.slice (some ad) n cap) [] (fcells l) (fcells l) n rfl rfl (HO.out _) (HR.out _ (HAL.out _)) (one_fcells _) (by omega) rfl (by omega) (by omega) (by simp) ?_); intro ua uc w2 HX2 HG2)
    go_ret
    exact ⟨ua, uc, rfl, HX2.out, (HAL.out _).trans HG2.out.below⟩

theorem row_put (C : List Value) (o : Nat) (cs : List Value) (h : o + cs.length ≤ C.length) : (C.take o ++ (cs ++ C.drop (o + cs.length))).toArray.size = C.length ∧ (C.take o ++ (cs ++ C.drop (o + cs.length))).toArray.toList.take o = C.take o := by
  constructor
  · simp; omega
  · rw [List.toList_toArray, List.take_append_of_le_length (by rw [List.length_take]; omega), List.take_take, Nat.min_self]
set_option maxRecDepth 100000 in
set_option maxHeartbeats 2000000 in
theorem delete_any (w : World) (base g c : Nat) (l : List PF) (k : Nat) (hown : Own w base 86 4 (.slice (some ⟨g, 0, none⟩) l.length c) l.length (fcells l)) (hk : k < l.length) (hl : l.length ≤ 1000000) :
    Calls Tryz.prog 53 #[.slice (some ⟨g, 0, none⟩) l.length c, .int .i64 k, .int .i64 ((k : Int) + 1)] w fun e w' => e = .returned (.slice (some ⟨g, 0, none⟩) (l.length - 1) c) ∧
      Own w' base 86 4 (.slice (some ⟨g, 0, none⟩) (l.length - 1) c) (l.length - 1) (fcells (l.take k ++ l.drop (k + 1))) ∧ w.grownBy w' (some g) := by
  obtain ⟨i0, hi, hz, hz1, hz2⟩ := info_parts info_file
  obtain ⟨h1, hb, hnc, hm, cur, fr, hg, hf, hcs, ht⟩ := own_get hown (by omega)
  obtain ⟨a', c', hcut, _, hcut2, hrd⟩ := reads_cut Tryz.underlying22 hi hz1 (by omega) (reads_of_own hown) (k + 1) l.length (by omega) (Nat.le_refl _)
  have s1 := hcut2 rfl
  have e1 : ((fcells l).take (l.length * 4)).drop ((k + 1) * 4) = fcells (l.drop (k + 1)) := by
    rw [List.take_of_length_le (by rw [fcells_length]; exact Nat.le_refl _), fcells_drop l (k + 1) (by omega)]
  rw [e1] at hrd
  have e2 : (fcells l).take (k * 4) = fcells (l.take k) := fcells_take l k (by omega)
  obtain ⟨n, hn⟩ : ∃ n, n = l.length := ⟨_, rfl⟩
  rw [← hn] at h1 hnc ht hrd s1 hk hl ⊢
  have hs1 := fun w' => s1 w' .i64
  rw [show n - (k + 1) = n - 1 - k from by omega] at hrd hs1
  clear s1
  have hki : ((k + 1 : Nat) : Int) = (k : Int) + 1 := by omega
  simp only [hki] at hs1
  obtain ⟨m, hmm⟩ : ∃ m, n = m + 1 := ⟨n - 1, by omega⟩
  subst hmm
  simp only [Nat.add_sub_cancel] at hrd hs1 ⊢
  have HRD : Hid (Reads w.drew 4 (.slice a' (m - k) c') (m - k) (fcells (l.drop (k + 1)))) := Lib.hid (hrd.later (Below.drew (Below.refl _ _)))
  have hlen : (fcells (l.take k)).length = k * 4 := by rw [fcells_length, List.length_take]; omega
  have HF : Hid ((fcells (l.take k)).length = k * 4 ∧ base ≤ g ∧ c ≤ maxLen ∧ w.drew.heap[g]? = some (.cells cur 86 fr) ∧ (∀ i, i < cur.size → ¬ (fr.1 ≤ i ∧ i < fr.2)) ∧ c * 4 ≤ cur.size ∧ cur.toList.take (k * 4) = fcells (l.take k)) :=
    Lib.hid ⟨hlen, hb, hm, hg, hf, hcs, by rw [← e2, ← ht, List.take_take, Nat.min_eq_left (by omega)]⟩
  have hck : k ≤ c := by omega
  have hck1 : k + 1 ≤ c := by omega
  have hkm : k ≤ m := by omega
  have hcm : c ≤ 9223372036854775807 := by unfold maxLen at hm; omega
  have HSZ : Hid (c * 4 ≤ cur.size ∧ (∀ i, i < cur.size → ¬ (fr.1 ≤ i ∧ i < fr.2))) := Lib.hid ⟨hcs, hf⟩
  have HN := Lib.hid hn
  clear hown hcut hcut2 hrd h1 hm hf hcs ht e1 e2 hn hlen hg hb
  go_enter Tryz.func53, Tryz.ntmps53
  go_upto_region 5 with (fail)
  refine wp_region_held_drew (S := fun _ => True) (by kernel_rfl) (trivial) (fun hHeld => ?_)
  refine wpAnyH_take (i := 0) (v := ?vq1) (by simp only [List.getElem?_toArray]; rfl) (by kernel_rfl) (by kernel_rfl) (by kernel_rfl) (by exact fun _ _ _ h => h) (Or.inl ⟨by rfl, ?yq1⟩) (by assumption) ?rq1
  case yq1 => (intro w hSw; (try dsimp only at hSw); go_simp; try with_reducible rfl)
  try simp only [Act.put, List.setIfInBounds_toArray, List.set_cons_zero, List.set_cons_succ]
  refine wpAnyH_take (i := 1) (v := ?vq2) (by simp only [List.getElem?_toArray]; rfl) (by kernel_rfl) (by kernel_rfl) (by kernel_rfl) (by exact fun _ _ _ h => h) (Or.inl ⟨by rfl, ?yq2⟩) (by assumption) ?rq2
  case yq2 => (intro w hSw; (try dsimp only at hSw); go_simp; try with_reducible rfl)
  try simp only [Act.put, List.setIfInBounds_toArray, List.set_cons_zero, List.set_cons_succ]
  refine wpAnyH_take (i := 2) (v := ?vq3) (by simp only [List.getElem?_toArray]; rfl) (by kernel_rfl) (by kernel_rfl) (by kernel_rfl) (by exact fun _ _ _ h => h) (Or.inl ⟨by rfl, ?yq3⟩) (by assumption) ?rq3
  case yq3 => (intro w hSw; (try dsimp only at hSw); go_simp; try with_reducible rfl)
  try simp only [Act.put, List.setIfInBounds_toArray, List.set_cons_zero, List.set_cons_succ]
  refine wpAnyH_take (i := 3) (v := ?vq4) (by simp only [List.getElem?_toArray]; rfl) (by kernel_rfl) (by kernel_rfl) (by kernel_rfl) (by exact fun _ _ _ h => h) (Or.inl ⟨by rfl, ?yq4⟩) (by assumption) ?rq4
  case yq4 => (intro w hSw; (try dsimp only at hSw); go_simp; try with_reducible rfl)
  try simp only [Act.put, List.setIfInBounds_toArray, List.set_cons_zero, List.set_cons_succ]
  refine wpAnyH_take (i := 4) (v := ?vq5) (by simp only [List.getElem?_toArray]; rfl) (by kernel_rfl) (by kernel_rfl) (by kernel_rfl) (by exact fun _ _ _ h => h) (Or.inl ⟨by rfl, ?yq5⟩) (by assumption) ?rq5
  case yq5 => (intro w hSw; (try dsimp only at hSw); go_simp; try with_reducible rfl)
  try simp only [Act.put, List.setIfInBounds_toArray, List.set_cons_zero, List.set_cons_succ]
  refine wpAnyH_take (i := 5) (v := ?vq6) (by simp only [List.getElem?_toArray]; rfl) (by kernel_rfl) (by kernel_rfl) (by kernel_rfl) (by exact fun _ _ _ h => h) (Or.inl ⟨by rfl, ?yq6⟩) (by assumption) ?rq6
  case yq6 => (intro w hSw; (try dsimp only at hSw); go_simp; try with_reducible rfl)
  try simp only [Act.put, List.setIfInBounds_toArray, List.set_cons_zero, List.set_cons_succ]
  refine wpAnyH_ready (rs := [6]) (by kernel_rfl) (by simp) ?_
  refine AllReadyH.cons (by simp only [List.getElem?_toArray]; rfl) (fun K hK => ?_) AllReadyH.nil
  refine step_fits rfl _ _ rfl Tryz.underlying22 hi hz1 (by omega) g k c (m - k) (fcells (l.take k)) (fcells (l.drop (k + 1))) (.slice a' (m - k) c') rfl rfl HF.out.1 cur fr HF.out.2.2.2.1 HF.out.2.2.2.2.1 HF.out.2.2.2.2.2.1 HF.out.2.2.2.2.2.2 HRD.out (one_fcells _) (by omega) ?_
  intro w2 cur2 HW2
  refine hK.out _ _ trivial (fun hHeld => ?_)
  clear hK K
  try simp only [Act.put, List.setIfInBounds_toArray]
  refine wpAnyH_take (i := 7) (v := ?vq7) (by simp only [List.getElem?_toArray]; rfl) (by kernel_rfl) (by kernel_rfl) (by kernel_rfl) (by exact fun _ _ _ h => h) (Or.inl ⟨by rfl, ?yq7⟩) (by assumption) ?rq7
  case yq7 => (intro w hSw; (try dsimp only at hSw); go_simp; try with_reducible rfl)
  try simp only [Act.put, List.setIfInBounds_toArray, List.set_cons_zero, List.set_cons_succ]
  refine wpAnyH_done (by kernel_rfl) ?_ _
  rw [show k + (m - k) = m from by omega]
  have hcl := fun ty => run_clear_one (P := Tryz.prog) w2 22 86 ty _ [.int .u32 0, .int .i64 0, .string .empty, .string .empty] Tryz.underlying22 zero_file rfl (by decide) g (m * 4) (c - m) cur2 86 fr HW2.out.2.1 (by have := HSZ.out.2; have e := HW2.out.2.2.1; rw [e]; exact this) (by have := HSZ.out.1; have e := HW2.out.2.2.1; rw [e]; simp only [List.length_cons, List.length_nil]; omega)
  have hmc : m ≤ c := by omega
  have hmc1 : m + 1 ≤ c := by omega
  go_wp2
  go_ret
  have e3 : fcells (l.take k) ++ fcells (l.drop (k + 1)) = fcells (l.take k ++ l.drop (k + 1)) := (fcells_app _ _).symm
  obtain ⟨hgr, hg2, hsz2, ht2, hh2⟩ := HW2.out
  rw [e3, show k + (m - k) = m from by omega] at ht2
  obtain ⟨r1, r2⟩ := row_put cur2.toList (m * 4) [.int .u32 0, .int .i64 0, .string .empty, .string .empty] (by have := HSZ.out.1; simp only [Array.length_toList, List.length_cons, List.length_nil]; omega)
  have hszz := HSZ.out.1
  refine ⟨rfl, .inr ⟨?_, g, c, _, fr, rfl, HF.out.2.1, setRow_heap w2 g cur2 _ _ fr hg2, fun i hi => HSZ.out.2 i ?_, by omega, HF.out.2.2.1, Nat.le_trans hszz ?_, ?_⟩, ?_⟩
  · rw [fcells_length, List.length_append, List.length_take, List.length_drop, ← HN.out]; omega
  · have hi2 := Nat.lt_of_lt_of_eq hi r1
    rw [Array.length_toList, hsz2] at hi2
    exact hi2
  · rw [← hsz2]
    exact Nat.le_of_eq r1.symm
  · exact r2.trans ht2
  · refine World.grownBy.trans (b := w.drew) ⟨rfl, rfl, rfl, Nat.le_refl _, fun _ _ _ => rfl⟩ (World.grownBy.trans hgr ⟨rfl, rfl, rfl, by simp [World.setRow], fun j hj hne => ?_⟩)
    have hgk : g ≠ j := fun e => hne (by rw [e])
    simp [World.setRow, Array.getElem?_modify, hgk]

set_option maxRecDepth 100000 in
theorem clip_any (w : World) (a : Option Addr) (n c : Nat) (h : n ≤ c) : Calls Tryz.prog 59 #[.slice a n c] w fun e w' => e = .returned (.slice a n n) ∧ w = w' := by
  go_enter Tryz.func59, Tryz.ntmps59
  go_wp2
  go_ret
  exact ⟨rfl, rfl⟩
end Go.Proofs.YtimfcinkjjaigaaGreatDoor
namespace Go.Proofs.YtimfcinkjjaigaaGreatDoor
open Go.Shelf Go.RowKit Go.Lib
open Go.Sort hiding Below

theorem ltOf_F (x y : PF) : ltOf cfF x y = decide (ltF x y) := by
  unfold ltOf cfF orI cmpI cmpN ltF
  congr 1
  by_cases h1 : x.lv < y.lv
  · simp [h1]
  · by_cases h2 : y.lv < x.lv
    · simp [h1, h2]; omega
    · have : x.lv = y.lv := by omega
      by_cases h3 : x.n < y.n
      · simp [this, h3]
      · by_cases h4 : y.n < x.n <;> simp [this, h3, h4]
theorem swoF : SWO (ltOf cfF) where
  irrefl x := by rw [ltOf_F]; simp [ltF]
  trans x y z h1 h2 := by
    rw [ltOf_F, decide_eq_true_eq] at *
    unfold ltF at *
    omega
  ntrans x y z h1 h2 := by
    rw [ltOf_F, decide_eq_false_iff_not] at *
    unfold ltF at *
    omega

theorem enter_do2 : ∀ args w, (callFunc 55 args).run Tryz.prog w = .ok (.enter 55 args) w := enters_of Tryz.func55 (by kernel_rfl) rfl
theorem sortedIn_pw {d : Array PF} {n : Nat} (hn : d.size = n) (h : SortedIn (ltOf cfF) 0 n d) : d.toList.Pairwise (fun x y => ¬ ltF y x) := by
  rw [List.pairwise_iff_getElem]
  intro i j hi hj hij
  have h1 := h i j (Nat.zero_le _) hij (by rw [← hn]; simpa using hj)
  rw [ltOf_F, decide_eq_false_iff_not, getElem!_pos d j (by simpa using hj), getElem!_pos d i (by simpa using hi)] at h1
  simpa using h1
theorem permIn_perm {l : List PF} {d : Array PF} {n : Nat} (hn : n = l.length) (h : PermIn 0 n l.toArray d) : d.toList.Perm l := by
  obtain ⟨h1, _, h2⟩ := h
  have e1 : d.extract 0 n = d := Array.extract_eq_self_of_le (by rw [h1, hn]; simp)
  have e2 : l.toArray.extract 0 n = l.toArray := Array.extract_eq_self_of_le (by rw [hn]; simp)
  rw [e1, e2] at h2
  simpa using h2
theorem one_cells (x : PF) : ∀ v ∈ PF.cells x, v.oneCell' = true := by
  intro v hv
  simp only [PF.cells, List.mem_cons, List.not_mem_nil, or_false] at hv
  rcases hv with rfl | rfl | rfl | rfl <;> rfl
set_option maxRecDepth 100000 in
set_option maxHeartbeats 2000000 in
theorem sort_any (w : World) (base : Nat) (a : Option Addr) (n c : Nat) (l : List PF) (hn : n = l.length) (hown : Own w base 86 4 (.slice a n c) n (fcells l)) (hbase : base ≤ w.heap.size) (hl : l.length ≤ 1000000) :
    Calls Tryz.prog 54 #[.slice a n c, .func (.func 55) #[] #[]] w fun e w' => e = .returned (.tuple #[]) ∧
      ∃ r, r.Perm l ∧ r.Pairwise (fun x y => ¬ ltF y x) ∧ Own w' base 86 4 (.slice a n c) n (fcells r) ∧ Below base w w' := by
  rcases Nat.eq_zero_or_pos n with h0 | h0
  · have hl0 : l = [] := List.eq_nil_of_length_eq_zero (by omega)
    subst h0
    subst hl0
    have hcon := AnyF.slices_SortFunc_none sortF a c (.func (.func 55) #[] #[]) w
    change Calls Tryz.prog 54 _ _ _ at hcon
    refine hcon.mono ?_
    rintro e w' ⟨rfl, rfl⟩
    exact ⟨rfl, [], .refl _, List.Pairwise.nil, hown, Below.refl _ _⟩
  · obtain ⟨g, rfl⟩ : ∃ g, a = some ⟨g, 0, none⟩ := by
      rcases hown with ⟨e, _⟩ | ⟨_, g, cap, cur, fr, e2, _⟩
      · omega
      · simp only [Value.slice.injEq] at e2
        exact ⟨g, e2.1⟩
    have hH : HoldsK PF.cells 4 w g 0 l.toArray := by
      unfold HoldsK
      rw [flatK_fcells]
      exact holds_own hown h0
    obtain ⟨h1, hb, hnc, hm, cur, fr, hg, _⟩ := own_get hown h0
    have hsz : l.toArray.size = n := by simp [hn]
    have hcon := AnyQ.slices_SortFunc sortF 4 Tryz.isAgg86 Tryz.sizeOf86 PF.cells (fun _ => rfl) one_cells cfF swoF 55 #[] g 0 c l.toArray w enter_do2 (fun _ _ _ _ x y => do2_any x y _) hH (Array.getElem?_eq_some_iff.1 hg).1 (by rw [hsz]; omega)
    change Calls Tryz.prog 54 _ _ _ at hcon
    rw [hsz] at hcon
    refine hcon.mono ?_
    rintro e w' ⟨rfl, d, m, os, hp, hs, rfl⟩
    have hdl : d.size = n := by rw [hp.1, hsz]
    refine ⟨rfl, d.toList, permIn_perm hn hp, sortedIn_pw hdl hs, ?_, ?_⟩
    · show Own (grow (putRow id (Sort.ahead w m) g 0 (flatK PF.cells 4 d)) os) base 86 4 _ n _
      rw [flatK_of]
      exact own_putK hown h0 (by rw [fcells_length]; simp [hdl])
    · show Below base w (grow (putRow id (Sort.ahead w m) g 0 (flatK PF.cells 4 d)) os)
      exact (Below.refl base w).grown (grownBy_sortedI _) hbase (fun j hj => by cases hj; exact hb)
end Go.Proofs.YtimfcinkjjaigaaGreatDoor
namespace Go.Proofs.YtimfcinkjjaigaaGreatDoor
open Go.RowKit

/-- what edits.Do tells -/
def RetDo (l : List PF) (x : PX) (w : World) (e : Ending) (w' : World) : Prop :=
  ∃ (r : List PF) (q : Nat) (a : Option Addr) (c : Nat), e = .returned (.tuple #[.slice a r.length c, .int .i64 q]) ∧ Hid (DoR l x.add x.rem r q) ∧ Hid (Own w' w.heap.size 86 4 (.slice a r.length c) r.length (fcells r)) ∧ Below w.heap.size w w'
theorem own_clip {w : World} {base : Nat} {e : TypeId} {sz n c : Nat} {a : Option Addr} {xs : List Value} (h : Own w base e sz (.slice a n c) n xs) : n ≤ c ∧ Own w base e sz (.slice a n n) n xs := by
  rcases h with ⟨h1, h2, a', h3⟩ | ⟨h1, g, cap, cur, fr, h2, hb, hg, hf, hnc, hm, hcs, ht⟩
  · simp only [Value.slice.injEq] at h3
    obtain ⟨rfl, h4, rfl⟩ := h3
    subst h1
    exact ⟨Nat.le_refl _, .inl ⟨rfl, h2, a, rfl⟩⟩
  · simp only [Value.slice.injEq] at h2
    obtain ⟨rfl, _, rfl⟩ := h2
    have hle : n * sz ≤ c * sz := Nat.mul_le_mul_right _ hnc
    exact ⟨hnc, .inr ⟨h1, g, n, cur, fr, rfl, hb, hg, hf, Nat.le_refl _, by omega, by omega, ht⟩⟩
theorem retDo_no {l : List PF} {x : PX} {w w' : World} (h : ¬ Can l x.add x.rem) (hb : Below w.heap.size w w') : RetDo l x w (.returned (.tuple #[.slice none 0 0, .int .i64 1])) w' :=
  ⟨[], 1, none, 0, rfl, doR_no h, own_nil _ _ _ _, hb⟩

theorem del_any (w : World) (base : Nat) (a : Option Addr) (c : Nat) (l : List PF) (k kk : Nat) (hown : Own w base 86 4 (.slice a l.length c) l.length (fcells l)) (hk : k < l.length) (hl : l.length ≤ 1000000) (hbase : base ≤ w.heap.size) (hn : (nums l).Nodup) (hkk : l[k].n = kk) :
    Calls Tryz.prog 53 #[.slice a l.length c, .int .i64 k, .int .i64 ((k : Int) + 1)] w fun e w' => e = .returned (.slice a (eraseN kk l).length c) ∧
      Own w' base 86 4 (.slice a (eraseN kk l).length c) (eraseN kk l).length (fcells (eraseN kk l)) ∧ Below base w w' := by
  obtain ⟨g, rfl, hg⟩ : ∃ g, a = some ⟨g, 0, none⟩ ∧ base ≤ g := by
    rcases hown with ⟨e, _⟩ | ⟨_, g, cap, cur, fr, e2, h3, _⟩
    · omega
    · simp only [Value.slice.injEq] at e2
      exact ⟨g, e2.1, h3⟩
  have e1 := erase_at hk hn hkk
  have e2 : (eraseN kk l).length = l.length - 1 := by rw [← e1, List.length_append, List.length_take, List.length_drop]; omega
  rw [e2, ← e1]
  refine (delete_any w base g c l k hown hk hl).mono ?_
  rintro e w' ⟨rfl, h1, h2⟩
  exact ⟨rfl, h1, (Below.refl base w).grown h2 hbase (fun j hj => by cases hj; exact hg)⟩

set_option maxRecDepth 100000 in
set_option maxHeartbeats 4000000 in
theorem do_any (w : World) (v vx : Value) (l : List PF) (x : PX) (hv : RdF w v l) (hx : RdX w vx x) (hl : l.length ≤ 100000) (ha : x.add.length ≤ 100000) (hr : x.rem.length ≤ 100000) (hlo : ∀ f ∈ l, f.ok) (hao : ∀ f ∈ x.add, f.ok) :
    Calls Tryz.prog 11 #[v, vx] w (RetDo l x w) := by
  obtain ⟨va, vr, rfl, hva, hvr⟩ := hx
  obtain ⟨W, hW⟩ : ∃ W, W = w.alloc (.cells #[va, vr, .int .u32 x.jo, .int .u32 x.nx, .int .u64 x.sq] 27) := ⟨_, rfl⟩
  have hbW : Below w.heap.size w W := by rw [hW]; exact alloc_bel _ _
  have hBlk : Blk W w.heap.size #[va, vr, .int .u32 x.jo, .int .u32 x.nx, .int .u64 x.sq] 27 := by rw [hW]; exact Blk.new _ _ _
  have HC : Hid (∀ w', Below W.heap.size W w' → w'.cell? ⟨w.heap.size, 0, none⟩ = some va ∧ w'.cell? ⟨w.heap.size, 1, none⟩ = some vr) := Lib.hid fun w' hb => ⟨Below.keeps hb _ _ _ (hBlk.cell 0), Below.keeps hb _ _ _ (hBlk.cell 1)⟩
  have HV : Hid (∀ w', Below W.heap.size W w' → RdF w' v l ∧ RdF w' va x.add ∧ RdU w' vr x.rem) := Lib.hid fun w' hb => ⟨(hv.below hbW).below hb, (hva.below hbW).below hb, (hvr.below hbW).below hb⟩
  have HF1 : Hid (∀ w', Below W.heap.size W w' → Calls Tryz.prog 48 #[v] w' fun e w'' => e = .returned (.bool (l.all mayF)) ∧ Below w'.heap.size w' w'') := Lib.hid fun w' hb => fine_any w' v l (HV.out w' hb).1
  have HF2 : Hid (∀ w', Below W.heap.size W w' → Calls Tryz.prog 48 #[va] w' fun e w'' => e = .returned (.bool (x.add.all mayF)) ∧ Below w'.heap.size w' w'') := Lib.hid fun w' hb => fine_any w' va x.add (HV.out w' hb).2.1
  have HT : Hid (∀ w', Below W.heap.size W w' → Calls Tryz.prog 49 #[v] w' fun e w'' => e = .returned (.bool (!decide (nums l).Nodup)) ∧ Below w'.heap.size w' w'') := Lib.hid fun w' hb => twice_any w' v l (HV.out w' hb).1 (by omega) hlo
  obtain ⟨B1, hB1⟩ : ∃ b, b = l.all mayF := ⟨_, rfl⟩
  obtain ⟨B2, hB2⟩ : ∃ b, b = x.add.all mayF := ⟨_, rfl⟩
  obtain ⟨B3, hB3⟩ : ∃ b, b = !decide (nums l).Nodup := ⟨_, rfl⟩
  rw [← hB1] at HF1
  rw [← hB2] at HF2
  rw [← hB3] at HT
  have HB1 := Lib.hid hB1
  have HB2 := Lib.hid hB2
  have HB3 := Lib.hid hB3
  have HLO := Lib.hid hlo
  have HAO := Lib.hid hao
  have HBW := Lib.hid hbW
  have HWB : Hid (∀ w', Below W.heap.size W w' → Below w.heap.size w w') := Lib.hid fun w' hb => HBW.out.trans (hb.mono HBW.out.size)
  clear hB1 hB2 hB3 hlo hao hbW hBlk hv hva hvr
  cases B1 with
  | false =>
    go_enter Tryz.func11, Tryz.ntmps11
    go_wp2_with fail
    rw [← hW]
    clear hW
    refine (HF1.out W (Below.refl _ _)).mono ?_
    rintro e w2 ⟨rfl, b2⟩
    have HB2' := Lib.hid b2
    clear b2
    go_wp2
    go_ret2
    exact retDo_no (can_1 HB1.out.symm) (HWB.out _ HB2'.out)
  | true =>
  cases B2 with
  | false =>
    go_enter Tryz.func11, Tryz.ntmps11
    go_wp2_with fail
    rw [← hW]
    clear hW
    refine (HF1.out W (Below.refl _ _)).mono ?_
    rintro e w2 ⟨rfl, b2⟩
    obtain ⟨c0, c1⟩ := HC.out w2 b2
    have HB2' := Lib.hid b2
    clear b2
    go_wp2_with fail
    refine (HF2.out w2 HB2'.out).mono ?_
    rintro e w3 ⟨rfl, b3⟩
    have HB3' := Lib.hid (HB2'.out.trans (b3.mono HB2'.out.size))
    clear b3
    go_wp2
    go_ret2
    exact retDo_no (can_2 HB2.out.symm) (HWB.out _ HB3'.out)
  | true =>
  cases B3 with
  | true =>
    go_enter Tryz.func11, Tryz.ntmps11
    go_wp2_with fail
    rw [← hW]
    clear hW
    refine (HF1.out W (Below.refl _ _)).mono ?_
    rintro e w2 ⟨rfl, b2⟩
    obtain ⟨c0, c1⟩ := HC.out w2 b2
    have HB2' := Lib.hid b2
    clear b2
    go_wp2_with fail
    refine (HF2.out w2 HB2'.out).mono ?_
    rintro e w3 ⟨rfl, b3⟩
    have HB3' := Lib.hid (HB2'.out.trans (b3.mono HB2'.out.size))
    clear b3
    go_wp2_with fail
    refine (HT.out w3 HB3'.out).mono ?_
    rintro e w4 ⟨rfl, b4⟩
    have HB4' := Lib.hid (HB3'.out.trans (b4.mono HB3'.out.size))
    clear b4
    go_wp2
    go_ret2
    exact retDo_no (can_3 HB3.out.symm) (HWB.out _ HB4'.out)
  | false =>
    have HN : Hid ((nums l).Nodup) := Lib.hid (by have := HB3.out; simpa using this.symm)
    have HCL : Hid (∀ w', Below W.heap.size W w' → Calls Tryz.prog 50 #[v] w' fun e w'' => ∃ a c, e = .returned (.slice a l.length c) ∧ Own w'' w'.heap.size 86 4 (.slice a l.length c) l.length (fcells l) ∧ Below w'.heap.size w' w'') :=
      Lib.hid fun w' hb => clone_any w' v l (HV.out w' hb).1 (by omega)
    go_enter Tryz.func11, Tryz.ntmps11
    go_wp2_with fail
    rw [← hW]
    clear hW
    refine (HF1.out W (Below.refl _ _)).mono ?_
    rintro e w2 ⟨rfl, b2⟩
    obtain ⟨c0, c1⟩ := HC.out w2 b2
    have HB2' := Lib.hid b2
    clear b2
    go_wp2_with fail
    refine (HF2.out w2 HB2'.out).mono ?_
    rintro e w3 ⟨rfl, b3⟩
    have HB3' := Lib.hid (HB2'.out.trans (b3.mono HB2'.out.size))
    clear b3
    go_wp2_with fail
    refine (HT.out w3 HB3'.out).mono ?_
    rintro e w4 ⟨rfl, b4⟩
    have HB4' := Lib.hid (HB3'.out.trans (b4.mono HB3'.out.size))
    clear b4 c0 c1
    go_wp2_with fail
    refine (HCL.out w4 HB4'.out).mono ?_
    rintro e w5 ⟨ca, cc, rfl, hown, b5⟩
    have HB5 := Lib.hid (HB4'.out.trans (b5.mono HB4'.out.size))
    have HO := Lib.hid (own_mono hown (Nat.le_trans HB4'.out.size (Nat.le_refl _)))
    clear b5 hown HCL HF1 HF2 HT HB2' HB3' HB4'
    obtain ⟨c0, c1⟩ := HC.out w5 HB5.out
    obtain ⟨ra, rc, rfl, hr1, hr2, _⟩ := (HV.out w5 HB5.out).2.2
    obtain ⟨n, hn⟩ : ∃ n, n = x.rem.length := ⟨_, rfl⟩
    have HNR := Lib.hid hn
    rw [← hn] at hr1 hr HV HC c1 ⊢
    clear hn
    go_upto_region 5 with (fail)
    go_loopw [0, 27] (fun lv i wr => ∃ (k : Nat) (m : List PF), k ≤ n ∧ i = .int .i64 k ∧ lv = .slice ca m.length cc ∧ Hid (Own wr W.heap.size 86 4 (.slice ca m.length cc) m.length (fcells m)) ∧ Hid (Rem l x.rem k m) ∧ Below W.heap.size W wr)
      (fun _ i _ => n - (intOf i).toNat)
    case atStart => exact ⟨0, l, Nat.zero_le _, rfl, rfl, HO, Lib.hid (Rem.start HN.out), HB5.out⟩
    case round =>
      obtain ⟨k, m, hk, rfl, rfl, hO, hR, bel⟩ := hrel
      have HB := Lib.hid bel
      clear bel
      by_cases hlt : k < n
      · have hkl : k < x.rem.length := by rw [← HNR.out]; exact hlt
        obtain ⟨a', c', he, _, _, hc⟩ := (HV.out wr HB.out).2.2
        simp only [Value.slice.injEq] at he
        obtain ⟨rfl, hnl, rfl⟩ := he
        clear hnl
        obtain ⟨b, off, rfl, c0⟩ := hc k hkl
        clear hc
        obtain ⟨kk, hkk⟩ : ∃ kk, kk = x.rem[k] := ⟨_, rfl⟩
        rw [← hkk] at c0
        have HKK := Lib.hid hkk
        have HFI : Hid (∀ (W' : World) (p : Nat), Below wr.heap.size wr W' → W'.cell? ⟨p, 0, none⟩ = some (.int .u32 kk) → Calls Tryz.prog 51 #[.slice ca m.length cc, .func (.func 52) #[] #[.pointer (some ⟨p, 0, none⟩)]] W' fun e w' => ∃ z : Int, e = .returned (.int .i64 z) ∧ Hid (Found (fun f => decide (f.n = kk)) m z) ∧ Below W'.heap.size W' w') := Lib.hid fun W' p hb hc =>
          (find_any W' _ m ((rdF_of (reads_of_own hO.out)).2.below hb) (fun f => decide (f.n = kk)) 52 #[.pointer (some ⟨p, 0, none⟩)] (fun W2 h2 f => do1_any W2 f p kk (Below.keeps h2 _ _ _ hc)) (enters_of Tryz.func52 (by kernel_rfl) rfl)).mono fun e w' h => h
        clear hkk
        go_wp2_with fail
        refine (HFI.out _ _ (alloc_bel _ _) (World.cell?_alloc_at _ _ _ _ rfl)).mono ?_
        rintro e w6 ⟨z, rfl, hz, b6⟩
        have HB6 : Hid (Below wr.heap.size wr w6) := Lib.hid ((alloc_bel _ _).trans (b6.mono (alloc_bel wr _).size))
        have HB6W := Lib.hid (HB.out.trans (HB6.out.mono HB.out.size))
        clear b6 HFI c0
        rcases hz.out with ⟨rfl, hall⟩ | ⟨zn, rfl, hzl, hp, _⟩
        · have HALL := Lib.hid hall
          clear hall hz
          go_wp2
          go_ret2
          refine retDo_no (hR.out.lost hkl ?_ _) (HWB.out _ HB6W.out)
          rw [← HKK.out]
          intro hm
          obtain ⟨f, hf, e⟩ := List.mem_map.1 hm
          have := HALL.out f hf
          simp [e] at this
        · have hzk : m[zn].n = kk := by simpa using hp
          have hO6 := own_below hO.out HB6.out
          have hml : m.length ≤ 1000000 := by have := hR.out.2.2.1; omega
          have HD := Lib.hid (del_any w6 W.heap.size ca cc m zn kk hO6 hzl hml HB6W.out.size hR.out.2.1 hzk)
          have HR2 : Hid (Rem l x.rem (k + 1) (eraseN kk m)) := Lib.hid (by
            have := hR.out.step hkl (by rw [← HKK.out, ← hzk]; exact nums_mem (List.getElem_mem hzl))
            rwa [← HKK.out] at this)
          clear hp hzk hO6 hz
          go_wp2_with fail
          refine HD.out.mono ?_
          rintro e w7 ⟨rfl, hO7, b7⟩
          have HO7 := Lib.hid hO7
          have HB7 := Lib.hid (HB6W.out.trans b7)
          clear hO7 b7 HD
          go_wp2_with fail
          go_roundw
          case rel => exact ⟨k + 1, eraseN kk m, by omega, by go_num, rfl, HO7, HR2, HB7.out⟩
          case measure => simp [intOf]; omega
      · have hkn : k = n := by omega
        subst hkn
        have HR := hR
        rw [HNR.out] at HR
        have hml : m.length ≤ 100000 := by have := hR.out.2.2.1; omega
        obtain ⟨c0, _⟩ := HC.out wr HB.out
        obtain ⟨i0, hi, hz, hz1, hz2⟩ := info_parts info_file
        have HRA : Hid (Reads wr 4 va x.add.length (fcells x.add)) := Lib.hid (rdF_reads (HV.out wr HB.out).2.1)
        obtain ⟨r, hrl⟩ : ∃ r, r = (m ++ x.add).length := ⟨_, rfl⟩
        have hrl2 : m.length + x.add.length = r := by rw [hrl, List.length_append]
        have HRL := Lib.hid hrl
        have HOK : Hid (∀ f ∈ m ++ x.add, f.ok) := Lib.hid fun f hf => (List.mem_append.1 hf).elim (fun h => HLO.out f (hR.out.2.2.2 f h)) (HAO.out f)
        clear hrl
        go_wp2_with (at_builtin; go_loud (refine wp_app_el2 rfl _ _ rfl Tryz.underlying22 hi hz hz1 hz2 rfl (by omega) W.heap.size m.length x.add.length (.slice ca m.length cc) va (fcells m) (fcells x.add) (fcells (m ++ x.add)) r rfl rfl hO.out HRA.out (one_fcells _) hrl2 (by rw [fcells_app]) (by omega) (by omega) HB.out.size ?_); intro ua uc w6 HX6 HG6)
        have HB6 := Lib.hid (HB.out.trans HG6.out.below)
        obtain ⟨B4, hB4⟩ : ∃ b, b = !decide (nums (m ++ x.add)).Nodup := ⟨_, rfl⟩
        have HB4 := Lib.hid hB4
        have HTW := Lib.hid (twice_any w6 _ (m ++ x.add) (rdF_of (reads_of_own HX6.out)).2 (by rw [← HRL.out]; omega) HOK.out)
        rw [← hB4] at HTW
        clear hB4 HG6 c0
        refine HTW.out.mono ?_
        rintro e w7 ⟨rfl, b7⟩
        have HB7 := Lib.hid (HB6.out.trans (b7.mono HB6.out.size))
        have HX7 := Lib.hid (own_below HX6.out b7)
        clear b7 HTW HX6
        cases B4 with
        | true =>
          go_wp2
          go_ret2
          exact retDo_no (can_4 HR.out HB4.out.symm) (HWB.out _ HB7.out)
        | false =>
          have HS := Lib.hid (sort_any w7 W.heap.size ua r uc (m ++ x.add) HRL.out HX7.out HB7.out.size (by rw [← HRL.out]; omega))
          have HCL := own_clip HX7.out
          have hruc := HCL.1
          clear HCL
          go_wp2_with fail
          refine HS.out.mono ?_
          rintro e w8 ⟨rfl, rr, hp, hs, ho, b8⟩
          have HP := Lib.hid hp
          have HSS := Lib.hid hs
          have HO8 := Lib.hid (own_clip ho).2
          have HB8 := Lib.hid (HB7.out.trans b8)
          clear hp hs ho b8 HS
          go_wp2_with (go_at_call 59; refine (clip_any _ ua r uc hruc).mono ?_; rintro e w9 ⟨rfl, rfl⟩)
          go_ret2
          have er : rr.length = r := by rw [HP.out.length_eq, ← HRL.out]
          exact ⟨rr, 0, ua, r, by rw [er]; rfl, doR_yes HB1.out.symm HB2.out.symm HB3.out.symm HR.out HB4.out.symm HP.out HSS.out, by rw [er]; exact own_mono HO8.out HBW.out.size, HWB.out _ HB8.out⟩
end Go.Proofs.YtimfcinkjjaigaaGreatDoor

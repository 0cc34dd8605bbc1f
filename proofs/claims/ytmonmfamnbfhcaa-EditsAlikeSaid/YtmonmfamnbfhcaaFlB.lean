/- slices.Clone, slices.Delete (of one), slices.Clip at files. The condition: a slice of the call's own, or one that reads as files. -/
import Derived.Test.YtmonmfamnbfhcaaFlA
import Derived.Test.YtmonmfamnbfhcaaApart
import Derived.Lib.SliceRun
import Derived.Maps.AppendAt
import Derived.Deep.Cut
namespace Go.Proofs.Ytmonmfamnbfhcaa
open Go.RowKit Go.Sort

theorem run_fits {P : Program} (w : World) (t ty e : TypeId) (i : TypeInfo) (sz : Nat) (ht : P.underlying t = some (.slice e)) (hi : P.info? e = some i) (hs : i.size = sz) (hsz : 0 < sz) (g n c m : Nat) (xs ys : List Value) (v2 : Value)
    (h1 : xs.length = n * sz) (cur : Array Value) (fr : Nat × Nat) (hg : w.heap[g]? = some (.cells cur e fr)) (hf : ∀ i, i < cur.size → ¬ (fr.1 ≤ i ∧ i < fr.2)) (hcs : c * sz ≤ cur.size) (htk : cur.toList.take (n * sz) = xs)
    (hrd : Reads w sz v2 m ys) (hone : ∀ u ∈ ys, u.oneCell' = true) (hroom : n + m ≤ c) :
    ∃ w' cur', (Builtin.append_ #[t, t] ty #[.slice (some ⟨g, 0, none⟩) n c, v2]).run P w = .ok (.slice (some ⟨g, 0, none⟩) (n + m) c) w' ∧ w.grownBy w' (some g) ∧
      w'.heap[g]? = some (.cells cur' e fr) ∧ cur'.size = cur.size ∧ cur'.toList.take ((n + m) * sz) = xs ++ ys ∧ w'.heap.size = w.heap.size := by
  obtain ⟨a2, c2, rfl, hl, hmc, hcm, hcells⟩ := hrd
  have hrc := reads_cells (w := w) (sz := sz) ⟨a2, c2, rfl, hl, hmc, hcm, hcells⟩
  subst hs
  have hle : (n + m) * i.size ≤ c * i.size := Nat.mul_le_mul_right _ hroom
  have hadd : (n + m) * i.size = n * i.size + m * i.size := Nat.add_mul _ _ _
  cases a2 with
  | some ad =>
    have hr := run_append_fr (P := P) w t ty e i ht hi g n c cur fr hg hf ad m c2 ys hl (hrc.2 ad rfl) hone hroom (by omega)
    refine ⟨_, _, hr, ⟨rfl, rfl, rfl, by simp [World.setRow], fun k hk hne => ?_⟩, setRow_heap w g cur _ _ fr hg, ?_, ?_, by simp [World.setRow]⟩
    · have hgk : g ≠ k := fun e => hne (by rw [e])
      simp [World.setRow, Array.getElem?_modify, hgk]
    · simp; omega
    · rw [htk]
      have : (xs ++ ys).length = (n + m) * i.size := by simp [h1, hl, hadd]
      rw [← this, List.toList_toArray]
      exact List.take_left
  | none =>
    have hm0 : m = 0 := by
      rcases Nat.mul_eq_zero.1 (hrc.1 rfl) with h | h
      · exact h
      · omega
    subst hm0
    have hy : ys = [] := List.eq_nil_of_length_eq_zero (by simpa using hl)
    subst hy
    have hnc : n ≤ c := by omega
    have hrun : (Builtin.append_ #[t, t] ty #[.slice (some ⟨g, 0, none⟩) n c, .slice none 0 c2]).run P w = .ok (.slice (some ⟨g, 0, none⟩) n c) w := by
      simp [Builtin.append_, run_underlying ht, sizeOf, typeInfo, hi, Builtin.lenOf, Builtin.firstCells, hnc, storeCells]
    exact ⟨w, cur, hrun, ⟨rfl, rfl, rfl, Nat.le_refl _, fun _ _ _ => rfl⟩, hg, rfl, by simpa using htk, rfl⟩

/-- append within the room of a slice of the call's own, as a step of a region -/
theorem step_fits {ops : Array Oper} {o : Oper} {a : Act} {w : World} {K : Act → World → Prop} {Q : Exit → Act → World → Prop} {E : Prop} (hgd : o.guard = none) (s x : Operand) {t e : TypeId} {i : TypeInfo} {sz : Nat}
    (ho : o.op = .call { callee := .builtin .append, args := #[s, x], argTypes := #[t, t] }) (ht : Try.prog.underlying t = some (.slice e)) (hi : Try.prog.info? e = some i) (hs : i.size = sz) (hsz : 0 < sz)
    (g n c m : Nat) (xs ys : List Value) (v2 : Value) (hs' : a.eval s = .slice (some ⟨g, 0, none⟩) n c) (hx : a.eval x = v2)
    (h1 : xs.length = n * sz) (cur : Array Value) (fr : Nat × Nat) (hg : w.heap[g]? = some (.cells cur e fr)) (hf : ∀ i, i < cur.size → ¬ (fr.1 ≤ i ∧ i < fr.2)) (hcs : c * sz ≤ cur.size) (htk : cur.toList.take (n * sz) = xs)
    (hrd : Reads w sz v2 m ys) (hone : ∀ u ∈ ys, u.oneCell' = true) (hroom : n + m ≤ c)
    (h : ∀ w' cur', Hid (w.grownBy w' (some g) ∧ w'.heap[g]? = some (.cells cur' e fr) ∧ cur'.size = cur.size ∧ cur'.toList.take ((n + m) * sz) = xs ++ ys ∧ w'.heap.size = w.heap.size) → K (a.put o.dst (.slice (some ⟨g, 0, none⟩) (n + m) c)) w') :
    if Region.wanted o (yielded ops a.tmps) = true then Oper.wp Try.prog o a w K Q else E := by
  have hw : Region.wanted o (yielded ops a.tmps) = true := by simp [Region.wanted, hgd]
  rw [if_pos hw]
  obtain ⟨w', cur', hr, hrest⟩ := run_fits (P := Try.prog) w t o.type e i sz ht hi hs hsz g n c m xs ys v2 h1 cur fr hg hf hcs htk hrd hone hroom
  unfold Oper.wp execOp
  simp only [ho, resolve, invoke, builtin, Sem.run_bind, Sem.run_pure, Result.andThen_ok, List.map_toArray, List.map_cons, List.map_nil, hs', hx, hr]
  exact h w' cur' hrest

/-- clear of one element of whatever size -/
theorem run_clear_one {P : Program} (w : World) (t e ty : TypeId) (z : Value) (cs : List Value) (ht : P.underlying t = some (.slice e)) (hv : ∀ w, (zeroValue e).run P w = .ok z w) (hz : z.cells = cs.toArray) (h1 : ∀ u ∈ cs, u.oneCell' = true) (b o c : Nat)
    (cur : Array Value) (te : TypeId) (fr : Nat × Nat) (hg : w.heap[b]? = some (.cells cur te fr)) (hf : ∀ i, i < cur.size → ¬ (fr.1 ≤ i ∧ i < fr.2)) (hc : o + cs.length ≤ cur.size) :
    (Builtin.clear_ #[t] ty #[.slice (some ⟨b, o, none⟩) 1 c]).run P w = .ok (.tuple #[]) (w.setRow b (cur.toList.take o ++ cs ++ cur.toList.drop (o + cs.length)).toArray) := by
  have hzc : (Builtin.zeroCells z.cells 1).toList = cs := by
    rw [hz]
    simp [Builtin.zeroCells]
    apply List.ext_getElem
    · simp
    · intro i h1 h2
      have : i < cs.length := h2
      simp [Nat.mod_eq_of_lt this, this]
  have hst := run_storeCells_fr (P := P) b te fr cs o 0 cur w hg hf (by simpa using hc) h1
  simp only [Nat.add_zero] at hst
  simp [Builtin.clear_, run_underlying ht, hv, hzc, hst]
set_option maxRecDepth 100000 in
theorem zero_file (w : World) : (zeroValue 33).run Try.prog w = .ok (.agg #[.int .u32 0, .int .i64 0, .string .empty, .string .empty]) w := by kernel_rfl

set_option maxRecDepth 100000 in
set_option maxHeartbeats 1000000 in
theorem clone_any (w : World) (v : Value) (l : List PF) (hv : RdF w v l) (hl : l.length ≤ 1000000) :
    Calls Try.prog 43 #[v] w fun e w' => ∃ a c, e = .returned (.slice a l.length c) ∧ Own w' w.heap.size 33 4 (.slice a l.length c) l.length (fcells l) ∧ Below w.heap.size w w' := by
  obtain ⟨a, cap, rfl, h1, h2, h3⟩ := id hv
  obtain ⟨i0, hi, hz, hz1, hz2⟩ := info_parts info_file
  have HV := Lib.hid hv
  clear h3 hv
  cases a with
  | none =>
    have hn : l = [] := List.eq_nil_of_length_eq_zero (by
      rcases Nat.eq_zero_or_pos l.length with h | h
      · exact h
      · obtain ⟨a', c', he, _, _, hc⟩ := HV.out
        simp only [Value.slice.injEq] at he
        obtain ⟨b, off, e, _⟩ := hc 0 h
        rw [e] at he
        simp at he)
    subst hn
    have heq := fun w' => Lib.run_eql_slice_nil (P := Try.prog) w' 22 33 none ([] : List PF).length cap 0 0 Try.underlying22
    simp only [Option.isNone_none, List.length_nil] at heq
    go_enter Try.func43, Try.ntmps43
    go_wp2
    go_ret
    exact ⟨none, 0, rfl, own_nil _ _ _ _, Below.refl _ _⟩
  | some ad =>
    have heq := fun w' => Lib.run_eql_slice_nil (P := Try.prog) w' 22 33 (some ad) l.length cap 0 0 Try.underlying22
    simp only [Option.isNone_some] at heq
    obtain ⟨n, hn⟩ : ∃ n, n = l.length := ⟨_, rfl⟩
    rw [← hn] at heq h1 hl HV ⊢
    have HN := Lib.hid hn
    clear hn
    have HO : Hid (∀ w1 : World, Own w1 w.heap.size 33 4 (.slice (some ⟨w.heap.size, 0, none⟩) 0 0) 0 []) := Lib.hid fun w1 => .inl ⟨rfl, rfl, _, rfl⟩
    have HR : Hid (∀ w1, Below w.heap.size w w1 → Reads w1 4 (.slice (some ad) n cap) n (fcells l)) := Lib.hid fun w1 hb => by have := rdF_reads (HV.out.below hb); rwa [← HN.out] at this
    have HAL : Hid (∀ o, Below w.heap.size w (w.alloc o)) := Lib.hid fun o => alloc_bel w o
    clear HV
    go_enter Try.func43, Try.ntmps43
    go_wp2_with (at_builtin; go_loud (refine wp_app_el2 rfl _ _ rfl Try.underlying22 hi hz hz1 hz2 rfl (by omega) w.heap.size 0 n (.slice (some ⟨w.heap.size, 0, none⟩) 0 0) (.slice (some ad) n cap) [] (fcells l) (fcells l) n rfl rfl (HO.out _) (HR.out _ (HAL.out _)) (one_fcells _) (by omega) rfl (by omega) (by omega) (by simp) ?_); intro ua uc w2 HX2 HG2)
    go_ret
    exact ⟨ua, uc, rfl, HX2.out, (HAL.out _).trans HG2.out.below⟩

theorem row_put (C : List Value) (o : Nat) (cs : List Value) (h : o + cs.length ≤ C.length) : (C.take o ++ (cs ++ C.drop (o + cs.length))).toArray.size = C.length ∧ (C.take o ++ (cs ++ C.drop (o + cs.length))).toArray.toList.take o = C.take o := by
  constructor
  · simp; omega
  · rw [List.toList_toArray, List.take_append_of_le_length (by rw [List.length_take]; omega), List.take_take, Nat.min_self]
set_option maxRecDepth 100000 in
set_option maxHeartbeats 2000000 in
theorem delete_any (w : World) (base g c : Nat) (l : List PF) (k : Nat) (hown : Own w base 33 4 (.slice (some ⟨g, 0, none⟩) l.length c) l.length (fcells l)) (hk : k < l.length) (hl : l.length ≤ 1000000) :
    Calls Try.prog 46 #[.slice (some ⟨g, 0, none⟩) l.length c, .int .i64 k, .int .i64 ((k : Int) + 1)] w fun e w' => e = .returned (.slice (some ⟨g, 0, none⟩) (l.length - 1) c) ∧
      Own w' base 33 4 (.slice (some ⟨g, 0, none⟩) (l.length - 1) c) (l.length - 1) (fcells (l.take k ++ l.drop (k + 1))) ∧ w.grownBy w' (some g) := by
  obtain ⟨i0, hi, hz, hz1, hz2⟩ := info_parts info_file
  obtain ⟨h1, hb, hnc, hm, cur, fr, hg, hf, hcs, ht⟩ := own_get hown (by omega)
  obtain ⟨a', c', hcut, _, hcut2, hrd⟩ := reads_cut Try.underlying22 hi hz1 (by omega) (reads_of_own hown) (k + 1) l.length (by omega) (Nat.le_refl _)
  have s1 := hcut2 rfl
  have e1 : ((fcells l).take (l.length * 4)).drop ((k + 1) * 4) = fcells (l.drop (k + 1)) := by
    rw [List.take_of_length_le (by rw [fcells_length]; exact Nat.le_refl _), fcells_drop l (k + 1) (by omega)]
  rw [e1] at hrd
  have e2 : (fcells l).take (k * 4) = fcells (l.take k) := fcells_take l k (by omega)
  obtain ⟨n, hn⟩ : ∃ n, n = l.length := ⟨_, rfl⟩
  rw [← hn] at h1 hnc ht hrd s1 hk hl ⊢
  have hs1 := fun w' => s1 w' .i64
  rw [show n - (k + 1) = n - 1 - k from by omega] at hrd hs1
  clear s1
  have hki : ((k + 1 : Nat) : Int) = (k : Int) + 1 := by omega
  simp only [hki] at hs1
  obtain ⟨m, hmm⟩ : ∃ m, n = m + 1 := ⟨n - 1, by omega⟩
  subst hmm
  simp only [Nat.add_sub_cancel] at hrd hs1 ⊢
  have HRD : Hid (Reads w.drew 4 (.slice a' (m - k) c') (m - k) (fcells (l.drop (k + 1)))) := Lib.hid (hrd.later (Below.drew (Below.refl _ _)))
  have hlen : (fcells (l.take k)).length = k * 4 := by rw [fcells_length, List.length_take]; omega
  have HF : Hid ((fcells (l.take k)).length = k * 4 ∧ base ≤ g ∧ c ≤ maxLen ∧ w.drew.heap[g]? = some (.cells cur 33 fr) ∧ (∀ i, i < cur.size → ¬ (fr.1 ≤ i ∧ i < fr.2)) ∧ c * 4 ≤ cur.size ∧ cur.toList.take (k * 4) = fcells (l.take k)) :=
    Lib.hid ⟨hlen, hb, hm, hg, hf, hcs, by rw [← e2, ← ht, List.take_take, Nat.min_eq_left (by omega)]⟩
  have hck : k ≤ c := by omega
  have hck1 : k + 1 ≤ c := by omega
  have hkm : k ≤ m := by omega
  have hcm : c ≤ 9223372036854775807 := by unfold maxLen at hm; omega
  have HSZ : Hid (c * 4 ≤ cur.size ∧ (∀ i, i < cur.size → ¬ (fr.1 ≤ i ∧ i < fr.2))) := Lib.hid ⟨hcs, hf⟩
  have HN := Lib.hid hn
  clear hown hcut hcut2 hrd h1 hm hf hcs ht e1 e2 hn hlen hg hb
  go_enter Try.func46, Try.ntmps46
  go_upto_region 5 with (fail)
  refine wp_region_held_drew (S := fun _ => True) (by kernel_rfl) (trivial) (fun hHeld => ?_)
  refine wpAnyH_take (i := 0) (v := ?vq1) (by simp only [List.getElem?_toArray]; rfl) (by kernel_rfl) (by kernel_rfl) (by kernel_rfl) (by exact fun _ _ _ h => h) (Or.inl ⟨by rfl, ?yq1⟩) (by assumption) ?rq1
  case yq1 => (intro w hSw; (try dsimp only at hSw); go_simp; try with_reducible rfl)
  try simp only [Act.put, List.setIfInBounds_toArray, List.set_cons_zero, List.set_cons_succ]
  refine wpAnyH_take (i := 1) (v := ?vq2) (by simp only [List.getElem?_toArray]; rfl) (by kernel_rfl) (by kernel_rfl) (by kernel_rfl) (by exact fun _ _ _ h => h) (Or.inl ⟨by rfl, ?yq2⟩) (by assumption) ?rq2
  case yq2 => (intro w hSw; (try dsimp only at hSw); go_simp; try with_reducible rfl)
  try simp only [Act.put, List.setIfInBounds_toArray, List.set_cons_zero, List.set_cons_succ]
  refine wpAnyH_take (i := 2) (v := ?vq3) (by simp only [List.getElem?_toArray]; rfl) (by kernel_rfl) (by kernel_rfl) (by kernel_rfl) (by exact fun _ _ _ h => h) (Or.inl ⟨by rfl, ?yq3⟩) (by assumption) ?rq3
  case yq3 => (intro w hSw; (try dsimp only at hSw); go_simp; try with_reducible rfl)
  try simp only [Act.put, List.setIfInBounds_toArray, List.set_cons_zero, List.set_cons_succ]
  refine wpAnyH_take (i := 3) (v := ?vq4) (by simp only [List.getElem?_toArray]; rfl) (by kernel_rfl) (by kernel_rfl) (by kernel_rfl) (by exact fun _ _ _ h => h) (Or.inl ⟨by rfl, ?yq4⟩) (by assumption) ?rq4
  case yq4 => (intro w hSw; (try dsimp only at hSw); go_simp; try with_reducible rfl)
  try simp only [Act.put, List.setIfInBounds_toArray, List.set_cons_zero, List.set_cons_succ]
  refine wpAnyH_take (i := 4) (v := ?vq5) (by simp only [List.getElem?_toArray]; rfl) (by kernel_rfl) (by kernel_rfl) (by kernel_rfl) (by exact fun _ _ _ h => h) (Or.inl ⟨by rfl, ?yq5⟩) (by assumption) ?rq5
  case yq5 => (intro w hSw; (try dsimp only at hSw); go_simp; try with_reducible rfl)
  try simp only [Act.put, List.setIfInBounds_toArray, List.set_cons_zero, List.set_cons_succ]
  refine wpAnyH_take (i := 5) (v := ?vq6) (by simp only [List.getElem?_toArray]; rfl) (by kernel_rfl) (by kernel_rfl) (by kernel_rfl) (by exact fun _ _ _ h => h) (Or.inl ⟨by rfl, ?yq6⟩) (by assumption) ?rq6
  case yq6 => (intro w hSw; (try dsimp only at hSw); go_simp; try with_reducible rfl)
  try simp only [Act.put, List.setIfInBounds_toArray, List.set_cons_zero, List.set_cons_succ]
  refine wpAnyH_ready (rs := [6]) (by kernel_rfl) (by simp) ?_
  refine AllReadyH.cons (by simp only [List.getElem?_toArray]; rfl) (fun K hK => ?_) AllReadyH.nil
  refine step_fits rfl _ _ rfl Try.underlying22 hi hz1 (by omega) g k c (m - k) (fcells (l.take k)) (fcells (l.drop (k + 1))) (.slice a' (m - k) c') rfl rfl HF.out.1 cur fr HF.out.2.2.2.1 HF.out.2.2.2.2.1 HF.out.2.2.2.2.2.1 HF.out.2.2.2.2.2.2 HRD.out (one_fcells _) (by omega) ?_
  intro w2 cur2 HW2
  refine hK.out _ _ trivial (fun hHeld => ?_)
  clear hK K
  try simp only [Act.put, List.setIfInBounds_toArray]
  refine wpAnyH_take (i := 7) (v := ?vq7) (by simp only [List.getElem?_toArray]; rfl) (by kernel_rfl) (by kernel_rfl) (by kernel_rfl) (by exact fun _ _ _ h => h) (Or.inl ⟨by rfl, ?yq7⟩) (by assumption) ?rq7
  case yq7 => (intro w hSw; (try dsimp only at hSw); go_simp; try with_reducible rfl)
  try simp only [Act.put, List.setIfInBounds_toArray, List.set_cons_zero, List.set_cons_succ]
  refine wpAnyH_done (by kernel_rfl) ?_ _
  rw [show k + (m - k) = m from by omega]
  have hcl := fun ty => run_clear_one (P := Try.prog) w2 22 33 ty _ [.int .u32 0, .int .i64 0, .string .empty, .string .empty] Try.underlying22 zero_file rfl (by decide) g (m * 4) (c - m) cur2 33 fr HW2.out.2.1 (by have := HSZ.out.2; have e := HW2.out.2.2.1; rw [e]; exact this) (by have := HSZ.out.1; have e := HW2.out.2.2.1; rw [e]; simp only [List.length_cons, List.length_nil]; omega)
  have hmc : m ≤ c := by omega
  have hmc1 : m + 1 ≤ c := by omega
  go_wp2
  go_ret
  have e3 : fcells (l.take k) ++ fcells (l.drop (k + 1)) = fcells (l.take k ++ l.drop (k + 1)) := (fcells_app _ _).symm
  obtain ⟨hgr, hg2, hsz2, ht2, hh2⟩ := HW2.out
  rw [e3, show k + (m - k) = m from by omega] at ht2
  obtain ⟨r1, r2⟩ := row_put cur2.toList (m * 4) [.int .u32 0, .int .i64 0, .string .empty, .string .empty] (by have := HSZ.out.1; simp only [Array.length_toList, List.length_cons, List.length_nil]; omega)
  have hszz := HSZ.out.1
  refine ⟨rfl, .inr ⟨?_, g, c, _, fr, rfl, HF.out.2.1, setRow_heap w2 g cur2 _ _ fr hg2, fun i hi => HSZ.out.2 i ?_, by omega, HF.out.2.2.1, Nat.le_trans hszz ?_, ?_⟩, ?_⟩
  · rw [fcells_length, List.length_append, List.length_take, List.length_drop, ← HN.out]; omega
  · have hi2 := Nat.lt_of_lt_of_eq hi r1
    rw [Array.length_toList, hsz2] at hi2
    exact hi2
  · rw [← hsz2]
    exact Nat.le_of_eq r1.symm
  · exact r2.trans ht2
  · refine World.grownBy.trans (b := w.drew) ⟨rfl, rfl, rfl, Nat.le_refl _, fun _ _ _ => rfl⟩ (World.grownBy.trans hgr ⟨rfl, rfl, rfl, by simp [World.setRow], fun j hj hne => ?_⟩)
    have hgk : g ≠ j := fun e => hne (by rw [e])
    simp [World.setRow, Array.getElem?_modify, hgk]

set_option maxRecDepth 100000 in
theorem clip_any (w : World) (a : Option Addr) (n c : Nat) (h : n ≤ c) : Calls Try.prog 52 #[.slice a n c] w fun e w' => e = .returned (.slice a n n) ∧ w = w' := by
  go_enter Try.func52, Try.ntmps52
  go_wp2
  go_ret
  exact ⟨rfl, rfl⟩
end Go.Proofs.Ytmonmfamnbfhcaa

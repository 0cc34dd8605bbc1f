/- slices.SortFunc at files, by edits.Do's closure. The condition: a slice of the call's own. -/
import Derived.Test.YtmonmfamnbfhcaaFlB
import Derived.Test.YtmonmfamnbfhcaaLaidSort
import Derived.Shelf.SlSortCmp.WholeK
namespace Go.Proofs.Ytmonmfamnbfhcaa
open Go.Shelf Go.RowKit Go.Lib
open Go.Sort hiding Below

theorem ltOf_F (x y : PF) : ltOf cfF x y = decide (ltF x y) := by
  unfold ltOf cfF orI cmpI cmpN ltF
  congr 1
  by_cases h1 : x.lv < y.lv
  · simp [h1]
  · by_cases h2 : y.lv < x.lv
    · simp [h1, h2]; omega
    · have : x.lv = y.lv := by omega
      by_cases h3 : x.n < y.n
      · simp [this, h3]
      · by_cases h4 : y.n < x.n <;> simp [this, h3, h4]
theorem swoF : SWO (ltOf cfF) where
  irrefl x := by rw [ltOf_F]; simp [ltF]
  trans x y z h1 h2 := by
    rw [ltOf_F, decide_eq_true_eq] at *
    unfold ltF at *
    omega
  ntrans x y z h1 h2 := by
    rw [ltOf_F, decide_eq_false_iff_not] at *
    unfold ltF at *
    omega

theorem enter_do2 : ∀ args w, (callFunc 48 args).run Try.prog w = .ok (.enter 48 args) w := enters_of Try.func48 (by kernel_rfl) rfl
theorem sortedIn_pw {d : Array PF} {n : Nat} (hn : d.size = n) (h : SortedIn (ltOf cfF) 0 n d) : d.toList.Pairwise (fun x y => ¬ ltF y x) := by
  rw [List.pairwise_iff_getElem]
  intro i j hi hj hij
  have h1 := h i j (Nat.zero_le _) hij (by rw [← hn]; simpa using hj)
  rw [ltOf_F, decide_eq_false_iff_not, getElem!_pos d j (by simpa using hj), getElem!_pos d i (by simpa using hi)] at h1
  simpa using h1
theorem permIn_perm {l : List PF} {d : Array PF} {n : Nat} (hn : n = l.length) (h : PermIn 0 n l.toArray d) : d.toList.Perm l := by
  obtain ⟨h1, _, h2⟩ := h
  have e1 : d.extract 0 n = d := Array.extract_eq_self_of_le (by rw [h1, hn]; simp)
  have e2 : l.toArray.extract 0 n = l.toArray := Array.extract_eq_self_of_le (by rw [hn]; simp)
  rw [e1, e2] at h2
  simpa using h2
theorem one_cells (x : PF) : ∀ v ∈ PF.cells x, v.oneCell' = true := by
  intro v hv
  simp only [PF.cells, List.mem_cons, List.not_mem_nil, or_false] at hv
  rcases hv with rfl | rfl | rfl | rfl <;> rfl
set_option maxRecDepth 100000 in
set_option maxHeartbeats 2000000 in
theorem sort_any (w : World) (base : Nat) (a : Option Addr) (n c : Nat) (l : List PF) (hn : n = l.length) (hown : Own w base 33 4 (.slice a n c) n (fcells l)) (hbase : base ≤ w.heap.size) (hl : l.length ≤ 1000000) :
    Calls Try.prog 47 #[.slice a n c, .func (.func 48) #[] #[]] w fun e w' => e = .returned (.tuple #[]) ∧
      ∃ r, r.Perm l ∧ r.Pairwise (fun x y => ¬ ltF y x) ∧ Own w' base 33 4 (.slice a n c) n (fcells r) ∧ Below base w w' := by
  rcases Nat.eq_zero_or_pos n with h0 | h0
  · have hl0 : l = [] := List.eq_nil_of_length_eq_zero (by omega)
    subst h0
    subst hl0
    have hcon := AnyF.slices_SortFunc_none sortF a c (.func (.func 48) #[] #[]) w
    change Calls Try.prog 47 _ _ _ at hcon
    refine hcon.mono ?_
    rintro e w' ⟨rfl, rfl⟩
    exact ⟨rfl, [], .refl _, List.Pairwise.nil, hown, Below.refl _ _⟩
  · obtain ⟨g, rfl⟩ : ∃ g, a = some ⟨g, 0, none⟩ := by
      rcases hown with ⟨e, _⟩ | ⟨_, g, cap, cur, fr, e2, _⟩
      · omega
      · simp only [Value.slice.injEq] at e2
        exact ⟨g, e2.1⟩
    have hH : HoldsK PF.cells 4 w g 0 l.toArray := by
      unfold HoldsK
      rw [flatK_fcells]
      exact holds_own hown h0
    obtain ⟨h1, hb, hnc, hm, cur, fr, hg, _⟩ := own_get hown h0
    have hsz : l.toArray.size = n := by simp [hn]
    have hcon := AnyQ.slices_SortFunc sortF 4 Try.isAgg33 Try.sizeOf33 PF.cells (fun _ => rfl) one_cells cfF swoF 48 #[] g 0 c l.toArray w enter_do2 (fun _ _ _ _ x y => do2_any x y _) hH (Array.getElem?_eq_some_iff.1 hg).1 (by rw [hsz]; omega)
    change Calls Try.prog 47 _ _ _ at hcon
    rw [hsz] at hcon
    refine hcon.mono ?_
    rintro e w' ⟨rfl, d, m, os, hp, hs, rfl⟩
    have hdl : d.size = n := by rw [hp.1, hsz]
    refine ⟨rfl, d.toList, permIn_perm hn hp, sortedIn_pw hdl hs, ?_, ?_⟩
    · show Own (grow (putRow id (Sort.ahead w m) g 0 (flatK PF.cells 4 d)) os) base 33 4 _ n _
      rw [flatK_of]
      exact own_putK hown h0 (by rw [fcells_length]; simp [hdl])
    · show Below base w (grow (putRow id (Sort.ahead w m) g 0 (flatK PF.cells 4 d)) os)
      exact (Below.refl base w).grown (grownBy_sortedI _) hbase (fun j hj => by cases hj; exact hb)
end Go.Proofs.Ytmonmfamnbfhcaa

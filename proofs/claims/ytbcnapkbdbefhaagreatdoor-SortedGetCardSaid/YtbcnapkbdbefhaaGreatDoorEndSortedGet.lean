/- The statement SortedGet, out of its walk: for every input the call returns true and leaves its arguments as they were. No condition. -/
import Derived.Test.YtbcnapkbdbefhaaGreatDoorLawSortedGet
import Derived.Test.YtbcnapkbdbefhaaGreatDoorCards
import Derived.Test.YtbcnapkbdbefhaaGreatDoorTie
import Derived.LaidMore
import Derived.Stop.Joined
import Derived.SevenTiedAt
import Derived.Test.YtbcnapkbdbefhaaGreatDoorRowL
namespace Go.Proofs.YtbcnapkbdbefhaaGreatDoor
open Go.ChangeShapes Go.WideShapes Go.ChangeAt Go.RowKit
open Go.ChangeMaps (open_string shut_string)

set_option maxRecDepth 100000 in
/-- the heap that the door's own run leaves meets the condition -/
theorem sortedGet_door (os : Os) (args : Array Value) : laidMetH Tryz.prog Rows.sortedGetRow.laid ((World.doorLaid Tryz.prog 24 os).forCall (fun _ _ => 0) ⟨#[], args, []⟩).memory :=
  laidMetH_of_parts3 (fuel := 8) (laidMet_of_run' 8 (by kernel_rfl) (by kernel_rfl)) (by kernel_rfl) (by kernel_rfl)

set_option maxRecDepth 100000 in
theorem sortedGet_lifted (os : Os) (started : os.Started) (H : Type) (enc : TypeId × Value → H) :
    ReturnsInHanded {} Tryz.checked os 3 .any (fun w args => (Rows.sortedGetSpec.pre enc Tryz.prog Tryz.f3 [] false w args ∧ laidMetH Tryz.prog Rows.sortedGetRow.laid w) ∧ sizedMet enc Tryz.prog Tryz.f3 (OpenSpec.ofChange Rows.sortedGetSpec) false w args) (Rows.sortedGetSpec.post enc Tryz.prog Tryz.f3 false true false false) := by
  refine returnsInHanded_of_change_and (C := Tryz.checked) (X := fun w _ => laidMetH Tryz.prog Rows.sortedGetRow.laid w) (fun _ _ _ hh h => h.of_heap hh) row_own started (by kernel_rfl) Tryz.func3
    (ChangeSpec.witness_shaped (enc := enc) (C := Tryz.checked) (os := os) (X := fun w _ => laidMetH Tryz.prog Rows.sortedGetRow.laid w) false (World.doorLaid Tryz.prog 24 os) #[.slice none 0 0, .agg #[.string .empty, .int .u64 0, .bool false, .int .i64 0]] 8 rfl (World.shaped_of_RefB (by kernel_rfl) (by kernel_rfl)) (by kernel_rfl) (by kernel_rfl) (by kernel_rfl) (sortedGet_door os _)) ?_
  intro W base args ds gs before hval0 hW hcnd hsz0 _ _
  have hval : ∀ (j : Nat) t v, Tryz.f3.params[j]? = some t → args[j]? = some v → Value.okWide Tryz.prog W .any base t v := hval0
  have hW' := hW
  obtain ⟨p, q, hA0, hV, rfl, hfz, hnd⟩ := hW
  have hA : DataW.TrodAll enc Tryz.prog W 0 (fun _ => true) true Tryz.f3.params.toList args.toList ds p := hA0
  have hsz : (DataW.weightsEach Tryz.prog (Tryz.f3.params.toList ++ Rows.sortedGetSpec.plain.varTypes Tryz.prog) (ds ++ gs)).all (· ≤ reachBytes) = true := hsz0
  rw [Tryz.params3] at hA hval hsz
  obtain ⟨v0, vs0, d0, ds0, p0, q0, hargs, rfl, rfl, h0, r0⟩ := trodAll_cons hA
  obtain ⟨v1, vs1, d1, ds1, p1, q1, rfl, rfl, rfl, h1, r1⟩ := trodAll_cons r0
  obtain ⟨rfl, rfl, rfl⟩ := trodAll_nil r1
  obtain rfl : args = #[v0, v1] := by cases args; simp_all
  obtain ⟨rfl, rfl⟩ := trodVars_none hV
  have k0 := h0
  have lt0 : ∀ x ∈ p0, x.block < W.heap.size := by obtain ⟨m, hm⟩ := k0; exact DataW.trod_lt m _ _ _ hm
  obtain ⟨l0, f0, z0⟩ := open_bytes hsz (j := 0) rfl rfl (hval 0 22 v0 rfl rfl) h0
  have k1 := h1
  have lt1 : ∀ x ∈ p1, x.block < W.heap.size := by obtain ⟨m, hm⟩ := k1; exact DataW.trod_lt m _ _ _ hm
  obtain ⟨kk1, ss1, gg1, uu1, rfl, z1, y1, x1⟩ := open_look hsz (j := 1) rfl rfl (hval 1 27 v1 rfl rfl) h1
  clear hA0 hval0
  refine (sortedGet_walk W v0 l0 kk1 ss1 gg1 uu1 f0 z0 z1 y1 x1).mono fun e W' ⟨he, bel⟩ => ?_
  subst he
  exact ⟨_, rfl, _, _, _, [], _, [], hW', trodAll_mk1 (shut_bool Tryz.underlying4 _), (trodAll_cons_mk (Below.trod row_laidOut (by kernel_rfl) (of_decide_eq_true (by kernel_rfl)) k0 bel lt0) (trodAll_cons_mk (Below.trod row_laidOut (by kernel_rfl) (of_decide_eq_true (by kernel_rfl)) k1 bel lt1) trodAll_mk0)), rfl, bel.frame _, fun h => by cases h⟩

set_option maxHeartbeats 1000000 in
theorem sortedGet_closed : joinedFacts Tryz.prog 3 Tryz.f3 Rows.sortedGetSpec Rows.sortedGetRow = true := by
  simp only [joinedFacts, row_mayEnter, row_make, row_lifts, Bool.and_eq_true]
  repeat' apply And.intro
  all_goals first | (as_aux_lemma => kernel_rfl) | trivial
theorem sortedGet_named : Tryz.prog.funcNamed Rows.sortedGetRow.func = some 3 := by kernel_rfl
theorem sortedGet_holds : Rows.SortedGetSaid :=
  OpenClaim.holds_of_wide 3 Tryz.f3 rfl rfl rfl rfl rfl rfl rfl ⟨rfl, rfl, rfl, rfl, rfl⟩ rfl rfl rfl rfl rfl sortedGet_named Tryz.func3 sortedGet_closed
    (of_decide_eq_true (by kernel_rfl)) (by unfold Func.isWrapper; first | (rw [if_pos (by decide +kernel)]; kernel_rfl) | (rw [if_neg (by decide +kernel)]; exact ⟨rfl, rfl⟩))
    (fun os started H enc _ => sortedGet_lifted os started H enc)
theorem sortedGet_card : Rows.SortedGetCardSaid :=
  Claim7.holds_tied_plain_at .later [] [.data, .data, .data] true (true, "6389163544941ccaadbe2ac76fe25840ac5913f6dc8956d51e68a79f4913e1c2") false
    sortedGet_holds (fun _ h => by cases h) (by kernel_rfl) (fun _ h => by cases h) sortedGet_row_tie rfl ⟨rfl, rfl⟩ (by kernel_rfl) rfl
    (fun f fn hf hfn => by
      obtain rfl : f = 3 := Option.some.inj (sortedGet_named.symm.trans hf) |>.symm
      obtain rfl : fn = Tryz.f3 := (Option.some.inj (Tryz.func3.symm.trans hfn)).symm
      exact ⟨by kernel_rfl, fun j t ht => by
        rw [Tryz.params3] at ht
        have hm : t ∈ [22, 27] := by
          have := Array.mem_of_getElem? ht
          simp only [Array.mem_def, List.mem_cons, List.not_mem_nil, or_false] at this
          simp only [List.mem_cons, List.not_mem_nil, or_false]
          omega
        have hall : ([22, 27].all fun u => !Tryz.prog.wantsStandIn u) = true := by kernel_rfl
        exact (show Tryz.prog.wantsStandIn t = false by simpa using List.all_eq_true.1 hall t hm)⟩)
    (by kernel_rfl)
#print axioms sortedGet_card
end Go.Proofs.YtbcnapkbdbefhaaGreatDoor

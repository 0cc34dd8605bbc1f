/- The book of lists, lists of kind Entry: their marks; a list is kept. No condition. | The book of lists, lists of kind Entry: the marks are written into each list. No condition. | The book of lists, lists of kind Entry: forty marks more behind each list. No condition. | The book of lists, lists of kind Entry: each list holds its own marks. No condition. | The book of lists, lists of kind Entry: a list is told. No condition. -/
import Derived.Test.YtbcnapkbdbefhaaGreatDoorKindA
namespace Go.Proofs.YtbcnapkbdbefhaaGreatDoor
open Go.RowKit

set_option maxRecDepth 100000 in
theorem infoHEntry : (Tryz.prog.info? 102).map (fun i => (i.zero, i.size, i.bytes)) = some (some (.agg #[.slice none 0 0, .slice none 0 0, .int .i64 0]), 3, 56) := by kernel_rfl
set_option maxRecDepth 100000 in
theorem infoEEntry : (Tryz.prog.info? 34).map (fun i => (i.zero, i.size, i.bytes)) = some (some (.agg #[.string .empty, .int .u64 0, .bool false, .string .empty]), 4, 48) := by kernel_rfl
def mkEntry (n : Nat) : List Value := [.string (wordB n), .int .u64 0, .bool false, .string ⟨#[]⟩]
theorem one_mkEntry (n : Nat) : ∀ u ∈ mkEntry n, u.oneCell' = true := by
  intro u hu
  simp only [mkEntry, List.mem_cons, List.not_mem_nil, or_false] at hu
  rcases hu with rfl | rfl | rfl | rfl <;> rfl
set_option maxRecDepth 100000 in
theorem infoSEntry : (Tryz.prog.info? 34).map (·.size) = some 4 := by kernel_rfl
set_option maxRecDepth 100000 in
theorem markEntry_any (n : Nat) (hn : n < 10) (w : World) : Calls Tryz.prog 107 #[.int .i64 n] w fun e w' => e = .returned (.agg #[.string (wordB n), .int .u64 0, .bool false, .string ⟨#[]⟩]) ∧ Below w.heap.size w w' := by
  have HW := Lib.hid (fun w' => word_any n hn w')
  have HA : Hid (∀ o, Below w.heap.size w (w.alloc o)) := Lib.hid fun o => (Below.refl _ _).alloc (Nat.le_refl _) _
  go_enter Tryz.func107, Tryz.ntmps107
  go_wp2_with fail
  refine (HW.out _).mono ?_
  rintro e w' ⟨rfl, rfl⟩
  go_wp2
  exact bodyPost_ret (v := (.agg #[.string (wordB n), .int .u64 0, .bool false, .string ⟨#[]⟩])) (results_cell_row (p := 2) (ty := 34) rfl _ _ w.heap.size _ _ _ _ rfl (heap_alloc_last _ _) Tryz.underlying34 rfl infoSEntry) rfl ⟨rfl, HA.out _⟩
set_option maxRecDepth 100000 in
set_option maxHeartbeats 1000000 in
theorem isEntry_any (n : Nat) (hn : n < 10) (w : World) : Calls Tryz.prog 120 #[(.agg #[.string (wordB n), .int .u64 0, .bool false, .string ⟨#[]⟩]), .int .i64 n] w fun e w' => e = .returned (.bool true) ∧ Below w.heap.size w w' := by
  have HW : Hid (∀ w', Calls Tryz.prog 162 #[.int .i64 n] w' fun e w2 => e = .returned (.string (wordB n)) ∧ w2 = w') := Lib.hid fun w' => (word_any n hn w').mono fun _ _ ⟨he, hw⟩ => ⟨he, hw.symm⟩
  have HA : Hid (∀ o, Below w.heap.size w (w.alloc o)) := Lib.hid fun o => (Below.refl _ _).alloc (Nat.le_refl _) _
  go_enter Tryz.func120, Tryz.ntmps120
  go_upto_region 1 with (fail)
  go_quiet ((go_at_call 162; exact Calls.quiet_of_same (HW.out _)))
  go_wp2
  go_ret
  exact ⟨by first | rfl | (simp; done), (HA.out _).trans ((drewN_below _ _).mono (HA.out _).size)⟩
theorem bkF_setEntry (M : Nat) (f : Nat → Value) (v : Value) : (bkF M f).setIfInBounds 8 v = bkF M (upd f 8 v) := rfl
set_option maxRecDepth 100000 in
set_option maxHeartbeats 8000000 in
theorem keepEntry_any (w : World) (base g M m : Nat) (f : Nat → Value) (bv : Value) (L G : Nat → Value) (num : Nat → Nat) (l : Value) (hB : Blk w g (bkF M f) 54) (hf : f 8 = bv) (hbv : Own w base 102 3 bv m (helds m L G num)) (hbg : rowOf bv ≠ some g)
    (hbase : base ≤ g) (hm : m ≤ 1000) (hM : M ≤ 1000) (hls : ∃ a n c, l = .slice a n c) :
    Calls Tryz.prog 32 #[.pointer (some ⟨g, 0, none⟩), l] w fun e w' => e = .returned (.tuple #[]) ∧ ∃ ba bc, Hid (Blk w' g (bkF (M + 1) (upd f 8 (.slice ba (m + 1) bc))) 54) ∧
      Hid (Own w' base 102 3 (.slice ba (m + 1) bc) (m + 1) (helds m L G num ++ hcell l (.slice none 0 0) (M + 1))) ∧ Hid (rowOf (Value.slice ba (m + 1) bc) ≠ some g) ∧ Hid (Kept w w' base g bv (.slice ba (m + 1) bc)) := by
  obtain ⟨xa, xn, xc, rfl⟩ := hls
  obtain ⟨i0, hi0, hz, hz1, hz2⟩ := info_parts infoHEntry
  have HBV := Lib.hid hbv
  have HBG := Lib.hid hbg
  obtain ⟨va, vc, hbvs⟩ := (reads_of_own hbv).slice
  subst hbvs
  have c0 := hB.cellv 0 (.int .i64 (M : Int)) rfl
  have f0 := hB.free 0
  have hB1 := hB.set 0 (.int .i64 ((M : Int) + 1))
  have hO1 := Only.set w g 0 (.int .i64 ((M : Int) + 1))
  have hglt := hB.lt
  have HB := Lib.hid hB
  have HFI : Hid ((bkF (M + 1) f)[8]? = some (.slice va m vc)) := Lib.hid (by show some (f 8) = _; rw [hf])
  clear hB hbv hbg hf
  go_enter Tryz.func32, Tryz.ntmps32
  go_upto_region 1 with (fail)
  obtain ⟨mm, hmm⟩ : ∃ n, n = m + 1 := ⟨_, rfl⟩
  obtain ⟨MM, hMM⟩ : ∃ n, n = M + 1 := ⟨_, rfl⟩
  have HMM := Lib.hid hmm
  have HMN := Lib.hid hMM
  rw [← hMM] at HFI
  rw [show ((M : Int) + 1) = (MM : Int) from by omega] at hB1 hO1 ⊢
  have hB1' : Blk (w.setCell ⟨g, 0, none⟩ (.int .i64 (MM : Int))) g (bkF MM f) 54 := hB1
  obtain ⟨W1, hW1⟩ : ∃ x, x = w.setCell ⟨g, 0, none⟩ (.int .i64 (MM : Int)) := ⟨_, rfl⟩
  rw [← hW1] at hB1' hO1 ⊢
  have hm2 : mm ≤ 1001 := by omega
  have hdr : Below W1.heap.size W1 W1.drew := (Below.refl _ _).drew
  have HBD := Lib.hid (hB1'.below hdr)
  obtain ⟨wd, hwd⟩ : ∃ x, x = W1.drew := ⟨_, rfl⟩
  rw [← hwd] at HBD
  have hOV := own_below (own_keptR HBV.out hO1 (.inr HBG.out)) hdr
  rw [← hwd] at hOV
  have HO1 := Lib.hid hO1
  obtain ⟨W2, hW2⟩ : ∃ x, x = wd.alloc (.cells #[.slice xa xn xc, .slice none 0 0, .int .i64 (MM : Int)] 102) := ⟨_, rfl⟩
  have hb2 : Below wd.heap.size wd W2 := by rw [hW2]; exact (Below.refl _ _).alloc (Nat.le_refl _) _
  have HB2 := Lib.hid (HBD.out.below hb2)
  have HOV2 := Lib.hid (own_below hOV hb2)
  have HRD2 : Hid (Reads W2 3 (.slice (some ⟨wd.heap.size, 0, none⟩) 1 1) 1 (hcell (.slice xa xn xc) (.slice none 0 0) MM)) := Lib.hid (by
    rw [hW2]; exact reads_new wd #[.slice xa xn xc, .slice none 0 0, .int .i64 (MM : Int)] _ 1 3 rfl (by unfold maxLen; omega))
  have hdd : Below W1.heap.size W1 wd := by rw [hwd]; exact hdr
  have HBA := Lib.hid (hdd.trans (hb2.mono hdd.size))
  have HBW : Hid (Below base w W2) := Lib.hid ((Only.below (Below.refl base w) HO1.out hbase (by omega)).trans (HBA.out.mono (Nat.le_trans (by omega) HO1.out.size)))
  have HSL : Hid (w.heap.size ≤ W2.heap.size) := Lib.hid (Nat.le_trans HO1.out.size HBA.out.size)
  have HSZ2 : Hid (base ≤ W2.heap.size) := Lib.hid (Nat.le_trans (by omega) HSL.out)
  have p0 := HBD.out.cellv 0 (.int .i64 (MM : Int)) rfl
  have p1 := HBD.out.cellv 8 (.slice va m vc) HFI.out
  have q1 := HB2.out.cellv 8 (.slice va m vc) HFI.out
  rw [hW2] at q1
  clear hmm hMM hB1 hB1' hO1 hW1 hdr hOV hb2 hdd c0 f0
  subst hwd
  have hW3 : W2 = (W1.alloc (.cells #[.slice xa xn xc, .slice none 0 0, .int .i64 (MM : Int)] 102)).drew := hW2
  have q2 : (W1.alloc (.cells #[.slice xa xn xc, .slice none 0 0, .int .i64 (MM : Int)] 102)).cell? ⟨g, 8, none⟩ = some (.slice va m vc) := q1
  clear hW2 q1
  refine wp_region_held_drew (S := fun _ => True) (by kernel_rfl) (trivial) (fun hHeld => ?_)
  refine wpAnyH_take (i := 0) (v := ?vq200) (by simp only [List.getElem?_toArray]; rfl) (by kernel_rfl) (by kernel_rfl) (by kernel_rfl) (by exact fun _ _ _ h => h) (Or.inl ⟨by rfl, ?yq200⟩) (by assumption) ?rq200
  case yq200 => (intro w hSw; (try dsimp only at hSw); go_simp; try with_reducible rfl)
  try simp only [Act.put, List.setIfInBounds_toArray, List.set_cons_zero, List.set_cons_succ]
  refine wpAnyH_take (i := 1) (v := ?vq201) (by simp only [List.getElem?_toArray]; rfl) (by kernel_rfl) (by kernel_rfl) (by kernel_rfl) (by exact fun _ _ _ h => h) (Or.inl ⟨by rfl, ?yq201⟩) (by assumption) ?rq201
  case yq201 => (intro w hSw; (try dsimp only at hSw); go_simp; try with_reducible rfl)
  try simp only [Act.put, List.setIfInBounds_toArray, List.set_cons_zero, List.set_cons_succ]
  refine wpAnyH_take (i := 2) (v := ?vq202) (by simp only [List.getElem?_toArray]; rfl) (by kernel_rfl) (by kernel_rfl) (by kernel_rfl) (by exact fun _ _ _ h => h) (Or.inl ⟨by rfl, ?yq202⟩) (by assumption) ?rq202
  case yq202 => (intro w hSw; (try dsimp only at hSw); go_simp; try with_reducible rfl)
  try simp only [Act.put, List.setIfInBounds_toArray, List.set_cons_zero, List.set_cons_succ]
  refine wpAnyH_take (i := 3) (v := ?vq203) (by simp only [List.getElem?_toArray]; rfl) (by kernel_rfl) (by kernel_rfl) (by kernel_rfl) (by exact fun _ _ _ h => h) (Or.inl ⟨by rfl, ?yq203⟩) (by assumption) ?rq203
  case yq203 => (intro w hSw; (try dsimp only at hSw); go_simp; try with_reducible rfl)
  try simp only [Act.put, List.setIfInBounds_toArray, List.set_cons_zero, List.set_cons_succ]
  refine wpAnyH_take (i := 5) (v := ?vq204) (by simp only [List.getElem?_toArray]; rfl) (by kernel_rfl) (by kernel_rfl) (by kernel_rfl) (by exact fun _ _ _ h => h) (Or.inl ⟨by rfl, ?yq204⟩) (by assumption) ?rq204
  case yq204 => (intro w hSw; (try dsimp only at hSw); go_simp; try with_reducible rfl)
  try simp only [Act.put, List.setIfInBounds_toArray, List.set_cons_zero, List.set_cons_succ]
  refine wpAnyH_take (i := 6) (v := ?vq205) (by simp only [List.getElem?_toArray]; rfl) (by kernel_rfl) (by kernel_rfl) (by kernel_rfl) (by exact fun _ _ _ h => h) (Or.inl ⟨by rfl, ?yq205⟩) (by assumption) ?rq205
  case yq205 => (intro w hSw; (try dsimp only at hSw); go_simp; try with_reducible rfl)
  try simp only [Act.put, List.setIfInBounds_toArray, List.set_cons_zero, List.set_cons_succ]
  refine wpAnyH_take (i := 7) (v := ?vq206) (by simp only [List.getElem?_toArray]; rfl) (by kernel_rfl) (by kernel_rfl) (by kernel_rfl) (by exact fun _ _ _ h => h) (Or.inl ⟨by rfl, ?yq206⟩) (by assumption) ?rq206
  case yq206 => (intro w hSw; (try dsimp only at hSw); go_simp; try with_reducible rfl)
  try simp only [Act.put, List.setIfInBounds_toArray, List.set_cons_zero, List.set_cons_succ]
  refine wpAnyH_take (i := 8) (v := ?vq207) (by simp only [List.getElem?_toArray]; rfl) (by kernel_rfl) (by kernel_rfl) (by kernel_rfl) (by exact fun _ _ _ h => h) (Or.inl ⟨by rfl, ?yq207⟩) (by assumption) ?rq207
  case yq207 => (intro w hSw; (try dsimp only at hSw); go_simp; try with_reducible rfl)
  try simp only [Act.put, List.setIfInBounds_toArray, List.set_cons_zero, List.set_cons_succ]
  refine wpAnyH_ready (rs := [4, 9]) (by kernel_rfl) (by simp) ?_
  refine AllReadyH.cons (by simp only [List.getElem?_toArray]; rfl) (fun K hK => ?way1) (AllReadyH.cons (by simp only [List.getElem?_toArray]; rfl) (fun K hK => ?way2) AllReadyH.nil)
  case way1 =>
    go_simp
    refine hK.out _ _ (trivial) (fun hHeld => ?_)
    clear hK K
    try simp only [Act.put, List.setIfInBounds_toArray, List.set_cons_zero, List.set_cons_succ]
    refine wpAnyH_ready (rs := [9]) (by kernel_rfl) (by simp) ?_
    refine AllReadyH.cons (by simp only [List.getElem?_toArray]; rfl) (fun K hK => ?_) AllReadyH.nil
    go_simp
    refine hK.out _ _ (trivial) (fun hHeld => ?_)
    clear hK K
    try simp only [Act.put, List.setIfInBounds_toArray, List.set_cons_zero, List.set_cons_succ]
    refine wpAnyH_take (i := 10) (v := ?vq193) (by simp only [List.getElem?_toArray]; rfl) (by kernel_rfl) (by kernel_rfl) (by kernel_rfl) (by exact fun _ _ _ h => h) (Or.inl ⟨by rfl, ?yq193⟩) (by assumption) ?rq193
    case yq193 => (intro w hSw; (try dsimp only at hSw); go_simp; try with_reducible rfl)
    try simp only [Act.put, List.setIfInBounds_toArray, List.set_cons_zero, List.set_cons_succ]
    refine wpAnyH_ready (rs := [11]) (by kernel_rfl) (by simp) ?_
    refine AllReadyH.cons (by simp only [List.getElem?_toArray]; rfl) (fun K hK => ?_) AllReadyH.nil
    go_simp
    refine hK.out _ _ (trivial) (fun hHeld => ?_)
    clear hK K
    try simp only [Act.put, List.setIfInBounds_toArray, List.set_cons_zero, List.set_cons_succ]
    rw [← hW3]
    refine wpAnyH_ready (rs := [12]) (by kernel_rfl) (by simp) ?_
    refine AllReadyH.cons (by simp only [List.getElem?_toArray]; rfl) (fun K hK => ?_) AllReadyH.nil
    refine step_app_elR rfl _ _ rfl Tryz.underlying47 hi0 hz hz1 hz2 rfl (by omega) base m 1 (.slice va m vc) _ (helds m L G num) (hcell (.slice xa xn xc) (.slice none 0 0) MM) (helds m L G num ++ hcell (.slice xa xn xc) (.slice none 0 0) MM) mm rfl rfl HOV2.out (HRD2.out) (one_hcell (.slice xa xn xc) (.slice none 0 0) MM rfl rfl) HMM.out.symm rfl (by omega) (by omega) HSZ2.out ?_
    intro ba bc w7 HU HG
    refine hK.out _ _ (trivial) (fun hHeld => ?_)
    clear hK K
    try simp only [Act.put, List.setIfInBounds_toArray, List.set_cons_zero, List.set_cons_succ]
    have hg7 := HB2.out.grown HG.out.rows (fun e => HBG.out e.symm)
    have r1 := hg7.cellv 8 (.slice va m vc) HFI.out
    have rf := hg7.free 8
    have HB7 := Lib.hid hg7
    clear hg7
    refine wpAnyH_take (i := 13) (v := ?vq194) (by simp only [List.getElem?_toArray]; rfl) (by kernel_rfl) (by kernel_rfl) (by kernel_rfl) (by exact fun _ _ _ h => h) (Or.inl ⟨by rfl, ?yq194⟩) (by assumption) ?rq194
    case yq194 => (intro w hSw; (try dsimp only at hSw); go_simp; try with_reducible rfl)
    try simp only [Act.put, List.setIfInBounds_toArray, List.set_cons_zero, List.set_cons_succ]
    refine wpAnyH_take (i := 14) (v := ?vq195) (by simp only [List.getElem?_toArray]; rfl) (by kernel_rfl) (by kernel_rfl) (by kernel_rfl) (by exact fun _ _ _ h => h) (Or.inl ⟨by rfl, ?yq195⟩) (by assumption) ?rq195
    case yq195 => (intro w hSw; (try dsimp only at hSw); go_simp; try with_reducible rfl)
    try simp only [Act.put, List.setIfInBounds_toArray, List.set_cons_zero, List.set_cons_succ]
    refine wpAnyH_ready (rs := [15]) (by kernel_rfl) (by simp) ?_
    refine AllReadyH.cons (by simp only [List.getElem?_toArray]; rfl) (fun K hK => ?_) AllReadyH.nil
    go_simp
    refine hK.out _ _ (trivial) (fun hHeld => ?_)
    clear hK K
    try simp only [Act.put, List.setIfInBounds_toArray, List.set_cons_zero, List.set_cons_succ]
    refine wpAnyH_done (by kernel_rfl) ?_ _
    have hne7 : rowOf (Value.slice ba mm bc) ≠ some g := (HG.out.apart (.slice (some ⟨g, 0, none⟩) 0 1) (fun k hk => by
      simp only [rowOf_one, Option.some.injEq] at hk
      subst hk
      exact ⟨HB2.out.lt, HBG.out⟩) g rfl).2
    have HNE := Lib.hid hne7
    have HB8 := Lib.hid (HB7.out.set 8 (.slice ba mm bc))
    have hO8 := Only.set w7 g 8 (.slice ba mm bc)
    have HO8 := Lib.hid hO8
    have HU8 := Lib.hid (own_keptR HU.out hO8 (.inr hne7))
    have HKP : Hid (Kept w (w7.setCell ⟨g, 8, none⟩ (.slice ba mm bc)) base g (.slice va m vc) (.slice ba mm bc)) := Lib.hid (by
      refine ⟨?_, ?_, ?_⟩
      · exact Only.below ((HBW.out).trans HG.out.below) HO8.out hbase (Nat.le_trans HSZ2.out HG.out.below.size)
      · intro base2 e sz n u xs ho ha hne
        exact own_keptR (HG.out.keep _ _ _ _ _ _ (own_below (own_keptR ho HO1.out (.inr hne)) HBA.out) (ha.later HSL.out)) HO8.out (.inr hne)
      · intro u ha
        exact (HG.out.apart u (ha.later HSL.out)).later HO8.out.size)
    clear hne7 hO8 HU HG HB7 r1 rf
    go_wp2_with fail
    go_end0
    refine ⟨rfl, ba, bc, ?_, ?_, ?_, ?_⟩
    · rw [← HMM.out, ← HMN.out]; exact HB8
    · rw [← HMM.out, ← HMN.out]; exact HU8
    · rw [← HMM.out]; exact HNE
    · rw [← HMM.out]; exact HKP
  case way2 =>
    go_simp
    refine hK.out _ _ (trivial) (fun hHeld => ?_)
    clear hK K
    try simp only [Act.put, List.setIfInBounds_toArray, List.set_cons_zero, List.set_cons_succ]
    refine wpAnyH_take (i := 10) (v := ?vq208) (by simp only [List.getElem?_toArray]; rfl) (by kernel_rfl) (by kernel_rfl) (by kernel_rfl) (by exact fun _ _ _ h => h) (Or.inl ⟨by rfl, ?yq208⟩) (by assumption) ?rq208
    case yq208 => (intro w hSw; (try dsimp only at hSw); go_simp; try with_reducible rfl)
    try simp only [Act.put, List.setIfInBounds_toArray, List.set_cons_zero, List.set_cons_succ]
    refine wpAnyH_ready (rs := [4, 11]) (by kernel_rfl) (by simp) ?_
    refine AllReadyH.cons (by simp only [List.getElem?_toArray]; rfl) (fun K hK => ?way2a) (AllReadyH.cons (by simp only [List.getElem?_toArray]; rfl) (fun K hK => ?way2b) AllReadyH.nil)
    case way2a =>
      go_simp
      refine hK.out _ _ (trivial) (fun hHeld => ?_)
      clear hK K
      try simp only [Act.put, List.setIfInBounds_toArray, List.set_cons_zero, List.set_cons_succ]
      refine wpAnyH_ready (rs := [11]) (by kernel_rfl) (by simp) ?_
      refine AllReadyH.cons (by simp only [List.getElem?_toArray]; rfl) (fun K hK => ?_) AllReadyH.nil
      go_simp
      refine hK.out _ _ (trivial) (fun hHeld => ?_)
      clear hK K
      try simp only [Act.put, List.setIfInBounds_toArray, List.set_cons_zero, List.set_cons_succ]
      rw [← hW3]
      refine wpAnyH_ready (rs := [12]) (by kernel_rfl) (by simp) ?_
      refine AllReadyH.cons (by simp only [List.getElem?_toArray]; rfl) (fun K hK => ?_) AllReadyH.nil
      refine step_app_elR rfl _ _ rfl Tryz.underlying47 hi0 hz hz1 hz2 rfl (by omega) base m 1 (.slice va m vc) _ (helds m L G num) (hcell (.slice xa xn xc) (.slice none 0 0) MM) (helds m L G num ++ hcell (.slice xa xn xc) (.slice none 0 0) MM) mm rfl rfl HOV2.out (HRD2.out) (one_hcell (.slice xa xn xc) (.slice none 0 0) MM rfl rfl) HMM.out.symm rfl (by omega) (by omega) HSZ2.out ?_
      intro ba bc w7 HU HG
      refine hK.out _ _ (trivial) (fun hHeld => ?_)
      clear hK K
      try simp only [Act.put, List.setIfInBounds_toArray, List.set_cons_zero, List.set_cons_succ]
      have hg7 := HB2.out.grown HG.out.rows (fun e => HBG.out e.symm)
      have r1 := hg7.cellv 8 (.slice va m vc) HFI.out
      have rf := hg7.free 8
      have HB7 := Lib.hid hg7
      clear hg7
      refine wpAnyH_take (i := 13) (v := ?vq196) (by simp only [List.getElem?_toArray]; rfl) (by kernel_rfl) (by kernel_rfl) (by kernel_rfl) (by exact fun _ _ _ h => h) (Or.inl ⟨by rfl, ?yq196⟩) (by assumption) ?rq196
      case yq196 => (intro w hSw; (try dsimp only at hSw); go_simp; try with_reducible rfl)
      try simp only [Act.put, List.setIfInBounds_toArray, List.set_cons_zero, List.set_cons_succ]
      refine wpAnyH_take (i := 14) (v := ?vq197) (by simp only [List.getElem?_toArray]; rfl) (by kernel_rfl) (by kernel_rfl) (by kernel_rfl) (by exact fun _ _ _ h => h) (Or.inl ⟨by rfl, ?yq197⟩) (by assumption) ?rq197
      case yq197 => (intro w hSw; (try dsimp only at hSw); go_simp; try with_reducible rfl)
      try simp only [Act.put, List.setIfInBounds_toArray, List.set_cons_zero, List.set_cons_succ]
      refine wpAnyH_ready (rs := [15]) (by kernel_rfl) (by simp) ?_
      refine AllReadyH.cons (by simp only [List.getElem?_toArray]; rfl) (fun K hK => ?_) AllReadyH.nil
      go_simp
      refine hK.out _ _ (trivial) (fun hHeld => ?_)
      clear hK K
      try simp only [Act.put, List.setIfInBounds_toArray, List.set_cons_zero, List.set_cons_succ]
      refine wpAnyH_done (by kernel_rfl) ?_ _
      have hne7 : rowOf (Value.slice ba mm bc) ≠ some g := (HG.out.apart (.slice (some ⟨g, 0, none⟩) 0 1) (fun k hk => by
        simp only [rowOf_one, Option.some.injEq] at hk
        subst hk
        exact ⟨HB2.out.lt, HBG.out⟩) g rfl).2
      have HNE := Lib.hid hne7
      have HB8 := Lib.hid (HB7.out.set 8 (.slice ba mm bc))
      have hO8 := Only.set w7 g 8 (.slice ba mm bc)
      have HO8 := Lib.hid hO8
      have HU8 := Lib.hid (own_keptR HU.out hO8 (.inr hne7))
      have HKP : Hid (Kept w (w7.setCell ⟨g, 8, none⟩ (.slice ba mm bc)) base g (.slice va m vc) (.slice ba mm bc)) := Lib.hid (by
        refine ⟨?_, ?_, ?_⟩
        · exact Only.below ((HBW.out).trans HG.out.below) HO8.out hbase (Nat.le_trans HSZ2.out HG.out.below.size)
        · intro base2 e sz n u xs ho ha hne
          exact own_keptR (HG.out.keep _ _ _ _ _ _ (own_below (own_keptR ho HO1.out (.inr hne)) HBA.out) (ha.later HSL.out)) HO8.out (.inr hne)
        · intro u ha
          exact (HG.out.apart u (ha.later HSL.out)).later HO8.out.size)
      clear hne7 hO8 HU HG HB7 r1 rf
      go_wp2_with fail
      go_end0
      refine ⟨rfl, ba, bc, ?_, ?_, ?_, ?_⟩
      · rw [← HMM.out, ← HMN.out]; exact HB8
      · rw [← HMM.out, ← HMN.out]; exact HU8
      · rw [← HMM.out]; exact HNE
      · rw [← HMM.out]; exact HKP
    case way2b =>
      go_simp
      refine hK.out _ _ (trivial) (fun hHeld => ?_)
      clear hK K
      try simp only [Act.put, List.setIfInBounds_toArray, List.set_cons_zero, List.set_cons_succ]
      refine wpAnyH_ready (rs := [4]) (by kernel_rfl) (by simp) ?_
      refine AllReadyH.cons (by simp only [List.getElem?_toArray]; rfl) (fun K hK => ?_) AllReadyH.nil
      go_simp
      refine hK.out _ _ (trivial) (fun hHeld => ?_)
      clear hK K
      try simp only [Act.put, List.setIfInBounds_toArray, List.set_cons_zero, List.set_cons_succ]
      rw [← hW3]
      refine wpAnyH_ready (rs := [12]) (by kernel_rfl) (by simp) ?_
      refine AllReadyH.cons (by simp only [List.getElem?_toArray]; rfl) (fun K hK => ?_) AllReadyH.nil
      refine step_app_elR rfl _ _ rfl Tryz.underlying47 hi0 hz hz1 hz2 rfl (by omega) base m 1 (.slice va m vc) _ (helds m L G num) (hcell (.slice xa xn xc) (.slice none 0 0) MM) (helds m L G num ++ hcell (.slice xa xn xc) (.slice none 0 0) MM) mm rfl rfl HOV2.out (HRD2.out) (one_hcell (.slice xa xn xc) (.slice none 0 0) MM rfl rfl) HMM.out.symm rfl (by omega) (by omega) HSZ2.out ?_
      intro ba bc w7 HU HG
      refine hK.out _ _ (trivial) (fun hHeld => ?_)
      clear hK K
      try simp only [Act.put, List.setIfInBounds_toArray, List.set_cons_zero, List.set_cons_succ]
      have hg7 := HB2.out.grown HG.out.rows (fun e => HBG.out e.symm)
      have r1 := hg7.cellv 8 (.slice va m vc) HFI.out
      have rf := hg7.free 8
      have HB7 := Lib.hid hg7
      clear hg7
      refine wpAnyH_take (i := 13) (v := ?vq198) (by simp only [List.getElem?_toArray]; rfl) (by kernel_rfl) (by kernel_rfl) (by kernel_rfl) (by exact fun _ _ _ h => h) (Or.inl ⟨by rfl, ?yq198⟩) (by assumption) ?rq198
      case yq198 => (intro w hSw; (try dsimp only at hSw); go_simp; try with_reducible rfl)
      try simp only [Act.put, List.setIfInBounds_toArray, List.set_cons_zero, List.set_cons_succ]
      refine wpAnyH_take (i := 14) (v := ?vq199) (by simp only [List.getElem?_toArray]; rfl) (by kernel_rfl) (by kernel_rfl) (by kernel_rfl) (by exact fun _ _ _ h => h) (Or.inl ⟨by rfl, ?yq199⟩) (by assumption) ?rq199
      case yq199 => (intro w hSw; (try dsimp only at hSw); go_simp; try with_reducible rfl)
      try simp only [Act.put, List.setIfInBounds_toArray, List.set_cons_zero, List.set_cons_succ]
      refine wpAnyH_ready (rs := [15]) (by kernel_rfl) (by simp) ?_
      refine AllReadyH.cons (by simp only [List.getElem?_toArray]; rfl) (fun K hK => ?_) AllReadyH.nil
      go_simp
      refine hK.out _ _ (trivial) (fun hHeld => ?_)
      clear hK K
      try simp only [Act.put, List.setIfInBounds_toArray, List.set_cons_zero, List.set_cons_succ]
      refine wpAnyH_done (by kernel_rfl) ?_ _
      have hne7 : rowOf (Value.slice ba mm bc) ≠ some g := (HG.out.apart (.slice (some ⟨g, 0, none⟩) 0 1) (fun k hk => by
        simp only [rowOf_one, Option.some.injEq] at hk
        subst hk
        exact ⟨HB2.out.lt, HBG.out⟩) g rfl).2
      have HNE := Lib.hid hne7
      have HB8 := Lib.hid (HB7.out.set 8 (.slice ba mm bc))
      have hO8 := Only.set w7 g 8 (.slice ba mm bc)
      have HO8 := Lib.hid hO8
      have HU8 := Lib.hid (own_keptR HU.out hO8 (.inr hne7))
      have HKP : Hid (Kept w (w7.setCell ⟨g, 8, none⟩ (.slice ba mm bc)) base g (.slice va m vc) (.slice ba mm bc)) := Lib.hid (by
        refine ⟨?_, ?_, ?_⟩
        · exact Only.below ((HBW.out).trans HG.out.below) HO8.out hbase (Nat.le_trans HSZ2.out HG.out.below.size)
        · intro base2 e sz n u xs ho ha hne
          exact own_keptR (HG.out.keep _ _ _ _ _ _ (own_below (own_keptR ho HO1.out (.inr hne)) HBA.out) (ha.later HSL.out)) HO8.out (.inr hne)
        · intro u ha
          exact (HG.out.apart u (ha.later HSL.out)).later HO8.out.size)
      clear hne7 hO8 HU HG HB7 r1 rf
      go_wp2_with fail
      go_end0
      refine ⟨rfl, ba, bc, ?_, ?_, ?_, ?_⟩
      · rw [← HMM.out, ← HMN.out]; exact HB8
      · rw [← HMM.out, ← HMN.out]; exact HU8
      · rw [← HMM.out]; exact HNE
      · rw [← HMM.out]; exact HKP
end Go.Proofs.YtbcnapkbdbefhaaGreatDoor
namespace Go.Proofs.YtbcnapkbdbefhaaGreatDoor
open Go.RowKit

set_option maxRecDepth 100000 in
set_option maxHeartbeats 8000000 in
theorem fillEntry_any (w : World) (base g m : Nat) (B : Array Value) (bv : Value) (L : Nat → Value) (num n : Nat → Nat) (C : Nat → List Value) (S : Nat → Prop) (hB : Blk w g B 54) (hBi : B[8]? = some bv) (hK : KSt w base g 102 34 4 m bv L (fun _ => .slice none 0 0) num n C S) (hm : m ≤ 1000) (hnum : ∀ j, j < m → num j < 10) :
    Calls Tryz.prog 40 #[.pointer (some ⟨g, 0, none⟩)] w fun e w' => e = .returned (.tuple #[]) ∧ Hid (KSt w' base g 102 34 4 m bv L (fun _ => .slice none 0 0) num n (fun j => marks (mkEntry (num j)) (n j)) S) ∧ Hid (Fr S w w') := by
  have HK := Lib.hid hK
  obtain ⟨va, vc, hbvs⟩ := (reads_of_own hK.own).slice
  subst hbvs
  have HB0 := Lib.hid hB
  have HSG := Lib.hid hK.sg
  have HNUM := Lib.hid hnum
  have HBI := Lib.hid hBi
  clear hK hB hnum hBi
  go_enter Tryz.func40, Tryz.ntmps40
  go_wp2_with fail
  try show Code.wp _ _ _ _ _
  go_loopw [2, 3, 4] (fun iv _ _ wr => ∃ i : Nat, i ≤ m ∧ iv = .int .i64 i ∧ ∃ C' : Nat → List Value, Hid (KSt wr base g 102 34 4 m (.slice va m vc) L (fun _ => .slice none 0 0) num n C' S) ∧ Hid (∀ j, j < i → C' j = marks (mkEntry (num j)) (n j)) ∧ Hid (Fr S w wr)) (fun iv _ _ _ => m - (intOf iv).toNat)
  case atStart => exact ⟨0, Nat.zero_le _, rfl, C, HK, Lib.hid (fun j hj => absurd hj (by omega)), Lib.hid (Fr.refl _ _)⟩
  case round =>
    obtain ⟨i, hi, rfl, C', HC, HD, HB⟩ := hrel
    have g1 := (HB.out.blk HB0.out HSG.out).cellv 8 (.slice va m vc) HBI.out
    by_cases hlt : i < m
    · obtain ⟨b2, off2, c2, e2, k0, k1, k2⟩ := HC.out.cells i hlt
      simp only [Value.slice.injEq] at e2
      obtain ⟨e2, _, ec⟩ := e2
      subst e2
      clear ec
      obtain ⟨x, hx⟩ : ∃ x, x = (wordB (num i)) := ⟨_, rfl⟩
      have HMKC : Hid (mkEntry (num i) = [.string x, .int .u64 0, .bool false, .string ⟨#[]⟩]) := Lib.hid (by rw [hx]; rfl)
      obtain ⟨i1, hi1⟩ : ∃ x, x = num i := ⟨_, rfl⟩
      have HMK : Hid (∀ w', Calls Tryz.prog 107 #[.int .i64 (i1 : Int)] w' fun e w'' => e = .returned (.agg #[.string x, .int .u64 0, .bool false, .string ⟨#[]⟩]) ∧ Below w'.heap.size w' w'') := Lib.hid fun w' => by rw [hi1, hx]; exact markEntry_any (num i) (HNUM.out i hlt) w'
      rw [← hi1] at k2
      clear hi1 hx
      have hown := HC.out.held i hlt
      obtain ⟨la, lc, hls⟩ := (reads_of_own hown).slice
      rw [hls] at k0
      have HLS := Lib.hid hls
      clear hown hls
      obtain ⟨ni, hni⟩ : ∃ x, x = n i := ⟨_, rfl⟩
      rw [← hni] at k0 HLS
      have HNI := Lib.hid hni
      clear hni
      have hnb : ni ≤ 9223372036854775807 := by
        obtain ⟨_, _, _, _, hq1, hq2, _⟩ := reads_of_own (HC.out.held i hlt)
        rw [HNI.out]; omega
      have hic : (i : Int) < (m : Int) := by omega
      go_upto_region 4 with (fail)
      obtain ⟨hb, hhb⟩ : ∃ x, x = wr.heap.size := ⟨_, rfl⟩
      have hal : Below wr.heap.size wr (wr.alloc (.cells #[.slice la ni lc, .slice none 0 0, .int .i64 (i1 : Int)] 102)) := (Below.refl _ _).alloc (Nat.le_refl _) _
      have HWB : Hid (Blk (wr.alloc (.cells #[.slice la ni lc, .slice none 0 0, .int .i64 (i1 : Int)] 102)) hb #[.slice la ni lc, .slice none 0 0, .int .i64 (i1 : Int)] 102) := Lib.hid (Blk.new_at _ _ _ _ hhb)
      have HCW := Lib.hid (HC.out.below hal)
      have HBW := Lib.hid (HB.out.trans (Fr.of_below hal))
      have HSH : Hid (∀ q, S q → q ≠ hb) := Lib.hid fun q hq e => by have := (HC.out.sb q hq).2; omega
      rw [← hhb]
      generalize wr.alloc (.cells #[.slice la ni lc, .slice none 0 0, .int .i64 (i1 : Int)] 102) = W at HWB HCW HBW ⊢
      clear hal hhb HC HB g1 k0 k1 k2
      go_wp2_with fail
      try show Code.wp _ _ _ _ _
      go_loopw [4] (fun kv wz => ∃ k : Nat, k ≤ ni ∧ kv = .int .i64 k ∧ ∃ C2 : Nat → List Value, Hid (KSt wz base g 102 34 4 m (.slice (some ⟨b2, off2, none⟩) m vc) L (fun _ => .slice none 0 0) num n C2 S) ∧ Hid (∀ j, j < i → C2 j = marks (mkEntry (num j)) (n j)) ∧ Hid ((C2 i).take (k * 4) = marks (mkEntry (num i)) k) ∧
        Hid (Blk wz hb #[.slice la ni lc, .slice none 0 0, .int .i64 (i1 : Int)] 102) ∧ Hid (Fr S w wz)) (fun kv _ => ni - (intOf kv).toNat)
      case atStart => exact ⟨0, Nat.zero_le _, rfl, C', HCW, HD, Lib.hid (by rw [Nat.zero_mul]; rfl), HWB, HBW⟩
      case round =>
        obtain ⟨k, hk, rfl, C2, HC2, HD2, HT2, HH, HB2⟩ := hrel
        obtain ⟨wz, hwz⟩ : ∃ z, z = wr := ⟨_, rfl⟩
        subst hwz
        have h0 := HH.out.cellv 0 (.slice la ni lc) rfl
        by_cases hkn : k < ni
        · have h2 := HH.out.cellv 2 (.int .i64 (i1 : Int)) rfl
          have hb0 : ∃ b, la = some ⟨b, 0, none⟩ := by
            have := HC2.out.held i hlt
            rw [HLS.out, ← HNI.out] at this
            obtain ⟨b, e, _⟩ := own_ptr this (by omega)
            exact ⟨b, e⟩
          obtain ⟨b, rfl⟩ := hb0
          have h0d : wz.drew.cell? ⟨hb, 0, none⟩ = some (.slice (some ⟨b, 0, none⟩) ni lc) := h0
          have h2d : wz.drew.cell? ⟨hb, 2, none⟩ = some (.int .i64 (i1 : Int)) := h2
          have hkc : (k : Int) < (ni : Int) := by omega
          have HDR : Hid (Below wz.heap.size wz wz.drew) := Lib.hid (Below.refl _ _).drew
          go_upto_region 7 with (fail)
          clear h0 h2
          refine wp_region_held_drew (S := fun w' => w'.cell? ⟨hb, 0, none⟩ = some (.slice (some ⟨b, 0, none⟩) ni lc) ∧ w'.cell? ⟨hb, 2, none⟩ = some (.int .i64 (i1 : Int))) (by kernel_rfl) (⟨h0d, h2d⟩) (fun hHeld => ?_)
          refine wpAnyH_take (i := 0) (v := ?vq209) (by simp only [List.getElem?_toArray]; rfl) (by kernel_rfl) (by kernel_rfl) (by kernel_rfl) (by exact fun _ _ _ h => h) (Or.inl ⟨by rfl, ?yq209⟩) (by assumption) ?rq209
          case yq209 => (intro w hSw; (try dsimp only at hSw); go_simp; try with_reducible rfl)
          try simp only [Act.put, List.setIfInBounds_toArray, List.set_cons_zero, List.set_cons_succ]
          refine wpAnyH_take (i := 1) (v := ?vq210) (by simp only [List.getElem?_toArray]; rfl) (by kernel_rfl) (by kernel_rfl) (by kernel_rfl) (by exact fun _ _ _ h => h) (Or.inl ⟨by rfl, ?yq210⟩) (by assumption) ?rq210
          case yq210 => (intro w hSw; (try dsimp only at hSw); go_simp; try with_reducible rfl)
          try simp only [Act.put, List.setIfInBounds_toArray, List.set_cons_zero, List.set_cons_succ]
          refine wpAnyH_take (i := 2) (v := ?vq211) (by simp only [List.getElem?_toArray]; rfl) (by kernel_rfl) (by kernel_rfl) (by kernel_rfl) (by exact fun _ _ _ h => h) (Or.inl ⟨by rfl, ?yq211⟩) (by assumption) ?rq211
          case yq211 => (intro w hSw; (try dsimp only at hSw); go_simp; try with_reducible rfl)
          try simp only [Act.put, List.setIfInBounds_toArray, List.set_cons_zero, List.set_cons_succ]
          refine wpAnyH_take (i := 3) (v := ?vq212) (by simp only [List.getElem?_toArray]; rfl) (by kernel_rfl) (by kernel_rfl) (by kernel_rfl) (by exact fun _ _ _ h => h) (Or.inl ⟨by rfl, ?yq212⟩) (by assumption) ?rq212
          case yq212 => (intro w hSw; (try dsimp only at hSw); go_simp; try with_reducible rfl)
          try simp only [Act.put, List.setIfInBounds_toArray, List.set_cons_zero, List.set_cons_succ]
          refine wpAnyH_take (i := 4) (v := ?vq213) (by simp only [List.getElem?_toArray]; rfl) (by kernel_rfl) (by kernel_rfl) (by kernel_rfl) (by exact fun _ _ _ h => h) (Or.inl ⟨by rfl, ?yq213⟩) (by assumption) ?rq213
          case yq213 => (intro w hSw; (try dsimp only at hSw); go_simp; try with_reducible rfl)
          try simp only [Act.put, List.setIfInBounds_toArray, List.set_cons_zero, List.set_cons_succ]
          refine wpAnyH_ready (rs := [5]) (by kernel_rfl) (by simp) ?_
          refine AllReadyH.cons (by simp only [List.getElem?_toArray]; rfl) (fun K hK => ?_) AllReadyH.nil
          go_simp
          refine (HMK.out _).mono ?_
          rintro e wm ⟨rfl, bm⟩
          have HBm := Lib.hid (HDR.out.trans (bm.mono HDR.out.size))
          have HCm := Lib.hid (HC2.out.below HBm.out)
          have HHm := Lib.hid (HH.out.below HBm.out)
          have HFm := Lib.hid (HB2.out.trans (Fr.of_below HBm.out))
          have HOW : Own wm base 34 4 (.slice (some ⟨b, 0, none⟩) ni lc) ni (C2 i) := by
            have := HCm.out.held i hlt
            rw [HLS.out, ← HNI.out] at this
            exact this
          have hL : rowOf (L i) = some b := by rw [HLS.out]; exact rowOf_pos (own_room HOW (by omega))
          have hSb : S b := HCm.out.ls i hlt b hL
          have hbb : b ≠ hb := HSH.out b hSb
          obtain ⟨y0, _, ck0⟩ := own_cellv HOW (k * 4) (by omega)
          have fk0 := own_free HOW (k * 4) (by omega)
          obtain ⟨y1, _, ck1⟩ := own_cellv HOW (k * 4 + 1) (by omega)
          have fk1 := own_free HOW (k * 4 + 1) (by omega)
          obtain ⟨y2, _, ck2⟩ := own_cellv HOW (k * 4 + 2) (by omega)
          have fk2 := own_free HOW (k * 4 + 2) (by omega)
          obtain ⟨y3, _, ck3⟩ := own_cellv HOW (k * 4 + 3) (by omega)
          have fk3 := own_free HOW (k * 4 + 3) (by omega)
          have hON : Only wm ((((wm.setCell ⟨b, k * 4, none⟩ (.string x)).setCell ⟨b, k * 4 + 1, none⟩ (.int .u64 0)).setCell ⟨b, k * 4 + 2, none⟩ (.bool false)).setCell ⟨b, k * 4 + 3, none⟩ (.string ⟨#[]⟩)) b := (only4 wm b (k * 4) (.string x) (.int .u64 0) (.bool false) (.string ⟨#[]⟩))
          have HST : Hid (KSt ((((wm.setCell ⟨b, k * 4, none⟩ (.string x)).setCell ⟨b, k * 4 + 1, none⟩ (.int .u64 0)).setCell ⟨b, k * 4 + 2, none⟩ (.bool false)).setCell ⟨b, k * 4 + 3, none⟩ (.string ⟨#[]⟩)) base g 102 34 4 m (.slice (some ⟨b2, off2, none⟩) m vc) L (fun _ => .slice none 0 0) num n (fun j => if j = i then set4 (C2 i) (k * 4) (.string x) (.int .u64 0) (.bool false) (.string ⟨#[]⟩) else C2 j) S) := Lib.hid (HCm.out.write i hlt hL hON (by
            simp only [if_true]
            rw [HLS.out, ← HNI.out]
            exact own_store4 HOW k (by omega) (.string x) (.int .u64 0) (.bool false) (.string ⟨#[]⟩)) (fun j hj => by simp only [if_neg hj]))
          have HHS : Hid (Blk ((((wm.setCell ⟨b, k * 4, none⟩ (.string x)).setCell ⟨b, k * 4 + 1, none⟩ (.int .u64 0)).setCell ⟨b, k * 4 + 2, none⟩ (.bool false)).setCell ⟨b, k * 4 + 3, none⟩ (.string ⟨#[]⟩)) hb #[.slice (some ⟨b, 0, none⟩) ni lc, .slice none 0 0, .int .i64 (i1 : Int)] 102) := Lib.hid (HHm.out.only hON (fun e => hbb e.symm))
          have HBS : Hid (Fr S w ((((wm.setCell ⟨b, k * 4, none⟩ (.string x)).setCell ⟨b, k * 4 + 1, none⟩ (.int .u64 0)).setCell ⟨b, k * 4 + 2, none⟩ (.bool false)).setCell ⟨b, k * 4 + 3, none⟩ (.string ⟨#[]⟩))) := Lib.hid (HFm.out.trans (Fr.of_only hON hSb))
          have HTS : Hid ((set4 (C2 i) (k * 4) (.string x) (.int .u64 0) (.bool false) (.string ⟨#[]⟩)).take ((k + 1) * 4) = marks (mkEntry (num i)) (k + 1)) := Lib.hid (by
            rw [marks_next, ← HT2.out, HMKC.out]
            first | exact take_set4 _ _ _ _ _ _ (by rw [HC2.out.len i hlt, ← HNI.out]; omega) | (simp only [Nat.mul_one]; exact take_set4 _ _ _ _ _ _ (by rw [HC2.out.len i hlt, ← HNI.out]; omega)))
          have HKP : Hid (((((wm.setCell ⟨b, k * 4, none⟩ (.string x)).setCell ⟨b, k * 4 + 1, none⟩ (.int .u64 0)).setCell ⟨b, k * 4 + 2, none⟩ (.bool false)).setCell ⟨b, k * 4 + 3, none⟩ (.string ⟨#[]⟩)).cell? ⟨hb, 0, none⟩ = some (.slice (some ⟨b, 0, none⟩) ni lc) ∧ ((((wm.setCell ⟨b, k * 4, none⟩ (.string x)).setCell ⟨b, k * 4 + 1, none⟩ (.int .u64 0)).setCell ⟨b, k * 4 + 2, none⟩ (.bool false)).setCell ⟨b, k * 4 + 3, none⟩ (.string ⟨#[]⟩)).cell? ⟨hb, 2, none⟩ = some (.int .i64 (i1 : Int))) := Lib.hid ⟨HHS.out.cellv 0 _ rfl, HHS.out.cellv 2 _ rfl⟩
          have HKM : Hid (wm.cell? ⟨hb, 0, none⟩ = some (.slice (some ⟨b, 0, none⟩) ni lc) ∧ wm.cell? ⟨hb, 2, none⟩ = some (.int .i64 (i1 : Int))) := Lib.hid ⟨HHm.out.cellv 0 _ rfl, HHm.out.cellv 2 _ rfl⟩
          clear hL hON hSb HOW bm HCm HHm HFm HBm
          refine hK.out _ _ (HKM.out) (fun hHeld => ?_)
          clear hK K
          try simp only [Act.put, List.setIfInBounds_toArray, List.set_cons_zero, List.set_cons_succ]
          refine wpAnyH_take (i := 6) (v := ?vq214) (by simp only [List.getElem?_toArray]; rfl) (by kernel_rfl) (by kernel_rfl) (by kernel_rfl) (by exact fun _ _ _ h => h) (Or.inl ⟨by rfl, ?yq214⟩) (by assumption) ?rq214
          case yq214 => (intro w hSw; (try dsimp only at hSw); go_simp; try with_reducible rfl)
          try simp only [Act.put, List.setIfInBounds_toArray, List.set_cons_zero, List.set_cons_succ]
          refine wpAnyH_ready (rs := [7]) (by kernel_rfl) (by simp) ?_
          refine AllReadyH.cons (by simp only [List.getElem?_toArray]; rfl) (fun K hK => ?_) AllReadyH.nil
          go_simp
          refine hK.out _ _ (HKP.out) (fun hHeld => ?_)
          clear hK K
          try simp only [Act.put, List.setIfInBounds_toArray, List.set_cons_zero, List.set_cons_succ]
          refine wpAnyH_done (by kernel_rfl) ?_ _
          rename_i hH
          generalize ((((wm.setCell ⟨b, k * 4, none⟩ (.string x)).setCell ⟨b, k * 4 + 1, none⟩ (.int .u64 0)).setCell ⟨b, k * 4 + 2, none⟩ (.bool false)).setCell ⟨b, k * 4 + 3, none⟩ (.string ⟨#[]⟩)) = wt at HST HHS HBS ⊢
          clear hH h0d h2d
          clear ck0 fk0 ck1 fk1 ck2 fk2 ck3 fk3
          go_wp2_with fail
          go_roundw
          case rel => exact ⟨k + 1, by omega, by go_num, _, HST, Lib.hid (fun j hj => by rw [if_neg (by omega)]; exact HD2.out j hj), Lib.hid (by rw [if_pos rfl]; exact HTS.out), HHS, HBS⟩
          case measure => simp [intOf]; omega
        · have hkn2 : k = ni := by omega
          have HDN : Hid (∀ j, j < i + 1 → C2 j = marks (mkEntry (num j)) (n j)) := Lib.hid fun j hj => by
            by_cases e : j = i
            · subst e
              exact marks_full (HC2.out.len j hlt) (hkn2.trans HNI.out) HT2.out
            · exact HD2.out j (by omega)
          clear hkn2
          go_wp2_with fail
          go_roundw
          case rel => exact ⟨i + 1, by omega, by go_num, C2, HC2, HDN, HB2⟩
          case measure => simp [intOf]; omega
    · obtain rfl : i = m := by omega
      have HCF : Hid (KSt wr base g 102 34 4 i (.slice va i vc) L (fun _ => .slice none 0 0) num n (fun j => marks (mkEntry (num j)) (n j)) S) :=
        Lib.hid ⟨HC.out.own, fun j hj => by rw [← HD.out j hj]; exact HC.out.held j hj, HC.out.bs, HC.out.ls, HC.out.lb, HC.out.ap, HC.out.sg, HC.out.sb⟩
      go_wp2_with fail
      go_end0
      exact ⟨rfl, HCF, HB⟩
end Go.Proofs.YtbcnapkbdbefhaaGreatDoor
namespace Go.Proofs.YtbcnapkbdbefhaaGreatDoor
open Go.RowKit

set_option maxRecDepth 100000 in
set_option maxHeartbeats 8000000 in
theorem growEntry_any (w : World) (base g m : Nat) (B : Array Value) (bv : Value) (L : Nat → Value) (num n : Nat → Nat) (S : Nat → Prop) (hB : Blk w g B 54) (hBi : B[8]? = some bv) (hK : KSt w base g 102 34 4 m bv L (fun _ => .slice none 0 0) num n (fun j => marks (mkEntry (num j)) (n j)) S) (hm : m ≤ 1000) (hnum : ∀ j, j < m → num j < 10) (hbw : base ≤ w.heap.size) (hn : ∀ j, j < m → n j ≤ 1000000000) :
    Calls Tryz.prog 53 #[.pointer (some ⟨g, 0, none⟩)] w fun e w' => e = .returned (.tuple #[]) ∧ Hid (∃ G, KGw w' base g 102 34 4 m bv L G num n (fun j => mkEntry (num j)) S m ∧ ∀ j, j < m → ∀ b, rowOf (G j) = some b → S b ∨ w.heap.size ≤ b) ∧ Hid (Fr S w w') := by
  obtain ⟨va, vc, hbvs⟩ := (reads_of_own hK.own).slice
  subst hbvs
  obtain ⟨i0, hi0, hz, hz1, hz2⟩ := info_parts infoEEntry
  have HK : Hid (KGw w base g 102 34 4 m (.slice va m vc) L (fun _ => .slice none 0 0) num n (fun j => mkEntry (num j)) S 0) := Lib.hid ⟨hK, fun j hj => absurd hj (by omega), fun j _ => rfl, fun j hj => absurd hj (by omega), fun j hj => absurd hj (by omega), fun j k hj => absurd hj (by omega), fun j k hj => absurd hj (by omega)⟩
  have HB0 := Lib.hid hB
  have HSG := Lib.hid hK.sg
  have HNUM := Lib.hid hnum
  have HBI := Lib.hid hBi
  have HN := Lib.hid hn
  have HBS : Hid (∀ b, rowOf (Value.slice va m vc) = some b → S b) := Lib.hid hK.bs
  have HLS0 : Hid (∀ j, j < m → ∀ b, rowOf (L j) = some b → S b) := Lib.hid hK.ls
  clear hK hn hB hnum hBi
  go_enter Tryz.func53, Tryz.ntmps53
  go_wp2_with fail
  try show Code.wp _ _ _ _ _
  go_loopw [2, 3, 4, 5] (fun iv _ _ _ wr => ∃ i : Nat, i ≤ m ∧ iv = .int .i64 i ∧ ∃ G : Nat → Value, Hid (KGw wr base g 102 34 4 m (.slice va m vc) L G num n (fun j => mkEntry (num j)) S i) ∧ Hid (∀ j, j < i → ∀ b, rowOf (G j) = some b → S b ∨ w.heap.size ≤ b) ∧ Hid (Fr S w wr)) (fun iv _ _ _ _ => m - (intOf iv).toNat)
  case atStart => exact ⟨0, Nat.zero_le _, rfl, _, HK, Lib.hid (fun j hj => absurd hj (by omega)), Lib.hid (Fr.refl _ _)⟩
  case round =>
    obtain ⟨i, hi, rfl, G, HC, HGS, HB⟩ := hrel
    have g1 := (HB.out.blk HB0.out HSG.out).cellv 8 (.slice va m vc) HBI.out
    by_cases hlt : i < m
    · have hb0 : ∃ b, va = some ⟨b, 0, none⟩ := by
        obtain ⟨b, e, _⟩ := own_ptr HC.out.bk.own (by omega)
        exact ⟨b, e⟩
      obtain ⟨b2, hb2⟩ := hb0
      subst hb2
      obtain ⟨b3, off3, c3, e3, k0, k1, k2⟩ := HC.out.bk.cells i hlt
      simp only [Value.slice.injEq, Option.some.injEq, Addr.mk.injEq, and_true, true_and] at e3
      obtain ⟨⟨e4, e5⟩, e6⟩ := e3
      rw [← e4, ← e5, Nat.zero_add] at k0 k1 k2
      rw [HC.out.nil i (Nat.le_refl _)] at k1
      clear e4 e5 e6
      obtain ⟨x, hx⟩ : ∃ x, x = (wordB (num i)) := ⟨_, rfl⟩
      have HMKC : Hid (mkEntry (num i) = [.string x, .int .u64 0, .bool false, .string ⟨#[]⟩]) := Lib.hid (by rw [hx]; rfl)
      obtain ⟨i1, hi1⟩ : ∃ x, x = num i := ⟨_, rfl⟩
      have HMK : Hid (∀ w', Calls Tryz.prog 107 #[.int .i64 (i1 : Int)] w' fun e w'' => e = .returned (.agg #[.string x, .int .u64 0, .bool false, .string ⟨#[]⟩]) ∧ Below w'.heap.size w' w'') := Lib.hid fun w' => by rw [hi1, hx]; exact markEntry_any (num i) (HNUM.out i hlt) w'
      rw [← hi1] at k2
      clear hi1 hx
      have hown := HC.out.bk.held i hlt
      obtain ⟨la, lc, hls⟩ := (reads_of_own hown).slice
      rw [hls] at k0
      have HLS := Lib.hid hls
      clear hown hls
      obtain ⟨ni, hni⟩ : ∃ x, x = n i := ⟨_, rfl⟩
      rw [← hni] at k0 HLS
      have HNI := Lib.hid hni
      clear hni
      have hnb : ni ≤ 1000000000 := by rw [HNI.out]; exact HN.out i hlt
      have hic : (i : Int) < (m : Int) := by omega
      go_upto_region 4 with (fail)
      obtain ⟨hb, hhb⟩ : ∃ x, x = wr.heap.size := ⟨_, rfl⟩
      have hal : Below wr.heap.size wr (wr.alloc (.cells #[.slice la ni lc, .slice none 0 0, .int .i64 (i1 : Int)] 102)) := (Below.refl _ _).alloc (Nat.le_refl _) _
      have HWB : Hid (Blk (wr.alloc (.cells #[.slice la ni lc, .slice none 0 0, .int .i64 (i1 : Int)] 102)) hb #[.slice la ni lc, .slice none 0 0, .int .i64 (i1 : Int)] 102) := Lib.hid (Blk.new_at _ _ _ _ hhb)
      have HCW := Lib.hid (HC.out.below hal)
      have HBW := Lib.hid (HB.out.trans (Fr.of_below hal))
      have HNE : Hid (rowOf (L i) ≠ some hb) := Lib.hid fun e => by have := HC.out.bk.lw i hlt hb e; omega
      have HGW : Hid (g < (wr.alloc (.cells #[.slice la ni lc, .slice none 0 0, .int .i64 (i1 : Int)] 102)).heap.size) := Lib.hid (Nat.lt_of_lt_of_le (HB.out.blk HB0.out HSG.out).lt hal.size)
      rw [← hhb]
      generalize wr.alloc (.cells #[.slice la ni lc, .slice none 0 0, .int .i64 (i1 : Int)] 102) = W at HWB HCW HBW HGW ⊢
      clear hal hhb HC HB g1 k0 k1 k2
      have HOT : Hid (∀ u, Oth g hb m i (.slice (some ⟨b2, 0, none⟩) m vc) L G u → ApartR W u (.slice la ni lc)) := Lib.hid (by
        rw [← HLS.out]; exact HCW.out.start hlt HGW.out HWB.out.lt HNE.out)
      have HLO : Hid (Own W base 34 4 (.slice la ni lc) ni (marks (mkEntry (num i)) ni)) := Lib.hid (by
        have := HCW.out.bk.held i hlt
        rw [HLS.out, ← HNI.out] at this
        exact this)
      have HSS : Hid (∀ b, rowOf (Value.slice la ni lc) = some b → S b ∨ w.heap.size ≤ b) := Lib.hid fun b hb => .inl (HLS0.out i hlt b (by rw [HLS.out]; exact hb))
      have h0 := HWB.out.cellv 0 (.slice la ni lc) rfl
      go_wp2_with fail
      try show Code.wp _ _ _ _ _
      go_loopw [4, 5] (fun lv kv wz => ∃ k : Nat, k ≤ 40 ∧ kv = .int .i64 k ∧ (∃ xa xn xc, lv = .slice xa xn xc ∧ xn = ni + k ∧ Hid (Own wz base 34 4 (.slice xa xn xc) xn (marks (mkEntry (num i)) xn)) ∧ Hid (∀ u, Oth g hb m i (.slice (some ⟨b2, 0, none⟩) m vc) L G u → ApartR wz u (.slice xa xn xc)) ∧ Hid (∀ b, rowOf (Value.slice xa xn xc) = some b → S b ∨ w.heap.size ≤ b)) ∧
        Hid (KGw wz base g 102 34 4 m (.slice (some ⟨b2, 0, none⟩) m vc) L G num n (fun j => mkEntry (num j)) S i) ∧ Hid (Blk wz hb #[.slice la ni lc, .slice none 0 0, .int .i64 (i1 : Int)] 102) ∧ Hid (Fr S w wz)) (fun _ kv _ => 40 - (intOf kv).toNat)
      case atStart => exact ⟨0, by omega, rfl, ⟨la, ni, lc, rfl, rfl, HLO, HOT, HSS⟩, HCW, HWB, HBW⟩
      case round =>
        obtain ⟨k, hk, rfl, ⟨xa, xn, xc, rfl, hxn, HX, HO, HXS⟩, HG2, HH, HB2⟩ := hrel
        have HXN := Lib.hid hxn
        have hxb : xn ≤ 2000000000 := by omega
        clear hxn h0
        obtain ⟨wz, hwz⟩ : ∃ z, z = wr := ⟨_, rfl⟩
        subst hwz
        by_cases hk40 : k < 40
        · have h2 := HH.out.cellv 2 (.int .i64 (i1 : Int)) rfl
          go_upto_region 8 with (fail)
          go_wp2_with fail
          refine (HMK.out _).mono ?_
          rintro e wm ⟨rfl, bm⟩
          have HAL : Hid (Below wz.heap.size wz (wm.alloc (.cells #[.string x, .int .u64 0, .bool false, .string ⟨#[]⟩] 34))) := Lib.hid (bm.trans ((Below.refl _ _).alloc bm.size _))
          have HRD : Hid (Reads (wm.alloc (.cells #[.string x, .int .u64 0, .bool false, .string ⟨#[]⟩] 34)) 4 (.slice (some ⟨wm.heap.size, 0, none⟩) 1 1) 1 (mkEntry (num i))) := Lib.hid (by rw [HMKC.out]; exact reads_new wm #[.string x, .int .u64 0, .bool false, .string ⟨#[]⟩] _ 1 4 rfl (by unfold maxLen; omega))
          have HBZ : Hid (base ≤ (wm.alloc (.cells #[.string x, .int .u64 0, .bool false, .string ⟨#[]⟩] 34)).heap.size) := Lib.hid (Nat.le_trans (Nat.le_trans hbw HB2.out.size) HAL.out.size)
          clear bm h2
          go_wp2_with (at_builtin; go_loud (refine wp_app_oneG rfl _ _ rfl Tryz.underlying29 hi0 hz hz1 hz2 rfl (by omega) base xn (.slice xa xn xc) ⟨wm.heap.size, 0, none⟩ 1 (marks (mkEntry (num i)) xn) (mkEntry (num i)) (marks (mkEntry (num i)) (xn + 1)) (xn + 1) rfl rfl (own_below HX.out HAL.out) HRD.out (one_mkEntry _) rfl (marks_next _ _).symm (by omega) (by omega) HBZ.out ?_); intro ya yc w7 HY HGR HLE)
          have hgw : KGw w7 base g 102 34 4 m (.slice (some ⟨b2, 0, none⟩) m vc) L G num n (fun j => mkEntry (num j)) S i := (HG2.out.below HAL.out).app (hb := hb) HGR.out HLE.out (by rw [← HNI.out, HXN.out]; omega) (fun u hu => (HO.out u hu).later HAL.out.size)
          have hot : ∀ u, Oth g hb m i (.slice (some ⟨b2, 0, none⟩) m vc) L G u → ApartR w7 u (.slice ya (xn + 1) yc) := fun u hu => HGR.out.apart u ((HO.out u hu).later HAL.out.size)
          have hbh := (HH.out.below HAL.out).grown HGR.out.rows (fun e => (HO.out _ (.inr (.inl rfl)) hb rfl).2 e.symm)
          have hb7 : Fr S w w7 := (HB2.out.trans (Fr.of_below HAL.out)).trans' (Fr.of_grown (S := fun b => rowOf (Value.slice xa xn xc) = some b) HGR.out.rows fun _ e => e) HXS.out
          have hs7 : ∀ b, rowOf (Value.slice ya (xn + 1) yc) = some b → S b ∨ w.heap.size ≤ b := fun b hb' => by
            rcases grew_from HGR.out b hb' with h | h
            · exact HXS.out b h
            · exact .inr (Nat.le_trans (Nat.le_trans HB2.out.size HAL.out.size) h)
          exact ⟨⟨k + 1, by omega, by go_num, ⟨ya, xn + 1, yc, rfl, by rw [HXN.out]; omega, HY, Lib.hid hot, Lib.hid hs7⟩, Lib.hid hgw, Lib.hid hbh, Lib.hid hb7⟩, by simp [intOf]; omega⟩
        · obtain rfl : k = 40 := by omega
          have hx40 := HXN.out
          have hlo : Own wz base 34 4 (.slice xa xn xc) (n i + 40) (marks (mkEntry (num i)) (n i + 40)) := by
            have := HX.out
            rw [hx40, HNI.out] at this
            rw [hx40, HNI.out]
            exact this
          have HNX := Lib.hid (HG2.out.next hlt hlo HO.out)
          have HGN : Hid (∀ j, j < i + 1 → ∀ b, rowOf ((fun j => if j = i then (Value.slice xa xn xc) else G j) j) = some b → S b ∨ w.heap.size ≤ b) := Lib.hid fun j hj b hb' => by
            by_cases e : j = i
            · simp only [if_pos e] at hb'
              exact HXS.out b hb'
            · simp only [if_neg e] at hb'
              exact HGS.out j (by omega) b hb'
          have g1 := (HB2.out.blk HB0.out HSG.out).cellv 8 (.slice (some ⟨b2, 0, none⟩) m vc) HBI.out
          have fr := own_free HG2.out.bk.own (i * 3 + 1) (by omega)
          obtain ⟨b3, off3, c3, e3, _, k1, _⟩ := HG2.out.bk.cells i hlt
          simp only [Value.slice.injEq, Option.some.injEq, Addr.mk.injEq, and_true, true_and] at e3
          obtain ⟨⟨e4, e5⟩, e6⟩ := e3
          rw [← e4, ← e5, Nat.zero_add] at k1
          have HBZ := Lib.hid (HB2.out.trans (Fr.of_only (Only.set wz b2 (i * 3 + 1) (.slice xa xn xc)) (HBS.out b2 (rowOf_pos (own_room HG2.out.bk.own (by omega))))))
          clear e4 e5 e6 hx40 hlo
          go_upto_region 2 with (fail)
          clear g1 fr k1 hk hk40
          generalize wz.setCell ⟨b2, i * 3 + 1, none⟩ (.slice xa xn xc) = ws at HNX HBZ ⊢
          go_wp2_with fail
          go_roundw
          case rel => exact ⟨i + 1, by omega, by go_num, _, HNX, HGN, HBZ⟩
          case measure => simp [intOf]; omega
    · obtain rfl : i = m := by omega
      go_wp2_with fail
      go_end0
      exact ⟨rfl, Lib.hid ⟨G, HC.out, HGS.out⟩, HB⟩
end Go.Proofs.YtbcnapkbdbefhaaGreatDoor
namespace Go.Proofs.YtbcnapkbdbefhaaGreatDoor
open Go.RowKit

set_option maxRecDepth 100000 in
set_option maxHeartbeats 8000000 in
theorem lookEntry_any (w : World) (base g m : Nat) (B : Array Value) (bv : Value) (L G : Nat → Value) (num n : Nat → Nat) (S : Nat → Prop) (hB : Blk w g B 54) (hBi : B[8]? = some bv) (hK : KGw w base g 102 34 4 m bv L G num n (fun j => mkEntry (num j)) S m) (hm : m ≤ 1000) (hnum : ∀ j, j < m → num j < 10) (hn : ∀ j, j < m → n j ≤ 1000000000) :
    Calls Tryz.prog 66 #[.pointer (some ⟨g, 0, none⟩)] w fun e w' => e = .returned (.bool true) ∧ Below w.heap.size w w' := by
  obtain ⟨va, vc, hbvs⟩ := (reads_of_own hK.bk.own).slice
  subst hbvs
  have HK := Lib.hid hK
  have HN := Lib.hid hn
  have HB0 := Lib.hid hB
  have HNUM := Lib.hid hnum
  have HBI := Lib.hid hBi
  clear hK hn hB hnum hBi
  go_enter Tryz.func66, Tryz.ntmps66
  go_wp2_with fail
  try show Code.wp _ _ _ _ _
  go_loopw [3, 4, 5] (fun iv _ _ wr => ∃ i : Nat, i ≤ m ∧ iv = .int .i64 i ∧ Hid (Below w.heap.size w wr)) (fun iv _ _ _ => m - (intOf iv).toNat)
  case atStart => exact ⟨0, Nat.zero_le _, rfl, Lib.hid (Below.refl _ _)⟩
  case round =>
    obtain ⟨i, hi, rfl, HB⟩ := hrel
    obtain ⟨wr, hwr⟩ := the_world HB.out
    subst hwr
    have HC := Lib.hid (HK.out.below HB.out)
    have g1 := (HB0.out.below HB.out).cellv 8 (.slice va m vc) HBI.out
    by_cases hlt : i < m
    · obtain ⟨b3, off3, c3, e3, k0, k1, k2⟩ := HC.out.bk.cells i hlt
      simp only [Value.slice.injEq, true_and] at e3
      obtain ⟨e4, e6⟩ := e3
      subst e4
      clear e6
      obtain ⟨x, hx⟩ : ∃ x, x = (wordB (num i)) := ⟨_, rfl⟩
      have HMKC : Hid (mkEntry (num i) = [.string x, .int .u64 0, .bool false, .string ⟨#[]⟩]) := Lib.hid (by rw [hx]; rfl)
      obtain ⟨i1, hi1⟩ : ∃ x, x = num i := ⟨_, rfl⟩
      have HIS : Hid (∀ w', Calls Tryz.prog 120 #[(.agg #[.string x, .int .u64 0, .bool false, .string ⟨#[]⟩]), .int .i64 (i1 : Int)] w' fun e w'' => e = .returned (.bool true) ∧ Below w'.heap.size w' w'') := Lib.hid fun w' => by
        rw [hi1, hx]; exact isEntry_any (num i) (HNUM.out i hlt) w'
      rw [← hi1] at k2
      clear hi1 hx
      have hown := HC.out.bk.held i hlt
      obtain ⟨la, lc, hls⟩ := (reads_of_own hown).slice
      rw [hls] at k0 hown
      have hog := HC.out.own i hlt
      obtain ⟨ga, gc, hgs⟩ := (reads_of_own hog).slice
      rw [hgs] at k1 hog
      obtain ⟨ni, hni⟩ : ∃ x, x = n i := ⟨_, rfl⟩
      rw [← hni] at k0 k1 hown hog
      have hnb : ni ≤ 1000000000 := by rw [hni]; exact HN.out i hlt
      obtain ⟨ng, hng⟩ : ∃ x, x = ni + 40 := ⟨_, rfl⟩
      rw [← hng] at k1 hog
      have hngi : (ni : Int) + 40 = (ng : Int) := by omega
      have hngw : IntKind.i64.wrap (ng : Int) = (ng : Int) := IntWalk.i64_in _ (by omega)
      have hneq : ((ng : Int) != (ng : Int)) = false := by simp
      obtain ⟨bg, hga, _⟩ := own_ptr hog (by omega)
      subst hga
      have HOW := Lib.hid hown
      have HOG := Lib.hid hog
      have HNG := Lib.hid hng
      clear hown hog hls hgs hni hng
      go_upto_region 5 with (fail)
      obtain ⟨hb, hhb⟩ : ∃ x, x = wr.heap.size := ⟨_, rfl⟩
      have hal : Below wr.heap.size wr (wr.alloc (.cells #[.slice la ni lc, .slice (some ⟨bg, 0, none⟩) ng gc, .int .i64 (i1 : Int)] 102)) := (Below.refl _ _).alloc (Nat.le_refl _) _
      have HWB : Hid (Blk (wr.alloc (.cells #[.slice la ni lc, .slice (some ⟨bg, 0, none⟩) ng gc, .int .i64 (i1 : Int)] 102)) hb #[.slice la ni lc, .slice (some ⟨bg, 0, none⟩) ng gc, .int .i64 (i1 : Int)] 102) := Lib.hid (Blk.new_at _ _ _ _ hhb)
      have HBW := Lib.hid (HB.out.trans (hal.mono HB.out.size))
      have HOW2 := Lib.hid (own_below HOW.out hal)
      have HOG2 := Lib.hid (own_below HOG.out hal)
      rw [← hhb]
      generalize wr.alloc (.cells #[.slice la ni lc, .slice (some ⟨bg, 0, none⟩) ng gc, .int .i64 (i1 : Int)] 102) = W at HWB HBW HOW2 HOG2 ⊢
      clear hal hhb HC HB HOW HOG g1 k0 k1 k2
      have h0 := HWB.out.cellv 0 (.slice la ni lc) rfl
      have h1 := HWB.out.cellv 1 (.slice (some ⟨bg, 0, none⟩) ng gc) rfl
      go_upto_region 8 with (fail)
      go_loopw [5] (fun kv wz => ∃ k : Nat, k ≤ ng ∧ kv = .int .i64 k ∧ Hid (Below W.heap.size W wz)) (fun kv _ => ng - (intOf kv).toNat)
      case atStart => exact ⟨0, Nat.zero_le _, rfl, Lib.hid (Below.refl _ _)⟩
      case round =>
        obtain ⟨k, hk, rfl, HZ⟩ := hrel
        obtain ⟨wz, hwz⟩ : ∃ z, z = wr := ⟨_, rfl⟩
        subst hwz
        clear h0 h1
        have h1 := (HWB.out.below HZ.out).cellv 1 (.slice (some ⟨bg, 0, none⟩) ng gc) rfl
        by_cases hkg : k < ng
        · have HZD := Lib.hid (HZ.out.drew)
          have hkgc : (k : Int) < (ng : Int) := by omega
          have eg0 : ∀ w', Below W.heap.size W w' → w'.cell? ⟨bg, k * 4, none⟩ = some (.string x) := fun w' hq => by
            have := mark_cell (own_below HOG2.out hq) (sz := 4) (by rw [HMKC.out]; rfl) k 0 (by omega) (by omega) (.string x) (by rw [HMKC.out]; rfl)
            simpa using this
          have eg0H := Lib.hid eg0
          clear eg0
          have eg1 : ∀ w', Below W.heap.size W w' → w'.cell? ⟨bg, k * 4 + 1, none⟩ = some (.int .u64 0) := fun w' hq => by
            have := mark_cell (own_below HOG2.out hq) (sz := 4) (by rw [HMKC.out]; rfl) k 1 (by omega) (by omega) (.int .u64 0) (by rw [HMKC.out]; rfl)
            exact this
          have eg1H := Lib.hid eg1
          clear eg1
          have eg2 : ∀ w', Below W.heap.size W w' → w'.cell? ⟨bg, k * 4 + 2, none⟩ = some (.bool false) := fun w' hq => by
            have := mark_cell (own_below HOG2.out hq) (sz := 4) (by rw [HMKC.out]; rfl) k 2 (by omega) (by omega) (.bool false) (by rw [HMKC.out]; rfl)
            exact this
          have eg2H := Lib.hid eg2
          clear eg2
          have eg3 : ∀ w', Below W.heap.size W w' → w'.cell? ⟨bg, k * 4 + 3, none⟩ = some (.string ⟨#[]⟩) := fun w' hq => by
            have := mark_cell (own_below HOG2.out hq) (sz := 4) (by rw [HMKC.out]; rfl) k 3 (by omega) (by omega) (.string ⟨#[]⟩) (by rw [HMKC.out]; rfl)
            exact this
          have eg3H := Lib.hid eg3
          clear eg3
          by_cases hki : k < ni
          · have hb0 : ∃ b, la = some ⟨b, 0, none⟩ := by
              obtain ⟨b, e, _⟩ := own_ptr HOW2.out (by omega)
              exact ⟨b, e⟩
            obtain ⟨bl, rfl⟩ := hb0
            have hkic : (k : Int) < (ni : Int) := by omega
            have el0 : ∀ w', Below W.heap.size W w' → w'.cell? ⟨bl, k * 4, none⟩ = some (.string x) := fun w' hq => by
              have := mark_cell (own_below HOW2.out hq) (sz := 4) (by rw [HMKC.out]; rfl) k 0 (by omega) (by omega) (.string x) (by rw [HMKC.out]; rfl)
              simpa using this
            have el0H := Lib.hid el0
            clear el0
            have el1 : ∀ w', Below W.heap.size W w' → w'.cell? ⟨bl, k * 4 + 1, none⟩ = some (.int .u64 0) := fun w' hq => by
              have := mark_cell (own_below HOW2.out hq) (sz := 4) (by rw [HMKC.out]; rfl) k 1 (by omega) (by omega) (.int .u64 0) (by rw [HMKC.out]; rfl)
              exact this
            have el1H := Lib.hid el1
            clear el1
            have el2 : ∀ w', Below W.heap.size W w' → w'.cell? ⟨bl, k * 4 + 2, none⟩ = some (.bool false) := fun w' hq => by
              have := mark_cell (own_below HOW2.out hq) (sz := 4) (by rw [HMKC.out]; rfl) k 2 (by omega) (by omega) (.bool false) (by rw [HMKC.out]; rfl)
              exact this
            have el2H := Lib.hid el2
            clear el2
            have el3 : ∀ w', Below W.heap.size W w' → w'.cell? ⟨bl, k * 4 + 3, none⟩ = some (.string ⟨#[]⟩) := fun w' hq => by
              have := mark_cell (own_below HOW2.out hq) (sz := 4) (by rw [HMKC.out]; rfl) k 3 (by omega) (by omega) (.string ⟨#[]⟩) (by rw [HMKC.out]; rfl)
              exact this
            have el3H := Lib.hid el3
            clear el3
            have HSW : Hid (∀ w', Below W.heap.size W w' → w'.cell? ⟨hb, 0, none⟩ = some (.slice (some ⟨bl, 0, none⟩) ni lc) ∧ w'.cell? ⟨hb, 1, none⟩ = some (.slice (some ⟨bg, 0, none⟩) ng gc) ∧ w'.cell? ⟨hb, 2, none⟩ = some (.int .i64 (i1 : Int)) ∧ (w'.cell? ⟨bg, k * 4, none⟩ = some (.string x) ∧ w'.cell? ⟨bg, k * 4 + 1, none⟩ = some (.int .u64 0) ∧ w'.cell? ⟨bg, k * 4 + 2, none⟩ = some (.bool false) ∧ w'.cell? ⟨bg, k * 4 + 3, none⟩ = some (.string ⟨#[]⟩)) ∧ (w'.cell? ⟨bl, k * 4, none⟩ = some (.string x) ∧ w'.cell? ⟨bl, k * 4 + 1, none⟩ = some (.int .u64 0) ∧ w'.cell? ⟨bl, k * 4 + 2, none⟩ = some (.bool false) ∧ w'.cell? ⟨bl, k * 4 + 3, none⟩ = some (.string ⟨#[]⟩)) ∧ Below W.heap.size W w') := Lib.hid fun w' hq => ⟨(HWB.out.below hq).cellv 0 _ rfl, (HWB.out.below hq).cellv 1 _ rfl, (HWB.out.below hq).cellv 2 _ rfl, ⟨eg0H.out w' hq, eg1H.out w' hq, eg2H.out w' hq, eg3H.out w' hq⟩, ⟨el0H.out w' hq, el1H.out w' hq, el2H.out w' hq, el3H.out w' hq⟩, hq⟩
            go_upto_region 10 with (fail)
            clear h1
            refine wp_region_held_drew (S := fun w' => w'.cell? ⟨hb, 0, none⟩ = some (.slice (some ⟨bl, 0, none⟩) ni lc) ∧ w'.cell? ⟨hb, 1, none⟩ = some (.slice (some ⟨bg, 0, none⟩) ng gc) ∧ w'.cell? ⟨hb, 2, none⟩ = some (.int .i64 (i1 : Int)) ∧ (w'.cell? ⟨bg, k * 4, none⟩ = some (.string x) ∧ w'.cell? ⟨bg, k * 4 + 1, none⟩ = some (.int .u64 0) ∧ w'.cell? ⟨bg, k * 4 + 2, none⟩ = some (.bool false) ∧ w'.cell? ⟨bg, k * 4 + 3, none⟩ = some (.string ⟨#[]⟩)) ∧ (w'.cell? ⟨bl, k * 4, none⟩ = some (.string x) ∧ w'.cell? ⟨bl, k * 4 + 1, none⟩ = some (.int .u64 0) ∧ w'.cell? ⟨bl, k * 4 + 2, none⟩ = some (.bool false) ∧ w'.cell? ⟨bl, k * 4 + 3, none⟩ = some (.string ⟨#[]⟩)) ∧ Below W.heap.size W w') (by kernel_rfl) (HSW.out _ HZD.out) (fun hHeld => ?_)
            refine wpAnyH_take (i := 0) (v := ?vq215) (by simp only [List.getElem?_toArray]; rfl) (by kernel_rfl) (by kernel_rfl) (by kernel_rfl) (by exact fun _ _ _ h => h) (Or.inl ⟨by rfl, ?yq215⟩) (by assumption) ?rq215
            case yq215 => (intro w hSw; (try dsimp only at hSw); go_simp; try with_reducible rfl)
            try simp only [Act.put, List.setIfInBounds_toArray, List.set_cons_zero, List.set_cons_succ]
            refine wpAnyH_take (i := 1) (v := ?vq216) (by simp only [List.getElem?_toArray]; rfl) (by kernel_rfl) (by kernel_rfl) (by kernel_rfl) (by exact fun _ _ _ h => h) (Or.inl ⟨by rfl, ?yq216⟩) (by assumption) ?rq216
            case yq216 => (intro w hSw; (try dsimp only at hSw); go_simp; try with_reducible rfl)
            try simp only [Act.put, List.setIfInBounds_toArray, List.set_cons_zero, List.set_cons_succ]
            refine wpAnyH_take (i := 2) (v := ?vq217) (by simp only [List.getElem?_toArray]; rfl) (by kernel_rfl) (by kernel_rfl) (by kernel_rfl) (by exact fun _ _ _ h => h) (Or.inl ⟨by rfl, ?yq217⟩) (by assumption) ?rq217
            case yq217 => (intro w hSw; (try dsimp only at hSw); go_simp; try with_reducible rfl)
            try simp only [Act.put, List.setIfInBounds_toArray, List.set_cons_zero, List.set_cons_succ]
            refine wpAnyH_take (i := 3) (v := ?vq218) (by simp only [List.getElem?_toArray]; rfl) (by kernel_rfl) (by kernel_rfl) (by kernel_rfl) (by exact fun _ _ _ h => h) (Or.inl ⟨by rfl, ?yq218⟩) (by assumption) ?rq218
            case yq218 => (intro w hSw; (try dsimp only at hSw); go_simp; try with_reducible rfl)
            try simp only [Act.put, List.setIfInBounds_toArray, List.set_cons_zero, List.set_cons_succ]
            refine wpAnyH_take (i := 4) (v := ?vq219) (by simp only [List.getElem?_toArray]; rfl) (by kernel_rfl) (by kernel_rfl) (by kernel_rfl) (by exact fun _ _ _ h => h) (Or.inl ⟨by rfl, ?yq219⟩) (by assumption) ?rq219
            case yq219 => (intro w hSw; (try dsimp only at hSw); go_simp; try with_reducible rfl)
            try simp only [Act.put, List.setIfInBounds_toArray, List.set_cons_zero, List.set_cons_succ]
            refine wpAnyH_take (i := 5) (v := ?vq220) (by simp only [List.getElem?_toArray]; rfl) (by kernel_rfl) (by kernel_rfl) (by kernel_rfl) (by exact fun _ _ _ h => h) (Or.inl ⟨by rfl, ?yq220⟩) (by assumption) ?rq220
            case yq220 => (intro w hSw; (try dsimp only at hSw); go_simp; try with_reducible rfl)
            try simp only [Act.put, List.setIfInBounds_toArray, List.set_cons_zero, List.set_cons_succ]
            refine wpAnyH_take (i := 6) (v := ?vq221) (by simp only [List.getElem?_toArray]; rfl) (by kernel_rfl) (by kernel_rfl) (by kernel_rfl) (by exact fun _ _ _ h => h) (Or.inl ⟨by rfl, ?yq221⟩) (by assumption) ?rq221
            case yq221 => (intro w hSw; (try dsimp only at hSw); go_simp; try with_reducible rfl)
            try simp only [Act.put, List.setIfInBounds_toArray, List.set_cons_zero, List.set_cons_succ]
            refine wpAnyH_ready (rs := [7]) (by kernel_rfl) (by simp) ?_
            refine AllReadyH.cons (by simp only [List.getElem?_toArray]; rfl) (fun K hK => ?_) AllReadyH.nil
            have HH := Lib.hid hHeld.2.2.2.2.2
            go_simp
            refine (HIS.out _).mono ?_
            rintro e wa ⟨rfl, bb⟩
            have HH2 := Lib.hid (HH.out.trans (bb.mono HH.out.size))
            clear bb HH
            refine hK.out _ _ (HSW.out _ HH2.out) (fun hHeld => ?_)
            clear hK K
            try simp only [Act.put, List.setIfInBounds_toArray, List.set_cons_zero, List.set_cons_succ]
            refine wpAnyH_take (i := 8) (v := ?vq222) (by simp only [List.getElem?_toArray]; rfl) (by kernel_rfl) (by kernel_rfl) (by kernel_rfl) (by exact fun _ _ _ h => h) (Or.inl ⟨by rfl, ?yq222⟩) (by assumption) ?rq222
            case yq222 => (intro w hSw; (try dsimp only at hSw); go_simp; try with_reducible rfl)
            try simp only [Act.put, List.setIfInBounds_toArray, List.set_cons_zero, List.set_cons_succ]
            refine wpAnyH_take (i := 9) (v := ?vq223) (by simp only [List.getElem?_toArray]; rfl) (by kernel_rfl) (by kernel_rfl) (by kernel_rfl) (by exact fun _ _ _ h => h) (Or.inl ⟨by rfl, ?yq223⟩) (by assumption) ?rq223
            case yq223 => (intro w hSw; (try dsimp only at hSw); go_simp; try with_reducible rfl)
            try simp only [Act.put, List.setIfInBounds_toArray, List.set_cons_zero, List.set_cons_succ]
            refine wpAnyH_take (i := 10) (v := ?vq224) (by simp only [List.getElem?_toArray]; rfl) (by kernel_rfl) (by kernel_rfl) (by kernel_rfl) (by exact fun _ _ _ h => h) (Or.inl ⟨by rfl, ?yq224⟩) (by assumption) ?rq224
            case yq224 => (intro w hSw; (try dsimp only at hSw); go_simp; try with_reducible rfl)
            try simp only [Act.put, List.setIfInBounds_toArray, List.set_cons_zero, List.set_cons_succ]
            refine wpAnyH_take (i := 11) (v := ?vq225) (by simp only [List.getElem?_toArray]; rfl) (by kernel_rfl) (by kernel_rfl) (by kernel_rfl) (by exact fun _ _ _ h => h) (Or.inl ⟨by rfl, ?yq225⟩) (by assumption) ?rq225
            case yq225 => (intro w hSw; (try dsimp only at hSw); go_simp; try with_reducible rfl)
            try simp only [Act.put, List.setIfInBounds_toArray, List.set_cons_zero, List.set_cons_succ]
            refine wpAnyH_take (i := 12) (v := ?vq226) (by simp only [List.getElem?_toArray]; rfl) (by kernel_rfl) (by kernel_rfl) (by kernel_rfl) (by exact fun _ _ _ h => h) (Or.inl ⟨by rfl, ?yq226⟩) (by assumption) ?rq226
            case yq226 => (intro w hSw; (try dsimp only at hSw); go_simp; try with_reducible rfl)
            try simp only [Act.put, List.setIfInBounds_toArray, List.set_cons_zero, List.set_cons_succ]
            refine wpAnyH_take (i := 13) (v := ?vq227) (by simp only [List.getElem?_toArray]; rfl) (by kernel_rfl) (by kernel_rfl) (by kernel_rfl) (by exact fun _ _ _ h => h) (Or.inl ⟨by rfl, ?yq227⟩) (by assumption) ?rq227
            case yq227 => (intro w hSw; (try dsimp only at hSw); go_simp; try with_reducible rfl)
            try simp only [Act.put, List.setIfInBounds_toArray, List.set_cons_zero, List.set_cons_succ]
            refine wpAnyH_take (i := 14) (v := ?vq228) (by simp only [List.getElem?_toArray]; rfl) (by kernel_rfl) (by kernel_rfl) (by kernel_rfl) (by exact fun _ _ _ h => h) (Or.inl ⟨by rfl, ?yq228⟩) (by assumption) ?rq228
            case yq228 => (intro w hSw; (try dsimp only at hSw); go_simp; try with_reducible rfl)
            try simp only [Act.put, List.setIfInBounds_toArray, List.set_cons_zero, List.set_cons_succ]
            refine wpAnyH_take (i := 15) (v := ?vq229) (by simp only [List.getElem?_toArray]; rfl) (by kernel_rfl) (by kernel_rfl) (by kernel_rfl) (by exact fun _ _ _ h => h) (Or.inl ⟨by rfl, ?yq229⟩) (by assumption) ?rq229
            case yq229 => (intro w hSw; (try dsimp only at hSw); go_simp; try with_reducible rfl)
            try simp only [Act.put, List.setIfInBounds_toArray, List.set_cons_zero, List.set_cons_succ]
            refine wpAnyH_take (i := 16) (v := ?vq230) (by simp only [List.getElem?_toArray]; rfl) (by kernel_rfl) (by kernel_rfl) (by kernel_rfl) (by exact fun _ _ _ h => h) (Or.inl ⟨by rfl, ?yq230⟩) (by assumption) ?rq230
            case yq230 => (intro w hSw; (try dsimp only at hSw); go_simp; try with_reducible rfl)
            try simp only [Act.put, List.setIfInBounds_toArray, List.set_cons_zero, List.set_cons_succ]
            refine wpAnyH_take (i := 17) (v := ?vq231) (by simp only [List.getElem?_toArray]; rfl) (by kernel_rfl) (by kernel_rfl) (by kernel_rfl) (by exact fun _ _ _ h => h) (Or.inl ⟨by rfl, ?yq231⟩) (by assumption) ?rq231
            case yq231 => (intro w hSw; (try dsimp only at hSw); go_simp; try with_reducible rfl)
            try simp only [Act.put, List.setIfInBounds_toArray, List.set_cons_zero, List.set_cons_succ]
            refine wpAnyH_take (i := 18) (v := ?vq232) (by simp only [List.getElem?_toArray]; rfl) (by kernel_rfl) (by kernel_rfl) (by kernel_rfl) (by exact fun _ _ _ h => h) (Or.inl ⟨by rfl, ?yq232⟩) (by assumption) ?rq232
            case yq232 => (intro w hSw; (try dsimp only at hSw); go_simp; try with_reducible rfl)
            try simp only [Act.put, List.setIfInBounds_toArray, List.set_cons_zero, List.set_cons_succ]
            refine wpAnyH_take (i := 19) (v := ?vq233) (by simp only [List.getElem?_toArray]; rfl) (by kernel_rfl) (by kernel_rfl) (by kernel_rfl) (by exact fun _ _ _ h => h) (Or.inl ⟨by rfl, ?yq233⟩) (by assumption) ?rq233
            case yq233 => (intro w hSw; (try dsimp only at hSw); go_simp; try with_reducible rfl)
            try simp only [Act.put, List.setIfInBounds_toArray, List.set_cons_zero, List.set_cons_succ]
            refine wpAnyH_take (i := 20) (v := ?vq234) (by simp only [List.getElem?_toArray]; rfl) (by kernel_rfl) (by kernel_rfl) (by kernel_rfl) (by exact fun _ _ _ h => h) (Or.inl ⟨by rfl, ?yq234⟩) (by assumption) ?rq234
            case yq234 => (intro w hSw; (try dsimp only at hSw); go_simp; try with_reducible rfl)
            try simp only [Act.put, List.setIfInBounds_toArray, List.set_cons_zero, List.set_cons_succ]
            refine wpAnyH_take (i := 21) (v := ?vq235) (by simp only [List.getElem?_toArray]; rfl) (by kernel_rfl) (by kernel_rfl) (by kernel_rfl) (by exact fun _ _ _ h => h) (Or.inl ⟨by rfl, ?yq235⟩) (by assumption) ?rq235
            case yq235 => (intro w hSw; (try dsimp only at hSw); go_simp; try with_reducible rfl)
            try simp only [Act.put, List.setIfInBounds_toArray, List.set_cons_zero, List.set_cons_succ]
            refine wpAnyH_take (i := 22) (v := ?vq236) (by simp only [List.getElem?_toArray]; rfl) (by kernel_rfl) (by kernel_rfl) (by kernel_rfl) (by exact fun _ _ _ h => h) (Or.inl ⟨by rfl, ?yq236⟩) (by assumption) ?rq236
            case yq236 => (intro w hSw; (try dsimp only at hSw); go_simp; try with_reducible rfl)
            try simp only [Act.put, List.setIfInBounds_toArray, List.set_cons_zero, List.set_cons_succ]
            refine wpAnyH_ready (rs := [23]) (by kernel_rfl) (by simp) ?_
            refine AllReadyH.cons (by simp only [List.getElem?_toArray]; rfl) (fun K hK => ?_) AllReadyH.nil
            have HH := Lib.hid hHeld.2.2.2.2.2
            go_simp
            refine (HIS.out _).mono ?_
            rintro e wb ⟨rfl, bb⟩
            have HH2 := Lib.hid (HH.out.trans (bb.mono HH.out.size))
            clear bb HH
            refine hK.out _ _ (HSW.out _ HH2.out) (fun hHeld => ?_)
            clear hK K
            try simp only [Act.put, List.setIfInBounds_toArray, List.set_cons_zero, List.set_cons_succ]
            refine wpAnyH_take (i := 24) (v := ?vq237) (by simp only [List.getElem?_toArray]; rfl) (by kernel_rfl) (by kernel_rfl) (by kernel_rfl) (by exact fun _ _ _ h => h) (Or.inl ⟨by rfl, ?yq237⟩) (by assumption) ?rq237
            case yq237 => (intro w hSw; (try dsimp only at hSw); go_simp; try with_reducible rfl)
            try simp only [Act.put, List.setIfInBounds_toArray, List.set_cons_zero, List.set_cons_succ]
            refine wpAnyH_take (i := 25) (v := ?vq238) (by simp only [List.getElem?_toArray]; rfl) (by kernel_rfl) (by kernel_rfl) (by kernel_rfl) (by exact fun _ _ _ h => h) (Or.inl ⟨by rfl, ?yq238⟩) (by assumption) ?rq238
            case yq238 => (intro w hSw; (try dsimp only at hSw); go_simp; try with_reducible rfl)
            try simp only [Act.put, List.setIfInBounds_toArray, List.set_cons_zero, List.set_cons_succ]
            refine wpAnyH_take (i := 26) (v := ?vq239) (by simp only [List.getElem?_toArray]; rfl) (by kernel_rfl) (by kernel_rfl) (by kernel_rfl) (by exact fun _ _ _ h => h) (Or.inl ⟨by rfl, ?yq239⟩) (by assumption) ?rq239
            case yq239 => (intro w hSw; (try dsimp only at hSw); go_simp; try with_reducible rfl)
            try simp only [Act.put, List.setIfInBounds_toArray, List.set_cons_zero, List.set_cons_succ]
            refine wpAnyH_done (by kernel_rfl) ?_ _
            have HBD := Lib.hid HH2.out
            clear HH2
            rename_i hH
            clear hH
            go_wp2_with fail
            go_roundw
            case rel => exact ⟨k + 1, by omega, by go_num, HBD⟩
            case measure => simp [intOf]; omega
          · have hd : decide ((k : Int) < (ni : Int)) = false := by simp; omega
            have hd2 : decide (k < ni) = false := by simp; omega
            have HSW : Hid (∀ w', Below W.heap.size W w' → w'.cell? ⟨hb, 0, none⟩ = some (.slice la ni lc) ∧ w'.cell? ⟨hb, 1, none⟩ = some (.slice (some ⟨bg, 0, none⟩) ng gc) ∧ w'.cell? ⟨hb, 2, none⟩ = some (.int .i64 (i1 : Int)) ∧ (w'.cell? ⟨bg, k * 4, none⟩ = some (.string x) ∧ w'.cell? ⟨bg, k * 4 + 1, none⟩ = some (.int .u64 0) ∧ w'.cell? ⟨bg, k * 4 + 2, none⟩ = some (.bool false) ∧ w'.cell? ⟨bg, k * 4 + 3, none⟩ = some (.string ⟨#[]⟩)) ∧ Below W.heap.size W w') := Lib.hid fun w' hq => ⟨(HWB.out.below hq).cellv 0 _ rfl, (HWB.out.below hq).cellv 1 _ rfl, (HWB.out.below hq).cellv 2 _ rfl, ⟨eg0H.out w' hq, eg1H.out w' hq, eg2H.out w' hq, eg3H.out w' hq⟩, hq⟩
            go_upto_region 10 with (fail)
            clear h1
            refine wp_region_held_drew (S := fun w' => w'.cell? ⟨hb, 0, none⟩ = some (.slice la ni lc) ∧ w'.cell? ⟨hb, 1, none⟩ = some (.slice (some ⟨bg, 0, none⟩) ng gc) ∧ w'.cell? ⟨hb, 2, none⟩ = some (.int .i64 (i1 : Int)) ∧ (w'.cell? ⟨bg, k * 4, none⟩ = some (.string x) ∧ w'.cell? ⟨bg, k * 4 + 1, none⟩ = some (.int .u64 0) ∧ w'.cell? ⟨bg, k * 4 + 2, none⟩ = some (.bool false) ∧ w'.cell? ⟨bg, k * 4 + 3, none⟩ = some (.string ⟨#[]⟩)) ∧ Below W.heap.size W w') (by kernel_rfl) (HSW.out _ HZD.out) (fun hHeld => ?_)
            refine wpAnyH_take (i := 0) (v := ?vq240) (by simp only [List.getElem?_toArray]; rfl) (by kernel_rfl) (by kernel_rfl) (by kernel_rfl) (by exact fun _ _ _ h => h) (Or.inl ⟨by rfl, ?yq240⟩) (by assumption) ?rq240
            case yq240 => (intro w hSw; (try dsimp only at hSw); go_simp; try with_reducible rfl)
            try simp only [Act.put, List.setIfInBounds_toArray, List.set_cons_zero, List.set_cons_succ]
            refine wpAnyH_take (i := 1) (v := ?vq241) (by simp only [List.getElem?_toArray]; rfl) (by kernel_rfl) (by kernel_rfl) (by kernel_rfl) (by exact fun _ _ _ h => h) (Or.inl ⟨by rfl, ?yq241⟩) (by assumption) ?rq241
            case yq241 => (intro w hSw; (try dsimp only at hSw); go_simp; try with_reducible rfl)
            try simp only [Act.put, List.setIfInBounds_toArray, List.set_cons_zero, List.set_cons_succ]
            refine wpAnyH_take (i := 2) (v := ?vq242) (by simp only [List.getElem?_toArray]; rfl) (by kernel_rfl) (by kernel_rfl) (by kernel_rfl) (by exact fun _ _ _ h => h) (Or.inl ⟨by rfl, ?yq242⟩) (by assumption) ?rq242
            case yq242 => (intro w hSw; (try dsimp only at hSw); go_simp; try with_reducible rfl)
            try simp only [Act.put, List.setIfInBounds_toArray, List.set_cons_zero, List.set_cons_succ]
            refine wpAnyH_take (i := 3) (v := ?vq243) (by simp only [List.getElem?_toArray]; rfl) (by kernel_rfl) (by kernel_rfl) (by kernel_rfl) (by exact fun _ _ _ h => h) (Or.inl ⟨by rfl, ?yq243⟩) (by assumption) ?rq243
            case yq243 => (intro w hSw; (try dsimp only at hSw); go_simp; try with_reducible rfl)
            try simp only [Act.put, List.setIfInBounds_toArray, List.set_cons_zero, List.set_cons_succ]
            refine wpAnyH_take (i := 4) (v := ?vq244) (by simp only [List.getElem?_toArray]; rfl) (by kernel_rfl) (by kernel_rfl) (by kernel_rfl) (by exact fun _ _ _ h => h) (Or.inl ⟨by rfl, ?yq244⟩) (by assumption) ?rq244
            case yq244 => (intro w hSw; (try dsimp only at hSw); go_simp; try with_reducible rfl)
            try simp only [Act.put, List.setIfInBounds_toArray, List.set_cons_zero, List.set_cons_succ]
            refine wpAnyH_take (i := 5) (v := ?vq245) (by simp only [List.getElem?_toArray]; rfl) (by kernel_rfl) (by kernel_rfl) (by kernel_rfl) (by exact fun _ _ _ h => h) (Or.inl ⟨by rfl, ?yq245⟩) (by assumption) ?rq245
            case yq245 => (intro w hSw; (try dsimp only at hSw); go_simp; try with_reducible rfl)
            try simp only [Act.put, List.setIfInBounds_toArray, List.set_cons_zero, List.set_cons_succ]
            refine wpAnyH_take (i := 6) (v := ?vq246) (by simp only [List.getElem?_toArray]; rfl) (by kernel_rfl) (by kernel_rfl) (by kernel_rfl) (by exact fun _ _ _ h => h) (Or.inl ⟨by rfl, ?yq246⟩) (by assumption) ?rq246
            case yq246 => (intro w hSw; (try dsimp only at hSw); go_simp; try with_reducible rfl)
            try simp only [Act.put, List.setIfInBounds_toArray, List.set_cons_zero, List.set_cons_succ]
            refine wpAnyH_ready (rs := [7]) (by kernel_rfl) (by simp) ?_
            refine AllReadyH.cons (by simp only [List.getElem?_toArray]; rfl) (fun K hK => ?_) AllReadyH.nil
            have HH := Lib.hid hHeld.2.2.2.2
            go_simp
            refine (HIS.out _).mono ?_
            rintro e wa ⟨rfl, bb⟩
            have HH2 := Lib.hid (HH.out.trans (bb.mono HH.out.size))
            clear bb HH
            refine hK.out _ _ (HSW.out _ HH2.out) (fun hHeld => ?_)
            clear hK K
            try simp only [Act.put, List.setIfInBounds_toArray, List.set_cons_zero, List.set_cons_succ]
            refine wpAnyH_take (i := 8) (v := ?vq247) (by simp only [List.getElem?_toArray]; rfl) (by kernel_rfl) (by kernel_rfl) (by kernel_rfl) (by exact fun _ _ _ h => h) (Or.inl ⟨by rfl, ?yq247⟩) (by assumption) ?rq247
            case yq247 => (intro w hSw; (try dsimp only at hSw); go_simp; try with_reducible rfl)
            try simp only [Act.put, List.setIfInBounds_toArray, List.set_cons_zero, List.set_cons_succ]
            refine wpAnyH_take (i := 9) (v := ?vq248) (by simp only [List.getElem?_toArray]; rfl) (by kernel_rfl) (by kernel_rfl) (by kernel_rfl) (by exact fun _ _ _ h => h) (Or.inl ⟨by rfl, ?yq248⟩) (by assumption) ?rq248
            case yq248 => (intro w hSw; (try dsimp only at hSw); go_simp; try with_reducible rfl)
            try simp only [Act.put, List.setIfInBounds_toArray, List.set_cons_zero, List.set_cons_succ]
            refine wpAnyH_take (i := 10) (v := ?vq249) (by simp only [List.getElem?_toArray]; rfl) (by kernel_rfl) (by kernel_rfl) (by kernel_rfl) (by exact fun _ _ _ h => h) (Or.inl ⟨by rfl, ?yq249⟩) (by assumption) ?rq249
            case yq249 => (intro w hSw; (try dsimp only at hSw); go_simp; try with_reducible rfl)
            try simp only [Act.put, List.setIfInBounds_toArray, List.set_cons_zero, List.set_cons_succ]
            refine wpAnyH_take (i := 11) (v := ?vq250) (by simp only [List.getElem?_toArray]; rfl) (by kernel_rfl) (by kernel_rfl) (by kernel_rfl) (by exact fun _ _ _ h => h) (Or.inl ⟨by rfl, ?yq250⟩) (by assumption) ?rq250
            case yq250 => (intro w hSw; (try dsimp only at hSw); go_simp; try with_reducible rfl)
            try simp only [Act.put, List.setIfInBounds_toArray, List.set_cons_zero, List.set_cons_succ]
            refine wpAnyH_take (i := 12) (v := ?vq251) (by simp only [List.getElem?_toArray]; rfl) (by kernel_rfl) (by kernel_rfl) (by kernel_rfl) (by exact fun _ _ _ h => h) (Or.inl ⟨by rfl, ?yq251⟩) (by assumption) ?rq251
            case yq251 => (intro w hSw; (try dsimp only at hSw); go_simp; try with_reducible rfl)
            try simp only [Act.put, List.setIfInBounds_toArray, List.set_cons_zero, List.set_cons_succ]
            refine wpAnyH_take (i := 13) (v := ?vq252) (by simp only [List.getElem?_toArray]; rfl) (by kernel_rfl) (by kernel_rfl) (by kernel_rfl) (by exact fun _ _ _ h => h) (Or.inl ⟨by rfl, ?yq252⟩) (by assumption) ?rq252
            case yq252 => (intro w hSw; (try dsimp only at hSw); go_simp; try with_reducible rfl)
            try simp only [Act.put, List.setIfInBounds_toArray, List.set_cons_zero, List.set_cons_succ]
            refine wpAnyH_take (i := 14) (v := ?vq253) (by simp only [List.getElem?_toArray]; rfl) (by kernel_rfl) (by kernel_rfl) (by kernel_rfl) (by exact fun _ _ _ h => h) (Or.inl ⟨by rfl, ?yq253⟩) (by assumption) ?rq253
            case yq253 => (intro w hSw; (try dsimp only at hSw); go_simp; try with_reducible rfl)
            try simp only [Act.put, List.setIfInBounds_toArray, List.set_cons_zero, List.set_cons_succ]
            refine wpAnyH_take (i := 15) (v := ?vq254) (by simp only [List.getElem?_toArray]; rfl) (by kernel_rfl) (by kernel_rfl) (by kernel_rfl) (by exact fun _ _ _ h => h) (Or.inl ⟨by rfl, ?yq254⟩) (by assumption) ?rq254
            case yq254 => (intro w hSw; (try dsimp only at hSw); go_simp; try with_reducible rfl)
            try simp only [Act.put, List.setIfInBounds_toArray, List.set_cons_zero, List.set_cons_succ]
            refine wpAnyH_take (i := 16) (v := undef) (by simp only [List.getElem?_toArray]; rfl) (by kernel_rfl) (by kernel_rfl) (by kernel_rfl) (by exact fun _ _ _ h => h) (Or.inr ⟨by rfl, rfl⟩) (by assumption) ?_
            try simp only [Act.put, List.setIfInBounds_toArray, List.set_cons_zero, List.set_cons_succ]
            refine wpAnyH_take (i := 17) (v := undef) (by simp only [List.getElem?_toArray]; rfl) (by kernel_rfl) (by kernel_rfl) (by kernel_rfl) (by exact fun _ _ _ h => h) (Or.inr ⟨by rfl, rfl⟩) (by assumption) ?_
            try simp only [Act.put, List.setIfInBounds_toArray, List.set_cons_zero, List.set_cons_succ]
            refine wpAnyH_take (i := 18) (v := undef) (by simp only [List.getElem?_toArray]; rfl) (by kernel_rfl) (by kernel_rfl) (by kernel_rfl) (by exact fun _ _ _ h => h) (Or.inr ⟨by rfl, rfl⟩) (by assumption) ?_
            try simp only [Act.put, List.setIfInBounds_toArray, List.set_cons_zero, List.set_cons_succ]
            refine wpAnyH_take (i := 19) (v := undef) (by simp only [List.getElem?_toArray]; rfl) (by kernel_rfl) (by kernel_rfl) (by kernel_rfl) (by exact fun _ _ _ h => h) (Or.inr ⟨by rfl, rfl⟩) (by assumption) ?_
            try simp only [Act.put, List.setIfInBounds_toArray, List.set_cons_zero, List.set_cons_succ]
            refine wpAnyH_take (i := 20) (v := undef) (by simp only [List.getElem?_toArray]; rfl) (by kernel_rfl) (by kernel_rfl) (by kernel_rfl) (by exact fun _ _ _ h => h) (Or.inr ⟨by rfl, rfl⟩) (by assumption) ?_
            try simp only [Act.put, List.setIfInBounds_toArray, List.set_cons_zero, List.set_cons_succ]
            refine wpAnyH_take (i := 21) (v := undef) (by simp only [List.getElem?_toArray]; rfl) (by kernel_rfl) (by kernel_rfl) (by kernel_rfl) (by exact fun _ _ _ h => h) (Or.inr ⟨by rfl, rfl⟩) (by assumption) ?_
            try simp only [Act.put, List.setIfInBounds_toArray, List.set_cons_zero, List.set_cons_succ]
            refine wpAnyH_take (i := 22) (v := undef) (by simp only [List.getElem?_toArray]; rfl) (by kernel_rfl) (by kernel_rfl) (by kernel_rfl) (by exact fun _ _ _ h => h) (Or.inr ⟨by rfl, rfl⟩) (by assumption) ?_
            try simp only [Act.put, List.setIfInBounds_toArray, List.set_cons_zero, List.set_cons_succ]
            refine wpAnyH_take (i := 23) (v := undef) (by simp only [List.getElem?_toArray]; rfl) (by kernel_rfl) (by kernel_rfl) (by kernel_rfl) (by exact fun _ _ _ h => h) (Or.inr ⟨by rfl, rfl⟩) (by assumption) ?_
            try simp only [Act.put, List.setIfInBounds_toArray, List.set_cons_zero, List.set_cons_succ]
            refine wpAnyH_take (i := 24) (v := undef) (by simp only [List.getElem?_toArray]; rfl) (by kernel_rfl) (by kernel_rfl) (by kernel_rfl) (by exact fun _ _ _ h => h) (Or.inr ⟨by rfl, rfl⟩) (by assumption) ?_
            try simp only [Act.put, List.setIfInBounds_toArray, List.set_cons_zero, List.set_cons_succ]
            refine wpAnyH_take (i := 25) (v := ?vq255) (by simp only [List.getElem?_toArray]; rfl) (by kernel_rfl) (by kernel_rfl) (by kernel_rfl) (by exact fun _ _ _ h => h) (Or.inl ⟨by rfl, ?yq255⟩) (by assumption) ?rq255
            case yq255 => (intro w hSw; (try dsimp only at hSw); go_simp; try with_reducible rfl)
            try simp only [Act.put, List.setIfInBounds_toArray, List.set_cons_zero, List.set_cons_succ]
            refine wpAnyH_take (i := 26) (v := ?vq256) (by simp only [List.getElem?_toArray]; rfl) (by kernel_rfl) (by kernel_rfl) (by kernel_rfl) (by exact fun _ _ _ h => h) (Or.inl ⟨by rfl, ?yq256⟩) (by assumption) ?rq256
            case yq256 => (intro w hSw; (try dsimp only at hSw); go_simp; try with_reducible rfl)
            try simp only [Act.put, List.setIfInBounds_toArray, List.set_cons_zero, List.set_cons_succ]
            refine wpAnyH_done (by kernel_rfl) ?_ _
            have HBD := Lib.hid HH2.out
            clear HH2
            rename_i hH
            clear hH
            go_wp2_with fail
            go_roundw
            case rel => exact ⟨k + 1, by omega, by go_num, HBD⟩
            case measure => simp [intOf]; omega
        · have hbf := Lib.hid (HBW.out.trans (HZ.out.mono HBW.out.size))
          go_wp2_with fail
          go_roundw
          case rel => exact ⟨i + 1, by omega, by go_num, hbf⟩
          case measure => simp [intOf]; omega
    · obtain rfl : i = m := by omega
      go_wp2_with fail
      go_ret
      exact ⟨rfl, HB.out⟩
end Go.Proofs.YtbcnapkbdbefhaaGreatDoor
namespace Go.Proofs.YtbcnapkbdbefhaaGreatDoor
open Go.RowKit

set_option maxRecDepth 100000 in
set_option maxHeartbeats 1000000 in
theorem toldEntry_any (w : World) (g M m : Nat) (f : Nat → Value) (L : Nat → Value) (num : Nat → Nat) (l : Value) (h : Pg w g M f) (ho : Own w g 102 3 (f 8) m (helds m L (fun _ => .slice none 0 0) num)) (hm : m ≤ 1000) (hM : M ≤ 1000) (hls : ∃ a n c, l = .slice a n c) (hL : L m = l) (hN : num m = M + 1) :
    Calls Tryz.prog 15 #[.pointer (some ⟨g, 0, none⟩), l] w fun e w' => e = .returned (.tuple #[]) ∧ Hid (∃ v', Pg w' g (M + 1) (upd f 8 v') ∧ Own w' g 102 3 (upd f 8 v' 8) (m + 1) (helds (m + 1) L (fun _ => .slice none 0 0) num) ∧ KeepsO w w' f (upd f 8 v') 8) ∧ Below g w w' := by
  have HKB := Lib.hid (keepEntry_any w g g M m f (f 8) L (fun _ => .slice none 0 0) num l h.blk rfl ho (fun e => by have := (h.lw 8 g e).1; omega) (Nat.le_refl _) hm hM hls)
  have H := Lib.hid h
  have HLN : Hid (L m = l ∧ num m = M + 1) := Lib.hid ⟨hL, hN⟩
  clear h ho hL hN
  obtain ⟨xa, xn, xc, rfl⟩ := hls
  go_enter Tryz.func15, Tryz.ntmps15
  go_wp2_with fail
  refine HKB.out.mono ?_
  rintro e w' ⟨rfl, ba, bc, hb, ho, hne, hk⟩
  have hp := H.out.keep hb.out ho.out hne.out hk.out
  have HF : Hid (∃ v', Pg w' g (M + 1) (upd f 8 v') ∧ Own w' g 102 3 (upd f 8 v' 8) (m + 1) (helds (m + 1) L (fun _ => .slice none 0 0) num) ∧ KeepsO w w' f (upd f 8 v') 8) := Lib.hid ⟨_, hp.1, by rw [upd_same, helds_next, HLN.out.1, HLN.out.2]; exact ho.out, hp.2⟩
  have HB := Lib.hid hk.out.below
  clear hb ho hne hk hp
  go_wp2
  go_end0
  exact ⟨rfl, HF, HB.out⟩
end Go.Proofs.YtbcnapkbdbefhaaGreatDoor

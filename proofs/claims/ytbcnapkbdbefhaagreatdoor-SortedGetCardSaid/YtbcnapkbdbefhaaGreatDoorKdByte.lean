/- The book of lists, lists of kind Byte: their marks; a list is kept. No condition. | The book of lists, lists of kind Byte: the marks are written into each list. No condition. | The book of lists, lists of kind Byte: forty marks more behind each list. No condition. | The book of lists, lists of kind Byte: each list holds its own marks. No condition. | The book of lists, lists of kind Byte: a list is told. No condition. -/
import Derived.Test.YtbcnapkbdbefhaaGreatDoorKindA
namespace Go.Proofs.YtbcnapkbdbefhaaGreatDoor
open Go.RowKit

set_option maxRecDepth 100000 in
theorem infoHByte : (Tryz.prog.info? 100).map (fun i => (i.zero, i.size, i.bytes)) = some (some (.agg #[.slice none 0 0, .slice none 0 0, .int .i64 0]), 3, 56) := by kernel_rfl
set_option maxRecDepth 100000 in
theorem infoEByte : (Tryz.prog.info? 5).map (fun i => (i.zero, i.size, i.bytes)) = some (some (.int .u8 0), 1, 1) := by kernel_rfl
def mkByte (n : Nat) : List Value := [.int .u8 (((1 + n) : Nat) : Int)]
theorem one_mkByte (n : Nat) : ∀ u ∈ mkByte n, u.oneCell' = true := by
  intro u hu
  simp only [mkByte, List.mem_cons, List.not_mem_nil, or_false] at hu
  subst hu; rfl
set_option maxRecDepth 100000 in
theorem markByte_any (n : Nat) (hn : n < 10) (w : World) : Calls Tryz.prog 100 #[.int .i64 n] w fun e w' => e = .returned (.int .u8 ((1 + n : Nat) : Int)) ∧ Below w.heap.size w w' := by
  obtain ⟨r, hr⟩ : ∃ r, r = 1 + n := ⟨_, rfl⟩
  rw [← hr]
  have h0 : (n : Int) % 250 = (n : Int) := by omega
  have h1 : (1 : Int) + (n : Int) = (r : Int) := by omega
  have h2 : IntKind.u8.wrap (r : Int) = (r : Int) := IntWalk.u8_in _ (by omega)
  clear hr
  go_enter Tryz.func100, Tryz.ntmps100
  go_wp2
  go_ret
  exact ⟨rfl, Below.refl _ _⟩
set_option maxRecDepth 100000 in
theorem isByte_any (n : Nat) (hn : n < 10) (w : World) : Calls Tryz.prog 113 #[.int .u8 ((1 + n : Nat) : Int), .int .i64 n] w fun e w' => e = .returned (.bool true) ∧ Below w.heap.size w w' := by
  obtain ⟨r, hr⟩ : ∃ r, r = 1 + n := ⟨_, rfl⟩
  rw [← hr]
  have h0 : (n : Int) % 250 = (n : Int) := by omega
  have h1 : (1 : Int) + (n : Int) = (r : Int) := by omega
  have h2 : IntKind.u8.wrap (r : Int) = (r : Int) := IntWalk.u8_in _ (by omega)
  clear hr
  go_enter Tryz.func113, Tryz.ntmps113
  go_wp2
  go_ret
  exact ⟨by first | rfl | (simp; done), Below.refl _ _⟩
theorem bkF_setByte (M : Nat) (f : Nat → Value) (v : Value) : (bkF M f).setIfInBounds 1 v = bkF M (upd f 1 v) := rfl
set_option maxRecDepth 100000 in
set_option maxHeartbeats 8000000 in
theorem keepByte_any (w : World) (base g M m : Nat) (f : Nat → Value) (bv : Value) (L G : Nat → Value) (num : Nat → Nat) (l : Value) (hB : Blk w g (bkF M f) 54) (hf : f 1 = bv) (hbv : Own w base 100 3 bv m (helds m L G num)) (hbg : rowOf bv ≠ some g)
    (hbase : base ≤ g) (hm : m ≤ 1000) (hM : M ≤ 1000) (hls : ∃ a n c, l = .slice a n c) :
    Calls Tryz.prog 31 #[.pointer (some ⟨g, 0, none⟩), l] w fun e w' => e = .returned (.tuple #[]) ∧ ∃ ba bc, Hid (Blk w' g (bkF (M + 1) (upd f 1 (.slice ba (m + 1) bc))) 54) ∧
      Hid (Own w' base 100 3 (.slice ba (m + 1) bc) (m + 1) (helds m L G num ++ hcell l (.slice none 0 0) (M + 1))) ∧ Hid (rowOf (Value.slice ba (m + 1) bc) ≠ some g) ∧ Hid (Kept w w' base g bv (.slice ba (m + 1) bc)) := by
  obtain ⟨xa, xn, xc, rfl⟩ := hls
  obtain ⟨i0, hi0, hz, hz1, hz2⟩ := info_parts infoHByte
  have HBV := Lib.hid hbv
  have HBG := Lib.hid hbg
  obtain ⟨va, vc, hbvs⟩ := (reads_of_own hbv).slice
  subst hbvs
  have c0 := hB.cellv 0 (.int .i64 (M : Int)) rfl
  have f0 := hB.free 0
  have hB1 := hB.set 0 (.int .i64 ((M : Int) + 1))
  have hO1 := Only.set w g 0 (.int .i64 ((M : Int) + 1))
  have hglt := hB.lt
  have HB := Lib.hid hB
  have HFI : Hid ((bkF (M + 1) f)[1]? = some (.slice va m vc)) := Lib.hid (by show some (f 1) = _; rw [hf])
  clear hB hbv hbg hf
  go_enter Tryz.func31, Tryz.ntmps31
  go_upto_region 1 with (fail)
  obtain ⟨mm, hmm⟩ : ∃ n, n = m + 1 := ⟨_, rfl⟩
  obtain ⟨MM, hMM⟩ : ∃ n, n = M + 1 := ⟨_, rfl⟩
  have HMM := Lib.hid hmm
  have HMN := Lib.hid hMM
  rw [← hMM] at HFI
  rw [show ((M : Int) + 1) = (MM : Int) from by omega] at hB1 hO1 ⊢
  have hB1' : Blk (w.setCell ⟨g, 0, none⟩ (.int .i64 (MM : Int))) g (bkF MM f) 54 := hB1
  obtain ⟨W1, hW1⟩ : ∃ x, x = w.setCell ⟨g, 0, none⟩ (.int .i64 (MM : Int)) := ⟨_, rfl⟩
  rw [← hW1] at hB1' hO1 ⊢
  have hm2 : mm ≤ 1001 := by omega
  have hdr : Below W1.heap.size W1 W1.drew := (Below.refl _ _).drew
  have HBD := Lib.hid (hB1'.below hdr)
  obtain ⟨wd, hwd⟩ : ∃ x, x = W1.drew := ⟨_, rfl⟩
  rw [← hwd] at HBD
  have hOV := own_below (own_keptR HBV.out hO1 (.inr HBG.out)) hdr
  rw [← hwd] at hOV
  have HO1 := Lib.hid hO1
  obtain ⟨W2, hW2⟩ : ∃ x, x = wd.alloc (.cells #[.slice xa xn xc, .slice none 0 0, .int .i64 (MM : Int)] 100) := ⟨_, rfl⟩
  have hb2 : Below wd.heap.size wd W2 := by rw [hW2]; exact (Below.refl _ _).alloc (Nat.le_refl _) _
  have HB2 := Lib.hid (HBD.out.below hb2)
  have HOV2 := Lib.hid (own_below hOV hb2)
  have HRD2 : Hid (Reads W2 3 (.slice (some ⟨wd.heap.size, 0, none⟩) 1 1) 1 (hcell (.slice xa xn xc) (.slice none 0 0) MM)) := Lib.hid (by
    rw [hW2]; exact reads_new wd #[.slice xa xn xc, .slice none 0 0, .int .i64 (MM : Int)] _ 1 3 rfl (by unfold maxLen; omega))
  have hdd : Below W1.heap.size W1 wd := by rw [hwd]; exact hdr
  have HBA := Lib.hid (hdd.trans (hb2.mono hdd.size))
  have HBW : Hid (Below base w W2) := Lib.hid ((Only.below (Below.refl base w) HO1.out hbase (by omega)).trans (HBA.out.mono (Nat.le_trans (by omega) HO1.out.size)))
  have HSL : Hid (w.heap.size ≤ W2.heap.size) := Lib.hid (Nat.le_trans HO1.out.size HBA.out.size)
  have HSZ2 : Hid (base ≤ W2.heap.size) := Lib.hid (Nat.le_trans (by omega) HSL.out)
  have p0 := HBD.out.cellv 0 (.int .i64 (MM : Int)) rfl
  have p1 := HBD.out.cellv 1 (.slice va m vc) HFI.out
  have q1 := HB2.out.cellv 1 (.slice va m vc) HFI.out
  rw [hW2] at q1
  clear hmm hMM hB1 hB1' hO1 hW1 hdr hOV hb2 hdd c0 f0
  subst hwd
  have hW3 : W2 = (W1.alloc (.cells #[.slice xa xn xc, .slice none 0 0, .int .i64 (MM : Int)] 100)).drew := hW2
  have q2 : (W1.alloc (.cells #[.slice xa xn xc, .slice none 0 0, .int .i64 (MM : Int)] 100)).cell? ⟨g, 1, none⟩ = some (.slice va m vc) := q1
  clear hW2 q1
  refine wp_region_held_drew (S := fun _ => True) (by kernel_rfl) (trivial) (fun hHeld => ?_)
  refine wpAnyH_take (i := 0) (v := ?vq72) (by simp only [List.getElem?_toArray]; rfl) (by kernel_rfl) (by kernel_rfl) (by kernel_rfl) (by exact fun _ _ _ h => h) (Or.inl ⟨by rfl, ?yq72⟩) (by assumption) ?rq72
  case yq72 => (intro w hSw; (try dsimp only at hSw); go_simp; try with_reducible rfl)
  try simp only [Act.put, List.setIfInBounds_toArray, List.set_cons_zero, List.set_cons_succ]
  refine wpAnyH_take (i := 1) (v := ?vq73) (by simp only [List.getElem?_toArray]; rfl) (by kernel_rfl) (by kernel_rfl) (by kernel_rfl) (by exact fun _ _ _ h => h) (Or.inl ⟨by rfl, ?yq73⟩) (by assumption) ?rq73
  case yq73 => (intro w hSw; (try dsimp only at hSw); go_simp; try with_reducible rfl)
  try simp only [Act.put, List.setIfInBounds_toArray, List.set_cons_zero, List.set_cons_succ]
  refine wpAnyH_take (i := 2) (v := ?vq74) (by simp only [List.getElem?_toArray]; rfl) (by kernel_rfl) (by kernel_rfl) (by kernel_rfl) (by exact fun _ _ _ h => h) (Or.inl ⟨by rfl, ?yq74⟩) (by assumption) ?rq74
  case yq74 => (intro w hSw; (try dsimp only at hSw); go_simp; try with_reducible rfl)
  try simp only [Act.put, List.setIfInBounds_toArray, List.set_cons_zero, List.set_cons_succ]
  refine wpAnyH_take (i := 3) (v := ?vq75) (by simp only [List.getElem?_toArray]; rfl) (by kernel_rfl) (by kernel_rfl) (by kernel_rfl) (by exact fun _ _ _ h => h) (Or.inl ⟨by rfl, ?yq75⟩) (by assumption) ?rq75
  case yq75 => (intro w hSw; (try dsimp only at hSw); go_simp; try with_reducible rfl)
  try simp only [Act.put, List.setIfInBounds_toArray, List.set_cons_zero, List.set_cons_succ]
  refine wpAnyH_take (i := 5) (v := ?vq76) (by simp only [List.getElem?_toArray]; rfl) (by kernel_rfl) (by kernel_rfl) (by kernel_rfl) (by exact fun _ _ _ h => h) (Or.inl ⟨by rfl, ?yq76⟩) (by assumption) ?rq76
  case yq76 => (intro w hSw; (try dsimp only at hSw); go_simp; try with_reducible rfl)
  try simp only [Act.put, List.setIfInBounds_toArray, List.set_cons_zero, List.set_cons_succ]
  refine wpAnyH_take (i := 6) (v := ?vq77) (by simp only [List.getElem?_toArray]; rfl) (by kernel_rfl) (by kernel_rfl) (by kernel_rfl) (by exact fun _ _ _ h => h) (Or.inl ⟨by rfl, ?yq77⟩) (by assumption) ?rq77
  case yq77 => (intro w hSw; (try dsimp only at hSw); go_simp; try with_reducible rfl)
  try simp only [Act.put, List.setIfInBounds_toArray, List.set_cons_zero, List.set_cons_succ]
  refine wpAnyH_take (i := 7) (v := ?vq78) (by simp only [List.getElem?_toArray]; rfl) (by kernel_rfl) (by kernel_rfl) (by kernel_rfl) (by exact fun _ _ _ h => h) (Or.inl ⟨by rfl, ?yq78⟩) (by assumption) ?rq78
  case yq78 => (intro w hSw; (try dsimp only at hSw); go_simp; try with_reducible rfl)
  try simp only [Act.put, List.setIfInBounds_toArray, List.set_cons_zero, List.set_cons_succ]
  refine wpAnyH_take (i := 8) (v := ?vq79) (by simp only [List.getElem?_toArray]; rfl) (by kernel_rfl) (by kernel_rfl) (by kernel_rfl) (by exact fun _ _ _ h => h) (Or.inl ⟨by rfl, ?yq79⟩) (by assumption) ?rq79
  case yq79 => (intro w hSw; (try dsimp only at hSw); go_simp; try with_reducible rfl)
  try simp only [Act.put, List.setIfInBounds_toArray, List.set_cons_zero, List.set_cons_succ]
  refine wpAnyH_ready (rs := [4, 9]) (by kernel_rfl) (by simp) ?_
  refine AllReadyH.cons (by simp only [List.getElem?_toArray]; rfl) (fun K hK => ?way1) (AllReadyH.cons (by simp only [List.getElem?_toArray]; rfl) (fun K hK => ?way2) AllReadyH.nil)
  case way1 =>
    go_simp
    refine hK.out _ _ (trivial) (fun hHeld => ?_)
    clear hK K
    try simp only [Act.put, List.setIfInBounds_toArray, List.set_cons_zero, List.set_cons_succ]
    refine wpAnyH_ready (rs := [9]) (by kernel_rfl) (by simp) ?_
    refine AllReadyH.cons (by simp only [List.getElem?_toArray]; rfl) (fun K hK => ?_) AllReadyH.nil
    go_simp
    refine hK.out _ _ (trivial) (fun hHeld => ?_)
    clear hK K
    try simp only [Act.put, List.setIfInBounds_toArray, List.set_cons_zero, List.set_cons_succ]
    refine wpAnyH_take (i := 10) (v := ?vq65) (by simp only [List.getElem?_toArray]; rfl) (by kernel_rfl) (by kernel_rfl) (by kernel_rfl) (by exact fun _ _ _ h => h) (Or.inl ⟨by rfl, ?yq65⟩) (by assumption) ?rq65
    case yq65 => (intro w hSw; (try dsimp only at hSw); go_simp; try with_reducible rfl)
    try simp only [Act.put, List.setIfInBounds_toArray, List.set_cons_zero, List.set_cons_succ]
    refine wpAnyH_ready (rs := [11]) (by kernel_rfl) (by simp) ?_
    refine AllReadyH.cons (by simp only [List.getElem?_toArray]; rfl) (fun K hK => ?_) AllReadyH.nil
    go_simp
    refine hK.out _ _ (trivial) (fun hHeld => ?_)
    clear hK K
    try simp only [Act.put, List.setIfInBounds_toArray, List.set_cons_zero, List.set_cons_succ]
    rw [← hW3]
    refine wpAnyH_ready (rs := [12]) (by kernel_rfl) (by simp) ?_
    refine AllReadyH.cons (by simp only [List.getElem?_toArray]; rfl) (fun K hK => ?_) AllReadyH.nil
    refine step_app_elR rfl _ _ rfl Tryz.underlying40 hi0 hz hz1 hz2 rfl (by omega) base m 1 (.slice va m vc) _ (helds m L G num) (hcell (.slice xa xn xc) (.slice none 0 0) MM) (helds m L G num ++ hcell (.slice xa xn xc) (.slice none 0 0) MM) mm rfl rfl HOV2.out (HRD2.out) (one_hcell (.slice xa xn xc) (.slice none 0 0) MM rfl rfl) HMM.out.symm rfl (by omega) (by omega) HSZ2.out ?_
    intro ba bc w7 HU HG
    refine hK.out _ _ (trivial) (fun hHeld => ?_)
    clear hK K
    try simp only [Act.put, List.setIfInBounds_toArray, List.set_cons_zero, List.set_cons_succ]
    have hg7 := HB2.out.grown HG.out.rows (fun e => HBG.out e.symm)
    have r1 := hg7.cellv 1 (.slice va m vc) HFI.out
    have rf := hg7.free 1
    have HB7 := Lib.hid hg7
    clear hg7
    refine wpAnyH_take (i := 13) (v := ?vq66) (by simp only [List.getElem?_toArray]; rfl) (by kernel_rfl) (by kernel_rfl) (by kernel_rfl) (by exact fun _ _ _ h => h) (Or.inl ⟨by rfl, ?yq66⟩) (by assumption) ?rq66
    case yq66 => (intro w hSw; (try dsimp only at hSw); go_simp; try with_reducible rfl)
    try simp only [Act.put, List.setIfInBounds_toArray, List.set_cons_zero, List.set_cons_succ]
    refine wpAnyH_take (i := 14) (v := ?vq67) (by simp only [List.getElem?_toArray]; rfl) (by kernel_rfl) (by kernel_rfl) (by kernel_rfl) (by exact fun _ _ _ h => h) (Or.inl ⟨by rfl, ?yq67⟩) (by assumption) ?rq67
    case yq67 => (intro w hSw; (try dsimp only at hSw); go_simp; try with_reducible rfl)
    try simp only [Act.put, List.setIfInBounds_toArray, List.set_cons_zero, List.set_cons_succ]
    refine wpAnyH_ready (rs := [15]) (by kernel_rfl) (by simp) ?_
    refine AllReadyH.cons (by simp only [List.getElem?_toArray]; rfl) (fun K hK => ?_) AllReadyH.nil
    go_simp
    refine hK.out _ _ (trivial) (fun hHeld => ?_)
    clear hK K
    try simp only [Act.put, List.setIfInBounds_toArray, List.set_cons_zero, List.set_cons_succ]
    refine wpAnyH_done (by kernel_rfl) ?_ _
    have hne7 : rowOf (Value.slice ba mm bc) ≠ some g := (HG.out.apart (.slice (some ⟨g, 0, none⟩) 0 1) (fun k hk => by
      simp only [rowOf_one, Option.some.injEq] at hk
      subst hk
      exact ⟨HB2.out.lt, HBG.out⟩) g rfl).2
    have HNE := Lib.hid hne7
    have HB8 := Lib.hid (HB7.out.set 1 (.slice ba mm bc))
    have hO8 := Only.set w7 g 1 (.slice ba mm bc)
    have HO8 := Lib.hid hO8
    have HU8 := Lib.hid (own_keptR HU.out hO8 (.inr hne7))
    have HKP : Hid (Kept w (w7.setCell ⟨g, 1, none⟩ (.slice ba mm bc)) base g (.slice va m vc) (.slice ba mm bc)) := Lib.hid (by
      refine ⟨?_, ?_, ?_⟩
      · exact Only.below ((HBW.out).trans HG.out.below) HO8.out hbase (Nat.le_trans HSZ2.out HG.out.below.size)
      · intro base2 e sz n u xs ho ha hne
        exact own_keptR (HG.out.keep _ _ _ _ _ _ (own_below (own_keptR ho HO1.out (.inr hne)) HBA.out) (ha.later HSL.out)) HO8.out (.inr hne)
      · intro u ha
        exact (HG.out.apart u (ha.later HSL.out)).later HO8.out.size)
    clear hne7 hO8 HU HG HB7 r1 rf
    go_wp2_with fail
    go_end0
    refine ⟨rfl, ba, bc, ?_, ?_, ?_, ?_⟩
    · rw [← HMM.out, ← HMN.out]; exact HB8
    · rw [← HMM.out, ← HMN.out]; exact HU8
    · rw [← HMM.out]; exact HNE
    · rw [← HMM.out]; exact HKP
  case way2 =>
    go_simp
    refine hK.out _ _ (trivial) (fun hHeld => ?_)
    clear hK K
    try simp only [Act.put, List.setIfInBounds_toArray, List.set_cons_zero, List.set_cons_succ]
    refine wpAnyH_take (i := 10) (v := ?vq80) (by simp only [List.getElem?_toArray]; rfl) (by kernel_rfl) (by kernel_rfl) (by kernel_rfl) (by exact fun _ _ _ h => h) (Or.inl ⟨by rfl, ?yq80⟩) (by assumption) ?rq80
    case yq80 => (intro w hSw; (try dsimp only at hSw); go_simp; try with_reducible rfl)
    try simp only [Act.put, List.setIfInBounds_toArray, List.set_cons_zero, List.set_cons_succ]
    refine wpAnyH_ready (rs := [4, 11]) (by kernel_rfl) (by simp) ?_
    refine AllReadyH.cons (by simp only [List.getElem?_toArray]; rfl) (fun K hK => ?way2a) (AllReadyH.cons (by simp only [List.getElem?_toArray]; rfl) (fun K hK => ?way2b) AllReadyH.nil)
    case way2a =>
      go_simp
      refine hK.out _ _ (trivial) (fun hHeld => ?_)
      clear hK K
      try simp only [Act.put, List.setIfInBounds_toArray, List.set_cons_zero, List.set_cons_succ]
      refine wpAnyH_ready (rs := [11]) (by kernel_rfl) (by simp) ?_
      refine AllReadyH.cons (by simp only [List.getElem?_toArray]; rfl) (fun K hK => ?_) AllReadyH.nil
      go_simp
      refine hK.out _ _ (trivial) (fun hHeld => ?_)
      clear hK K
      try simp only [Act.put, List.setIfInBounds_toArray, List.set_cons_zero, List.set_cons_succ]
      rw [← hW3]
      refine wpAnyH_ready (rs := [12]) (by kernel_rfl) (by simp) ?_
      refine AllReadyH.cons (by simp only [List.getElem?_toArray]; rfl) (fun K hK => ?_) AllReadyH.nil
      refine step_app_elR rfl _ _ rfl Tryz.underlying40 hi0 hz hz1 hz2 rfl (by omega) base m 1 (.slice va m vc) _ (helds m L G num) (hcell (.slice xa xn xc) (.slice none 0 0) MM) (helds m L G num ++ hcell (.slice xa xn xc) (.slice none 0 0) MM) mm rfl rfl HOV2.out (HRD2.out) (one_hcell (.slice xa xn xc) (.slice none 0 0) MM rfl rfl) HMM.out.symm rfl (by omega) (by omega) HSZ2.out ?_
      intro ba bc w7 HU HG
      refine hK.out _ _ (trivial) (fun hHeld => ?_)
      clear hK K
      try simp only [Act.put, List.setIfInBounds_toArray, List.set_cons_zero, List.set_cons_succ]
      have hg7 := HB2.out.grown HG.out.rows (fun e => HBG.out e.symm)
      have r1 := hg7.cellv 1 (.slice va m vc) HFI.out
      have rf := hg7.free 1
      have HB7 := Lib.hid hg7
      clear hg7
      refine wpAnyH_take (i := 13) (v := ?vq68) (by simp only [List.getElem?_toArray]; rfl) (by kernel_rfl) (by kernel_rfl) (by kernel_rfl) (by exact fun _ _ _ h => h) (Or.inl ⟨by rfl, ?yq68⟩) (by assumption) ?rq68
      case yq68 => (intro w hSw; (try dsimp only at hSw); go_simp; try with_reducible rfl)
      try simp only [Act.put, List.setIfInBounds_toArray, List.set_cons_zero, List.set_cons_succ]
      refine wpAnyH_take (i := 14) (v := ?vq69) (by simp only [List.getElem?_toArray]; rfl) (by kernel_rfl) (by kernel_rfl) (by kernel_rfl) (by exact fun _ _ _ h => h) (Or.inl ⟨by rfl, ?yq69⟩) (by assumption) ?rq69
      case yq69 => (intro w hSw; (try dsimp only at hSw); go_simp; try with_reducible rfl)
      try simp only [Act.put, List.setIfInBounds_toArray, List.set_cons_zero, List.set_cons_succ]
      refine wpAnyH_ready (rs := [15]) (by kernel_rfl) (by simp) ?_
      refine AllReadyH.cons (by simp only [List.getElem?_toArray]; rfl) (fun K hK => ?_) AllReadyH.nil
      go_simp
      refine hK.out _ _ (trivial) (fun hHeld => ?_)
      clear hK K
      try simp only [Act.put, List.setIfInBounds_toArray, List.set_cons_zero, List.set_cons_succ]
      refine wpAnyH_done (by kernel_rfl) ?_ _
      have hne7 : rowOf (Value.slice ba mm bc) ≠ some g := (HG.out.apart (.slice (some ⟨g, 0, none⟩) 0 1) (fun k hk => by
        simp only [rowOf_one, Option.some.injEq] at hk
        subst hk
        exact ⟨HB2.out.lt, HBG.out⟩) g rfl).2
      have HNE := Lib.hid hne7
      have HB8 := Lib.hid (HB7.out.set 1 (.slice ba mm bc))
      have hO8 := Only.set w7 g 1 (.slice ba mm bc)
      have HO8 := Lib.hid hO8
      have HU8 := Lib.hid (own_keptR HU.out hO8 (.inr hne7))
      have HKP : Hid (Kept w (w7.setCell ⟨g, 1, none⟩ (.slice ba mm bc)) base g (.slice va m vc) (.slice ba mm bc)) := Lib.hid (by
        refine ⟨?_, ?_, ?_⟩
        · exact Only.below ((HBW.out).trans HG.out.below) HO8.out hbase (Nat.le_trans HSZ2.out HG.out.below.size)
        · intro base2 e sz n u xs ho ha hne
          exact own_keptR (HG.out.keep _ _ _ _ _ _ (own_below (own_keptR ho HO1.out (.inr hne)) HBA.out) (ha.later HSL.out)) HO8.out (.inr hne)
        · intro u ha
          exact (HG.out.apart u (ha.later HSL.out)).later HO8.out.size)
      clear hne7 hO8 HU HG HB7 r1 rf
      go_wp2_with fail
      go_end0
      refine ⟨rfl, ba, bc, ?_, ?_, ?_, ?_⟩
      · rw [← HMM.out, ← HMN.out]; exact HB8
      · rw [← HMM.out, ← HMN.out]; exact HU8
      · rw [← HMM.out]; exact HNE
      · rw [← HMM.out]; exact HKP
    case way2b =>
      go_simp
      refine hK.out _ _ (trivial) (fun hHeld => ?_)
      clear hK K
      try simp only [Act.put, List.setIfInBounds_toArray, List.set_cons_zero, List.set_cons_succ]
      refine wpAnyH_ready (rs := [4]) (by kernel_rfl) (by simp) ?_
      refine AllReadyH.cons (by simp only [List.getElem?_toArray]; rfl) (fun K hK => ?_) AllReadyH.nil
      go_simp
      refine hK.out _ _ (trivial) (fun hHeld => ?_)
      clear hK K
      try simp only [Act.put, List.setIfInBounds_toArray, List.set_cons_zero, List.set_cons_succ]
      rw [← hW3]
      refine wpAnyH_ready (rs := [12]) (by kernel_rfl) (by simp) ?_
      refine AllReadyH.cons (by simp only [List.getElem?_toArray]; rfl) (fun K hK => ?_) AllReadyH.nil
      refine step_app_elR rfl _ _ rfl Tryz.underlying40 hi0 hz hz1 hz2 rfl (by omega) base m 1 (.slice va m vc) _ (helds m L G num) (hcell (.slice xa xn xc) (.slice none 0 0) MM) (helds m L G num ++ hcell (.slice xa xn xc) (.slice none 0 0) MM) mm rfl rfl HOV2.out (HRD2.out) (one_hcell (.slice xa xn xc) (.slice none 0 0) MM rfl rfl) HMM.out.symm rfl (by omega) (by omega) HSZ2.out ?_
      intro ba bc w7 HU HG
      refine hK.out _ _ (trivial) (fun hHeld => ?_)
      clear hK K
      try simp only [Act.put, List.setIfInBounds_toArray, List.set_cons_zero, List.set_cons_succ]
      have hg7 := HB2.out.grown HG.out.rows (fun e => HBG.out e.symm)
      have r1 := hg7.cellv 1 (.slice va m vc) HFI.out
      have rf := hg7.free 1
      have HB7 := Lib.hid hg7
      clear hg7
      refine wpAnyH_take (i := 13) (v := ?vq70) (by simp only [List.getElem?_toArray]; rfl) (by kernel_rfl) (by kernel_rfl) (by kernel_rfl) (by exact fun _ _ _ h => h) (Or.inl ⟨by rfl, ?yq70⟩) (by assumption) ?rq70
      case yq70 => (intro w hSw; (try dsimp only at hSw); go_simp; try with_reducible rfl)
      try simp only [Act.put, List.setIfInBounds_toArray, List.set_cons_zero, List.set_cons_succ]
      refine wpAnyH_take (i := 14) (v := ?vq71) (by simp only [List.getElem?_toArray]; rfl) (by kernel_rfl) (by kernel_rfl) (by kernel_rfl) (by exact fun _ _ _ h => h) (Or.inl ⟨by rfl, ?yq71⟩) (by assumption) ?rq71
      case yq71 => (intro w hSw; (try dsimp only at hSw); go_simp; try with_reducible rfl)
      try simp only [Act.put, List.setIfInBounds_toArray, List.set_cons_zero, List.set_cons_succ]
      refine wpAnyH_ready (rs := [15]) (by kernel_rfl) (by simp) ?_
      refine AllReadyH.cons (by simp only [List.getElem?_toArray]; rfl) (fun K hK => ?_) AllReadyH.nil
      go_simp
      refine hK.out _ _ (trivial) (fun hHeld => ?_)
      clear hK K
      try simp only [Act.put, List.setIfInBounds_toArray, List.set_cons_zero, List.set_cons_succ]
      refine wpAnyH_done (by kernel_rfl) ?_ _
      have hne7 : rowOf (Value.slice ba mm bc) ≠ some g := (HG.out.apart (.slice (some ⟨g, 0, none⟩) 0 1) (fun k hk => by
        simp only [rowOf_one, Option.some.injEq] at hk
        subst hk
        exact ⟨HB2.out.lt, HBG.out⟩) g rfl).2
      have HNE := Lib.hid hne7
      have HB8 := Lib.hid (HB7.out.set 1 (.slice ba mm bc))
      have hO8 := Only.set w7 g 1 (.slice ba mm bc)
      have HO8 := Lib.hid hO8
      have HU8 := Lib.hid (own_keptR HU.out hO8 (.inr hne7))
      have HKP : Hid (Kept w (w7.setCell ⟨g, 1, none⟩ (.slice ba mm bc)) base g (.slice va m vc) (.slice ba mm bc)) := Lib.hid (by
        refine ⟨?_, ?_, ?_⟩
        · exact Only.below ((HBW.out).trans HG.out.below) HO8.out hbase (Nat.le_trans HSZ2.out HG.out.below.size)
        · intro base2 e sz n u xs ho ha hne
          exact own_keptR (HG.out.keep _ _ _ _ _ _ (own_below (own_keptR ho HO1.out (.inr hne)) HBA.out) (ha.later HSL.out)) HO8.out (.inr hne)
        · intro u ha
          exact (HG.out.apart u (ha.later HSL.out)).later HO8.out.size)
      clear hne7 hO8 HU HG HB7 r1 rf
      go_wp2_with fail
      go_end0
      refine ⟨rfl, ba, bc, ?_, ?_, ?_, ?_⟩
      · rw [← HMM.out, ← HMN.out]; exact HB8
      · rw [← HMM.out, ← HMN.out]; exact HU8
      · rw [← HMM.out]; exact HNE
      · rw [← HMM.out]; exact HKP
end Go.Proofs.YtbcnapkbdbefhaaGreatDoor
namespace Go.Proofs.YtbcnapkbdbefhaaGreatDoor
open Go.RowKit

set_option maxRecDepth 100000 in
set_option maxHeartbeats 8000000 in
theorem fillByte_any (w : World) (base g m : Nat) (B : Array Value) (bv : Value) (L : Nat → Value) (num n : Nat → Nat) (C : Nat → List Value) (S : Nat → Prop) (hB : Blk w g B 54) (hBi : B[1]? = some bv) (hK : KSt w base g 100 5 1 m bv L (fun _ => .slice none 0 0) num n C S) (hm : m ≤ 1000) (hnum : ∀ j, j < m → num j < 10) :
    Calls Tryz.prog 33 #[.pointer (some ⟨g, 0, none⟩)] w fun e w' => e = .returned (.tuple #[]) ∧ Hid (KSt w' base g 100 5 1 m bv L (fun _ => .slice none 0 0) num n (fun j => marks (mkByte (num j)) (n j)) S) ∧ Hid (Fr S w w') := by
  have HK := Lib.hid hK
  obtain ⟨va, vc, hbvs⟩ := (reads_of_own hK.own).slice
  subst hbvs
  have HB0 := Lib.hid hB
  have HSG := Lib.hid hK.sg
  have HNUM := Lib.hid hnum
  have HBI := Lib.hid hBi
  clear hK hB hnum hBi
  go_enter Tryz.func33, Tryz.ntmps33
  go_wp2_with fail
  try show Code.wp _ _ _ _ _
  go_loopw [2, 3, 4] (fun iv _ _ wr => ∃ i : Nat, i ≤ m ∧ iv = .int .i64 i ∧ ∃ C' : Nat → List Value, Hid (KSt wr base g 100 5 1 m (.slice va m vc) L (fun _ => .slice none 0 0) num n C' S) ∧ Hid (∀ j, j < i → C' j = marks (mkByte (num j)) (n j)) ∧ Hid (Fr S w wr)) (fun iv _ _ _ => m - (intOf iv).toNat)
  case atStart => exact ⟨0, Nat.zero_le _, rfl, C, HK, Lib.hid (fun j hj => absurd hj (by omega)), Lib.hid (Fr.refl _ _)⟩
  case round =>
    obtain ⟨i, hi, rfl, C', HC, HD, HB⟩ := hrel
    have g1 := (HB.out.blk HB0.out HSG.out).cellv 1 (.slice va m vc) HBI.out
    by_cases hlt : i < m
    · obtain ⟨b2, off2, c2, e2, k0, k1, k2⟩ := HC.out.cells i hlt
      simp only [Value.slice.injEq] at e2
      obtain ⟨e2, _, ec⟩ := e2
      subst e2
      clear ec
      obtain ⟨x, hx⟩ : ∃ x, x = (1 + (num i)) := ⟨_, rfl⟩
      have HMKC : Hid (mkByte (num i) = [.int .u8 ((x : Nat) : Int)]) := Lib.hid (by rw [hx]; rfl)
      obtain ⟨i1, hi1⟩ : ∃ x, x = num i := ⟨_, rfl⟩
      have HMK : Hid (∀ w', Calls Tryz.prog 100 #[.int .i64 (i1 : Int)] w' fun e w'' => e = .returned (.int .u8 (x : Int)) ∧ Below w'.heap.size w' w'') := Lib.hid fun w' => by rw [hi1, hx]; exact markByte_any (num i) (HNUM.out i hlt) w'
      rw [← hi1] at k2
      clear hi1 hx
      have hown := HC.out.held i hlt
      obtain ⟨la, lc, hls⟩ := (reads_of_own hown).slice
      rw [hls] at k0
      have HLS := Lib.hid hls
      clear hown hls
      obtain ⟨ni, hni⟩ : ∃ x, x = n i := ⟨_, rfl⟩
      rw [← hni] at k0 HLS
      have HNI := Lib.hid hni
      clear hni
      have hnb : ni ≤ 9223372036854775807 := by
        obtain ⟨_, _, _, _, hq1, hq2, _⟩ := reads_of_own (HC.out.held i hlt)
        rw [HNI.out]; omega
      have hic : (i : Int) < (m : Int) := by omega
      go_upto_region 4 with (fail)
      obtain ⟨hb, hhb⟩ : ∃ x, x = wr.heap.size := ⟨_, rfl⟩
      have hal : Below wr.heap.size wr (wr.alloc (.cells #[.slice la ni lc, .slice none 0 0, .int .i64 (i1 : Int)] 100)) := (Below.refl _ _).alloc (Nat.le_refl _) _
      have HWB : Hid (Blk (wr.alloc (.cells #[.slice la ni lc, .slice none 0 0, .int .i64 (i1 : Int)] 100)) hb #[.slice la ni lc, .slice none 0 0, .int .i64 (i1 : Int)] 100) := Lib.hid (Blk.new_at _ _ _ _ hhb)
      have HCW := Lib.hid (HC.out.below hal)
      have HBW := Lib.hid (HB.out.trans (Fr.of_below hal))
      have HSH : Hid (∀ q, S q → q ≠ hb) := Lib.hid fun q hq e => by have := (HC.out.sb q hq).2; omega
      rw [← hhb]
      generalize wr.alloc (.cells #[.slice la ni lc, .slice none 0 0, .int .i64 (i1 : Int)] 100) = W at HWB HCW HBW ⊢
      clear hal hhb HC HB g1 k0 k1 k2
      go_wp2_with fail
      try show Code.wp _ _ _ _ _
      go_loopw [4] (fun kv wz => ∃ k : Nat, k ≤ ni ∧ kv = .int .i64 k ∧ ∃ C2 : Nat → List Value, Hid (KSt wz base g 100 5 1 m (.slice (some ⟨b2, off2, none⟩) m vc) L (fun _ => .slice none 0 0) num n C2 S) ∧ Hid (∀ j, j < i → C2 j = marks (mkByte (num j)) (n j)) ∧ Hid ((C2 i).take (k * 1) = marks (mkByte (num i)) k) ∧
        Hid (Blk wz hb #[.slice la ni lc, .slice none 0 0, .int .i64 (i1 : Int)] 100) ∧ Hid (Fr S w wz)) (fun kv _ => ni - (intOf kv).toNat)
      case atStart => exact ⟨0, Nat.zero_le _, rfl, C', HCW, HD, Lib.hid (by rw [Nat.zero_mul]; rfl), HWB, HBW⟩
      case round =>
        obtain ⟨k, hk, rfl, C2, HC2, HD2, HT2, HH, HB2⟩ := hrel
        obtain ⟨wz, hwz⟩ : ∃ z, z = wr := ⟨_, rfl⟩
        subst hwz
        have h0 := HH.out.cellv 0 (.slice la ni lc) rfl
        by_cases hkn : k < ni
        · have h2 := HH.out.cellv 2 (.int .i64 (i1 : Int)) rfl
          have hb0 : ∃ b, la = some ⟨b, 0, none⟩ := by
            have := HC2.out.held i hlt
            rw [HLS.out, ← HNI.out] at this
            obtain ⟨b, e, _⟩ := own_ptr this (by omega)
            exact ⟨b, e⟩
          obtain ⟨b, rfl⟩ := hb0
          have h0d : wz.drew.cell? ⟨hb, 0, none⟩ = some (.slice (some ⟨b, 0, none⟩) ni lc) := h0
          have h2d : wz.drew.cell? ⟨hb, 2, none⟩ = some (.int .i64 (i1 : Int)) := h2
          have hkc : (k : Int) < (ni : Int) := by omega
          have HDR : Hid (Below wz.heap.size wz wz.drew) := Lib.hid (Below.refl _ _).drew
          go_upto_region 7 with (fail)
          clear h0 h2
          refine wp_region_held_drew (S := fun w' => w'.cell? ⟨hb, 0, none⟩ = some (.slice (some ⟨b, 0, none⟩) ni lc) ∧ w'.cell? ⟨hb, 2, none⟩ = some (.int .i64 (i1 : Int))) (by kernel_rfl) (⟨h0d, h2d⟩) (fun hHeld => ?_)
          refine wpAnyH_take (i := 0) (v := ?vq81) (by simp only [List.getElem?_toArray]; rfl) (by kernel_rfl) (by kernel_rfl) (by kernel_rfl) (by exact fun _ _ _ h => h) (Or.inl ⟨by rfl, ?yq81⟩) (by assumption) ?rq81
          case yq81 => (intro w hSw; (try dsimp only at hSw); go_simp; try with_reducible rfl)
          try simp only [Act.put, List.setIfInBounds_toArray, List.set_cons_zero, List.set_cons_succ]
          refine wpAnyH_take (i := 1) (v := ?vq82) (by simp only [List.getElem?_toArray]; rfl) (by kernel_rfl) (by kernel_rfl) (by kernel_rfl) (by exact fun _ _ _ h => h) (Or.inl ⟨by rfl, ?yq82⟩) (by assumption) ?rq82
          case yq82 => (intro w hSw; (try dsimp only at hSw); go_simp; try with_reducible rfl)
          try simp only [Act.put, List.setIfInBounds_toArray, List.set_cons_zero, List.set_cons_succ]
          refine wpAnyH_take (i := 2) (v := ?vq83) (by simp only [List.getElem?_toArray]; rfl) (by kernel_rfl) (by kernel_rfl) (by kernel_rfl) (by exact fun _ _ _ h => h) (Or.inl ⟨by rfl, ?yq83⟩) (by assumption) ?rq83
          case yq83 => (intro w hSw; (try dsimp only at hSw); go_simp; try with_reducible rfl)
          try simp only [Act.put, List.setIfInBounds_toArray, List.set_cons_zero, List.set_cons_succ]
          refine wpAnyH_take (i := 3) (v := ?vq84) (by simp only [List.getElem?_toArray]; rfl) (by kernel_rfl) (by kernel_rfl) (by kernel_rfl) (by exact fun _ _ _ h => h) (Or.inl ⟨by rfl, ?yq84⟩) (by assumption) ?rq84
          case yq84 => (intro w hSw; (try dsimp only at hSw); go_simp; try with_reducible rfl)
          try simp only [Act.put, List.setIfInBounds_toArray, List.set_cons_zero, List.set_cons_succ]
          refine wpAnyH_take (i := 4) (v := ?vq85) (by simp only [List.getElem?_toArray]; rfl) (by kernel_rfl) (by kernel_rfl) (by kernel_rfl) (by exact fun _ _ _ h => h) (Or.inl ⟨by rfl, ?yq85⟩) (by assumption) ?rq85
          case yq85 => (intro w hSw; (try dsimp only at hSw); go_simp; try with_reducible rfl)
          try simp only [Act.put, List.setIfInBounds_toArray, List.set_cons_zero, List.set_cons_succ]
          refine wpAnyH_ready (rs := [5]) (by kernel_rfl) (by simp) ?_
          refine AllReadyH.cons (by simp only [List.getElem?_toArray]; rfl) (fun K hK => ?_) AllReadyH.nil
          go_simp
          refine (HMK.out _).mono ?_
          rintro e wm ⟨rfl, bm⟩
          have HBm := Lib.hid (HDR.out.trans (bm.mono HDR.out.size))
          have HCm := Lib.hid (HC2.out.below HBm.out)
          have HHm := Lib.hid (HH.out.below HBm.out)
          have HFm := Lib.hid (HB2.out.trans (Fr.of_below HBm.out))
          have HOW : Own wm base 5 1 (.slice (some ⟨b, 0, none⟩) ni lc) ni (C2 i) := by
            have := HCm.out.held i hlt
            rw [HLS.out, ← HNI.out] at this
            exact this
          have hL : rowOf (L i) = some b := by rw [HLS.out]; exact rowOf_pos (own_room HOW (by omega))
          have hSb : S b := HCm.out.ls i hlt b hL
          have hbb : b ≠ hb := HSH.out b hSb
          obtain ⟨y0, _, ck0⟩ := own_cellv HOW (k) (by omega)
          have fk0 := own_free HOW (k) (by omega)
          have hON : Only wm (wm.setCell ⟨b, k, none⟩ (.int .u8 (x : Int))) b := (Only.set wm b k (.int .u8 (x : Int)))
          have HST : Hid (KSt (wm.setCell ⟨b, k, none⟩ (.int .u8 (x : Int))) base g 100 5 1 m (.slice (some ⟨b2, off2, none⟩) m vc) L (fun _ => .slice none 0 0) num n (fun j => if j = i then (C2 i).set k (.int .u8 (x : Int)) else C2 j) S) := Lib.hid (HCm.out.write i hlt hL hON (by
            simp only [if_true]
            rw [HLS.out, ← HNI.out]
            exact own_storeG HOW k (by omega) (.int .u8 (x : Int))) (fun j hj => by simp only [if_neg hj]))
          have HHS : Hid (Blk (wm.setCell ⟨b, k, none⟩ (.int .u8 (x : Int))) hb #[.slice (some ⟨b, 0, none⟩) ni lc, .slice none 0 0, .int .i64 (i1 : Int)] 100) := Lib.hid (HHm.out.only hON (fun e => hbb e.symm))
          have HBS : Hid (Fr S w (wm.setCell ⟨b, k, none⟩ (.int .u8 (x : Int)))) := Lib.hid (HFm.out.trans (Fr.of_only hON hSb))
          have HTS : Hid (((C2 i).set k (.int .u8 (x : Int))).take ((k + 1) * 1) = marks (mkByte (num i)) (k + 1)) := Lib.hid (by
            rw [marks_next, ← HT2.out, HMKC.out]
            first | exact take_setV _ _ _ (by rw [HC2.out.len i hlt, ← HNI.out]; omega) | (simp only [Nat.mul_one]; exact take_setV _ _ _ (by rw [HC2.out.len i hlt, ← HNI.out]; omega)))
          have HKP : Hid ((wm.setCell ⟨b, k, none⟩ (.int .u8 (x : Int))).cell? ⟨hb, 0, none⟩ = some (.slice (some ⟨b, 0, none⟩) ni lc) ∧ (wm.setCell ⟨b, k, none⟩ (.int .u8 (x : Int))).cell? ⟨hb, 2, none⟩ = some (.int .i64 (i1 : Int))) := Lib.hid ⟨HHS.out.cellv 0 _ rfl, HHS.out.cellv 2 _ rfl⟩
          have HKM : Hid (wm.cell? ⟨hb, 0, none⟩ = some (.slice (some ⟨b, 0, none⟩) ni lc) ∧ wm.cell? ⟨hb, 2, none⟩ = some (.int .i64 (i1 : Int))) := Lib.hid ⟨HHm.out.cellv 0 _ rfl, HHm.out.cellv 2 _ rfl⟩
          clear hL hON hSb HOW bm HCm HHm HFm HBm
          refine hK.out _ _ (HKM.out) (fun hHeld => ?_)
          clear hK K
          try simp only [Act.put, List.setIfInBounds_toArray, List.set_cons_zero, List.set_cons_succ]
          refine wpAnyH_take (i := 6) (v := ?vq86) (by simp only [List.getElem?_toArray]; rfl) (by kernel_rfl) (by kernel_rfl) (by kernel_rfl) (by exact fun _ _ _ h => h) (Or.inl ⟨by rfl, ?yq86⟩) (by assumption) ?rq86
          case yq86 => (intro w hSw; (try dsimp only at hSw); go_simp; try with_reducible rfl)
          try simp only [Act.put, List.setIfInBounds_toArray, List.set_cons_zero, List.set_cons_succ]
          refine wpAnyH_ready (rs := [7]) (by kernel_rfl) (by simp) ?_
          refine AllReadyH.cons (by simp only [List.getElem?_toArray]; rfl) (fun K hK => ?_) AllReadyH.nil
          go_simp
          refine hK.out _ _ (HKP.out) (fun hHeld => ?_)
          clear hK K
          try simp only [Act.put, List.setIfInBounds_toArray, List.set_cons_zero, List.set_cons_succ]
          refine wpAnyH_done (by kernel_rfl) ?_ _
          rename_i hH
          generalize (wm.setCell ⟨b, k, none⟩ (.int .u8 (x : Int))) = wt at HST HHS HBS ⊢
          clear hH h0d h2d
          clear ck0 fk0
          go_wp2_with fail
          go_roundw
          case rel => exact ⟨k + 1, by omega, by go_num, _, HST, Lib.hid (fun j hj => by rw [if_neg (by omega)]; exact HD2.out j hj), Lib.hid (by rw [if_pos rfl]; exact HTS.out), HHS, HBS⟩
          case measure => simp [intOf]; omega
        · have hkn2 : k = ni := by omega
          have HDN : Hid (∀ j, j < i + 1 → C2 j = marks (mkByte (num j)) (n j)) := Lib.hid fun j hj => by
            by_cases e : j = i
            · subst e
              exact marks_full (HC2.out.len j hlt) (hkn2.trans HNI.out) HT2.out
            · exact HD2.out j (by omega)
          clear hkn2
          go_wp2_with fail
          go_roundw
          case rel => exact ⟨i + 1, by omega, by go_num, C2, HC2, HDN, HB2⟩
          case measure => simp [intOf]; omega
    · obtain rfl : i = m := by omega
      have HCF : Hid (KSt wr base g 100 5 1 i (.slice va i vc) L (fun _ => .slice none 0 0) num n (fun j => marks (mkByte (num j)) (n j)) S) :=
        Lib.hid ⟨HC.out.own, fun j hj => by rw [← HD.out j hj]; exact HC.out.held j hj, HC.out.bs, HC.out.ls, HC.out.lb, HC.out.ap, HC.out.sg, HC.out.sb⟩
      go_wp2_with fail
      go_end0
      exact ⟨rfl, HCF, HB⟩
end Go.Proofs.YtbcnapkbdbefhaaGreatDoor
namespace Go.Proofs.YtbcnapkbdbefhaaGreatDoor
open Go.RowKit

set_option maxRecDepth 100000 in
set_option maxHeartbeats 8000000 in
theorem growByte_any (w : World) (base g m : Nat) (B : Array Value) (bv : Value) (L : Nat → Value) (num n : Nat → Nat) (S : Nat → Prop) (hB : Blk w g B 54) (hBi : B[1]? = some bv) (hK : KSt w base g 100 5 1 m bv L (fun _ => .slice none 0 0) num n (fun j => marks (mkByte (num j)) (n j)) S) (hm : m ≤ 1000) (hnum : ∀ j, j < m → num j < 10) (hbw : base ≤ w.heap.size) (hn : ∀ j, j < m → n j ≤ 1000000000) :
    Calls Tryz.prog 46 #[.pointer (some ⟨g, 0, none⟩)] w fun e w' => e = .returned (.tuple #[]) ∧ Hid (∃ G, KGw w' base g 100 5 1 m bv L G num n (fun j => mkByte (num j)) S m ∧ ∀ j, j < m → ∀ b, rowOf (G j) = some b → S b ∨ w.heap.size ≤ b) ∧ Hid (Fr S w w') := by
  obtain ⟨va, vc, hbvs⟩ := (reads_of_own hK.own).slice
  subst hbvs
  obtain ⟨i0, hi0, hz, hz1, hz2⟩ := info_parts infoEByte
  have HK : Hid (KGw w base g 100 5 1 m (.slice va m vc) L (fun _ => .slice none 0 0) num n (fun j => mkByte (num j)) S 0) := Lib.hid ⟨hK, fun j hj => absurd hj (by omega), fun j _ => rfl, fun j hj => absurd hj (by omega), fun j hj => absurd hj (by omega), fun j k hj => absurd hj (by omega), fun j k hj => absurd hj (by omega)⟩
  have HB0 := Lib.hid hB
  have HSG := Lib.hid hK.sg
  have HNUM := Lib.hid hnum
  have HBI := Lib.hid hBi
  have HN := Lib.hid hn
  have HBS : Hid (∀ b, rowOf (Value.slice va m vc) = some b → S b) := Lib.hid hK.bs
  have HLS0 : Hid (∀ j, j < m → ∀ b, rowOf (L j) = some b → S b) := Lib.hid hK.ls
  clear hK hn hB hnum hBi
  go_enter Tryz.func46, Tryz.ntmps46
  go_wp2_with fail
  try show Code.wp _ _ _ _ _
  go_loopw [2, 3, 4, 5] (fun iv _ _ _ wr => ∃ i : Nat, i ≤ m ∧ iv = .int .i64 i ∧ ∃ G : Nat → Value, Hid (KGw wr base g 100 5 1 m (.slice va m vc) L G num n (fun j => mkByte (num j)) S i) ∧ Hid (∀ j, j < i → ∀ b, rowOf (G j) = some b → S b ∨ w.heap.size ≤ b) ∧ Hid (Fr S w wr)) (fun iv _ _ _ _ => m - (intOf iv).toNat)
  case atStart => exact ⟨0, Nat.zero_le _, rfl, _, HK, Lib.hid (fun j hj => absurd hj (by omega)), Lib.hid (Fr.refl _ _)⟩
  case round =>
    obtain ⟨i, hi, rfl, G, HC, HGS, HB⟩ := hrel
    have g1 := (HB.out.blk HB0.out HSG.out).cellv 1 (.slice va m vc) HBI.out
    by_cases hlt : i < m
    · have hb0 : ∃ b, va = some ⟨b, 0, none⟩ := by
        obtain ⟨b, e, _⟩ := own_ptr HC.out.bk.own (by omega)
        exact ⟨b, e⟩
      obtain ⟨b2, hb2⟩ := hb0
      subst hb2
      obtain ⟨b3, off3, c3, e3, k0, k1, k2⟩ := HC.out.bk.cells i hlt
      simp only [Value.slice.injEq, Option.some.injEq, Addr.mk.injEq, and_true, true_and] at e3
      obtain ⟨⟨e4, e5⟩, e6⟩ := e3
      rw [← e4, ← e5, Nat.zero_add] at k0 k1 k2
      rw [HC.out.nil i (Nat.le_refl _)] at k1
      clear e4 e5 e6
      obtain ⟨x, hx⟩ : ∃ x, x = (1 + (num i)) := ⟨_, rfl⟩
      have HMKC : Hid (mkByte (num i) = [.int .u8 ((x : Nat) : Int)]) := Lib.hid (by rw [hx]; rfl)
      obtain ⟨i1, hi1⟩ : ∃ x, x = num i := ⟨_, rfl⟩
      have HMK : Hid (∀ w', Calls Tryz.prog 100 #[.int .i64 (i1 : Int)] w' fun e w'' => e = .returned (.int .u8 (x : Int)) ∧ Below w'.heap.size w' w'') := Lib.hid fun w' => by rw [hi1, hx]; exact markByte_any (num i) (HNUM.out i hlt) w'
      rw [← hi1] at k2
      clear hi1 hx
      have hown := HC.out.bk.held i hlt
      obtain ⟨la, lc, hls⟩ := (reads_of_own hown).slice
      rw [hls] at k0
      have HLS := Lib.hid hls
      clear hown hls
      obtain ⟨ni, hni⟩ : ∃ x, x = n i := ⟨_, rfl⟩
      rw [← hni] at k0 HLS
      have HNI := Lib.hid hni
      clear hni
      have hnb : ni ≤ 1000000000 := by rw [HNI.out]; exact HN.out i hlt
      have hic : (i : Int) < (m : Int) := by omega
      go_upto_region 4 with (fail)
      obtain ⟨hb, hhb⟩ : ∃ x, x = wr.heap.size := ⟨_, rfl⟩
      have hal : Below wr.heap.size wr (wr.alloc (.cells #[.slice la ni lc, .slice none 0 0, .int .i64 (i1 : Int)] 100)) := (Below.refl _ _).alloc (Nat.le_refl _) _
      have HWB : Hid (Blk (wr.alloc (.cells #[.slice la ni lc, .slice none 0 0, .int .i64 (i1 : Int)] 100)) hb #[.slice la ni lc, .slice none 0 0, .int .i64 (i1 : Int)] 100) := Lib.hid (Blk.new_at _ _ _ _ hhb)
      have HCW := Lib.hid (HC.out.below hal)
      have HBW := Lib.hid (HB.out.trans (Fr.of_below hal))
      have HNE : Hid (rowOf (L i) ≠ some hb) := Lib.hid fun e => by have := HC.out.bk.lw i hlt hb e; omega
      have HGW : Hid (g < (wr.alloc (.cells #[.slice la ni lc, .slice none 0 0, .int .i64 (i1 : Int)] 100)).heap.size) := Lib.hid (Nat.lt_of_lt_of_le (HB.out.blk HB0.out HSG.out).lt hal.size)
      rw [← hhb]
      generalize wr.alloc (.cells #[.slice la ni lc, .slice none 0 0, .int .i64 (i1 : Int)] 100) = W at HWB HCW HBW HGW ⊢
      clear hal hhb HC HB g1 k0 k1 k2
      have HOT : Hid (∀ u, Oth g hb m i (.slice (some ⟨b2, 0, none⟩) m vc) L G u → ApartR W u (.slice la ni lc)) := Lib.hid (by
        rw [← HLS.out]; exact HCW.out.start hlt HGW.out HWB.out.lt HNE.out)
      have HLO : Hid (Own W base 5 1 (.slice la ni lc) ni (marks (mkByte (num i)) ni)) := Lib.hid (by
        have := HCW.out.bk.held i hlt
        rw [HLS.out, ← HNI.out] at this
        exact this)
      have HSS : Hid (∀ b, rowOf (Value.slice la ni lc) = some b → S b ∨ w.heap.size ≤ b) := Lib.hid fun b hb => .inl (HLS0.out i hlt b (by rw [HLS.out]; exact hb))
      have h0 := HWB.out.cellv 0 (.slice la ni lc) rfl
      go_wp2_with fail
      try show Code.wp _ _ _ _ _
      go_loopw [4, 5] (fun lv kv wz => ∃ k : Nat, k ≤ 40 ∧ kv = .int .i64 k ∧ (∃ xa xn xc, lv = .slice xa xn xc ∧ xn = ni + k ∧ Hid (Own wz base 5 1 (.slice xa xn xc) xn (marks (mkByte (num i)) xn)) ∧ Hid (∀ u, Oth g hb m i (.slice (some ⟨b2, 0, none⟩) m vc) L G u → ApartR wz u (.slice xa xn xc)) ∧ Hid (∀ b, rowOf (Value.slice xa xn xc) = some b → S b ∨ w.heap.size ≤ b)) ∧
        Hid (KGw wz base g 100 5 1 m (.slice (some ⟨b2, 0, none⟩) m vc) L G num n (fun j => mkByte (num j)) S i) ∧ Hid (Blk wz hb #[.slice la ni lc, .slice none 0 0, .int .i64 (i1 : Int)] 100) ∧ Hid (Fr S w wz)) (fun _ kv _ => 40 - (intOf kv).toNat)
      case atStart => exact ⟨0, by omega, rfl, ⟨la, ni, lc, rfl, rfl, HLO, HOT, HSS⟩, HCW, HWB, HBW⟩
      case round =>
        obtain ⟨k, hk, rfl, ⟨xa, xn, xc, rfl, hxn, HX, HO, HXS⟩, HG2, HH, HB2⟩ := hrel
        have HXN := Lib.hid hxn
        have hxb : xn ≤ 2000000000 := by omega
        clear hxn h0
        obtain ⟨wz, hwz⟩ : ∃ z, z = wr := ⟨_, rfl⟩
        subst hwz
        by_cases hk40 : k < 40
        · have h2 := HH.out.cellv 2 (.int .i64 (i1 : Int)) rfl
          go_upto_region 8 with (fail)
          go_wp2_with fail
          refine (HMK.out _).mono ?_
          rintro e wm ⟨rfl, bm⟩
          have HAL : Hid (Below wz.heap.size wz (wm.alloc (.cells #[.int .u8 ((x : Nat) : Int)] 5))) := Lib.hid (bm.trans ((Below.refl _ _).alloc bm.size _))
          have HRD : Hid (Reads (wm.alloc (.cells #[.int .u8 ((x : Nat) : Int)] 5)) 1 (.slice (some ⟨wm.heap.size, 0, none⟩) 1 1) 1 (mkByte (num i))) := Lib.hid (by rw [HMKC.out]; exact reads_new wm #[.int .u8 ((x : Nat) : Int)] _ 1 1 rfl (by unfold maxLen; omega))
          have HBZ : Hid (base ≤ (wm.alloc (.cells #[.int .u8 ((x : Nat) : Int)] 5)).heap.size) := Lib.hid (Nat.le_trans (Nat.le_trans hbw HB2.out.size) HAL.out.size)
          clear bm h2
          go_wp2_with (at_builtin; go_loud (refine wp_app_oneG rfl _ _ rfl Tryz.underlying22 hi0 hz hz1 hz2 rfl (by omega) base xn (.slice xa xn xc) ⟨wm.heap.size, 0, none⟩ 1 (marks (mkByte (num i)) xn) (mkByte (num i)) (marks (mkByte (num i)) (xn + 1)) (xn + 1) rfl rfl (own_below HX.out HAL.out) HRD.out (one_mkByte _) rfl (marks_next _ _).symm (by omega) (by omega) HBZ.out ?_); intro ya yc w7 HY HGR HLE)
          have hgw : KGw w7 base g 100 5 1 m (.slice (some ⟨b2, 0, none⟩) m vc) L G num n (fun j => mkByte (num j)) S i := (HG2.out.below HAL.out).app (hb := hb) HGR.out HLE.out (by rw [← HNI.out, HXN.out]; omega) (fun u hu => (HO.out u hu).later HAL.out.size)
          have hot : ∀ u, Oth g hb m i (.slice (some ⟨b2, 0, none⟩) m vc) L G u → ApartR w7 u (.slice ya (xn + 1) yc) := fun u hu => HGR.out.apart u ((HO.out u hu).later HAL.out.size)
          have hbh := (HH.out.below HAL.out).grown HGR.out.rows (fun e => (HO.out _ (.inr (.inl rfl)) hb rfl).2 e.symm)
          have hb7 : Fr S w w7 := (HB2.out.trans (Fr.of_below HAL.out)).trans' (Fr.of_grown (S := fun b => rowOf (Value.slice xa xn xc) = some b) HGR.out.rows fun _ e => e) HXS.out
          have hs7 : ∀ b, rowOf (Value.slice ya (xn + 1) yc) = some b → S b ∨ w.heap.size ≤ b := fun b hb' => by
            rcases grew_from HGR.out b hb' with h | h
            · exact HXS.out b h
            · exact .inr (Nat.le_trans (Nat.le_trans HB2.out.size HAL.out.size) h)
          exact ⟨⟨k + 1, by omega, by go_num, ⟨ya, xn + 1, yc, rfl, by rw [HXN.out]; omega, HY, Lib.hid hot, Lib.hid hs7⟩, Lib.hid hgw, Lib.hid hbh, Lib.hid hb7⟩, by simp [intOf]; omega⟩
        · obtain rfl : k = 40 := by omega
          have hx40 := HXN.out
          have hlo : Own wz base 5 1 (.slice xa xn xc) (n i + 40) (marks (mkByte (num i)) (n i + 40)) := by
            have := HX.out
            rw [hx40, HNI.out] at this
            rw [hx40, HNI.out]
            exact this
          have HNX := Lib.hid (HG2.out.next hlt hlo HO.out)
          have HGN : Hid (∀ j, j < i + 1 → ∀ b, rowOf ((fun j => if j = i then (Value.slice xa xn xc) else G j) j) = some b → S b ∨ w.heap.size ≤ b) := Lib.hid fun j hj b hb' => by
            by_cases e : j = i
            · simp only [if_pos e] at hb'
              exact HXS.out b hb'
            · simp only [if_neg e] at hb'
              exact HGS.out j (by omega) b hb'
          have g1 := (HB2.out.blk HB0.out HSG.out).cellv 1 (.slice (some ⟨b2, 0, none⟩) m vc) HBI.out
          have fr := own_free HG2.out.bk.own (i * 3 + 1) (by omega)
          obtain ⟨b3, off3, c3, e3, _, k1, _⟩ := HG2.out.bk.cells i hlt
          simp only [Value.slice.injEq, Option.some.injEq, Addr.mk.injEq, and_true, true_and] at e3
          obtain ⟨⟨e4, e5⟩, e6⟩ := e3
          rw [← e4, ← e5, Nat.zero_add] at k1
          have HBZ := Lib.hid (HB2.out.trans (Fr.of_only (Only.set wz b2 (i * 3 + 1) (.slice xa xn xc)) (HBS.out b2 (rowOf_pos (own_room HG2.out.bk.own (by omega))))))
          clear e4 e5 e6 hx40 hlo
          go_upto_region 2 with (fail)
          clear g1 fr k1 hk hk40
          generalize wz.setCell ⟨b2, i * 3 + 1, none⟩ (.slice xa xn xc) = ws at HNX HBZ ⊢
          go_wp2_with fail
          go_roundw
          case rel => exact ⟨i + 1, by omega, by go_num, _, HNX, HGN, HBZ⟩
          case measure => simp [intOf]; omega
    · obtain rfl : i = m := by omega
      go_wp2_with fail
      go_end0
      exact ⟨rfl, Lib.hid ⟨G, HC.out, HGS.out⟩, HB⟩
end Go.Proofs.YtbcnapkbdbefhaaGreatDoor
namespace Go.Proofs.YtbcnapkbdbefhaaGreatDoor
open Go.RowKit

set_option maxRecDepth 100000 in
set_option maxHeartbeats 8000000 in
theorem lookByte_any (w : World) (base g m : Nat) (B : Array Value) (bv : Value) (L G : Nat → Value) (num n : Nat → Nat) (S : Nat → Prop) (hB : Blk w g B 54) (hBi : B[1]? = some bv) (hK : KGw w base g 100 5 1 m bv L G num n (fun j => mkByte (num j)) S m) (hm : m ≤ 1000) (hnum : ∀ j, j < m → num j < 10) (hn : ∀ j, j < m → n j ≤ 1000000000) :
    Calls Tryz.prog 59 #[.pointer (some ⟨g, 0, none⟩)] w fun e w' => e = .returned (.bool true) ∧ Below w.heap.size w w' := by
  obtain ⟨va, vc, hbvs⟩ := (reads_of_own hK.bk.own).slice
  subst hbvs
  have HK := Lib.hid hK
  have HN := Lib.hid hn
  have HB0 := Lib.hid hB
  have HNUM := Lib.hid hnum
  have HBI := Lib.hid hBi
  clear hK hn hB hnum hBi
  go_enter Tryz.func59, Tryz.ntmps59
  go_wp2_with fail
  try show Code.wp _ _ _ _ _
  go_loopw [3, 4, 5] (fun iv _ _ wr => ∃ i : Nat, i ≤ m ∧ iv = .int .i64 i ∧ Hid (Below w.heap.size w wr)) (fun iv _ _ _ => m - (intOf iv).toNat)
  case atStart => exact ⟨0, Nat.zero_le _, rfl, Lib.hid (Below.refl _ _)⟩
  case round =>
    obtain ⟨i, hi, rfl, HB⟩ := hrel
    obtain ⟨wr, hwr⟩ := the_world HB.out
    subst hwr
    have HC := Lib.hid (HK.out.below HB.out)
    have g1 := (HB0.out.below HB.out).cellv 1 (.slice va m vc) HBI.out
    by_cases hlt : i < m
    · obtain ⟨b3, off3, c3, e3, k0, k1, k2⟩ := HC.out.bk.cells i hlt
      simp only [Value.slice.injEq, true_and] at e3
      obtain ⟨e4, e6⟩ := e3
      subst e4
      clear e6
      obtain ⟨x, hx⟩ : ∃ x, x = (1 + (num i)) := ⟨_, rfl⟩
      have HMKC : Hid (mkByte (num i) = [.int .u8 ((x : Nat) : Int)]) := Lib.hid (by rw [hx]; rfl)
      obtain ⟨i1, hi1⟩ : ∃ x, x = num i := ⟨_, rfl⟩
      have HIS : Hid (∀ w', Calls Tryz.prog 113 #[(.int .u8 (x : Int)), .int .i64 (i1 : Int)] w' fun e w'' => e = .returned (.bool true) ∧ Below w'.heap.size w' w'') := Lib.hid fun w' => by
        rw [hi1, hx]; exact isByte_any (num i) (HNUM.out i hlt) w'
      rw [← hi1] at k2
      clear hi1 hx
      have hown := HC.out.bk.held i hlt
      obtain ⟨la, lc, hls⟩ := (reads_of_own hown).slice
      rw [hls] at k0 hown
      have hog := HC.out.own i hlt
      obtain ⟨ga, gc, hgs⟩ := (reads_of_own hog).slice
      rw [hgs] at k1 hog
      obtain ⟨ni, hni⟩ : ∃ x, x = n i := ⟨_, rfl⟩
      rw [← hni] at k0 k1 hown hog
      have hnb : ni ≤ 1000000000 := by rw [hni]; exact HN.out i hlt
      obtain ⟨ng, hng⟩ : ∃ x, x = ni + 40 := ⟨_, rfl⟩
      rw [← hng] at k1 hog
      have hngi : (ni : Int) + 40 = (ng : Int) := by omega
      have hngw : IntKind.i64.wrap (ng : Int) = (ng : Int) := IntWalk.i64_in _ (by omega)
      have hneq : ((ng : Int) != (ng : Int)) = false := by simp
      obtain ⟨bg, hga, _⟩ := own_ptr hog (by omega)
      subst hga
      have HOW := Lib.hid hown
      have HOG := Lib.hid hog
      have HNG := Lib.hid hng
      clear hown hog hls hgs hni hng
      go_upto_region 5 with (fail)
      obtain ⟨hb, hhb⟩ : ∃ x, x = wr.heap.size := ⟨_, rfl⟩
      have hal : Below wr.heap.size wr (wr.alloc (.cells #[.slice la ni lc, .slice (some ⟨bg, 0, none⟩) ng gc, .int .i64 (i1 : Int)] 100)) := (Below.refl _ _).alloc (Nat.le_refl _) _
      have HWB : Hid (Blk (wr.alloc (.cells #[.slice la ni lc, .slice (some ⟨bg, 0, none⟩) ng gc, .int .i64 (i1 : Int)] 100)) hb #[.slice la ni lc, .slice (some ⟨bg, 0, none⟩) ng gc, .int .i64 (i1 : Int)] 100) := Lib.hid (Blk.new_at _ _ _ _ hhb)
      have HBW := Lib.hid (HB.out.trans (hal.mono HB.out.size))
      have HOW2 := Lib.hid (own_below HOW.out hal)
      have HOG2 := Lib.hid (own_below HOG.out hal)
      rw [← hhb]
      generalize wr.alloc (.cells #[.slice la ni lc, .slice (some ⟨bg, 0, none⟩) ng gc, .int .i64 (i1 : Int)] 100) = W at HWB HBW HOW2 HOG2 ⊢
      clear hal hhb HC HB HOW HOG g1 k0 k1 k2
      have h0 := HWB.out.cellv 0 (.slice la ni lc) rfl
      have h1 := HWB.out.cellv 1 (.slice (some ⟨bg, 0, none⟩) ng gc) rfl
      go_upto_region 8 with (fail)
      go_loopw [5] (fun kv wz => ∃ k : Nat, k ≤ ng ∧ kv = .int .i64 k ∧ Hid (Below W.heap.size W wz)) (fun kv _ => ng - (intOf kv).toNat)
      case atStart => exact ⟨0, Nat.zero_le _, rfl, Lib.hid (Below.refl _ _)⟩
      case round =>
        obtain ⟨k, hk, rfl, HZ⟩ := hrel
        obtain ⟨wz, hwz⟩ : ∃ z, z = wr := ⟨_, rfl⟩
        subst hwz
        clear h0 h1
        have h1 := (HWB.out.below HZ.out).cellv 1 (.slice (some ⟨bg, 0, none⟩) ng gc) rfl
        by_cases hkg : k < ng
        · have HZD := Lib.hid (HZ.out.drew)
          have hkgc : (k : Int) < (ng : Int) := by omega
          have eg0 : ∀ w', Below W.heap.size W w' → w'.cell? ⟨bg, k, none⟩ = some (.int .u8 ((x : Nat) : Int)) := fun w' hq => by
            have := mark_cell (own_below HOG2.out hq) (sz := 1) (by rw [HMKC.out]; rfl) k 0 (by omega) (by omega) (.int .u8 ((x : Nat) : Int)) (by rw [HMKC.out]; rfl)
            simpa using this
          have eg0H := Lib.hid eg0
          clear eg0
          by_cases hki : k < ni
          · have hb0 : ∃ b, la = some ⟨b, 0, none⟩ := by
              obtain ⟨b, e, _⟩ := own_ptr HOW2.out (by omega)
              exact ⟨b, e⟩
            obtain ⟨bl, rfl⟩ := hb0
            have hkic : (k : Int) < (ni : Int) := by omega
            have el0 : ∀ w', Below W.heap.size W w' → w'.cell? ⟨bl, k, none⟩ = some (.int .u8 ((x : Nat) : Int)) := fun w' hq => by
              have := mark_cell (own_below HOW2.out hq) (sz := 1) (by rw [HMKC.out]; rfl) k 0 (by omega) (by omega) (.int .u8 ((x : Nat) : Int)) (by rw [HMKC.out]; rfl)
              simpa using this
            have el0H := Lib.hid el0
            clear el0
            have HSW : Hid (∀ w', Below W.heap.size W w' → w'.cell? ⟨hb, 0, none⟩ = some (.slice (some ⟨bl, 0, none⟩) ni lc) ∧ w'.cell? ⟨hb, 1, none⟩ = some (.slice (some ⟨bg, 0, none⟩) ng gc) ∧ w'.cell? ⟨hb, 2, none⟩ = some (.int .i64 (i1 : Int)) ∧ (w'.cell? ⟨bg, k, none⟩ = some (.int .u8 ((x : Nat) : Int))) ∧ (w'.cell? ⟨bl, k, none⟩ = some (.int .u8 ((x : Nat) : Int))) ∧ Below W.heap.size W w') := Lib.hid fun w' hq => ⟨(HWB.out.below hq).cellv 0 _ rfl, (HWB.out.below hq).cellv 1 _ rfl, (HWB.out.below hq).cellv 2 _ rfl, eg0H.out w' hq, el0H.out w' hq, hq⟩
            go_upto_region 10 with (fail)
            clear h1
            refine wp_region_held_drew (S := fun w' => w'.cell? ⟨hb, 0, none⟩ = some (.slice (some ⟨bl, 0, none⟩) ni lc) ∧ w'.cell? ⟨hb, 1, none⟩ = some (.slice (some ⟨bg, 0, none⟩) ng gc) ∧ w'.cell? ⟨hb, 2, none⟩ = some (.int .i64 (i1 : Int)) ∧ (w'.cell? ⟨bg, k, none⟩ = some (.int .u8 ((x : Nat) : Int))) ∧ (w'.cell? ⟨bl, k, none⟩ = some (.int .u8 ((x : Nat) : Int))) ∧ Below W.heap.size W w') (by kernel_rfl) (HSW.out _ HZD.out) (fun hHeld => ?_)
            refine wpAnyH_take (i := 0) (v := ?vq87) (by simp only [List.getElem?_toArray]; rfl) (by kernel_rfl) (by kernel_rfl) (by kernel_rfl) (by exact fun _ _ _ h => h) (Or.inl ⟨by rfl, ?yq87⟩) (by assumption) ?rq87
            case yq87 => (intro w hSw; (try dsimp only at hSw); go_simp; try with_reducible rfl)
            try simp only [Act.put, List.setIfInBounds_toArray, List.set_cons_zero, List.set_cons_succ]
            refine wpAnyH_take (i := 1) (v := ?vq88) (by simp only [List.getElem?_toArray]; rfl) (by kernel_rfl) (by kernel_rfl) (by kernel_rfl) (by exact fun _ _ _ h => h) (Or.inl ⟨by rfl, ?yq88⟩) (by assumption) ?rq88
            case yq88 => (intro w hSw; (try dsimp only at hSw); go_simp; try with_reducible rfl)
            try simp only [Act.put, List.setIfInBounds_toArray, List.set_cons_zero, List.set_cons_succ]
            refine wpAnyH_take (i := 2) (v := ?vq89) (by simp only [List.getElem?_toArray]; rfl) (by kernel_rfl) (by kernel_rfl) (by kernel_rfl) (by exact fun _ _ _ h => h) (Or.inl ⟨by rfl, ?yq89⟩) (by assumption) ?rq89
            case yq89 => (intro w hSw; (try dsimp only at hSw); go_simp; try with_reducible rfl)
            try simp only [Act.put, List.setIfInBounds_toArray, List.set_cons_zero, List.set_cons_succ]
            refine wpAnyH_take (i := 3) (v := ?vq90) (by simp only [List.getElem?_toArray]; rfl) (by kernel_rfl) (by kernel_rfl) (by kernel_rfl) (by exact fun _ _ _ h => h) (Or.inl ⟨by rfl, ?yq90⟩) (by assumption) ?rq90
            case yq90 => (intro w hSw; (try dsimp only at hSw); go_simp; try with_reducible rfl)
            try simp only [Act.put, List.setIfInBounds_toArray, List.set_cons_zero, List.set_cons_succ]
            refine wpAnyH_take (i := 4) (v := ?vq91) (by simp only [List.getElem?_toArray]; rfl) (by kernel_rfl) (by kernel_rfl) (by kernel_rfl) (by exact fun _ _ _ h => h) (Or.inl ⟨by rfl, ?yq91⟩) (by assumption) ?rq91
            case yq91 => (intro w hSw; (try dsimp only at hSw); go_simp; try with_reducible rfl)
            try simp only [Act.put, List.setIfInBounds_toArray, List.set_cons_zero, List.set_cons_succ]
            refine wpAnyH_take (i := 5) (v := ?vq92) (by simp only [List.getElem?_toArray]; rfl) (by kernel_rfl) (by kernel_rfl) (by kernel_rfl) (by exact fun _ _ _ h => h) (Or.inl ⟨by rfl, ?yq92⟩) (by assumption) ?rq92
            case yq92 => (intro w hSw; (try dsimp only at hSw); go_simp; try with_reducible rfl)
            try simp only [Act.put, List.setIfInBounds_toArray, List.set_cons_zero, List.set_cons_succ]
            refine wpAnyH_take (i := 6) (v := ?vq93) (by simp only [List.getElem?_toArray]; rfl) (by kernel_rfl) (by kernel_rfl) (by kernel_rfl) (by exact fun _ _ _ h => h) (Or.inl ⟨by rfl, ?yq93⟩) (by assumption) ?rq93
            case yq93 => (intro w hSw; (try dsimp only at hSw); go_simp; try with_reducible rfl)
            try simp only [Act.put, List.setIfInBounds_toArray, List.set_cons_zero, List.set_cons_succ]
            refine wpAnyH_ready (rs := [7]) (by kernel_rfl) (by simp) ?_
            refine AllReadyH.cons (by simp only [List.getElem?_toArray]; rfl) (fun K hK => ?_) AllReadyH.nil
            have HH := Lib.hid hHeld.2.2.2.2.2
            go_simp
            refine (HIS.out _).mono ?_
            rintro e wa ⟨rfl, bb⟩
            have HH2 := Lib.hid (HH.out.trans (bb.mono HH.out.size))
            clear bb HH
            refine hK.out _ _ (HSW.out _ HH2.out) (fun hHeld => ?_)
            clear hK K
            try simp only [Act.put, List.setIfInBounds_toArray, List.set_cons_zero, List.set_cons_succ]
            refine wpAnyH_take (i := 8) (v := ?vq94) (by simp only [List.getElem?_toArray]; rfl) (by kernel_rfl) (by kernel_rfl) (by kernel_rfl) (by exact fun _ _ _ h => h) (Or.inl ⟨by rfl, ?yq94⟩) (by assumption) ?rq94
            case yq94 => (intro w hSw; (try dsimp only at hSw); go_simp; try with_reducible rfl)
            try simp only [Act.put, List.setIfInBounds_toArray, List.set_cons_zero, List.set_cons_succ]
            refine wpAnyH_take (i := 9) (v := ?vq95) (by simp only [List.getElem?_toArray]; rfl) (by kernel_rfl) (by kernel_rfl) (by kernel_rfl) (by exact fun _ _ _ h => h) (Or.inl ⟨by rfl, ?yq95⟩) (by assumption) ?rq95
            case yq95 => (intro w hSw; (try dsimp only at hSw); go_simp; try with_reducible rfl)
            try simp only [Act.put, List.setIfInBounds_toArray, List.set_cons_zero, List.set_cons_succ]
            refine wpAnyH_take (i := 10) (v := ?vq96) (by simp only [List.getElem?_toArray]; rfl) (by kernel_rfl) (by kernel_rfl) (by kernel_rfl) (by exact fun _ _ _ h => h) (Or.inl ⟨by rfl, ?yq96⟩) (by assumption) ?rq96
            case yq96 => (intro w hSw; (try dsimp only at hSw); go_simp; try with_reducible rfl)
            try simp only [Act.put, List.setIfInBounds_toArray, List.set_cons_zero, List.set_cons_succ]
            refine wpAnyH_take (i := 11) (v := ?vq97) (by simp only [List.getElem?_toArray]; rfl) (by kernel_rfl) (by kernel_rfl) (by kernel_rfl) (by exact fun _ _ _ h => h) (Or.inl ⟨by rfl, ?yq97⟩) (by assumption) ?rq97
            case yq97 => (intro w hSw; (try dsimp only at hSw); go_simp; try with_reducible rfl)
            try simp only [Act.put, List.setIfInBounds_toArray, List.set_cons_zero, List.set_cons_succ]
            refine wpAnyH_take (i := 12) (v := ?vq98) (by simp only [List.getElem?_toArray]; rfl) (by kernel_rfl) (by kernel_rfl) (by kernel_rfl) (by exact fun _ _ _ h => h) (Or.inl ⟨by rfl, ?yq98⟩) (by assumption) ?rq98
            case yq98 => (intro w hSw; (try dsimp only at hSw); go_simp; try with_reducible rfl)
            try simp only [Act.put, List.setIfInBounds_toArray, List.set_cons_zero, List.set_cons_succ]
            refine wpAnyH_take (i := 13) (v := ?vq99) (by simp only [List.getElem?_toArray]; rfl) (by kernel_rfl) (by kernel_rfl) (by kernel_rfl) (by exact fun _ _ _ h => h) (Or.inl ⟨by rfl, ?yq99⟩) (by assumption) ?rq99
            case yq99 => (intro w hSw; (try dsimp only at hSw); go_simp; try with_reducible rfl)
            try simp only [Act.put, List.setIfInBounds_toArray, List.set_cons_zero, List.set_cons_succ]
            refine wpAnyH_take (i := 14) (v := ?vq100) (by simp only [List.getElem?_toArray]; rfl) (by kernel_rfl) (by kernel_rfl) (by kernel_rfl) (by exact fun _ _ _ h => h) (Or.inl ⟨by rfl, ?yq100⟩) (by assumption) ?rq100
            case yq100 => (intro w hSw; (try dsimp only at hSw); go_simp; try with_reducible rfl)
            try simp only [Act.put, List.setIfInBounds_toArray, List.set_cons_zero, List.set_cons_succ]
            refine wpAnyH_take (i := 15) (v := ?vq101) (by simp only [List.getElem?_toArray]; rfl) (by kernel_rfl) (by kernel_rfl) (by kernel_rfl) (by exact fun _ _ _ h => h) (Or.inl ⟨by rfl, ?yq101⟩) (by assumption) ?rq101
            case yq101 => (intro w hSw; (try dsimp only at hSw); go_simp; try with_reducible rfl)
            try simp only [Act.put, List.setIfInBounds_toArray, List.set_cons_zero, List.set_cons_succ]
            refine wpAnyH_take (i := 16) (v := ?vq102) (by simp only [List.getElem?_toArray]; rfl) (by kernel_rfl) (by kernel_rfl) (by kernel_rfl) (by exact fun _ _ _ h => h) (Or.inl ⟨by rfl, ?yq102⟩) (by assumption) ?rq102
            case yq102 => (intro w hSw; (try dsimp only at hSw); go_simp; try with_reducible rfl)
            try simp only [Act.put, List.setIfInBounds_toArray, List.set_cons_zero, List.set_cons_succ]
            refine wpAnyH_take (i := 17) (v := ?vq103) (by simp only [List.getElem?_toArray]; rfl) (by kernel_rfl) (by kernel_rfl) (by kernel_rfl) (by exact fun _ _ _ h => h) (Or.inl ⟨by rfl, ?yq103⟩) (by assumption) ?rq103
            case yq103 => (intro w hSw; (try dsimp only at hSw); go_simp; try with_reducible rfl)
            try simp only [Act.put, List.setIfInBounds_toArray, List.set_cons_zero, List.set_cons_succ]
            refine wpAnyH_take (i := 18) (v := ?vq104) (by simp only [List.getElem?_toArray]; rfl) (by kernel_rfl) (by kernel_rfl) (by kernel_rfl) (by exact fun _ _ _ h => h) (Or.inl ⟨by rfl, ?yq104⟩) (by assumption) ?rq104
            case yq104 => (intro w hSw; (try dsimp only at hSw); go_simp; try with_reducible rfl)
            try simp only [Act.put, List.setIfInBounds_toArray, List.set_cons_zero, List.set_cons_succ]
            refine wpAnyH_take (i := 19) (v := ?vq105) (by simp only [List.getElem?_toArray]; rfl) (by kernel_rfl) (by kernel_rfl) (by kernel_rfl) (by exact fun _ _ _ h => h) (Or.inl ⟨by rfl, ?yq105⟩) (by assumption) ?rq105
            case yq105 => (intro w hSw; (try dsimp only at hSw); go_simp; try with_reducible rfl)
            try simp only [Act.put, List.setIfInBounds_toArray, List.set_cons_zero, List.set_cons_succ]
            refine wpAnyH_take (i := 20) (v := ?vq106) (by simp only [List.getElem?_toArray]; rfl) (by kernel_rfl) (by kernel_rfl) (by kernel_rfl) (by exact fun _ _ _ h => h) (Or.inl ⟨by rfl, ?yq106⟩) (by assumption) ?rq106
            case yq106 => (intro w hSw; (try dsimp only at hSw); go_simp; try with_reducible rfl)
            try simp only [Act.put, List.setIfInBounds_toArray, List.set_cons_zero, List.set_cons_succ]
            refine wpAnyH_take (i := 21) (v := ?vq107) (by simp only [List.getElem?_toArray]; rfl) (by kernel_rfl) (by kernel_rfl) (by kernel_rfl) (by exact fun _ _ _ h => h) (Or.inl ⟨by rfl, ?yq107⟩) (by assumption) ?rq107
            case yq107 => (intro w hSw; (try dsimp only at hSw); go_simp; try with_reducible rfl)
            try simp only [Act.put, List.setIfInBounds_toArray, List.set_cons_zero, List.set_cons_succ]
            refine wpAnyH_take (i := 22) (v := ?vq108) (by simp only [List.getElem?_toArray]; rfl) (by kernel_rfl) (by kernel_rfl) (by kernel_rfl) (by exact fun _ _ _ h => h) (Or.inl ⟨by rfl, ?yq108⟩) (by assumption) ?rq108
            case yq108 => (intro w hSw; (try dsimp only at hSw); go_simp; try with_reducible rfl)
            try simp only [Act.put, List.setIfInBounds_toArray, List.set_cons_zero, List.set_cons_succ]
            refine wpAnyH_ready (rs := [23]) (by kernel_rfl) (by simp) ?_
            refine AllReadyH.cons (by simp only [List.getElem?_toArray]; rfl) (fun K hK => ?_) AllReadyH.nil
            have HH := Lib.hid hHeld.2.2.2.2.2
            go_simp
            refine (HIS.out _).mono ?_
            rintro e wb ⟨rfl, bb⟩
            have HH2 := Lib.hid (HH.out.trans (bb.mono HH.out.size))
            clear bb HH
            refine hK.out _ _ (HSW.out _ HH2.out) (fun hHeld => ?_)
            clear hK K
            try simp only [Act.put, List.setIfInBounds_toArray, List.set_cons_zero, List.set_cons_succ]
            refine wpAnyH_take (i := 24) (v := ?vq109) (by simp only [List.getElem?_toArray]; rfl) (by kernel_rfl) (by kernel_rfl) (by kernel_rfl) (by exact fun _ _ _ h => h) (Or.inl ⟨by rfl, ?yq109⟩) (by assumption) ?rq109
            case yq109 => (intro w hSw; (try dsimp only at hSw); go_simp; try with_reducible rfl)
            try simp only [Act.put, List.setIfInBounds_toArray, List.set_cons_zero, List.set_cons_succ]
            refine wpAnyH_take (i := 25) (v := ?vq110) (by simp only [List.getElem?_toArray]; rfl) (by kernel_rfl) (by kernel_rfl) (by kernel_rfl) (by exact fun _ _ _ h => h) (Or.inl ⟨by rfl, ?yq110⟩) (by assumption) ?rq110
            case yq110 => (intro w hSw; (try dsimp only at hSw); go_simp; try with_reducible rfl)
            try simp only [Act.put, List.setIfInBounds_toArray, List.set_cons_zero, List.set_cons_succ]
            refine wpAnyH_take (i := 26) (v := ?vq111) (by simp only [List.getElem?_toArray]; rfl) (by kernel_rfl) (by kernel_rfl) (by kernel_rfl) (by exact fun _ _ _ h => h) (Or.inl ⟨by rfl, ?yq111⟩) (by assumption) ?rq111
            case yq111 => (intro w hSw; (try dsimp only at hSw); go_simp; try with_reducible rfl)
            try simp only [Act.put, List.setIfInBounds_toArray, List.set_cons_zero, List.set_cons_succ]
            refine wpAnyH_done (by kernel_rfl) ?_ _
            have HBD := Lib.hid HH2.out
            clear HH2
            rename_i hH
            clear hH
            go_wp2_with fail
            go_roundw
            case rel => exact ⟨k + 1, by omega, by go_num, HBD⟩
            case measure => simp [intOf]; omega
          · have hd : decide ((k : Int) < (ni : Int)) = false := by simp; omega
            have hd2 : decide (k < ni) = false := by simp; omega
            have HSW : Hid (∀ w', Below W.heap.size W w' → w'.cell? ⟨hb, 0, none⟩ = some (.slice la ni lc) ∧ w'.cell? ⟨hb, 1, none⟩ = some (.slice (some ⟨bg, 0, none⟩) ng gc) ∧ w'.cell? ⟨hb, 2, none⟩ = some (.int .i64 (i1 : Int)) ∧ (w'.cell? ⟨bg, k, none⟩ = some (.int .u8 ((x : Nat) : Int))) ∧ Below W.heap.size W w') := Lib.hid fun w' hq => ⟨(HWB.out.below hq).cellv 0 _ rfl, (HWB.out.below hq).cellv 1 _ rfl, (HWB.out.below hq).cellv 2 _ rfl, eg0H.out w' hq, hq⟩
            go_upto_region 10 with (fail)
            clear h1
            refine wp_region_held_drew (S := fun w' => w'.cell? ⟨hb, 0, none⟩ = some (.slice la ni lc) ∧ w'.cell? ⟨hb, 1, none⟩ = some (.slice (some ⟨bg, 0, none⟩) ng gc) ∧ w'.cell? ⟨hb, 2, none⟩ = some (.int .i64 (i1 : Int)) ∧ (w'.cell? ⟨bg, k, none⟩ = some (.int .u8 ((x : Nat) : Int))) ∧ Below W.heap.size W w') (by kernel_rfl) (HSW.out _ HZD.out) (fun hHeld => ?_)
            refine wpAnyH_take (i := 0) (v := ?vq112) (by simp only [List.getElem?_toArray]; rfl) (by kernel_rfl) (by kernel_rfl) (by kernel_rfl) (by exact fun _ _ _ h => h) (Or.inl ⟨by rfl, ?yq112⟩) (by assumption) ?rq112
            case yq112 => (intro w hSw; (try dsimp only at hSw); go_simp; try with_reducible rfl)
            try simp only [Act.put, List.setIfInBounds_toArray, List.set_cons_zero, List.set_cons_succ]
            refine wpAnyH_take (i := 1) (v := ?vq113) (by simp only [List.getElem?_toArray]; rfl) (by kernel_rfl) (by kernel_rfl) (by kernel_rfl) (by exact fun _ _ _ h => h) (Or.inl ⟨by rfl, ?yq113⟩) (by assumption) ?rq113
            case yq113 => (intro w hSw; (try dsimp only at hSw); go_simp; try with_reducible rfl)
            try simp only [Act.put, List.setIfInBounds_toArray, List.set_cons_zero, List.set_cons_succ]
            refine wpAnyH_take (i := 2) (v := ?vq114) (by simp only [List.getElem?_toArray]; rfl) (by kernel_rfl) (by kernel_rfl) (by kernel_rfl) (by exact fun _ _ _ h => h) (Or.inl ⟨by rfl, ?yq114⟩) (by assumption) ?rq114
            case yq114 => (intro w hSw; (try dsimp only at hSw); go_simp; try with_reducible rfl)
            try simp only [Act.put, List.setIfInBounds_toArray, List.set_cons_zero, List.set_cons_succ]
            refine wpAnyH_take (i := 3) (v := ?vq115) (by simp only [List.getElem?_toArray]; rfl) (by kernel_rfl) (by kernel_rfl) (by kernel_rfl) (by exact fun _ _ _ h => h) (Or.inl ⟨by rfl, ?yq115⟩) (by assumption) ?rq115
            case yq115 => (intro w hSw; (try dsimp only at hSw); go_simp; try with_reducible rfl)
            try simp only [Act.put, List.setIfInBounds_toArray, List.set_cons_zero, List.set_cons_succ]
            refine wpAnyH_take (i := 4) (v := ?vq116) (by simp only [List.getElem?_toArray]; rfl) (by kernel_rfl) (by kernel_rfl) (by kernel_rfl) (by exact fun _ _ _ h => h) (Or.inl ⟨by rfl, ?yq116⟩) (by assumption) ?rq116
            case yq116 => (intro w hSw; (try dsimp only at hSw); go_simp; try with_reducible rfl)
            try simp only [Act.put, List.setIfInBounds_toArray, List.set_cons_zero, List.set_cons_succ]
            refine wpAnyH_take (i := 5) (v := ?vq117) (by simp only [List.getElem?_toArray]; rfl) (by kernel_rfl) (by kernel_rfl) (by kernel_rfl) (by exact fun _ _ _ h => h) (Or.inl ⟨by rfl, ?yq117⟩) (by assumption) ?rq117
            case yq117 => (intro w hSw; (try dsimp only at hSw); go_simp; try with_reducible rfl)
            try simp only [Act.put, List.setIfInBounds_toArray, List.set_cons_zero, List.set_cons_succ]
            refine wpAnyH_take (i := 6) (v := ?vq118) (by simp only [List.getElem?_toArray]; rfl) (by kernel_rfl) (by kernel_rfl) (by kernel_rfl) (by exact fun _ _ _ h => h) (Or.inl ⟨by rfl, ?yq118⟩) (by assumption) ?rq118
            case yq118 => (intro w hSw; (try dsimp only at hSw); go_simp; try with_reducible rfl)
            try simp only [Act.put, List.setIfInBounds_toArray, List.set_cons_zero, List.set_cons_succ]
            refine wpAnyH_ready (rs := [7]) (by kernel_rfl) (by simp) ?_
            refine AllReadyH.cons (by simp only [List.getElem?_toArray]; rfl) (fun K hK => ?_) AllReadyH.nil
            have HH := Lib.hid hHeld.2.2.2.2
            go_simp
            refine (HIS.out _).mono ?_
            rintro e wa ⟨rfl, bb⟩
            have HH2 := Lib.hid (HH.out.trans (bb.mono HH.out.size))
            clear bb HH
            refine hK.out _ _ (HSW.out _ HH2.out) (fun hHeld => ?_)
            clear hK K
            try simp only [Act.put, List.setIfInBounds_toArray, List.set_cons_zero, List.set_cons_succ]
            refine wpAnyH_take (i := 8) (v := ?vq119) (by simp only [List.getElem?_toArray]; rfl) (by kernel_rfl) (by kernel_rfl) (by kernel_rfl) (by exact fun _ _ _ h => h) (Or.inl ⟨by rfl, ?yq119⟩) (by assumption) ?rq119
            case yq119 => (intro w hSw; (try dsimp only at hSw); go_simp; try with_reducible rfl)
            try simp only [Act.put, List.setIfInBounds_toArray, List.set_cons_zero, List.set_cons_succ]
            refine wpAnyH_take (i := 9) (v := ?vq120) (by simp only [List.getElem?_toArray]; rfl) (by kernel_rfl) (by kernel_rfl) (by kernel_rfl) (by exact fun _ _ _ h => h) (Or.inl ⟨by rfl, ?yq120⟩) (by assumption) ?rq120
            case yq120 => (intro w hSw; (try dsimp only at hSw); go_simp; try with_reducible rfl)
            try simp only [Act.put, List.setIfInBounds_toArray, List.set_cons_zero, List.set_cons_succ]
            refine wpAnyH_take (i := 10) (v := ?vq121) (by simp only [List.getElem?_toArray]; rfl) (by kernel_rfl) (by kernel_rfl) (by kernel_rfl) (by exact fun _ _ _ h => h) (Or.inl ⟨by rfl, ?yq121⟩) (by assumption) ?rq121
            case yq121 => (intro w hSw; (try dsimp only at hSw); go_simp; try with_reducible rfl)
            try simp only [Act.put, List.setIfInBounds_toArray, List.set_cons_zero, List.set_cons_succ]
            refine wpAnyH_take (i := 11) (v := ?vq122) (by simp only [List.getElem?_toArray]; rfl) (by kernel_rfl) (by kernel_rfl) (by kernel_rfl) (by exact fun _ _ _ h => h) (Or.inl ⟨by rfl, ?yq122⟩) (by assumption) ?rq122
            case yq122 => (intro w hSw; (try dsimp only at hSw); go_simp; try with_reducible rfl)
            try simp only [Act.put, List.setIfInBounds_toArray, List.set_cons_zero, List.set_cons_succ]
            refine wpAnyH_take (i := 12) (v := ?vq123) (by simp only [List.getElem?_toArray]; rfl) (by kernel_rfl) (by kernel_rfl) (by kernel_rfl) (by exact fun _ _ _ h => h) (Or.inl ⟨by rfl, ?yq123⟩) (by assumption) ?rq123
            case yq123 => (intro w hSw; (try dsimp only at hSw); go_simp; try with_reducible rfl)
            try simp only [Act.put, List.setIfInBounds_toArray, List.set_cons_zero, List.set_cons_succ]
            refine wpAnyH_take (i := 13) (v := ?vq124) (by simp only [List.getElem?_toArray]; rfl) (by kernel_rfl) (by kernel_rfl) (by kernel_rfl) (by exact fun _ _ _ h => h) (Or.inl ⟨by rfl, ?yq124⟩) (by assumption) ?rq124
            case yq124 => (intro w hSw; (try dsimp only at hSw); go_simp; try with_reducible rfl)
            try simp only [Act.put, List.setIfInBounds_toArray, List.set_cons_zero, List.set_cons_succ]
            refine wpAnyH_take (i := 14) (v := ?vq125) (by simp only [List.getElem?_toArray]; rfl) (by kernel_rfl) (by kernel_rfl) (by kernel_rfl) (by exact fun _ _ _ h => h) (Or.inl ⟨by rfl, ?yq125⟩) (by assumption) ?rq125
            case yq125 => (intro w hSw; (try dsimp only at hSw); go_simp; try with_reducible rfl)
            try simp only [Act.put, List.setIfInBounds_toArray, List.set_cons_zero, List.set_cons_succ]
            refine wpAnyH_take (i := 15) (v := ?vq126) (by simp only [List.getElem?_toArray]; rfl) (by kernel_rfl) (by kernel_rfl) (by kernel_rfl) (by exact fun _ _ _ h => h) (Or.inl ⟨by rfl, ?yq126⟩) (by assumption) ?rq126
            case yq126 => (intro w hSw; (try dsimp only at hSw); go_simp; try with_reducible rfl)
            try simp only [Act.put, List.setIfInBounds_toArray, List.set_cons_zero, List.set_cons_succ]
            refine wpAnyH_take (i := 16) (v := undef) (by simp only [List.getElem?_toArray]; rfl) (by kernel_rfl) (by kernel_rfl) (by kernel_rfl) (by exact fun _ _ _ h => h) (Or.inr ⟨by rfl, rfl⟩) (by assumption) ?_
            try simp only [Act.put, List.setIfInBounds_toArray, List.set_cons_zero, List.set_cons_succ]
            refine wpAnyH_take (i := 17) (v := undef) (by simp only [List.getElem?_toArray]; rfl) (by kernel_rfl) (by kernel_rfl) (by kernel_rfl) (by exact fun _ _ _ h => h) (Or.inr ⟨by rfl, rfl⟩) (by assumption) ?_
            try simp only [Act.put, List.setIfInBounds_toArray, List.set_cons_zero, List.set_cons_succ]
            refine wpAnyH_take (i := 18) (v := undef) (by simp only [List.getElem?_toArray]; rfl) (by kernel_rfl) (by kernel_rfl) (by kernel_rfl) (by exact fun _ _ _ h => h) (Or.inr ⟨by rfl, rfl⟩) (by assumption) ?_
            try simp only [Act.put, List.setIfInBounds_toArray, List.set_cons_zero, List.set_cons_succ]
            refine wpAnyH_take (i := 19) (v := undef) (by simp only [List.getElem?_toArray]; rfl) (by kernel_rfl) (by kernel_rfl) (by kernel_rfl) (by exact fun _ _ _ h => h) (Or.inr ⟨by rfl, rfl⟩) (by assumption) ?_
            try simp only [Act.put, List.setIfInBounds_toArray, List.set_cons_zero, List.set_cons_succ]
            refine wpAnyH_take (i := 20) (v := undef) (by simp only [List.getElem?_toArray]; rfl) (by kernel_rfl) (by kernel_rfl) (by kernel_rfl) (by exact fun _ _ _ h => h) (Or.inr ⟨by rfl, rfl⟩) (by assumption) ?_
            try simp only [Act.put, List.setIfInBounds_toArray, List.set_cons_zero, List.set_cons_succ]
            refine wpAnyH_take (i := 21) (v := undef) (by simp only [List.getElem?_toArray]; rfl) (by kernel_rfl) (by kernel_rfl) (by kernel_rfl) (by exact fun _ _ _ h => h) (Or.inr ⟨by rfl, rfl⟩) (by assumption) ?_
            try simp only [Act.put, List.setIfInBounds_toArray, List.set_cons_zero, List.set_cons_succ]
            refine wpAnyH_take (i := 22) (v := undef) (by simp only [List.getElem?_toArray]; rfl) (by kernel_rfl) (by kernel_rfl) (by kernel_rfl) (by exact fun _ _ _ h => h) (Or.inr ⟨by rfl, rfl⟩) (by assumption) ?_
            try simp only [Act.put, List.setIfInBounds_toArray, List.set_cons_zero, List.set_cons_succ]
            refine wpAnyH_take (i := 23) (v := undef) (by simp only [List.getElem?_toArray]; rfl) (by kernel_rfl) (by kernel_rfl) (by kernel_rfl) (by exact fun _ _ _ h => h) (Or.inr ⟨by rfl, rfl⟩) (by assumption) ?_
            try simp only [Act.put, List.setIfInBounds_toArray, List.set_cons_zero, List.set_cons_succ]
            refine wpAnyH_take (i := 24) (v := undef) (by simp only [List.getElem?_toArray]; rfl) (by kernel_rfl) (by kernel_rfl) (by kernel_rfl) (by exact fun _ _ _ h => h) (Or.inr ⟨by rfl, rfl⟩) (by assumption) ?_
            try simp only [Act.put, List.setIfInBounds_toArray, List.set_cons_zero, List.set_cons_succ]
            refine wpAnyH_take (i := 25) (v := ?vq127) (by simp only [List.getElem?_toArray]; rfl) (by kernel_rfl) (by kernel_rfl) (by kernel_rfl) (by exact fun _ _ _ h => h) (Or.inl ⟨by rfl, ?yq127⟩) (by assumption) ?rq127
            case yq127 => (intro w hSw; (try dsimp only at hSw); go_simp; try with_reducible rfl)
            try simp only [Act.put, List.setIfInBounds_toArray, List.set_cons_zero, List.set_cons_succ]
            refine wpAnyH_take (i := 26) (v := ?vq128) (by simp only [List.getElem?_toArray]; rfl) (by kernel_rfl) (by kernel_rfl) (by kernel_rfl) (by exact fun _ _ _ h => h) (Or.inl ⟨by rfl, ?yq128⟩) (by assumption) ?rq128
            case yq128 => (intro w hSw; (try dsimp only at hSw); go_simp; try with_reducible rfl)
            try simp only [Act.put, List.setIfInBounds_toArray, List.set_cons_zero, List.set_cons_succ]
            refine wpAnyH_done (by kernel_rfl) ?_ _
            have HBD := Lib.hid HH2.out
            clear HH2
            rename_i hH
            clear hH
            go_wp2_with fail
            go_roundw
            case rel => exact ⟨k + 1, by omega, by go_num, HBD⟩
            case measure => simp [intOf]; omega
        · have hbf := Lib.hid (HBW.out.trans (HZ.out.mono HBW.out.size))
          go_wp2_with fail
          go_roundw
          case rel => exact ⟨i + 1, by omega, by go_num, hbf⟩
          case measure => simp [intOf]; omega
    · obtain rfl : i = m := by omega
      go_wp2_with fail
      go_ret
      exact ⟨rfl, HB.out⟩
end Go.Proofs.YtbcnapkbdbefhaaGreatDoor
namespace Go.Proofs.YtbcnapkbdbefhaaGreatDoor
open Go.RowKit

set_option maxRecDepth 100000 in
set_option maxHeartbeats 1000000 in
theorem toldByte_any (w : World) (g M m : Nat) (f : Nat → Value) (L : Nat → Value) (num : Nat → Nat) (l : Value) (h : Pg w g M f) (ho : Own w g 100 3 (f 1) m (helds m L (fun _ => .slice none 0 0) num)) (hm : m ≤ 1000) (hM : M ≤ 1000) (hls : ∃ a n c, l = .slice a n c) (hL : L m = l) (hN : num m = M + 1) :
    Calls Tryz.prog 14 #[.pointer (some ⟨g, 0, none⟩), l] w fun e w' => e = .returned (.tuple #[]) ∧ Hid (∃ v', Pg w' g (M + 1) (upd f 1 v') ∧ Own w' g 100 3 (upd f 1 v' 1) (m + 1) (helds (m + 1) L (fun _ => .slice none 0 0) num) ∧ KeepsO w w' f (upd f 1 v') 1) ∧ Below g w w' := by
  have HKB := Lib.hid (keepByte_any w g g M m f (f 1) L (fun _ => .slice none 0 0) num l h.blk rfl ho (fun e => by have := (h.lw 1 g e).1; omega) (Nat.le_refl _) hm hM hls)
  have H := Lib.hid h
  have HLN : Hid (L m = l ∧ num m = M + 1) := Lib.hid ⟨hL, hN⟩
  clear h ho hL hN
  obtain ⟨xa, xn, xc, rfl⟩ := hls
  go_enter Tryz.func14, Tryz.ntmps14
  go_wp2_with fail
  refine HKB.out.mono ?_
  rintro e w' ⟨rfl, ba, bc, hb, ho, hne, hk⟩
  have hp := H.out.keep hb.out ho.out hne.out hk.out
  have HF : Hid (∃ v', Pg w' g (M + 1) (upd f 1 v') ∧ Own w' g 100 3 (upd f 1 v' 1) (m + 1) (helds (m + 1) L (fun _ => .slice none 0 0) num) ∧ KeepsO w w' f (upd f 1 v') 1) := Lib.hid ⟨_, hp.1, by rw [upd_same, helds_next, HLN.out.1, HLN.out.2]; exact ho.out, hp.2⟩
  have HB := Lib.hid hk.out.below
  clear hb ho hne hk hp
  go_wp2
  go_end0
  exact ⟨rfl, HF, HB.out⟩
end Go.Proofs.YtbcnapkbdbefhaaGreatDoor

/- The book of lists (law01.Book), bytes: what it holds, its marks, keepByte. No condition. -/
import Derived.Test.YtafanohpkbfknaaGreatDoorApart
import Derived.Deep.RegionHeld3
import Derived.Deep.Cut
namespace Go.Proofs.YtafanohpkbfknaaGreatDoor
open Go.RowKit

theorem step_app_el5 {ops : Array Oper} {o : Oper} {a : Act} {w : World} {K : Act → World → Prop} {Q : Exit → Act → World → Prop} {E : Prop} (hgd : o.guard = none) (s x : Operand) {t e : TypeId} {i : TypeInfo} {z : Value} {sz by_ : Nat}
    (ho : o.op = .call { callee := .builtin .append, args := #[s, x], argTypes := #[t, t] }) (ht : Tryz.prog.underlying t = some (.slice e)) (hi : Tryz.prog.info? e = some i) (hz : i.zero = some z) (hs : i.size = sz) (hb : i.bytes = by_) (hzs : z.cells.size = sz) (hsz : 0 < sz)
    (base n m : Nat) (v v2 : Value) (xs ys zs : List Value) (r : Nat) (hs' : a.eval s = v) (hx : a.eval x = v2) (hown : Own w base e sz v n xs) (hrd : Reads w sz v2 m ys) (h1 : ∀ u ∈ ys, u.oneCell' = true)
    (hr : n + m = r) (hzz : xs ++ ys = zs) (hlen : r * by_ ≤ 140737488355328) (hnm : r ≤ 9223372036854775807) (hbase : base ≤ w.heap.size)
    (h : ∀ b c w', Hid (Own w' base e sz (.slice b r c) r zs) → Hid (Grew w w' base v (.slice b r c)) → K (a.put o.dst (.slice b r c)) w') : if Region.wanted o (yielded ops a.tmps) = true then Oper.wp Tryz.prog o a w K Q else E := by
  subst hr hzz
  have hw : Region.wanted o (yielded ops a.tmps) = true := by simp [Region.wanted, hgd]
  rw [if_pos hw]
  obtain ⟨v', w', hr, h2, h3, h4, h5⟩ := run_app2 (P := Tryz.prog) w base t o.type e i z sz by_ ht hi hz hs hb hzs hsz v n xs hown v2 m ys hrd h1 hlen hnm hbase
  unfold Oper.wp execOp
  simp only [ho, resolve, invoke, builtin, Sem.run_bind, Sem.run_pure, Result.andThen_ok, List.map_toArray, List.map_cons, List.map_nil, hs', hx, hr]
  obtain ⟨b, c, rfl⟩ := (reads_of_own h2).slice
  exact h b c w' h2 (grew_of h4 h3 h5)
/-- the book: how many lists, those of bytes, those of entries -/
def bkC (m : Nat) (bv ev : Value) : Array Value := #[.int .i64 (m : Int), bv, .slice none 0 0, .slice none 0 0, .slice none 0 0, .slice none 0 0, .slice none 0 0, .slice none 0 0, ev, .slice none 0 0, .slice none 0 0, .slice none 0 0, .slice none 0 0, .slice none 0 0]
/-- a list that is held -/
def hcell (l g : Value) (n : Nat) : List Value := [l, g, .int .i64 (n : Int)]
def helds (m : Nat) (L G : Nat → Value) : List Value := (List.range m).flatMap fun j => hcell (L j) (G j) (j + 1)
theorem helds_length (m : Nat) (L G : Nat → Value) : (helds m L G).length = m * 3 := by
  have := flatM_length (fun j => hcell (L j) (G j) (j + 1)) 3 (fun _ => rfl) (List.range m)
  rw [List.length_range] at this
  exact this
theorem helds_next (m : Nat) (L G : Nat → Value) : helds (m + 1) L G = helds m L G ++ hcell (L m) (G m) (m + 1) := by
  unfold helds
  rw [List.range_succ, List.flatMap_append]
  simp
theorem one_hcell (l g : Value) (n : Nat) (h1 : l.oneCell' = true) (h2 : g.oneCell' = true) : ∀ u ∈ hcell l g n, u.oneCell' = true := by
  intro u hu
  simp only [hcell, List.mem_cons, List.not_mem_nil, or_false] at hu
  rcases hu with rfl | rfl | rfl
  · exact h1
  · exact h2
  · rfl
set_option maxRecDepth 100000 in
theorem info_held : (Tryz.prog.info? 116).map (fun i => (i.zero, i.size, i.bytes)) = some (some (.agg #[.slice none 0 0, .slice none 0 0, .int .i64 0]), 3, 56) := by kernel_rfl
/-- the mark of the list j -/
def mkB (j : Nat) : UInt8 := UInt8.ofNat (1 + (j + 1) % 250)
theorem mkB_nat (j : Nat) : (mkB j).toNat = 1 + (j + 1) % 250 := toNat_ofNat _ (by omega)
set_option maxRecDepth 100000 in
theorem markByte_any (j : Nat) (w : World) : Calls Tryz.prog 117 #[.int .i64 ((j + 1 : Nat) : Int)] w fun e w' => e = .returned (.int .u8 ((mkB j).toNat : Int)) ∧ w = w' := by
  rw [mkB_nat]
  obtain ⟨n, hn⟩ : ∃ n, n = j + 1 := ⟨_, rfl⟩
  rw [← hn]
  obtain ⟨r, hr⟩ : ∃ r, r = 1 + n % 250 := ⟨_, rfl⟩
  rw [← hr]
  have h1 : (1 : Int) + (n : Int) % 250 = (r : Int) := by omega
  have h2 : IntKind.u8.wrap (r : Int) = (r : Int) := IntWalk.u8_in _ (by omega)
  clear hr hn
  go_enter Tryz.func117, Tryz.ntmps117
  go_wp2
  go_ret
  exact ⟨rfl, rfl⟩
set_option maxRecDepth 100000 in
theorem isByte_any (j : Nat) (w : World) : Calls Tryz.prog 130 #[.int .u8 ((mkB j).toNat : Int), .int .i64 ((j + 1 : Nat) : Int)] w fun e w' => e = .returned (.bool true) ∧ w = w' := by
  rw [mkB_nat]
  obtain ⟨n, hn⟩ : ∃ n, n = j + 1 := ⟨_, rfl⟩
  rw [← hn]
  obtain ⟨r, hr⟩ : ∃ r, r = 1 + n % 250 := ⟨_, rfl⟩
  rw [← hr]
  have h1 : (1 : Int) + (n : Int) % 250 = (r : Int) := by omega
  have h2 : IntKind.u8.wrap (r : Int) = (r : Int) := IntWalk.u8_in _ (by omega)
  clear hr hn
  go_enter Tryz.func130, Tryz.ntmps130
  go_wp2
  go_ret
  exact ⟨by first | rfl | (simp; done), rfl⟩

/-- what keeping a list leaves of the others -/
structure Kept (w w' : World) (base g : Nat) (bv bv' : Value) : Prop where
  below : Below base w w'
  keep : ∀ (base2 : Nat) (e : TypeId) (sz n : Nat) (u : Value) (xs : List Value), Own w base2 e sz u n xs → Apart w u bv → u.ownBlock ≠ some g → Own w' base2 e sz u n xs
  apart : ∀ u, Apart w u bv → Apart w' u bv'
set_option maxRecDepth 100000 in
set_option maxHeartbeats 8000000 in
theorem keepByte_any (w : World) (base g m : Nat) (bv ev : Value) (L G : Nat → Value) (l : Value) (hB : Blk w g (bkC m bv ev) 43) (hbv : Own w base 116 3 bv m (helds m L G)) (hbg : bv.ownBlock ≠ some g)
    (hbase : base ≤ g) (hm : m ≤ 1000) (hls : ∃ a n c, l = .slice a n c) :
    Calls Tryz.prog 43 #[.pointer (some ⟨g, 0, none⟩), l] w fun e w' => e = .returned (.tuple #[]) ∧ ∃ ba bc, Hid (Blk w' g (bkC (m + 1) (.slice ba (m + 1) bc) ev) 43) ∧
      Hid (Own w' base 116 3 (.slice ba (m + 1) bc) (m + 1) (helds m L G ++ hcell l (.slice none 0 0) (m + 1))) ∧ Hid ((Value.slice ba (m + 1) bc).ownBlock ≠ some g) ∧ Hid (Kept w w' base g bv (.slice ba (m + 1) bc)) := by
  obtain ⟨xa, xn, xc, rfl⟩ := hls
  obtain ⟨i0, hi0, hz, hz1, hz2⟩ := info_parts info_held
  have HBV := Lib.hid hbv
  have HBG := Lib.hid hbg
  obtain ⟨va, vc, hbvs⟩ := (reads_of_own hbv).slice
  subst hbvs
  have c0 := hB.cellv 0 (.int .i64 (m : Int)) rfl
  have f0 := hB.free 0
  have hB1 := hB.set 0 (.int .i64 ((m : Int) + 1))
  have hO1 := Only.set w g 0 (.int .i64 ((m : Int) + 1))
  have hglt := hB.lt
  have HB := Lib.hid hB
  clear hB hbv hbg
  go_enter Tryz.func43, Tryz.ntmps43
  go_upto_region 1 with (fail)
  obtain ⟨mm, hmm⟩ : ∃ n, n = m + 1 := ⟨_, rfl⟩
  have HMM := Lib.hid hmm
  rw [show ((m : Int) + 1) = (mm : Int) from by omega] at hB1 hO1 ⊢
  have hB1' : Blk (w.setCell ⟨g, 0, none⟩ (.int .i64 (mm : Int))) g (bkC mm (.slice va m vc) ev) 43 := hB1
  obtain ⟨W1, hW1⟩ : ∃ x, x = w.setCell ⟨g, 0, none⟩ (.int .i64 (mm : Int)) := ⟨_, rfl⟩
  rw [← hW1] at hB1' hO1 ⊢
  have hm2 : mm ≤ 1001 := by omega
  have hdr : Below W1.heap.size W1 W1.drew := (Below.refl _ _).drew
  have HBD := Lib.hid (hB1'.below hdr)
  obtain ⟨wd, hwd⟩ : ∃ x, x = W1.drew := ⟨_, rfl⟩
  rw [← hwd] at HBD
  have hOV := own_below (own_kept HBV.out hO1 (.inr HBG.out)) hdr
  rw [← hwd] at hOV
  have HO1 := Lib.hid hO1
  obtain ⟨W2, hW2⟩ : ∃ x, x = wd.alloc (.cells #[.slice xa xn xc, .slice none 0 0, .int .i64 (mm : Int)] 116) := ⟨_, rfl⟩
  have hb2 : Below wd.heap.size wd W2 := by rw [hW2]; exact (Below.refl _ _).alloc (Nat.le_refl _) _
  have HB2 := Lib.hid (HBD.out.below hb2)
  have HOV2 := Lib.hid (own_below hOV hb2)
  have HRD2 : Hid (Reads W2 3 (.slice (some ⟨wd.heap.size, 0, none⟩) 1 1) 1 (hcell (.slice xa xn xc) (.slice none 0 0) mm)) := by
    rw [hW2]; exact reads_new wd #[.slice xa xn xc, .slice none 0 0, .int .i64 (mm : Int)] _ 1 3 rfl (by unfold maxLen; omega)
  have hdd : Below W1.heap.size W1 wd := by rw [hwd]; exact hdr
  have HBA := Lib.hid (hdd.trans (hb2.mono hdd.size))
  have HBW : Hid (Below base w W2) := (Only.below (Below.refl base w) HO1.out hbase (by omega)).trans (HBA.out.mono (Nat.le_trans (by omega) HO1.out.size))
  have HSL : Hid (w.heap.size ≤ W2.heap.size) := Nat.le_trans HO1.out.size HBA.out.size
  have HSZ2 : Hid (base ≤ W2.heap.size) := Nat.le_trans (by omega) HSL.out
  have p0 := HBD.out.cellv 0 (.int .i64 (mm : Int)) rfl
  have p1 := HBD.out.cellv 1 (.slice va m vc) rfl
  have q1 := HB2.out.cellv 1 (.slice va m vc) rfl
  rw [hW2] at q1
  clear hmm hB1 hB1' hO1 hW1 hdr hOV hb2 hdd c0 f0
  subst hwd
  have hW3 : W2 = (W1.alloc (.cells #[.slice xa xn xc, .slice none 0 0, .int .i64 (mm : Int)] 116)).drew := hW2
  have q2 : (W1.alloc (.cells #[.slice xa xn xc, .slice none 0 0, .int .i64 (mm : Int)] 116)).cell? ⟨g, 1, none⟩ = some (.slice va m vc) := q1
  clear hW2 q1
  refine wp_region_held_drew (S := fun _ => True) (by kernel_rfl) (trivial) (fun hHeld => ?_)
  refine wpAnyH_take (i := 0) (v := ?vq8) (by simp only [List.getElem?_toArray]; rfl) (by kernel_rfl) (by kernel_rfl) (by kernel_rfl) (by exact fun _ _ _ h => h) (Or.inl ⟨by rfl, ?yq8⟩) (by assumption) ?rq8
  case yq8 => (intro w hSw; (try dsimp only at hSw); go_simp; try with_reducible rfl)
  try simp only [Act.put, List.setIfInBounds_toArray, List.set_cons_zero, List.set_cons_succ]
  refine wpAnyH_take (i := 1) (v := ?vq9) (by simp only [List.getElem?_toArray]; rfl) (by kernel_rfl) (by kernel_rfl) (by kernel_rfl) (by exact fun _ _ _ h => h) (Or.inl ⟨by rfl, ?yq9⟩) (by assumption) ?rq9
  case yq9 => (intro w hSw; (try dsimp only at hSw); go_simp; try with_reducible rfl)
  try simp only [Act.put, List.setIfInBounds_toArray, List.set_cons_zero, List.set_cons_succ]
  refine wpAnyH_take (i := 2) (v := ?vq10) (by simp only [List.getElem?_toArray]; rfl) (by kernel_rfl) (by kernel_rfl) (by kernel_rfl) (by exact fun _ _ _ h => h) (Or.inl ⟨by rfl, ?yq10⟩) (by assumption) ?rq10
  case yq10 => (intro w hSw; (try dsimp only at hSw); go_simp; try with_reducible rfl)
  try simp only [Act.put, List.setIfInBounds_toArray, List.set_cons_zero, List.set_cons_succ]
  refine wpAnyH_take (i := 3) (v := ?vq11) (by simp only [List.getElem?_toArray]; rfl) (by kernel_rfl) (by kernel_rfl) (by kernel_rfl) (by exact fun _ _ _ h => h) (Or.inl ⟨by rfl, ?yq11⟩) (by assumption) ?rq11
  case yq11 => (intro w hSw; (try dsimp only at hSw); go_simp; try with_reducible rfl)
  try simp only [Act.put, List.setIfInBounds_toArray, List.set_cons_zero, List.set_cons_succ]
  refine wpAnyH_take (i := 5) (v := ?vq12) (by simp only [List.getElem?_toArray]; rfl) (by kernel_rfl) (by kernel_rfl) (by kernel_rfl) (by exact fun _ _ _ h => h) (Or.inl ⟨by rfl, ?yq12⟩) (by assumption) ?rq12
  case yq12 => (intro w hSw; (try dsimp only at hSw); go_simp; try with_reducible rfl)
  try simp only [Act.put, List.setIfInBounds_toArray, List.set_cons_zero, List.set_cons_succ]
  refine wpAnyH_take (i := 6) (v := ?vq13) (by simp only [List.getElem?_toArray]; rfl) (by kernel_rfl) (by kernel_rfl) (by kernel_rfl) (by exact fun _ _ _ h => h) (Or.inl ⟨by rfl, ?yq13⟩) (by assumption) ?rq13
  case yq13 => (intro w hSw; (try dsimp only at hSw); go_simp; try with_reducible rfl)
  try simp only [Act.put, List.setIfInBounds_toArray, List.set_cons_zero, List.set_cons_succ]
  refine wpAnyH_take (i := 7) (v := ?vq14) (by simp only [List.getElem?_toArray]; rfl) (by kernel_rfl) (by kernel_rfl) (by kernel_rfl) (by exact fun _ _ _ h => h) (Or.inl ⟨by rfl, ?yq14⟩) (by assumption) ?rq14
  case yq14 => (intro w hSw; (try dsimp only at hSw); go_simp; try with_reducible rfl)
  try simp only [Act.put, List.setIfInBounds_toArray, List.set_cons_zero, List.set_cons_succ]
  refine wpAnyH_take (i := 8) (v := ?vq15) (by simp only [List.getElem?_toArray]; rfl) (by kernel_rfl) (by kernel_rfl) (by kernel_rfl) (by exact fun _ _ _ h => h) (Or.inl ⟨by rfl, ?yq15⟩) (by assumption) ?rq15
  case yq15 => (intro w hSw; (try dsimp only at hSw); go_simp; try with_reducible rfl)
  try simp only [Act.put, List.setIfInBounds_toArray, List.set_cons_zero, List.set_cons_succ]
  refine wpAnyH_ready (rs := [4, 9]) (by kernel_rfl) (by simp) ?_
  refine AllReadyH.cons (by simp only [List.getElem?_toArray]; rfl) (fun K hK => ?way1) (AllReadyH.cons (by simp only [List.getElem?_toArray]; rfl) (fun K hK => ?way2) AllReadyH.nil)
  case way1 =>
    go_simp
    refine hK.out _ _ (trivial) (fun hHeld => ?_)
    clear hK K
    try simp only [Act.put, List.setIfInBounds_toArray, List.set_cons_zero, List.set_cons_succ]
    refine wpAnyH_ready (rs := [9]) (by kernel_rfl) (by simp) ?_
    refine AllReadyH.cons (by simp only [List.getElem?_toArray]; rfl) (fun K hK => ?_) AllReadyH.nil
    go_simp
    refine hK.out _ _ (trivial) (fun hHeld => ?_)
    clear hK K
    try simp only [Act.put, List.setIfInBounds_toArray, List.set_cons_zero, List.set_cons_succ]
    refine wpAnyH_take (i := 10) (v := ?vq1) (by simp only [List.getElem?_toArray]; rfl) (by kernel_rfl) (by kernel_rfl) (by kernel_rfl) (by exact fun _ _ _ h => h) (Or.inl ⟨by rfl, ?yq1⟩) (by assumption) ?rq1
    case yq1 => (intro w hSw; (try dsimp only at hSw); go_simp; try with_reducible rfl)
    try simp only [Act.put, List.setIfInBounds_toArray, List.set_cons_zero, List.set_cons_succ]
    refine wpAnyH_ready (rs := [11]) (by kernel_rfl) (by simp) ?_
    refine AllReadyH.cons (by simp only [List.getElem?_toArray]; rfl) (fun K hK => ?_) AllReadyH.nil
    go_simp
    refine hK.out _ _ (trivial) (fun hHeld => ?_)
    clear hK K
    try simp only [Act.put, List.setIfInBounds_toArray, List.set_cons_zero, List.set_cons_succ]
    rw [← hW3]
    refine wpAnyH_ready (rs := [12]) (by kernel_rfl) (by simp) ?_
    refine AllReadyH.cons (by simp only [List.getElem?_toArray]; rfl) (fun K hK => ?_) AllReadyH.nil
    refine step_app_el5 rfl _ _ rfl Tryz.underlying29 hi0 hz hz1 hz2 rfl (by omega) base m 1 (.slice va m vc) _ (helds m L G) (hcell (.slice xa xn xc) (.slice none 0 0) mm) (helds m L G ++ hcell (.slice xa xn xc) (.slice none 0 0) mm) mm rfl rfl HOV2.out (HRD2.out) (one_hcell (.slice xa xn xc) (.slice none 0 0) mm rfl rfl) HMM.out.symm rfl (by omega) (by omega) HSZ2.out ?_
    intro ba bc w7 HU HG
    refine hK.out _ _ (trivial) (fun hHeld => ?_)
    clear hK K
    try simp only [Act.put, List.setIfInBounds_toArray, List.set_cons_zero, List.set_cons_succ]
    have hg7 := HB2.out.grown HG.out.rows (fun e => HBG.out e.symm)
    have r1 := hg7.cellv 1 (.slice va m vc) rfl
    have rf := hg7.free 1
    have HB7 := Lib.hid hg7
    clear hg7
    refine wpAnyH_take (i := 13) (v := ?vq2) (by simp only [List.getElem?_toArray]; rfl) (by kernel_rfl) (by kernel_rfl) (by kernel_rfl) (by exact fun _ _ _ h => h) (Or.inl ⟨by rfl, ?yq2⟩) (by assumption) ?rq2
    case yq2 => (intro w hSw; (try dsimp only at hSw); go_simp; try with_reducible rfl)
    try simp only [Act.put, List.setIfInBounds_toArray, List.set_cons_zero, List.set_cons_succ]
    refine wpAnyH_take (i := 14) (v := ?vq3) (by simp only [List.getElem?_toArray]; rfl) (by kernel_rfl) (by kernel_rfl) (by kernel_rfl) (by exact fun _ _ _ h => h) (Or.inl ⟨by rfl, ?yq3⟩) (by assumption) ?rq3
    case yq3 => (intro w hSw; (try dsimp only at hSw); go_simp; try with_reducible rfl)
    try simp only [Act.put, List.setIfInBounds_toArray, List.set_cons_zero, List.set_cons_succ]
    refine wpAnyH_ready (rs := [15]) (by kernel_rfl) (by simp) ?_
    refine AllReadyH.cons (by simp only [List.getElem?_toArray]; rfl) (fun K hK => ?_) AllReadyH.nil
    go_simp
    refine hK.out _ _ (trivial) (fun hHeld => ?_)
    clear hK K
    try simp only [Act.put, List.setIfInBounds_toArray, List.set_cons_zero, List.set_cons_succ]
    refine wpAnyH_done (by kernel_rfl) ?_ _
    have hne7 : (Value.slice ba mm bc).ownBlock ≠ some g := (HG.out.apart (.slice (some ⟨g, 0, none⟩) 0 0) (fun k hk => by
      simp only [Value.ownBlock, Option.some.injEq] at hk
      subst hk
      exact ⟨HB2.out.lt, HBG.out⟩) g rfl).2
    have HNE := Lib.hid hne7
    have HB8 := Lib.hid (HB7.out.set 1 (.slice ba mm bc))
    have hO8 := Only.set w7 g 1 (.slice ba mm bc)
    have HO8 := Lib.hid hO8
    have HU8 := Lib.hid (own_kept HU.out hO8 (.inr hne7))
    have HKP : Hid (Kept w (w7.setCell ⟨g, 1, none⟩ (.slice ba mm bc)) base g (.slice va m vc) (.slice ba mm bc)) := by
      refine ⟨?_, ?_, ?_⟩
      · exact Only.below ((HBW.out).trans HG.out.below) HO8.out hbase (Nat.le_trans HSZ2.out HG.out.below.size)
      · intro base2 e sz n u xs ho ha hne
        exact own_kept (HG.out.keep _ _ _ _ _ _ (own_below (own_kept ho HO1.out (.inr hne)) HBA.out) (ha.later HSL.out)) HO8.out (.inr hne)
      · intro u ha
        exact (HG.out.apart u (ha.later HSL.out)).later HO8.out.size
    clear hne7 hO8 HU HG HB7 r1 rf
    go_wp2_with fail
    go_end0
    exact ⟨rfl, ba, bc, by rw [← HMM.out]; exact HB8, by rw [← HMM.out]; exact HU8, by rw [← HMM.out]; exact HNE, by rw [← HMM.out]; exact HKP⟩
  case way2 =>
    go_simp
    refine hK.out _ _ (trivial) (fun hHeld => ?_)
    clear hK K
    try simp only [Act.put, List.setIfInBounds_toArray, List.set_cons_zero, List.set_cons_succ]
    refine wpAnyH_take (i := 10) (v := ?vq16) (by simp only [List.getElem?_toArray]; rfl) (by kernel_rfl) (by kernel_rfl) (by kernel_rfl) (by exact fun _ _ _ h => h) (Or.inl ⟨by rfl, ?yq16⟩) (by assumption) ?rq16
    case yq16 => (intro w hSw; (try dsimp only at hSw); go_simp; try with_reducible rfl)
    try simp only [Act.put, List.setIfInBounds_toArray, List.set_cons_zero, List.set_cons_succ]
    refine wpAnyH_ready (rs := [4, 11]) (by kernel_rfl) (by simp) ?_
    refine AllReadyH.cons (by simp only [List.getElem?_toArray]; rfl) (fun K hK => ?way2a) (AllReadyH.cons (by simp only [List.getElem?_toArray]; rfl) (fun K hK => ?way2b) AllReadyH.nil)
    case way2a =>
      go_simp
      refine hK.out _ _ (trivial) (fun hHeld => ?_)
      clear hK K
      try simp only [Act.put, List.setIfInBounds_toArray, List.set_cons_zero, List.set_cons_succ]
      refine wpAnyH_ready (rs := [11]) (by kernel_rfl) (by simp) ?_
      refine AllReadyH.cons (by simp only [List.getElem?_toArray]; rfl) (fun K hK => ?_) AllReadyH.nil
      go_simp
      refine hK.out _ _ (trivial) (fun hHeld => ?_)
      clear hK K
      try simp only [Act.put, List.setIfInBounds_toArray, List.set_cons_zero, List.set_cons_succ]
      rw [← hW3]
      refine wpAnyH_ready (rs := [12]) (by kernel_rfl) (by simp) ?_
      refine AllReadyH.cons (by simp only [List.getElem?_toArray]; rfl) (fun K hK => ?_) AllReadyH.nil
      refine step_app_el5 rfl _ _ rfl Tryz.underlying29 hi0 hz hz1 hz2 rfl (by omega) base m 1 (.slice va m vc) _ (helds m L G) (hcell (.slice xa xn xc) (.slice none 0 0) mm) (helds m L G ++ hcell (.slice xa xn xc) (.slice none 0 0) mm) mm rfl rfl HOV2.out (HRD2.out) (one_hcell (.slice xa xn xc) (.slice none 0 0) mm rfl rfl) HMM.out.symm rfl (by omega) (by omega) HSZ2.out ?_
      intro ba bc w7 HU HG
      refine hK.out _ _ (trivial) (fun hHeld => ?_)
      clear hK K
      try simp only [Act.put, List.setIfInBounds_toArray, List.set_cons_zero, List.set_cons_succ]
      have hg7 := HB2.out.grown HG.out.rows (fun e => HBG.out e.symm)
      have r1 := hg7.cellv 1 (.slice va m vc) rfl
      have rf := hg7.free 1
      have HB7 := Lib.hid hg7
      clear hg7
      refine wpAnyH_take (i := 13) (v := ?vq4) (by simp only [List.getElem?_toArray]; rfl) (by kernel_rfl) (by kernel_rfl) (by kernel_rfl) (by exact fun _ _ _ h => h) (Or.inl ⟨by rfl, ?yq4⟩) (by assumption) ?rq4
      case yq4 => (intro w hSw; (try dsimp only at hSw); go_simp; try with_reducible rfl)
      try simp only [Act.put, List.setIfInBounds_toArray, List.set_cons_zero, List.set_cons_succ]
      refine wpAnyH_take (i := 14) (v := ?vq5) (by simp only [List.getElem?_toArray]; rfl) (by kernel_rfl) (by kernel_rfl) (by kernel_rfl) (by exact fun _ _ _ h => h) (Or.inl ⟨by rfl, ?yq5⟩) (by assumption) ?rq5
      case yq5 => (intro w hSw; (try dsimp only at hSw); go_simp; try with_reducible rfl)
      try simp only [Act.put, List.setIfInBounds_toArray, List.set_cons_zero, List.set_cons_succ]
      refine wpAnyH_ready (rs := [15]) (by kernel_rfl) (by simp) ?_
      refine AllReadyH.cons (by simp only [List.getElem?_toArray]; rfl) (fun K hK => ?_) AllReadyH.nil
      go_simp
      refine hK.out _ _ (trivial) (fun hHeld => ?_)
      clear hK K
      try simp only [Act.put, List.setIfInBounds_toArray, List.set_cons_zero, List.set_cons_succ]
      refine wpAnyH_done (by kernel_rfl) ?_ _
      have hne7 : (Value.slice ba mm bc).ownBlock ≠ some g := (HG.out.apart (.slice (some ⟨g, 0, none⟩) 0 0) (fun k hk => by
        simp only [Value.ownBlock, Option.some.injEq] at hk
        subst hk
        exact ⟨HB2.out.lt, HBG.out⟩) g rfl).2
      have HNE := Lib.hid hne7
      have HB8 := Lib.hid (HB7.out.set 1 (.slice ba mm bc))
      have hO8 := Only.set w7 g 1 (.slice ba mm bc)
      have HO8 := Lib.hid hO8
      have HU8 := Lib.hid (own_kept HU.out hO8 (.inr hne7))
      have HKP : Hid (Kept w (w7.setCell ⟨g, 1, none⟩ (.slice ba mm bc)) base g (.slice va m vc) (.slice ba mm bc)) := by
        refine ⟨?_, ?_, ?_⟩
        · exact Only.below ((HBW.out).trans HG.out.below) HO8.out hbase (Nat.le_trans HSZ2.out HG.out.below.size)
        · intro base2 e sz n u xs ho ha hne
          exact own_kept (HG.out.keep _ _ _ _ _ _ (own_below (own_kept ho HO1.out (.inr hne)) HBA.out) (ha.later HSL.out)) HO8.out (.inr hne)
        · intro u ha
          exact (HG.out.apart u (ha.later HSL.out)).later HO8.out.size
      clear hne7 hO8 HU HG HB7 r1 rf
      go_wp2_with fail
      go_end0
      exact ⟨rfl, ba, bc, by rw [← HMM.out]; exact HB8, by rw [← HMM.out]; exact HU8, by rw [← HMM.out]; exact HNE, by rw [← HMM.out]; exact HKP⟩
    case way2b =>
      go_simp
      refine hK.out _ _ (trivial) (fun hHeld => ?_)
      clear hK K
      try simp only [Act.put, List.setIfInBounds_toArray, List.set_cons_zero, List.set_cons_succ]
      refine wpAnyH_ready (rs := [4]) (by kernel_rfl) (by simp) ?_
      refine AllReadyH.cons (by simp only [List.getElem?_toArray]; rfl) (fun K hK => ?_) AllReadyH.nil
      go_simp
      refine hK.out _ _ (trivial) (fun hHeld => ?_)
      clear hK K
      try simp only [Act.put, List.setIfInBounds_toArray, List.set_cons_zero, List.set_cons_succ]
      rw [← hW3]
      refine wpAnyH_ready (rs := [12]) (by kernel_rfl) (by simp) ?_
      refine AllReadyH.cons (by simp only [List.getElem?_toArray]; rfl) (fun K hK => ?_) AllReadyH.nil
      refine step_app_el5 rfl _ _ rfl Tryz.underlying29 hi0 hz hz1 hz2 rfl (by omega) base m 1 (.slice va m vc) _ (helds m L G) (hcell (.slice xa xn xc) (.slice none 0 0) mm) (helds m L G ++ hcell (.slice xa xn xc) (.slice none 0 0) mm) mm rfl rfl HOV2.out (HRD2.out) (one_hcell (.slice xa xn xc) (.slice none 0 0) mm rfl rfl) HMM.out.symm rfl (by omega) (by omega) HSZ2.out ?_
      intro ba bc w7 HU HG
      refine hK.out _ _ (trivial) (fun hHeld => ?_)
      clear hK K
      try simp only [Act.put, List.setIfInBounds_toArray, List.set_cons_zero, List.set_cons_succ]
      have hg7 := HB2.out.grown HG.out.rows (fun e => HBG.out e.symm)
      have r1 := hg7.cellv 1 (.slice va m vc) rfl
      have rf := hg7.free 1
      have HB7 := Lib.hid hg7
      clear hg7
      refine wpAnyH_take (i := 13) (v := ?vq6) (by simp only [List.getElem?_toArray]; rfl) (by kernel_rfl) (by kernel_rfl) (by kernel_rfl) (by exact fun _ _ _ h => h) (Or.inl ⟨by rfl, ?yq6⟩) (by assumption) ?rq6
      case yq6 => (intro w hSw; (try dsimp only at hSw); go_simp; try with_reducible rfl)
      try simp only [Act.put, List.setIfInBounds_toArray, List.set_cons_zero, List.set_cons_succ]
      refine wpAnyH_take (i := 14) (v := ?vq7) (by simp only [List.getElem?_toArray]; rfl) (by kernel_rfl) (by kernel_rfl) (by kernel_rfl) (by exact fun _ _ _ h => h) (Or.inl ⟨by rfl, ?yq7⟩) (by assumption) ?rq7
      case yq7 => (intro w hSw; (try dsimp only at hSw); go_simp; try with_reducible rfl)
      try simp only [Act.put, List.setIfInBounds_toArray, List.set_cons_zero, List.set_cons_succ]
      refine wpAnyH_ready (rs := [15]) (by kernel_rfl) (by simp) ?_
      refine AllReadyH.cons (by simp only [List.getElem?_toArray]; rfl) (fun K hK => ?_) AllReadyH.nil
      go_simp
      refine hK.out _ _ (trivial) (fun hHeld => ?_)
      clear hK K
      try simp only [Act.put, List.setIfInBounds_toArray, List.set_cons_zero, List.set_cons_succ]
      refine wpAnyH_done (by kernel_rfl) ?_ _
      have hne7 : (Value.slice ba mm bc).ownBlock ≠ some g := (HG.out.apart (.slice (some ⟨g, 0, none⟩) 0 0) (fun k hk => by
        simp only [Value.ownBlock, Option.some.injEq] at hk
        subst hk
        exact ⟨HB2.out.lt, HBG.out⟩) g rfl).2
      have HNE := Lib.hid hne7
      have HB8 := Lib.hid (HB7.out.set 1 (.slice ba mm bc))
      have hO8 := Only.set w7 g 1 (.slice ba mm bc)
      have HO8 := Lib.hid hO8
      have HU8 := Lib.hid (own_kept HU.out hO8 (.inr hne7))
      have HKP : Hid (Kept w (w7.setCell ⟨g, 1, none⟩ (.slice ba mm bc)) base g (.slice va m vc) (.slice ba mm bc)) := by
        refine ⟨?_, ?_, ?_⟩
        · exact Only.below ((HBW.out).trans HG.out.below) HO8.out hbase (Nat.le_trans HSZ2.out HG.out.below.size)
        · intro base2 e sz n u xs ho ha hne
          exact own_kept (HG.out.keep _ _ _ _ _ _ (own_below (own_kept ho HO1.out (.inr hne)) HBA.out) (ha.later HSL.out)) HO8.out (.inr hne)
        · intro u ha
          exact (HG.out.apart u (ha.later HSL.out)).later HO8.out.size
      clear hne7 hO8 HU HG HB7 r1 rf
      go_wp2_with fail
      go_end0
      exact ⟨rfl, ba, bc, by rw [← HMM.out]; exact HB8, by rw [← HMM.out]; exact HU8, by rw [← HMM.out]; exact HNE, by rw [← HMM.out]; exact HKP⟩
end Go.Proofs.YtafanohpkbfknaaGreatDoor

/- The book of lists, bytes: the marks are written into each list (fillByte). No condition. -/
import Derived.Test.YtafanohpkbfknaaGreatDoorBook1
namespace Go.Proofs.YtafanohpkbfknaaGreatDoor
open Go.RowKit

/-- the book, m lists of bytes in it, each in memory of its own -/
structure Bk (w : World) (base g m : Nat) (bv ev : Value) (L G : Nat → Value) (n : Nat → Nat) (C : Nat → List UInt8) : Prop where
  blk : Blk w g (bkC m bv ev) 43
  own : Own w base 116 3 bv m (helds m L G)
  held : ∀ j, j < m → Own w base 5 1 (L j) (n j) (u8s (C j))
  bg : bv.ownBlock ≠ some g
  lg : ∀ j, j < m → (L j).ownBlock ≠ some g
  lb : ∀ j, j < m → ∀ b, (L j).ownBlock = some b → bv.ownBlock ≠ some b
  ap : ∀ j k, j < m → k < m → j ≠ k → ∀ b, (L j).ownBlock = some b → (L k).ownBlock ≠ some b
  lw : ∀ j, j < m → ∀ b, (L j).ownBlock = some b → b < w.heap.size
theorem Bk.below {w w' : World} {base g m : Nat} {bv ev : Value} {L G : Nat → Value} {n : Nat → Nat} {C : Nat → List UInt8} (h : Bk w base g m bv ev L G n C) (hb : Below w.heap.size w w') : Bk w' base g m bv ev L G n C :=
  ⟨h.blk.below hb, own_below h.own hb, fun j hj => own_below (h.held j hj) hb, h.bg, h.lg, h.lb, h.ap, fun j hj b e => Nat.lt_of_lt_of_le (h.lw j hj b e) hb.size⟩
theorem Bk.len {w : World} {base g m : Nat} {bv ev : Value} {L G : Nat → Value} {n : Nat → Nat} {C : Nat → List UInt8} (h : Bk w base g m bv ev L G n C) (j : Nat) (hj : j < m) : (C j).length = n j := ((rd_of_own (h.held j hj)).1).symm
theorem Bk.store {w : World} {base g m : Nat} {bv ev : Value} {L G : Nat → Value} {n : Nat → Nat} {C : Nat → List UInt8} (h : Bk w base g m bv ev L G n C) (i : Nat) (hi : i < m) {b c : Nat} (hL : L i = .slice (some ⟨b, 0, none⟩) (n i) c) (k : Nat) (hk : k < n i) (x : UInt8) :
    Bk (w.setCell ⟨b, k, none⟩ (.int .u8 x.toNat)) base g m bv ev L G n (fun j => if j = i then (C i).set k x else C j) := by
  have hO := Only.set w b k (.int .u8 x.toNat)
  have hob : (L i).ownBlock = some b := by rw [hL]; rfl
  have hgb : g ≠ b := fun e => h.lg i hi (by rw [hob, e])
  refine ⟨h.blk.only hO hgb, own_kept h.own hO (.inr (h.lb i hi b hob)), fun j hj => ?_, h.bg, h.lg, h.lb, h.ap, fun j hj b e => Nat.lt_of_lt_of_le (h.lw j hj b e) hO.size⟩
  by_cases e : j = i
  · subst e
    simp only [if_true]
    have h0 := h.held j hj
    rw [hL] at h0 ⊢
    exact own_store h0 k hk x
  · simp only [if_neg e]
    exact own_kept (h.held j hj) hO (.inr (h.ap i j hi hj (fun e2 => e e2.symm) b hob))
/-- the list i in the book -/
theorem Bk.cells {w : World} {base g m : Nat} {bv ev : Value} {L G : Nat → Value} {n : Nat → Nat} {C : Nat → List UInt8} (h : Bk w base g m bv ev L G n C) (i : Nat) (hi : i < m) :
    ∃ b off c, bv = .slice (some ⟨b, off, none⟩) m c ∧ w.cell? ⟨b, off + i * 3, none⟩ = some (L i) ∧ w.cell? ⟨b, off + i * 3 + 1, none⟩ = some (G i) ∧ w.cell? ⟨b, off + i * 3 + 2, none⟩ = some (.int .i64 ((i + 1 : Nat) : Int)) := by
  obtain ⟨a, cap, rfl, hl, hc, hm, hr⟩ := reads_of_own h.own
  have hlr : i < (List.range m).length := by rw [List.length_range]; exact hi
  have hg := fun r (hr : r < 3) => flatM_get (fun j => hcell (L j) (G j) (j + 1)) 3 (fun _ => rfl) (List.range m) i r hlr hr
  have key : ∀ r, r < 3 → ∃ b off, a = some ⟨b, off, none⟩ ∧ w.cell? ⟨b, off + (i * 3 + r), none⟩ = (hcell (L i) (G i) (i + 1))[r]? := fun r h3 => by
    have hlt : i * 3 + r < (helds m L G).length := by rw [helds_length]; omega
    obtain ⟨b, off, e, c⟩ := hr (i * 3 + r) hlt
    refine ⟨b, off, e, ?_⟩
    have h4 := hg r h3
    simp only [List.getElem_range] at h4
    rw [c, ← h4]
    exact (List.getElem?_eq_getElem hlt).symm
  obtain ⟨b, off, e, c0⟩ := key 0 (by omega)
  obtain ⟨b1, off1, e1, c1⟩ := key 1 (by omega)
  obtain ⟨b2, off2, e2, c2⟩ := key 2 (by omega)
  rw [e] at e1 e2
  cases e1; cases e2
  subst e
  exact ⟨b, off, cap, rfl, c0, by rw [Nat.add_assoc]; exact c1, by rw [Nat.add_assoc]; exact c2⟩
theorem take_set1 (l : List UInt8) (k : Nat) (x : UInt8) (h : k < l.length) : (l.set k x).take (k + 1) = l.take k ++ [x] := by
  rw [List.take_succ_eq_append_getElem (by rw [List.length_set]; exact h), List.getElem_set_self]
  congr 1
  apply List.ext_getElem?
  intro j
  simp only [List.getElem?_take]
  split
  · rw [List.getElem?_set_ne (by omega)]
  · rfl
set_option maxRecDepth 100000 in
set_option maxHeartbeats 8000000 in
theorem fillByte_any (w : World) (base g m : Nat) (bv ev : Value) (L : Nat → Value) (n : Nat → Nat) (C : Nat → List UInt8) (hK : Bk w base g m bv ev L (fun _ => .slice none 0 0) n C) (hm : m ≤ 1000) (hbase : base ≤ g) :
    Calls Tryz.prog 44 #[.pointer (some ⟨g, 0, none⟩)] w fun e w' => e = .returned (.tuple #[]) ∧ Hid (Bk w' base g m bv ev L (fun _ => .slice none 0 0) n (fun j => List.replicate (n j) (mkB j))) ∧ Below base w w' := by
  have HK := Lib.hid hK
  obtain ⟨va, vc, hbvs⟩ := (reads_of_own hK.own).slice
  subst hbvs
  have hbw : base ≤ w.heap.size := by have := hK.blk.lt; omega
  clear hK
  go_enter Tryz.func44, Tryz.ntmps44
  go_wp2_with fail
  try show Code.wp _ _ _ _ _
  go_loopw [2, 3, 4] (fun iv _ _ wr => ∃ i : Nat, i ≤ m ∧ iv = .int .i64 i ∧ ∃ C' : Nat → List UInt8, Hid (Bk wr base g m (.slice va m vc) ev L (fun _ => .slice none 0 0) n C') ∧ Hid (∀ j, j < i → C' j = List.replicate (n j) (mkB j)) ∧ Hid (Below base w wr)) (fun iv _ _ _ => m - (intOf iv).toNat)
  case atStart => exact ⟨0, Nat.zero_le _, rfl, C, HK, fun j hj => absurd hj (by omega), Below.refl _ _⟩
  case round =>
    obtain ⟨i, hi, rfl, C', HC, HD, HB⟩ := hrel
    have g1 := HC.out.blk.cellv 1 (.slice va m vc) rfl
    by_cases hlt : i < m
    · obtain ⟨b2, off2, c2, e2, k0, k1, k2⟩ := HC.out.cells i hlt
      simp only [Value.slice.injEq] at e2
      obtain ⟨e2, _, ec⟩ := e2
      subst e2
      clear ec
      obtain ⟨i1, hi1⟩ : ∃ x, x = i + 1 := ⟨_, rfl⟩
      rw [← hi1] at k2
      have HI1 := Lib.hid hi1
      have HMK : Hid (∀ w', Calls Tryz.prog 117 #[.int .i64 (i1 : Int)] w' fun e w'' => e = .returned (.int .u8 ((mkB i).toNat : Int)) ∧ w' = w'') := fun w' => by rw [hi1]; exact markByte_any i w'
      clear hi1
      have hown := HC.out.held i hlt
      obtain ⟨la, lc, hls⟩ := (reads_of_own hown).slice
      rw [hls] at k0
      have HLS := Lib.hid hls
      clear hown hls
      obtain ⟨ni, hni⟩ : ∃ x, x = n i := ⟨_, rfl⟩
      rw [← hni] at k0 HLS
      have HNI := Lib.hid hni
      clear hni
      have hnb : ni ≤ 9223372036854775807 := by
        obtain ⟨_, _, _, _, hq1, hq2, _⟩ := reads_of_own (HC.out.held i hlt)
        rw [HNI.out]; omega
      go_upto_region 4 with (fail)
      obtain ⟨hb, hhb⟩ : ∃ x, x = wr.heap.size := ⟨_, rfl⟩
      have hal : Below wr.heap.size wr (wr.alloc (.cells #[.slice la ni lc, .slice none 0 0, .int .i64 (i1 : Int)] 116)) := (Below.refl _ _).alloc (Nat.le_refl _) _
      have HWB : Hid (Blk (wr.alloc (.cells #[.slice la ni lc, .slice none 0 0, .int .i64 (i1 : Int)] 116)) hb #[.slice la ni lc, .slice none 0 0, .int .i64 (i1 : Int)] 116) := Blk.new_at _ _ _ _ hhb
      have HCW := Lib.hid (HC.out.below hal)
      have HBW := Lib.hid (HB.out.trans (hal.mono (Nat.le_trans hbw HB.out.size)))
      have HLB : Hid (∀ b, la = some ⟨b, 0, none⟩ → 0 < ni → b < hb) := fun b hla h0 => by
        have ho := HC.out.held i hlt
        rw [← HNI.out] at ho
        have := own_lt ho h0 b (by rw [HLS.out, hla]; rfl)
        rw [hhb]; exact this.2
      rw [← hhb]
      generalize wr.alloc (.cells #[.slice la ni lc, .slice none 0 0, .int .i64 (i1 : Int)] 116) = W at HWB HCW HBW ⊢
      clear hal hhb HC HB g1 k0 k1 k2
      go_wp2_with fail
      try show Code.wp _ _ _ _ _
      go_loopw [4] (fun kv wz => ∃ k : Nat, k ≤ ni ∧ kv = .int .i64 k ∧ ∃ C2 : Nat → List UInt8, Hid (Bk wz base g m (.slice (some ⟨b2, off2, none⟩) m vc) ev L (fun _ => .slice none 0 0) n C2) ∧ Hid (∀ j, j < i → C2 j = List.replicate (n j) (mkB j)) ∧ Hid ((C2 i).take k = List.replicate k (mkB i)) ∧
        Hid (Blk wz hb #[.slice la ni lc, .slice none 0 0, .int .i64 (i1 : Int)] 116) ∧ Hid (Below base w wz)) (fun kv _ => ni - (intOf kv).toNat)
      case atStart => exact ⟨0, Nat.zero_le _, rfl, C', HCW, HD, rfl, HWB, HBW⟩
      case round =>
        obtain ⟨k, hk, rfl, C2, HC2, HD2, HT2, HH, HB2⟩ := hrel
        obtain ⟨wz, hwz⟩ := the_world HB2.out
        subst hwz
        have h0 := HH.out.cellv 0 (.slice la ni lc) rfl
        by_cases hkn : k < ni
        · have hown := HC2.out.held i hlt
          rw [← HNI.out] at hown
          obtain ⟨b, bc, e1, hbg, hbl, hfz⟩ := own_block hown (by omega)
          have e2 := HLS.out
          rw [e1] at e2
          simp only [Value.slice.injEq] at e2
          obtain ⟨e2, e2b, e4⟩ := e2
          subst e2
          have hL : L i = .slice (some ⟨b, 0, none⟩) (n i) lc := by rw [HLS.out, ← HNI.out]
          have HLL := Lib.hid hL
          have hbb : b ≠ hb := by have := HLB.out b rfl (by omega); omega
          have h2 := HH.out.cellv 2 (.int .i64 (i1 : Int)) rfl
          have fk := hfz k hkn
          have hdr : Below wz.heap.size wz wz.drew := (Below.refl _ _).drew
          have h0d : wz.drew.cell? ⟨hb, 0, none⟩ = some (.slice (some ⟨b, 0, none⟩) ni lc) := h0
          have h2d : wz.drew.cell? ⟨hb, 2, none⟩ = some (.int .i64 (i1 : Int)) := h2
          obtain ⟨a5, c5, e5, _, _, hcell⟩ := (rd_of_own hown).2
          obtain ⟨b5, off5, hae5, ck⟩ := hcell k (by rw [HC2.out.len i hlt, ← HNI.out]; exact hkn)
          rw [e1] at e5
          simp only [Value.slice.injEq] at e5
          obtain ⟨e5, e5b, e5c⟩ := e5
          rw [hae5] at e5
          simp only [Option.some.injEq, Addr.mk.injEq, and_true] at e5
          obtain ⟨e6, e7⟩ := e5
          rw [← e6, ← e7, Nat.zero_add] at ck
          have ckd : wz.drew.cell? ⟨b, k, none⟩ = some (.int .u8 (((C2 i)[k]'(by rw [HC2.out.len i hlt, ← HNI.out]; exact hkn)).toNat : Int)) := ck
          have fkd : wz.drew.frozen? ⟨b, k, none⟩ = false := fk
          have hkc : (k : Int) < (ni : Int) := by omega
          have HST : Hid (Bk (wz.setCell ⟨b, k, none⟩ (.int .u8 ((mkB i).toNat : Int))).drew base g m (.slice (some ⟨b2, off2, none⟩) m vc) ev L (fun _ => .slice none 0 0) n (fun j => if j = i then (C2 i).set k (mkB i) else C2 j)) := Lib.hid ((HC2.out.below hdr).store i hlt hL k (by rw [← HNI.out]; exact hkn) (mkB i))
          have HHS : Hid (Blk (wz.setCell ⟨b, k, none⟩ (.int .u8 ((mkB i).toNat : Int))).drew hb #[.slice (some ⟨b, 0, none⟩) ni lc, .slice none 0 0, .int .i64 (i1 : Int)] 116) := Lib.hid ((HH.out.below hdr).only (Only.set wz.drew b k (.int .u8 ((mkB i).toNat : Int))) (fun e => hbb e.symm))
          have HBS : Hid (Below base w (wz.setCell ⟨b, k, none⟩ (.int .u8 ((mkB i).toNat : Int))).drew) := Lib.hid (Only.below (HB2.out.trans (hdr.mono (Nat.le_trans hbw HB2.out.size))) (Only.set wz.drew b k (.int .u8 ((mkB i).toNat : Int))) hbg (Nat.le_trans HB2.out.size hdr.size |> fun h => Nat.le_trans hbw h))
          have HTS : Hid (((C2 i).set k (mkB i)).take (k + 1) = List.replicate (k + 1) (mkB i)) := by
            show _ = _
            rw [take_set1 _ _ _ (by rw [HC2.out.len i hlt, ← HNI.out]; exact hkn), HT2.out, List.replicate_succ']
          clear e1 e4 e2b e5b e5c hL hown hfz hcell e6 e7 hae5 h2 fk hdr ck hbl
          go_upto_region 7 with (fail)
          refine wp_region_held_drew (S := fun w' => w'.cell? ⟨hb, 0, none⟩ = some (.slice (some ⟨b, 0, none⟩) ni lc) ∧ w'.cell? ⟨hb, 2, none⟩ = some (.int .i64 (i1 : Int))) (by kernel_rfl) (⟨h0d, h2d⟩) (fun hHeld => ?_)
          refine wpAnyH_take (i := 0) (v := ?vq1) (by simp only [List.getElem?_toArray]; rfl) (by kernel_rfl) (by kernel_rfl) (by kernel_rfl) (by exact fun _ _ _ h => h) (Or.inl ⟨by rfl, ?yq1⟩) (by assumption) ?rq1
          case yq1 => (intro w hSw; (try dsimp only at hSw); go_simp; try with_reducible rfl)
          try simp only [Act.put, List.setIfInBounds_toArray, List.set_cons_zero, List.set_cons_succ]
          refine wpAnyH_take (i := 1) (v := ?vq2) (by simp only [List.getElem?_toArray]; rfl) (by kernel_rfl) (by kernel_rfl) (by kernel_rfl) (by exact fun _ _ _ h => h) (Or.inl ⟨by rfl, ?yq2⟩) (by assumption) ?rq2
          case yq2 => (intro w hSw; (try dsimp only at hSw); go_simp; try with_reducible rfl)
          try simp only [Act.put, List.setIfInBounds_toArray, List.set_cons_zero, List.set_cons_succ]
          refine wpAnyH_take (i := 2) (v := ?vq3) (by simp only [List.getElem?_toArray]; rfl) (by kernel_rfl) (by kernel_rfl) (by kernel_rfl) (by exact fun _ _ _ h => h) (Or.inl ⟨by rfl, ?yq3⟩) (by assumption) ?rq3
          case yq3 => (intro w hSw; (try dsimp only at hSw); go_simp; try with_reducible rfl)
          try simp only [Act.put, List.setIfInBounds_toArray, List.set_cons_zero, List.set_cons_succ]
          refine wpAnyH_take (i := 3) (v := ?vq4) (by simp only [List.getElem?_toArray]; rfl) (by kernel_rfl) (by kernel_rfl) (by kernel_rfl) (by exact fun _ _ _ h => h) (Or.inl ⟨by rfl, ?yq4⟩) (by assumption) ?rq4
          case yq4 => (intro w hSw; (try dsimp only at hSw); go_simp; try with_reducible rfl)
          try simp only [Act.put, List.setIfInBounds_toArray, List.set_cons_zero, List.set_cons_succ]
          refine wpAnyH_take (i := 4) (v := ?vq5) (by simp only [List.getElem?_toArray]; rfl) (by kernel_rfl) (by kernel_rfl) (by kernel_rfl) (by exact fun _ _ _ h => h) (Or.inl ⟨by rfl, ?yq5⟩) (by assumption) ?rq5
          case yq5 => (intro w hSw; (try dsimp only at hSw); go_simp; try with_reducible rfl)
          try simp only [Act.put, List.setIfInBounds_toArray, List.set_cons_zero, List.set_cons_succ]
          refine wpAnyH_ready (rs := [5]) (by kernel_rfl) (by simp) ?_
          refine AllReadyH.cons (by simp only [List.getElem?_toArray]; rfl) (fun K hK => ?_) AllReadyH.nil
          go_simp
          refine (HMK.out _).mono ?_
          rintro e wm ⟨rfl, rfl⟩
          refine hK.out _ _ (hHeld) (fun hHeld => ?_)
          clear hK K
          try simp only [Act.put, List.setIfInBounds_toArray, List.set_cons_zero, List.set_cons_succ]
          refine wpAnyH_take (i := 6) (v := ?vq6) (by simp only [List.getElem?_toArray]; rfl) (by kernel_rfl) (by kernel_rfl) (by kernel_rfl) (by exact fun _ _ _ h => h) (Or.inl ⟨by rfl, ?yq6⟩) (by assumption) ?rq6
          case yq6 => (intro w hSw; (try dsimp only at hSw); go_simp; try with_reducible rfl)
          try simp only [Act.put, List.setIfInBounds_toArray, List.set_cons_zero, List.set_cons_succ]
          refine wpAnyH_ready (rs := [7]) (by kernel_rfl) (by simp) ?_
          refine AllReadyH.cons (by simp only [List.getElem?_toArray]; rfl) (fun K hK => ?_) AllReadyH.nil
          go_simp
          refine hK.out _ _ (⟨(World.cell?_setCell_far wz ⟨b, k, none⟩ ⟨hb, 0, none⟩ _ hbb).trans hHeld.1, (World.cell?_setCell_far wz ⟨b, k, none⟩ ⟨hb, 2, none⟩ _ hbb).trans hHeld.2⟩) (fun hHeld => ?_)
          clear hK K
          try simp only [Act.put, List.setIfInBounds_toArray, List.set_cons_zero, List.set_cons_succ]
          refine wpAnyH_done (by kernel_rfl) ?_ _
          rename_i hH
          generalize (wz.setCell ⟨b, k, none⟩ (.int .u8 ((mkB i).toNat : Int))).drew = wt at HST HHS HBS ⊢
          clear hHeld h0 h0d h2d ckd fkd
          go_wp2_with fail
          go_roundw
          case rel => exact ⟨k + 1, by omega, by go_num, _, HST, fun j hj => by rw [if_neg (by omega)]; exact HD2.out j hj, by rw [if_pos rfl]; exact HTS, HHS, HBS⟩
          case measure => simp [intOf]; omega
        · have hkn2 : k = ni := by omega
          have HDN : Hid (∀ j, j < i + 1 → C2 j = List.replicate (n j) (mkB j)) := fun j hj => by
            by_cases e : j = i
            · subst e
              have h1 := HT2.out
              have h3 := HC2.out.len j hlt
              rw [hkn2, HNI.out, List.take_of_length_le (by omega)] at h1
              exact h1
            · exact HD2.out j (by omega)
          go_wp2_with fail
          go_roundw
          case rel => exact ⟨i + 1, by omega, by go_num, C2, HC2, HDN, HB2⟩
          case measure => simp [intOf]; omega
    · obtain rfl : i = m := by omega
      have HCF : Hid (Bk wr base g i (.slice va i vc) ev L (fun _ => .slice none 0 0) n (fun j => List.replicate (n j) (mkB j))) :=
        ⟨HC.out.blk, HC.out.own, fun j hj => by rw [← HD.out j hj]; exact HC.out.held j hj, HC.out.bg, HC.out.lg, HC.out.lb, HC.out.ap, HC.out.lw⟩
      go_wp2_with fail
      go_end0
      exact ⟨rfl, HCF, HB.out⟩
end Go.Proofs.YtafanohpkbfknaaGreatDoor

/- The book of lists, lists of kind Id: their marks; a list is kept. No condition. | The book of lists, lists of kind Id: the marks are written into each list. No condition. | The book of lists, lists of kind Id: forty marks more behind each list. No condition. | The book of lists, lists of kind Id: each list holds its own marks. No condition. | The book of lists, lists of kind Id: a list is told. No condition. -/
import Derived.Test.YtbcnapkbdbefhaaGreatDoorKindA
namespace Go.Proofs.YtbcnapkbdbefhaaGreatDoor
open Go.RowKit

set_option maxRecDepth 100000 in
theorem infoHId : (Tryz.prog.info? 106).map (fun i => (i.zero, i.size, i.bytes)) = some (some (.agg #[.slice none 0 0, .slice none 0 0, .int .i64 0]), 3, 56) := by kernel_rfl
set_option maxRecDepth 100000 in
theorem infoEId : (Tryz.prog.info? 63).map (fun i => (i.zero, i.size, i.bytes)) = some (some (.int .u32 0), 1, 4) := by kernel_rfl
def mkId (n : Nat) : List Value := [.int .u32 (((1000 + n) : Nat) : Int)]
theorem one_mkId (n : Nat) : ∀ u ∈ mkId n, u.oneCell' = true := by
  intro u hu
  simp only [mkId, List.mem_cons, List.not_mem_nil, or_false] at hu
  subst hu; rfl
set_option maxRecDepth 100000 in
theorem markId_any (n : Nat) (hn : n < 10) (w : World) : Calls Tryz.prog 101 #[.int .i64 n] w fun e w' => e = .returned (.int .u32 ((1000 + n : Nat) : Int)) ∧ Below w.heap.size w w' := by
  obtain ⟨r, hr⟩ : ∃ r, r = 1000 + n := ⟨_, rfl⟩
  rw [← hr]
  have h1 : (1000 : Int) + (n : Int) = (r : Int) := by omega
  have h2 : IntKind.u32.wrap (r : Int) = (r : Int) := IntWalk.u32_in _ (by omega)
  clear hr
  go_enter Tryz.func101, Tryz.ntmps101
  go_wp2
  go_ret
  exact ⟨rfl, Below.refl _ _⟩
set_option maxRecDepth 100000 in
theorem isId_any (n : Nat) (hn : n < 10) (w : World) : Calls Tryz.prog 114 #[.int .u32 ((1000 + n : Nat) : Int), .int .i64 n] w fun e w' => e = .returned (.bool true) ∧ Below w.heap.size w w' := by
  obtain ⟨r, hr⟩ : ∃ r, r = 1000 + n := ⟨_, rfl⟩
  rw [← hr]
  have h1 : (1000 : Int) + (n : Int) = (r : Int) := by omega
  have h2 : IntKind.u32.wrap (r : Int) = (r : Int) := IntWalk.u32_in _ (by omega)
  clear hr
  go_enter Tryz.func114, Tryz.ntmps114
  go_wp2
  go_ret
  exact ⟨by first | rfl | (simp; done), Below.refl _ _⟩
theorem bkF_setId (M : Nat) (f : Nat → Value) (v : Value) : (bkF M f).setIfInBounds 2 v = bkF M (upd f 2 v) := rfl
set_option maxRecDepth 100000 in
set_option maxHeartbeats 8000000 in
theorem fillId_any (w : World) (base g m : Nat) (B : Array Value) (bv : Value) (L : Nat → Value) (num n : Nat → Nat) (C : Nat → List Value) (S : Nat → Prop) (hB : Blk w g B 54) (hBi : B[2]? = some bv) (hK : KSt w base g 106 63 1 m bv L (fun _ => .slice none 0 0) num n C S) (hm : m ≤ 1000) (hnum : ∀ j, j < m → num j < 10) :
    Calls Tryz.prog 34 #[.pointer (some ⟨g, 0, none⟩)] w fun e w' => e = .returned (.tuple #[]) ∧ Hid (KSt w' base g 106 63 1 m bv L (fun _ => .slice none 0 0) num n (fun j => marks (mkId (num j)) (n j)) S) ∧ Hid (Fr S w w') := by
  have HK := Lib.hid hK
  obtain ⟨va, vc, hbvs⟩ := (reads_of_own hK.own).slice
  subst hbvs
  have HB0 := Lib.hid hB
  have HSG := Lib.hid hK.sg
  have HNUM := Lib.hid hnum
  have HBI := Lib.hid hBi
  clear hK hB hnum hBi
  go_enter Tryz.func34, Tryz.ntmps34
  go_wp2_with fail
  try show Code.wp _ _ _ _ _
  go_loopw [2, 3, 4] (fun iv _ _ wr => ∃ i : Nat, i ≤ m ∧ iv = .int .i64 i ∧ ∃ C' : Nat → List Value, Hid (KSt wr base g 106 63 1 m (.slice va m vc) L (fun _ => .slice none 0 0) num n C' S) ∧ Hid (∀ j, j < i → C' j = marks (mkId (num j)) (n j)) ∧ Hid (Fr S w wr)) (fun iv _ _ _ => m - (intOf iv).toNat)
  case atStart => exact ⟨0, Nat.zero_le _, rfl, C, HK, Lib.hid (fun j hj => absurd hj (by omega)), Lib.hid (Fr.refl _ _)⟩
  case round =>
    obtain ⟨i, hi, rfl, C', HC, HD, HB⟩ := hrel
    have g1 := (HB.out.blk HB0.out HSG.out).cellv 2 (.slice va m vc) HBI.out
    by_cases hlt : i < m
    · obtain ⟨b2, off2, c2, e2, k0, k1, k2⟩ := HC.out.cells i hlt
      simp only [Value.slice.injEq] at e2
      obtain ⟨e2, _, ec⟩ := e2
      subst e2
      clear ec
      obtain ⟨x, hx⟩ : ∃ x, x = (1000 + (num i)) := ⟨_, rfl⟩
      have HMKC : Hid (mkId (num i) = [.int .u32 ((x : Nat) : Int)]) := Lib.hid (by rw [hx]; rfl)
      obtain ⟨i1, hi1⟩ : ∃ x, x = num i := ⟨_, rfl⟩
      have HMK : Hid (∀ w', Calls Tryz.prog 101 #[.int .i64 (i1 : Int)] w' fun e w'' => e = .returned (.int .u32 (x : Int)) ∧ Below w'.heap.size w' w'') := Lib.hid fun w' => by rw [hi1, hx]; exact markId_any (num i) (HNUM.out i hlt) w'
      rw [← hi1] at k2
      clear hi1 hx
      have hown := HC.out.held i hlt
      obtain ⟨la, lc, hls⟩ := (reads_of_own hown).slice
      rw [hls] at k0
      have HLS := Lib.hid hls
      clear hown hls
      obtain ⟨ni, hni⟩ : ∃ x, x = n i := ⟨_, rfl⟩
      rw [← hni] at k0 HLS
      have HNI := Lib.hid hni
      clear hni
      have hnb : ni ≤ 9223372036854775807 := by
        obtain ⟨_, _, _, _, hq1, hq2, _⟩ := reads_of_own (HC.out.held i hlt)
        rw [HNI.out]; omega
      have hic : (i : Int) < (m : Int) := by omega
      go_upto_region 4 with (fail)
      obtain ⟨hb, hhb⟩ : ∃ x, x = wr.heap.size := ⟨_, rfl⟩
      have hal : Below wr.heap.size wr (wr.alloc (.cells #[.slice la ni lc, .slice none 0 0, .int .i64 (i1 : Int)] 106)) := (Below.refl _ _).alloc (Nat.le_refl _) _
      have HWB : Hid (Blk (wr.alloc (.cells #[.slice la ni lc, .slice none 0 0, .int .i64 (i1 : Int)] 106)) hb #[.slice la ni lc, .slice none 0 0, .int .i64 (i1 : Int)] 106) := Lib.hid (Blk.new_at _ _ _ _ hhb)
      have HCW := Lib.hid (HC.out.below hal)
      have HBW := Lib.hid (HB.out.trans (Fr.of_below hal))
      have HSH : Hid (∀ q, S q → q ≠ hb) := Lib.hid fun q hq e => by have := (HC.out.sb q hq).2; omega
      rw [← hhb]
      generalize wr.alloc (.cells #[.slice la ni lc, .slice none 0 0, .int .i64 (i1 : Int)] 106) = W at HWB HCW HBW ⊢
      clear hal hhb HC HB g1 k0 k1 k2
      go_wp2_with fail
      try show Code.wp _ _ _ _ _
      go_loopw [4] (fun kv wz => ∃ k : Nat, k ≤ ni ∧ kv = .int .i64 k ∧ ∃ C2 : Nat → List Value, Hid (KSt wz base g 106 63 1 m (.slice (some ⟨b2, off2, none⟩) m vc) L (fun _ => .slice none 0 0) num n C2 S) ∧ Hid (∀ j, j < i → C2 j = marks (mkId (num j)) (n j)) ∧ Hid ((C2 i).take (k * 1) = marks (mkId (num i)) k) ∧
        Hid (Blk wz hb #[.slice la ni lc, .slice none 0 0, .int .i64 (i1 : Int)] 106) ∧ Hid (Fr S w wz)) (fun kv _ => ni - (intOf kv).toNat)
      case atStart => exact ⟨0, Nat.zero_le _, rfl, C', HCW, HD, Lib.hid (by rw [Nat.zero_mul]; rfl), HWB, HBW⟩
      case round =>
        obtain ⟨k, hk, rfl, C2, HC2, HD2, HT2, HH, HB2⟩ := hrel
        obtain ⟨wz, hwz⟩ : ∃ z, z = wr := ⟨_, rfl⟩
        subst hwz
        have h0 := HH.out.cellv 0 (.slice la ni lc) rfl
        by_cases hkn : k < ni
        · have h2 := HH.out.cellv 2 (.int .i64 (i1 : Int)) rfl
          have hb0 : ∃ b, la = some ⟨b, 0, none⟩ := by
            have := HC2.out.held i hlt
            rw [HLS.out, ← HNI.out] at this
            obtain ⟨b, e, _⟩ := own_ptr this (by omega)
            exact ⟨b, e⟩
          obtain ⟨b, rfl⟩ := hb0
          have h0d : wz.drew.cell? ⟨hb, 0, none⟩ = some (.slice (some ⟨b, 0, none⟩) ni lc) := h0
          have h2d : wz.drew.cell? ⟨hb, 2, none⟩ = some (.int .i64 (i1 : Int)) := h2
          have hkc : (k : Int) < (ni : Int) := by omega
          have HDR : Hid (Below wz.heap.size wz wz.drew) := Lib.hid (Below.refl _ _).drew
          go_upto_region 7 with (fail)
          clear h0 h2
          refine wp_region_held_drew (S := fun w' => w'.cell? ⟨hb, 0, none⟩ = some (.slice (some ⟨b, 0, none⟩) ni lc) ∧ w'.cell? ⟨hb, 2, none⟩ = some (.int .i64 (i1 : Int))) (by kernel_rfl) (⟨h0d, h2d⟩) (fun hHeld => ?_)
          refine wpAnyH_take (i := 0) (v := ?vq145) (by simp only [List.getElem?_toArray]; rfl) (by kernel_rfl) (by kernel_rfl) (by kernel_rfl) (by exact fun _ _ _ h => h) (Or.inl ⟨by rfl, ?yq145⟩) (by assumption) ?rq145
          case yq145 => (intro w hSw; (try dsimp only at hSw); go_simp; try with_reducible rfl)
          try simp only [Act.put, List.setIfInBounds_toArray, List.set_cons_zero, List.set_cons_succ]
          refine wpAnyH_take (i := 1) (v := ?vq146) (by simp only [List.getElem?_toArray]; rfl) (by kernel_rfl) (by kernel_rfl) (by kernel_rfl) (by exact fun _ _ _ h => h) (Or.inl ⟨by rfl, ?yq146⟩) (by assumption) ?rq146
          case yq146 => (intro w hSw; (try dsimp only at hSw); go_simp; try with_reducible rfl)
          try simp only [Act.put, List.setIfInBounds_toArray, List.set_cons_zero, List.set_cons_succ]
          refine wpAnyH_take (i := 2) (v := ?vq147) (by simp only [List.getElem?_toArray]; rfl) (by kernel_rfl) (by kernel_rfl) (by kernel_rfl) (by exact fun _ _ _ h => h) (Or.inl ⟨by rfl, ?yq147⟩) (by assumption) ?rq147
          case yq147 => (intro w hSw; (try dsimp only at hSw); go_simp; try with_reducible rfl)
          try simp only [Act.put, List.setIfInBounds_toArray, List.set_cons_zero, List.set_cons_succ]
          refine wpAnyH_take (i := 3) (v := ?vq148) (by simp only [List.getElem?_toArray]; rfl) (by kernel_rfl) (by kernel_rfl) (by kernel_rfl) (by exact fun _ _ _ h => h) (Or.inl ⟨by rfl, ?yq148⟩) (by assumption) ?rq148
          case yq148 => (intro w hSw; (try dsimp only at hSw); go_simp; try with_reducible rfl)
          try simp only [Act.put, List.setIfInBounds_toArray, List.set_cons_zero, List.set_cons_succ]
          refine wpAnyH_take (i := 4) (v := ?vq149) (by simp only [List.getElem?_toArray]; rfl) (by kernel_rfl) (by kernel_rfl) (by kernel_rfl) (by exact fun _ _ _ h => h) (Or.inl ⟨by rfl, ?yq149⟩) (by assumption) ?rq149
          case yq149 => (intro w hSw; (try dsimp only at hSw); go_simp; try with_reducible rfl)
          try simp only [Act.put, List.setIfInBounds_toArray, List.set_cons_zero, List.set_cons_succ]
          refine wpAnyH_ready (rs := [5]) (by kernel_rfl) (by simp) ?_
          refine AllReadyH.cons (by simp only [List.getElem?_toArray]; rfl) (fun K hK => ?_) AllReadyH.nil
          go_simp
          refine (HMK.out _).mono ?_
          rintro e wm ⟨rfl, bm⟩
          have HBm := Lib.hid (HDR.out.trans (bm.mono HDR.out.size))
          have HCm := Lib.hid (HC2.out.below HBm.out)
          have HHm := Lib.hid (HH.out.below HBm.out)
          have HFm := Lib.hid (HB2.out.trans (Fr.of_below HBm.out))
          have HOW : Own wm base 63 1 (.slice (some ⟨b, 0, none⟩) ni lc) ni (C2 i) := by
            have := HCm.out.held i hlt
            rw [HLS.out, ← HNI.out] at this
            exact this
          have hL : rowOf (L i) = some b := by rw [HLS.out]; exact rowOf_pos (own_room HOW (by omega))
          have hSb : S b := HCm.out.ls i hlt b hL
          have hbb : b ≠ hb := HSH.out b hSb
          obtain ⟨y0, _, ck0⟩ := own_cellv HOW (k) (by omega)
          have fk0 := own_free HOW (k) (by omega)
          have hON : Only wm (wm.setCell ⟨b, k, none⟩ (.int .u32 (x : Int))) b := (Only.set wm b k (.int .u32 (x : Int)))
          have HST : Hid (KSt (wm.setCell ⟨b, k, none⟩ (.int .u32 (x : Int))) base g 106 63 1 m (.slice (some ⟨b2, off2, none⟩) m vc) L (fun _ => .slice none 0 0) num n (fun j => if j = i then (C2 i).set k (.int .u32 (x : Int)) else C2 j) S) := Lib.hid (HCm.out.write i hlt hL hON (by
            simp only [if_true]
            rw [HLS.out, ← HNI.out]
            exact own_storeG HOW k (by omega) (.int .u32 (x : Int))) (fun j hj => by simp only [if_neg hj]))
          have HHS : Hid (Blk (wm.setCell ⟨b, k, none⟩ (.int .u32 (x : Int))) hb #[.slice (some ⟨b, 0, none⟩) ni lc, .slice none 0 0, .int .i64 (i1 : Int)] 106) := Lib.hid (HHm.out.only hON (fun e => hbb e.symm))
          have HBS : Hid (Fr S w (wm.setCell ⟨b, k, none⟩ (.int .u32 (x : Int)))) := Lib.hid (HFm.out.trans (Fr.of_only hON hSb))
          have HTS : Hid (((C2 i).set k (.int .u32 (x : Int))).take ((k + 1) * 1) = marks (mkId (num i)) (k + 1)) := Lib.hid (by
            rw [marks_next, ← HT2.out, HMKC.out]
            first | exact take_setV _ _ _ (by rw [HC2.out.len i hlt, ← HNI.out]; omega) | (simp only [Nat.mul_one]; exact take_setV _ _ _ (by rw [HC2.out.len i hlt, ← HNI.out]; omega)))
          have HKP : Hid ((wm.setCell ⟨b, k, none⟩ (.int .u32 (x : Int))).cell? ⟨hb, 0, none⟩ = some (.slice (some ⟨b, 0, none⟩) ni lc) ∧ (wm.setCell ⟨b, k, none⟩ (.int .u32 (x : Int))).cell? ⟨hb, 2, none⟩ = some (.int .i64 (i1 : Int))) := Lib.hid ⟨HHS.out.cellv 0 _ rfl, HHS.out.cellv 2 _ rfl⟩
          have HKM : Hid (wm.cell? ⟨hb, 0, none⟩ = some (.slice (some ⟨b, 0, none⟩) ni lc) ∧ wm.cell? ⟨hb, 2, none⟩ = some (.int .i64 (i1 : Int))) := Lib.hid ⟨HHm.out.cellv 0 _ rfl, HHm.out.cellv 2 _ rfl⟩
          clear hL hON hSb HOW bm HCm HHm HFm HBm
          refine hK.out _ _ (HKM.out) (fun hHeld => ?_)
          clear hK K
          try simp only [Act.put, List.setIfInBounds_toArray, List.set_cons_zero, List.set_cons_succ]
          refine wpAnyH_take (i := 6) (v := ?vq150) (by simp only [List.getElem?_toArray]; rfl) (by kernel_rfl) (by kernel_rfl) (by kernel_rfl) (by exact fun _ _ _ h => h) (Or.inl ⟨by rfl, ?yq150⟩) (by assumption) ?rq150
          case yq150 => (intro w hSw; (try dsimp only at hSw); go_simp; try with_reducible rfl)
          try simp only [Act.put, List.setIfInBounds_toArray, List.set_cons_zero, List.set_cons_succ]
          refine wpAnyH_ready (rs := [7]) (by kernel_rfl) (by simp) ?_
          refine AllReadyH.cons (by simp only [List.getElem?_toArray]; rfl) (fun K hK => ?_) AllReadyH.nil
          go_simp
          refine hK.out _ _ (HKP.out) (fun hHeld => ?_)
          clear hK K
          try simp only [Act.put, List.setIfInBounds_toArray, List.set_cons_zero, List.set_cons_succ]
          refine wpAnyH_done (by kernel_rfl) ?_ _
          rename_i hH
          generalize (wm.setCell ⟨b, k, none⟩ (.int .u32 (x : Int))) = wt at HST HHS HBS ⊢
          clear hH h0d h2d
          clear ck0 fk0
          go_wp2_with fail
          go_roundw
          case rel => exact ⟨k + 1, by omega, by go_num, _, HST, Lib.hid (fun j hj => by rw [if_neg (by omega)]; exact HD2.out j hj), Lib.hid (by rw [if_pos rfl]; exact HTS.out), HHS, HBS⟩
          case measure => simp [intOf]; omega
        · have hkn2 : k = ni := by omega
          have HDN : Hid (∀ j, j < i + 1 → C2 j = marks (mkId (num j)) (n j)) := Lib.hid fun j hj => by
            by_cases e : j = i
            · subst e
              exact marks_full (HC2.out.len j hlt) (hkn2.trans HNI.out) HT2.out
            · exact HD2.out j (by omega)
          clear hkn2
          go_wp2_with fail
          go_roundw
          case rel => exact ⟨i + 1, by omega, by go_num, C2, HC2, HDN, HB2⟩
          case measure => simp [intOf]; omega
    · obtain rfl : i = m := by omega
      have HCF : Hid (KSt wr base g 106 63 1 i (.slice va i vc) L (fun _ => .slice none 0 0) num n (fun j => marks (mkId (num j)) (n j)) S) :=
        Lib.hid ⟨HC.out.own, fun j hj => by rw [← HD.out j hj]; exact HC.out.held j hj, HC.out.bs, HC.out.ls, HC.out.lb, HC.out.ap, HC.out.sg, HC.out.sb⟩
      go_wp2_with fail
      go_end0
      exact ⟨rfl, HCF, HB⟩
end Go.Proofs.YtbcnapkbdbefhaaGreatDoor
namespace Go.Proofs.YtbcnapkbdbefhaaGreatDoor
open Go.RowKit

set_option maxRecDepth 100000 in
set_option maxHeartbeats 8000000 in
theorem growId_any (w : World) (base g m : Nat) (B : Array Value) (bv : Value) (L : Nat → Value) (num n : Nat → Nat) (S : Nat → Prop) (hB : Blk w g B 54) (hBi : B[2]? = some bv) (hK : KSt w base g 106 63 1 m bv L (fun _ => .slice none 0 0) num n (fun j => marks (mkId (num j)) (n j)) S) (hm : m ≤ 1000) (hnum : ∀ j, j < m → num j < 10) (hbw : base ≤ w.heap.size) (hn : ∀ j, j < m → n j ≤ 1000000000) :
    Calls Tryz.prog 47 #[.pointer (some ⟨g, 0, none⟩)] w fun e w' => e = .returned (.tuple #[]) ∧ Hid (∃ G, KGw w' base g 106 63 1 m bv L G num n (fun j => mkId (num j)) S m ∧ ∀ j, j < m → ∀ b, rowOf (G j) = some b → S b ∨ w.heap.size ≤ b) ∧ Hid (Fr S w w') := by
  obtain ⟨va, vc, hbvs⟩ := (reads_of_own hK.own).slice
  subst hbvs
  obtain ⟨i0, hi0, hz, hz1, hz2⟩ := info_parts infoEId
  have HK : Hid (KGw w base g 106 63 1 m (.slice va m vc) L (fun _ => .slice none 0 0) num n (fun j => mkId (num j)) S 0) := Lib.hid ⟨hK, fun j hj => absurd hj (by omega), fun j _ => rfl, fun j hj => absurd hj (by omega), fun j hj => absurd hj (by omega), fun j k hj => absurd hj (by omega), fun j k hj => absurd hj (by omega)⟩
  have HB0 := Lib.hid hB
  have HSG := Lib.hid hK.sg
  have HNUM := Lib.hid hnum
  have HBI := Lib.hid hBi
  have HN := Lib.hid hn
  have HBS : Hid (∀ b, rowOf (Value.slice va m vc) = some b → S b) := Lib.hid hK.bs
  have HLS0 : Hid (∀ j, j < m → ∀ b, rowOf (L j) = some b → S b) := Lib.hid hK.ls
  clear hK hn hB hnum hBi
  go_enter Tryz.func47, Tryz.ntmps47
  go_wp2_with fail
  try show Code.wp _ _ _ _ _
  go_loopw [2, 3, 4, 5] (fun iv _ _ _ wr => ∃ i : Nat, i ≤ m ∧ iv = .int .i64 i ∧ ∃ G : Nat → Value, Hid (KGw wr base g 106 63 1 m (.slice va m vc) L G num n (fun j => mkId (num j)) S i) ∧ Hid (∀ j, j < i → ∀ b, rowOf (G j) = some b → S b ∨ w.heap.size ≤ b) ∧ Hid (Fr S w wr)) (fun iv _ _ _ _ => m - (intOf iv).toNat)
  case atStart => exact ⟨0, Nat.zero_le _, rfl, _, HK, Lib.hid (fun j hj => absurd hj (by omega)), Lib.hid (Fr.refl _ _)⟩
  case round =>
    obtain ⟨i, hi, rfl, G, HC, HGS, HB⟩ := hrel
    have g1 := (HB.out.blk HB0.out HSG.out).cellv 2 (.slice va m vc) HBI.out
    by_cases hlt : i < m
    · have hb0 : ∃ b, va = some ⟨b, 0, none⟩ := by
        obtain ⟨b, e, _⟩ := own_ptr HC.out.bk.own (by omega)
        exact ⟨b, e⟩
      obtain ⟨b2, hb2⟩ := hb0
      subst hb2
      obtain ⟨b3, off3, c3, e3, k0, k1, k2⟩ := HC.out.bk.cells i hlt
      simp only [Value.slice.injEq, Option.some.injEq, Addr.mk.injEq, and_true, true_and] at e3
      obtain ⟨⟨e4, e5⟩, e6⟩ := e3
      rw [← e4, ← e5, Nat.zero_add] at k0 k1 k2
      rw [HC.out.nil i (Nat.le_refl _)] at k1
      clear e4 e5 e6
      obtain ⟨x, hx⟩ : ∃ x, x = (1000 + (num i)) := ⟨_, rfl⟩
      have HMKC : Hid (mkId (num i) = [.int .u32 ((x : Nat) : Int)]) := Lib.hid (by rw [hx]; rfl)
      obtain ⟨i1, hi1⟩ : ∃ x, x = num i := ⟨_, rfl⟩
      have HMK : Hid (∀ w', Calls Tryz.prog 101 #[.int .i64 (i1 : Int)] w' fun e w'' => e = .returned (.int .u32 (x : Int)) ∧ Below w'.heap.size w' w'') := Lib.hid fun w' => by rw [hi1, hx]; exact markId_any (num i) (HNUM.out i hlt) w'
      rw [← hi1] at k2
      clear hi1 hx
      have hown := HC.out.bk.held i hlt
      obtain ⟨la, lc, hls⟩ := (reads_of_own hown).slice
      rw [hls] at k0
      have HLS := Lib.hid hls
      clear hown hls
      obtain ⟨ni, hni⟩ : ∃ x, x = n i := ⟨_, rfl⟩
      rw [← hni] at k0 HLS
      have HNI := Lib.hid hni
      clear hni
      have hnb : ni ≤ 1000000000 := by rw [HNI.out]; exact HN.out i hlt
      have hic : (i : Int) < (m : Int) := by omega
      go_upto_region 4 with (fail)
      obtain ⟨hb, hhb⟩ : ∃ x, x = wr.heap.size := ⟨_, rfl⟩
      have hal : Below wr.heap.size wr (wr.alloc (.cells #[.slice la ni lc, .slice none 0 0, .int .i64 (i1 : Int)] 106)) := (Below.refl _ _).alloc (Nat.le_refl _) _
      have HWB : Hid (Blk (wr.alloc (.cells #[.slice la ni lc, .slice none 0 0, .int .i64 (i1 : Int)] 106)) hb #[.slice la ni lc, .slice none 0 0, .int .i64 (i1 : Int)] 106) := Lib.hid (Blk.new_at _ _ _ _ hhb)
      have HCW := Lib.hid (HC.out.below hal)
      have HBW := Lib.hid (HB.out.trans (Fr.of_below hal))
      have HNE : Hid (rowOf (L i) ≠ some hb) := Lib.hid fun e => by have := HC.out.bk.lw i hlt hb e; omega
      have HGW : Hid (g < (wr.alloc (.cells #[.slice la ni lc, .slice none 0 0, .int .i64 (i1 : Int)] 106)).heap.size) := Lib.hid (Nat.lt_of_lt_of_le (HB.out.blk HB0.out HSG.out).lt hal.size)
      rw [← hhb]
      generalize wr.alloc (.cells #[.slice la ni lc, .slice none 0 0, .int .i64 (i1 : Int)] 106) = W at HWB HCW HBW HGW ⊢
      clear hal hhb HC HB g1 k0 k1 k2
      have HOT : Hid (∀ u, Oth g hb m i (.slice (some ⟨b2, 0, none⟩) m vc) L G u → ApartR W u (.slice la ni lc)) := Lib.hid (by
        rw [← HLS.out]; exact HCW.out.start hlt HGW.out HWB.out.lt HNE.out)
      have HLO : Hid (Own W base 63 1 (.slice la ni lc) ni (marks (mkId (num i)) ni)) := Lib.hid (by
        have := HCW.out.bk.held i hlt
        rw [HLS.out, ← HNI.out] at this
        exact this)
      have HSS : Hid (∀ b, rowOf (Value.slice la ni lc) = some b → S b ∨ w.heap.size ≤ b) := Lib.hid fun b hb => .inl (HLS0.out i hlt b (by rw [HLS.out]; exact hb))
      have h0 := HWB.out.cellv 0 (.slice la ni lc) rfl
      go_wp2_with fail
      try show Code.wp _ _ _ _ _
      go_loopw [4, 5] (fun lv kv wz => ∃ k : Nat, k ≤ 40 ∧ kv = .int .i64 k ∧ (∃ xa xn xc, lv = .slice xa xn xc ∧ xn = ni + k ∧ Hid (Own wz base 63 1 (.slice xa xn xc) xn (marks (mkId (num i)) xn)) ∧ Hid (∀ u, Oth g hb m i (.slice (some ⟨b2, 0, none⟩) m vc) L G u → ApartR wz u (.slice xa xn xc)) ∧ Hid (∀ b, rowOf (Value.slice xa xn xc) = some b → S b ∨ w.heap.size ≤ b)) ∧
        Hid (KGw wz base g 106 63 1 m (.slice (some ⟨b2, 0, none⟩) m vc) L G num n (fun j => mkId (num j)) S i) ∧ Hid (Blk wz hb #[.slice la ni lc, .slice none 0 0, .int .i64 (i1 : Int)] 106) ∧ Hid (Fr S w wz)) (fun _ kv _ => 40 - (intOf kv).toNat)
      case atStart => exact ⟨0, by omega, rfl, ⟨la, ni, lc, rfl, rfl, HLO, HOT, HSS⟩, HCW, HWB, HBW⟩
      case round =>
        obtain ⟨k, hk, rfl, ⟨xa, xn, xc, rfl, hxn, HX, HO, HXS⟩, HG2, HH, HB2⟩ := hrel
        have HXN := Lib.hid hxn
        have hxb : xn ≤ 2000000000 := by omega
        clear hxn h0
        obtain ⟨wz, hwz⟩ : ∃ z, z = wr := ⟨_, rfl⟩
        subst hwz
        by_cases hk40 : k < 40
        · have h2 := HH.out.cellv 2 (.int .i64 (i1 : Int)) rfl
          go_upto_region 8 with (fail)
          go_wp2_with fail
          refine (HMK.out _).mono ?_
          rintro e wm ⟨rfl, bm⟩
          have HAL : Hid (Below wz.heap.size wz (wm.alloc (.cells #[.int .u32 ((x : Nat) : Int)] 63))) := Lib.hid (bm.trans ((Below.refl _ _).alloc bm.size _))
          have HRD : Hid (Reads (wm.alloc (.cells #[.int .u32 ((x : Nat) : Int)] 63)) 1 (.slice (some ⟨wm.heap.size, 0, none⟩) 1 1) 1 (mkId (num i))) := Lib.hid (by rw [HMKC.out]; exact reads_new wm #[.int .u32 ((x : Nat) : Int)] _ 1 1 rfl (by unfold maxLen; omega))
          have HBZ : Hid (base ≤ (wm.alloc (.cells #[.int .u32 ((x : Nat) : Int)] 63)).heap.size) := Lib.hid (Nat.le_trans (Nat.le_trans hbw HB2.out.size) HAL.out.size)
          clear bm h2
          go_wp2_with (at_builtin; go_loud (refine wp_app_oneG rfl _ _ rfl Tryz.underlying104 hi0 hz hz1 hz2 rfl (by omega) base xn (.slice xa xn xc) ⟨wm.heap.size, 0, none⟩ 1 (marks (mkId (num i)) xn) (mkId (num i)) (marks (mkId (num i)) (xn + 1)) (xn + 1) rfl rfl (own_below HX.out HAL.out) HRD.out (one_mkId _) rfl (marks_next _ _).symm (by omega) (by omega) HBZ.out ?_); intro ya yc w7 HY HGR HLE)
          have hgw : KGw w7 base g 106 63 1 m (.slice (some ⟨b2, 0, none⟩) m vc) L G num n (fun j => mkId (num j)) S i := (HG2.out.below HAL.out).app (hb := hb) HGR.out HLE.out (by rw [← HNI.out, HXN.out]; omega) (fun u hu => (HO.out u hu).later HAL.out.size)
          have hot : ∀ u, Oth g hb m i (.slice (some ⟨b2, 0, none⟩) m vc) L G u → ApartR w7 u (.slice ya (xn + 1) yc) := fun u hu => HGR.out.apart u ((HO.out u hu).later HAL.out.size)
          have hbh := (HH.out.below HAL.out).grown HGR.out.rows (fun e => (HO.out _ (.inr (.inl rfl)) hb rfl).2 e.symm)
          have hb7 : Fr S w w7 := (HB2.out.trans (Fr.of_below HAL.out)).trans' (Fr.of_grown (S := fun b => rowOf (Value.slice xa xn xc) = some b) HGR.out.rows fun _ e => e) HXS.out
          have hs7 : ∀ b, rowOf (Value.slice ya (xn + 1) yc) = some b → S b ∨ w.heap.size ≤ b := fun b hb' => by
            rcases grew_from HGR.out b hb' with h | h
            · exact HXS.out b h
            · exact .inr (Nat.le_trans (Nat.le_trans HB2.out.size HAL.out.size) h)
          exact ⟨⟨k + 1, by omega, by go_num, ⟨ya, xn + 1, yc, rfl, by rw [HXN.out]; omega, HY, Lib.hid hot, Lib.hid hs7⟩, Lib.hid hgw, Lib.hid hbh, Lib.hid hb7⟩, by simp [intOf]; omega⟩
        · obtain rfl : k = 40 := by omega
          have hx40 := HXN.out
          have hlo : Own wz base 63 1 (.slice xa xn xc) (n i + 40) (marks (mkId (num i)) (n i + 40)) := by
            have := HX.out
            rw [hx40, HNI.out] at this
            rw [hx40, HNI.out]
            exact this
          have HNX := Lib.hid (HG2.out.next hlt hlo HO.out)
          have HGN : Hid (∀ j, j < i + 1 → ∀ b, rowOf ((fun j => if j = i then (Value.slice xa xn xc) else G j) j) = some b → S b ∨ w.heap.size ≤ b) := Lib.hid fun j hj b hb' => by
            by_cases e : j = i
            · simp only [if_pos e] at hb'
              exact HXS.out b hb'
            · simp only [if_neg e] at hb'
              exact HGS.out j (by omega) b hb'
          have g1 := (HB2.out.blk HB0.out HSG.out).cellv 2 (.slice (some ⟨b2, 0, none⟩) m vc) HBI.out
          have fr := own_free HG2.out.bk.own (i * 3 + 1) (by omega)
          obtain ⟨b3, off3, c3, e3, _, k1, _⟩ := HG2.out.bk.cells i hlt
          simp only [Value.slice.injEq, Option.some.injEq, Addr.mk.injEq, and_true, true_and] at e3
          obtain ⟨⟨e4, e5⟩, e6⟩ := e3
          rw [← e4, ← e5, Nat.zero_add] at k1
          have HBZ := Lib.hid (HB2.out.trans (Fr.of_only (Only.set wz b2 (i * 3 + 1) (.slice xa xn xc)) (HBS.out b2 (rowOf_pos (own_room HG2.out.bk.own (by omega))))))
          clear e4 e5 e6 hx40 hlo
          go_upto_region 2 with (fail)
          clear g1 fr k1 hk hk40
          generalize wz.setCell ⟨b2, i * 3 + 1, none⟩ (.slice xa xn xc) = ws at HNX HBZ ⊢
          go_wp2_with fail
          go_roundw
          case rel => exact ⟨i + 1, by omega, by go_num, _, HNX, HGN, HBZ⟩
          case measure => simp [intOf]; omega
    · obtain rfl : i = m := by omega
      go_wp2_with fail
      go_end0
      exact ⟨rfl, Lib.hid ⟨G, HC.out, HGS.out⟩, HB⟩
end Go.Proofs.YtbcnapkbdbefhaaGreatDoor
namespace Go.Proofs.YtbcnapkbdbefhaaGreatDoor
open Go.RowKit

set_option maxRecDepth 100000 in
set_option maxHeartbeats 8000000 in
theorem lookId_any (w : World) (base g m : Nat) (B : Array Value) (bv : Value) (L G : Nat → Value) (num n : Nat → Nat) (S : Nat → Prop) (hB : Blk w g B 54) (hBi : B[2]? = some bv) (hK : KGw w base g 106 63 1 m bv L G num n (fun j => mkId (num j)) S m) (hm : m ≤ 1000) (hnum : ∀ j, j < m → num j < 10) (hn : ∀ j, j < m → n j ≤ 1000000000) :
    Calls Tryz.prog 60 #[.pointer (some ⟨g, 0, none⟩)] w fun e w' => e = .returned (.bool true) ∧ Below w.heap.size w w' := by
  obtain ⟨va, vc, hbvs⟩ := (reads_of_own hK.bk.own).slice
  subst hbvs
  have HK := Lib.hid hK
  have HN := Lib.hid hn
  have HB0 := Lib.hid hB
  have HNUM := Lib.hid hnum
  have HBI := Lib.hid hBi
  clear hK hn hB hnum hBi
  go_enter Tryz.func60, Tryz.ntmps60
  go_wp2_with fail
  try show Code.wp _ _ _ _ _
  go_loopw [3, 4, 5] (fun iv _ _ wr => ∃ i : Nat, i ≤ m ∧ iv = .int .i64 i ∧ Hid (Below w.heap.size w wr)) (fun iv _ _ _ => m - (intOf iv).toNat)
  case atStart => exact ⟨0, Nat.zero_le _, rfl, Lib.hid (Below.refl _ _)⟩
  case round =>
    obtain ⟨i, hi, rfl, HB⟩ := hrel
    obtain ⟨wr, hwr⟩ := the_world HB.out
    subst hwr
    have HC := Lib.hid (HK.out.below HB.out)
    have g1 := (HB0.out.below HB.out).cellv 2 (.slice va m vc) HBI.out
    by_cases hlt : i < m
    · obtain ⟨b3, off3, c3, e3, k0, k1, k2⟩ := HC.out.bk.cells i hlt
      simp only [Value.slice.injEq, true_and] at e3
      obtain ⟨e4, e6⟩ := e3
      subst e4
      clear e6
      obtain ⟨x, hx⟩ : ∃ x, x = (1000 + (num i)) := ⟨_, rfl⟩
      have HMKC : Hid (mkId (num i) = [.int .u32 ((x : Nat) : Int)]) := Lib.hid (by rw [hx]; rfl)
      obtain ⟨i1, hi1⟩ : ∃ x, x = num i := ⟨_, rfl⟩
      have HIS : Hid (∀ w', Calls Tryz.prog 114 #[(.int .u32 (x : Int)), .int .i64 (i1 : Int)] w' fun e w'' => e = .returned (.bool true) ∧ Below w'.heap.size w' w'') := Lib.hid fun w' => by
        rw [hi1, hx]; exact isId_any (num i) (HNUM.out i hlt) w'
      rw [← hi1] at k2
      clear hi1 hx
      have hown := HC.out.bk.held i hlt
      obtain ⟨la, lc, hls⟩ := (reads_of_own hown).slice
      rw [hls] at k0 hown
      have hog := HC.out.own i hlt
      obtain ⟨ga, gc, hgs⟩ := (reads_of_own hog).slice
      rw [hgs] at k1 hog
      obtain ⟨ni, hni⟩ : ∃ x, x = n i := ⟨_, rfl⟩
      rw [← hni] at k0 k1 hown hog
      have hnb : ni ≤ 1000000000 := by rw [hni]; exact HN.out i hlt
      obtain ⟨ng, hng⟩ : ∃ x, x = ni + 40 := ⟨_, rfl⟩
      rw [← hng] at k1 hog
      have hngi : (ni : Int) + 40 = (ng : Int) := by omega
      have hngw : IntKind.i64.wrap (ng : Int) = (ng : Int) := IntWalk.i64_in _ (by omega)
      have hneq : ((ng : Int) != (ng : Int)) = false := by simp
      obtain ⟨bg, hga, _⟩ := own_ptr hog (by omega)
      subst hga
      have HOW := Lib.hid hown
      have HOG := Lib.hid hog
      have HNG := Lib.hid hng
      clear hown hog hls hgs hni hng
      go_upto_region 5 with (fail)
      obtain ⟨hb, hhb⟩ : ∃ x, x = wr.heap.size := ⟨_, rfl⟩
      have hal : Below wr.heap.size wr (wr.alloc (.cells #[.slice la ni lc, .slice (some ⟨bg, 0, none⟩) ng gc, .int .i64 (i1 : Int)] 106)) := (Below.refl _ _).alloc (Nat.le_refl _) _
      have HWB : Hid (Blk (wr.alloc (.cells #[.slice la ni lc, .slice (some ⟨bg, 0, none⟩) ng gc, .int .i64 (i1 : Int)] 106)) hb #[.slice la ni lc, .slice (some ⟨bg, 0, none⟩) ng gc, .int .i64 (i1 : Int)] 106) := Lib.hid (Blk.new_at _ _ _ _ hhb)
      have HBW := Lib.hid (HB.out.trans (hal.mono HB.out.size))
      have HOW2 := Lib.hid (own_below HOW.out hal)
      have HOG2 := Lib.hid (own_below HOG.out hal)
      rw [← hhb]
      generalize wr.alloc (.cells #[.slice la ni lc, .slice (some ⟨bg, 0, none⟩) ng gc, .int .i64 (i1 : Int)] 106) = W at HWB HBW HOW2 HOG2 ⊢
      clear hal hhb HC HB HOW HOG g1 k0 k1 k2
      have h0 := HWB.out.cellv 0 (.slice la ni lc) rfl
      have h1 := HWB.out.cellv 1 (.slice (some ⟨bg, 0, none⟩) ng gc) rfl
      go_upto_region 8 with (fail)
      go_loopw [5] (fun kv wz => ∃ k : Nat, k ≤ ng ∧ kv = .int .i64 k ∧ Hid (Below W.heap.size W wz)) (fun kv _ => ng - (intOf kv).toNat)
      case atStart => exact ⟨0, Nat.zero_le _, rfl, Lib.hid (Below.refl _ _)⟩
      case round =>
        obtain ⟨k, hk, rfl, HZ⟩ := hrel
        obtain ⟨wz, hwz⟩ : ∃ z, z = wr := ⟨_, rfl⟩
        subst hwz
        clear h0 h1
        have h1 := (HWB.out.below HZ.out).cellv 1 (.slice (some ⟨bg, 0, none⟩) ng gc) rfl
        by_cases hkg : k < ng
        · have HZD := Lib.hid (HZ.out.drew)
          have hkgc : (k : Int) < (ng : Int) := by omega
          have eg0 : ∀ w', Below W.heap.size W w' → w'.cell? ⟨bg, k, none⟩ = some (.int .u32 ((x : Nat) : Int)) := fun w' hq => by
            have := mark_cell (own_below HOG2.out hq) (sz := 1) (by rw [HMKC.out]; rfl) k 0 (by omega) (by omega) (.int .u32 ((x : Nat) : Int)) (by rw [HMKC.out]; rfl)
            simpa using this
          have eg0H := Lib.hid eg0
          clear eg0
          by_cases hki : k < ni
          · have hb0 : ∃ b, la = some ⟨b, 0, none⟩ := by
              obtain ⟨b, e, _⟩ := own_ptr HOW2.out (by omega)
              exact ⟨b, e⟩
            obtain ⟨bl, rfl⟩ := hb0
            have hkic : (k : Int) < (ni : Int) := by omega
            have el0 : ∀ w', Below W.heap.size W w' → w'.cell? ⟨bl, k, none⟩ = some (.int .u32 ((x : Nat) : Int)) := fun w' hq => by
              have := mark_cell (own_below HOW2.out hq) (sz := 1) (by rw [HMKC.out]; rfl) k 0 (by omega) (by omega) (.int .u32 ((x : Nat) : Int)) (by rw [HMKC.out]; rfl)
              simpa using this
            have el0H := Lib.hid el0
            clear el0
            have HSW : Hid (∀ w', Below W.heap.size W w' → w'.cell? ⟨hb, 0, none⟩ = some (.slice (some ⟨bl, 0, none⟩) ni lc) ∧ w'.cell? ⟨hb, 1, none⟩ = some (.slice (some ⟨bg, 0, none⟩) ng gc) ∧ w'.cell? ⟨hb, 2, none⟩ = some (.int .i64 (i1 : Int)) ∧ (w'.cell? ⟨bg, k, none⟩ = some (.int .u32 ((x : Nat) : Int))) ∧ (w'.cell? ⟨bl, k, none⟩ = some (.int .u32 ((x : Nat) : Int))) ∧ Below W.heap.size W w') := Lib.hid fun w' hq => ⟨(HWB.out.below hq).cellv 0 _ rfl, (HWB.out.below hq).cellv 1 _ rfl, (HWB.out.below hq).cellv 2 _ rfl, eg0H.out w' hq, el0H.out w' hq, hq⟩
            go_upto_region 10 with (fail)
            clear h1
            refine wp_region_held_drew (S := fun w' => w'.cell? ⟨hb, 0, none⟩ = some (.slice (some ⟨bl, 0, none⟩) ni lc) ∧ w'.cell? ⟨hb, 1, none⟩ = some (.slice (some ⟨bg, 0, none⟩) ng gc) ∧ w'.cell? ⟨hb, 2, none⟩ = some (.int .i64 (i1 : Int)) ∧ (w'.cell? ⟨bg, k, none⟩ = some (.int .u32 ((x : Nat) : Int))) ∧ (w'.cell? ⟨bl, k, none⟩ = some (.int .u32 ((x : Nat) : Int))) ∧ Below W.heap.size W w') (by kernel_rfl) (HSW.out _ HZD.out) (fun hHeld => ?_)
            refine wpAnyH_take (i := 0) (v := ?vq151) (by simp only [List.getElem?_toArray]; rfl) (by kernel_rfl) (by kernel_rfl) (by kernel_rfl) (by exact fun _ _ _ h => h) (Or.inl ⟨by rfl, ?yq151⟩) (by assumption) ?rq151
            case yq151 => (intro w hSw; (try dsimp only at hSw); go_simp; try with_reducible rfl)
            try simp only [Act.put, List.setIfInBounds_toArray, List.set_cons_zero, List.set_cons_succ]
            refine wpAnyH_take (i := 1) (v := ?vq152) (by simp only [List.getElem?_toArray]; rfl) (by kernel_rfl) (by kernel_rfl) (by kernel_rfl) (by exact fun _ _ _ h => h) (Or.inl ⟨by rfl, ?yq152⟩) (by assumption) ?rq152
            case yq152 => (intro w hSw; (try dsimp only at hSw); go_simp; try with_reducible rfl)
            try simp only [Act.put, List.setIfInBounds_toArray, List.set_cons_zero, List.set_cons_succ]
            refine wpAnyH_take (i := 2) (v := ?vq153) (by simp only [List.getElem?_toArray]; rfl) (by kernel_rfl) (by kernel_rfl) (by kernel_rfl) (by exact fun _ _ _ h => h) (Or.inl ⟨by rfl, ?yq153⟩) (by assumption) ?rq153
            case yq153 => (intro w hSw; (try dsimp only at hSw); go_simp; try with_reducible rfl)
            try simp only [Act.put, List.setIfInBounds_toArray, List.set_cons_zero, List.set_cons_succ]
            refine wpAnyH_take (i := 3) (v := ?vq154) (by simp only [List.getElem?_toArray]; rfl) (by kernel_rfl) (by kernel_rfl) (by kernel_rfl) (by exact fun _ _ _ h => h) (Or.inl ⟨by rfl, ?yq154⟩) (by assumption) ?rq154
            case yq154 => (intro w hSw; (try dsimp only at hSw); go_simp; try with_reducible rfl)
            try simp only [Act.put, List.setIfInBounds_toArray, List.set_cons_zero, List.set_cons_succ]
            refine wpAnyH_take (i := 4) (v := ?vq155) (by simp only [List.getElem?_toArray]; rfl) (by kernel_rfl) (by kernel_rfl) (by kernel_rfl) (by exact fun _ _ _ h => h) (Or.inl ⟨by rfl, ?yq155⟩) (by assumption) ?rq155
            case yq155 => (intro w hSw; (try dsimp only at hSw); go_simp; try with_reducible rfl)
            try simp only [Act.put, List.setIfInBounds_toArray, List.set_cons_zero, List.set_cons_succ]
            refine wpAnyH_take (i := 5) (v := ?vq156) (by simp only [List.getElem?_toArray]; rfl) (by kernel_rfl) (by kernel_rfl) (by kernel_rfl) (by exact fun _ _ _ h => h) (Or.inl ⟨by rfl, ?yq156⟩) (by assumption) ?rq156
            case yq156 => (intro w hSw; (try dsimp only at hSw); go_simp; try with_reducible rfl)
            try simp only [Act.put, List.setIfInBounds_toArray, List.set_cons_zero, List.set_cons_succ]
            refine wpAnyH_take (i := 6) (v := ?vq157) (by simp only [List.getElem?_toArray]; rfl) (by kernel_rfl) (by kernel_rfl) (by kernel_rfl) (by exact fun _ _ _ h => h) (Or.inl ⟨by rfl, ?yq157⟩) (by assumption) ?rq157
            case yq157 => (intro w hSw; (try dsimp only at hSw); go_simp; try with_reducible rfl)
            try simp only [Act.put, List.setIfInBounds_toArray, List.set_cons_zero, List.set_cons_succ]
            refine wpAnyH_ready (rs := [7]) (by kernel_rfl) (by simp) ?_
            refine AllReadyH.cons (by simp only [List.getElem?_toArray]; rfl) (fun K hK => ?_) AllReadyH.nil
            have HH := Lib.hid hHeld.2.2.2.2.2
            go_simp
            refine (HIS.out _).mono ?_
            rintro e wa ⟨rfl, bb⟩
            have HH2 := Lib.hid (HH.out.trans (bb.mono HH.out.size))
            clear bb HH
            refine hK.out _ _ (HSW.out _ HH2.out) (fun hHeld => ?_)
            clear hK K
            try simp only [Act.put, List.setIfInBounds_toArray, List.set_cons_zero, List.set_cons_succ]
            refine wpAnyH_take (i := 8) (v := ?vq158) (by simp only [List.getElem?_toArray]; rfl) (by kernel_rfl) (by kernel_rfl) (by kernel_rfl) (by exact fun _ _ _ h => h) (Or.inl ⟨by rfl, ?yq158⟩) (by assumption) ?rq158
            case yq158 => (intro w hSw; (try dsimp only at hSw); go_simp; try with_reducible rfl)
            try simp only [Act.put, List.setIfInBounds_toArray, List.set_cons_zero, List.set_cons_succ]
            refine wpAnyH_take (i := 9) (v := ?vq159) (by simp only [List.getElem?_toArray]; rfl) (by kernel_rfl) (by kernel_rfl) (by kernel_rfl) (by exact fun _ _ _ h => h) (Or.inl ⟨by rfl, ?yq159⟩) (by assumption) ?rq159
            case yq159 => (intro w hSw; (try dsimp only at hSw); go_simp; try with_reducible rfl)
            try simp only [Act.put, List.setIfInBounds_toArray, List.set_cons_zero, List.set_cons_succ]
            refine wpAnyH_take (i := 10) (v := ?vq160) (by simp only [List.getElem?_toArray]; rfl) (by kernel_rfl) (by kernel_rfl) (by kernel_rfl) (by exact fun _ _ _ h => h) (Or.inl ⟨by rfl, ?yq160⟩) (by assumption) ?rq160
            case yq160 => (intro w hSw; (try dsimp only at hSw); go_simp; try with_reducible rfl)
            try simp only [Act.put, List.setIfInBounds_toArray, List.set_cons_zero, List.set_cons_succ]
            refine wpAnyH_take (i := 11) (v := ?vq161) (by simp only [List.getElem?_toArray]; rfl) (by kernel_rfl) (by kernel_rfl) (by kernel_rfl) (by exact fun _ _ _ h => h) (Or.inl ⟨by rfl, ?yq161⟩) (by assumption) ?rq161
            case yq161 => (intro w hSw; (try dsimp only at hSw); go_simp; try with_reducible rfl)
            try simp only [Act.put, List.setIfInBounds_toArray, List.set_cons_zero, List.set_cons_succ]
            refine wpAnyH_take (i := 12) (v := ?vq162) (by simp only [List.getElem?_toArray]; rfl) (by kernel_rfl) (by kernel_rfl) (by kernel_rfl) (by exact fun _ _ _ h => h) (Or.inl ⟨by rfl, ?yq162⟩) (by assumption) ?rq162
            case yq162 => (intro w hSw; (try dsimp only at hSw); go_simp; try with_reducible rfl)
            try simp only [Act.put, List.setIfInBounds_toArray, List.set_cons_zero, List.set_cons_succ]
            refine wpAnyH_take (i := 13) (v := ?vq163) (by simp only [List.getElem?_toArray]; rfl) (by kernel_rfl) (by kernel_rfl) (by kernel_rfl) (by exact fun _ _ _ h => h) (Or.inl ⟨by rfl, ?yq163⟩) (by assumption) ?rq163
            case yq163 => (intro w hSw; (try dsimp only at hSw); go_simp; try with_reducible rfl)
            try simp only [Act.put, List.setIfInBounds_toArray, List.set_cons_zero, List.set_cons_succ]
            refine wpAnyH_take (i := 14) (v := ?vq164) (by simp only [List.getElem?_toArray]; rfl) (by kernel_rfl) (by kernel_rfl) (by kernel_rfl) (by exact fun _ _ _ h => h) (Or.inl ⟨by rfl, ?yq164⟩) (by assumption) ?rq164
            case yq164 => (intro w hSw; (try dsimp only at hSw); go_simp; try with_reducible rfl)
            try simp only [Act.put, List.setIfInBounds_toArray, List.set_cons_zero, List.set_cons_succ]
            refine wpAnyH_take (i := 15) (v := ?vq165) (by simp only [List.getElem?_toArray]; rfl) (by kernel_rfl) (by kernel_rfl) (by kernel_rfl) (by exact fun _ _ _ h => h) (Or.inl ⟨by rfl, ?yq165⟩) (by assumption) ?rq165
            case yq165 => (intro w hSw; (try dsimp only at hSw); go_simp; try with_reducible rfl)
            try simp only [Act.put, List.setIfInBounds_toArray, List.set_cons_zero, List.set_cons_succ]
            refine wpAnyH_take (i := 16) (v := ?vq166) (by simp only [List.getElem?_toArray]; rfl) (by kernel_rfl) (by kernel_rfl) (by kernel_rfl) (by exact fun _ _ _ h => h) (Or.inl ⟨by rfl, ?yq166⟩) (by assumption) ?rq166
            case yq166 => (intro w hSw; (try dsimp only at hSw); go_simp; try with_reducible rfl)
            try simp only [Act.put, List.setIfInBounds_toArray, List.set_cons_zero, List.set_cons_succ]
            refine wpAnyH_take (i := 17) (v := ?vq167) (by simp only [List.getElem?_toArray]; rfl) (by kernel_rfl) (by kernel_rfl) (by kernel_rfl) (by exact fun _ _ _ h => h) (Or.inl ⟨by rfl, ?yq167⟩) (by assumption) ?rq167
            case yq167 => (intro w hSw; (try dsimp only at hSw); go_simp; try with_reducible rfl)
            try simp only [Act.put, List.setIfInBounds_toArray, List.set_cons_zero, List.set_cons_succ]
            refine wpAnyH_take (i := 18) (v := ?vq168) (by simp only [List.getElem?_toArray]; rfl) (by kernel_rfl) (by kernel_rfl) (by kernel_rfl) (by exact fun _ _ _ h => h) (Or.inl ⟨by rfl, ?yq168⟩) (by assumption) ?rq168
            case yq168 => (intro w hSw; (try dsimp only at hSw); go_simp; try with_reducible rfl)
            try simp only [Act.put, List.setIfInBounds_toArray, List.set_cons_zero, List.set_cons_succ]
            refine wpAnyH_take (i := 19) (v := ?vq169) (by simp only [List.getElem?_toArray]; rfl) (by kernel_rfl) (by kernel_rfl) (by kernel_rfl) (by exact fun _ _ _ h => h) (Or.inl ⟨by rfl, ?yq169⟩) (by assumption) ?rq169
            case yq169 => (intro w hSw; (try dsimp only at hSw); go_simp; try with_reducible rfl)
            try simp only [Act.put, List.setIfInBounds_toArray, List.set_cons_zero, List.set_cons_succ]
            refine wpAnyH_take (i := 20) (v := ?vq170) (by simp only [List.getElem?_toArray]; rfl) (by kernel_rfl) (by kernel_rfl) (by kernel_rfl) (by exact fun _ _ _ h => h) (Or.inl ⟨by rfl, ?yq170⟩) (by assumption) ?rq170
            case yq170 => (intro w hSw; (try dsimp only at hSw); go_simp; try with_reducible rfl)
            try simp only [Act.put, List.setIfInBounds_toArray, List.set_cons_zero, List.set_cons_succ]
            refine wpAnyH_take (i := 21) (v := ?vq171) (by simp only [List.getElem?_toArray]; rfl) (by kernel_rfl) (by kernel_rfl) (by kernel_rfl) (by exact fun _ _ _ h => h) (Or.inl ⟨by rfl, ?yq171⟩) (by assumption) ?rq171
            case yq171 => (intro w hSw; (try dsimp only at hSw); go_simp; try with_reducible rfl)
            try simp only [Act.put, List.setIfInBounds_toArray, List.set_cons_zero, List.set_cons_succ]
            refine wpAnyH_take (i := 22) (v := ?vq172) (by simp only [List.getElem?_toArray]; rfl) (by kernel_rfl) (by kernel_rfl) (by kernel_rfl) (by exact fun _ _ _ h => h) (Or.inl ⟨by rfl, ?yq172⟩) (by assumption) ?rq172
            case yq172 => (intro w hSw; (try dsimp only at hSw); go_simp; try with_reducible rfl)
            try simp only [Act.put, List.setIfInBounds_toArray, List.set_cons_zero, List.set_cons_succ]
            refine wpAnyH_ready (rs := [23]) (by kernel_rfl) (by simp) ?_
            refine AllReadyH.cons (by simp only [List.getElem?_toArray]; rfl) (fun K hK => ?_) AllReadyH.nil
            have HH := Lib.hid hHeld.2.2.2.2.2
            go_simp
            refine (HIS.out _).mono ?_
            rintro e wb ⟨rfl, bb⟩
            have HH2 := Lib.hid (HH.out.trans (bb.mono HH.out.size))
            clear bb HH
            refine hK.out _ _ (HSW.out _ HH2.out) (fun hHeld => ?_)
            clear hK K
            try simp only [Act.put, List.setIfInBounds_toArray, List.set_cons_zero, List.set_cons_succ]
            refine wpAnyH_take (i := 24) (v := ?vq173) (by simp only [List.getElem?_toArray]; rfl) (by kernel_rfl) (by kernel_rfl) (by kernel_rfl) (by exact fun _ _ _ h => h) (Or.inl ⟨by rfl, ?yq173⟩) (by assumption) ?rq173
            case yq173 => (intro w hSw; (try dsimp only at hSw); go_simp; try with_reducible rfl)
            try simp only [Act.put, List.setIfInBounds_toArray, List.set_cons_zero, List.set_cons_succ]
            refine wpAnyH_take (i := 25) (v := ?vq174) (by simp only [List.getElem?_toArray]; rfl) (by kernel_rfl) (by kernel_rfl) (by kernel_rfl) (by exact fun _ _ _ h => h) (Or.inl ⟨by rfl, ?yq174⟩) (by assumption) ?rq174
            case yq174 => (intro w hSw; (try dsimp only at hSw); go_simp; try with_reducible rfl)
            try simp only [Act.put, List.setIfInBounds_toArray, List.set_cons_zero, List.set_cons_succ]
            refine wpAnyH_take (i := 26) (v := ?vq175) (by simp only [List.getElem?_toArray]; rfl) (by kernel_rfl) (by kernel_rfl) (by kernel_rfl) (by exact fun _ _ _ h => h) (Or.inl ⟨by rfl, ?yq175⟩) (by assumption) ?rq175
            case yq175 => (intro w hSw; (try dsimp only at hSw); go_simp; try with_reducible rfl)
            try simp only [Act.put, List.setIfInBounds_toArray, List.set_cons_zero, List.set_cons_succ]
            refine wpAnyH_done (by kernel_rfl) ?_ _
            have HBD := Lib.hid HH2.out
            clear HH2
            rename_i hH
            clear hH
            go_wp2_with fail
            go_roundw
            case rel => exact ⟨k + 1, by omega, by go_num, HBD⟩
            case measure => simp [intOf]; omega
          · have hd : decide ((k : Int) < (ni : Int)) = false := by simp; omega
            have hd2 : decide (k < ni) = false := by simp; omega
            have HSW : Hid (∀ w', Below W.heap.size W w' → w'.cell? ⟨hb, 0, none⟩ = some (.slice la ni lc) ∧ w'.cell? ⟨hb, 1, none⟩ = some (.slice (some ⟨bg, 0, none⟩) ng gc) ∧ w'.cell? ⟨hb, 2, none⟩ = some (.int .i64 (i1 : Int)) ∧ (w'.cell? ⟨bg, k, none⟩ = some (.int .u32 ((x : Nat) : Int))) ∧ Below W.heap.size W w') := Lib.hid fun w' hq => ⟨(HWB.out.below hq).cellv 0 _ rfl, (HWB.out.below hq).cellv 1 _ rfl, (HWB.out.below hq).cellv 2 _ rfl, eg0H.out w' hq, hq⟩
            go_upto_region 10 with (fail)
            clear h1
            refine wp_region_held_drew (S := fun w' => w'.cell? ⟨hb, 0, none⟩ = some (.slice la ni lc) ∧ w'.cell? ⟨hb, 1, none⟩ = some (.slice (some ⟨bg, 0, none⟩) ng gc) ∧ w'.cell? ⟨hb, 2, none⟩ = some (.int .i64 (i1 : Int)) ∧ (w'.cell? ⟨bg, k, none⟩ = some (.int .u32 ((x : Nat) : Int))) ∧ Below W.heap.size W w') (by kernel_rfl) (HSW.out _ HZD.out) (fun hHeld => ?_)
            refine wpAnyH_take (i := 0) (v := ?vq176) (by simp only [List.getElem?_toArray]; rfl) (by kernel_rfl) (by kernel_rfl) (by kernel_rfl) (by exact fun _ _ _ h => h) (Or.inl ⟨by rfl, ?yq176⟩) (by assumption) ?rq176
            case yq176 => (intro w hSw; (try dsimp only at hSw); go_simp; try with_reducible rfl)
            try simp only [Act.put, List.setIfInBounds_toArray, List.set_cons_zero, List.set_cons_succ]
            refine wpAnyH_take (i := 1) (v := ?vq177) (by simp only [List.getElem?_toArray]; rfl) (by kernel_rfl) (by kernel_rfl) (by kernel_rfl) (by exact fun _ _ _ h => h) (Or.inl ⟨by rfl, ?yq177⟩) (by assumption) ?rq177
            case yq177 => (intro w hSw; (try dsimp only at hSw); go_simp; try with_reducible rfl)
            try simp only [Act.put, List.setIfInBounds_toArray, List.set_cons_zero, List.set_cons_succ]
            refine wpAnyH_take (i := 2) (v := ?vq178) (by simp only [List.getElem?_toArray]; rfl) (by kernel_rfl) (by kernel_rfl) (by kernel_rfl) (by exact fun _ _ _ h => h) (Or.inl ⟨by rfl, ?yq178⟩) (by assumption) ?rq178
            case yq178 => (intro w hSw; (try dsimp only at hSw); go_simp; try with_reducible rfl)
            try simp only [Act.put, List.setIfInBounds_toArray, List.set_cons_zero, List.set_cons_succ]
            refine wpAnyH_take (i := 3) (v := ?vq179) (by simp only [List.getElem?_toArray]; rfl) (by kernel_rfl) (by kernel_rfl) (by kernel_rfl) (by exact fun _ _ _ h => h) (Or.inl ⟨by rfl, ?yq179⟩) (by assumption) ?rq179
            case yq179 => (intro w hSw; (try dsimp only at hSw); go_simp; try with_reducible rfl)
            try simp only [Act.put, List.setIfInBounds_toArray, List.set_cons_zero, List.set_cons_succ]
            refine wpAnyH_take (i := 4) (v := ?vq180) (by simp only [List.getElem?_toArray]; rfl) (by kernel_rfl) (by kernel_rfl) (by kernel_rfl) (by exact fun _ _ _ h => h) (Or.inl ⟨by rfl, ?yq180⟩) (by assumption) ?rq180
            case yq180 => (intro w hSw; (try dsimp only at hSw); go_simp; try with_reducible rfl)
            try simp only [Act.put, List.setIfInBounds_toArray, List.set_cons_zero, List.set_cons_succ]
            refine wpAnyH_take (i := 5) (v := ?vq181) (by simp only [List.getElem?_toArray]; rfl) (by kernel_rfl) (by kernel_rfl) (by kernel_rfl) (by exact fun _ _ _ h => h) (Or.inl ⟨by rfl, ?yq181⟩) (by assumption) ?rq181
            case yq181 => (intro w hSw; (try dsimp only at hSw); go_simp; try with_reducible rfl)
            try simp only [Act.put, List.setIfInBounds_toArray, List.set_cons_zero, List.set_cons_succ]
            refine wpAnyH_take (i := 6) (v := ?vq182) (by simp only [List.getElem?_toArray]; rfl) (by kernel_rfl) (by kernel_rfl) (by kernel_rfl) (by exact fun _ _ _ h => h) (Or.inl ⟨by rfl, ?yq182⟩) (by assumption) ?rq182
            case yq182 => (intro w hSw; (try dsimp only at hSw); go_simp; try with_reducible rfl)
            try simp only [Act.put, List.setIfInBounds_toArray, List.set_cons_zero, List.set_cons_succ]
            refine wpAnyH_ready (rs := [7]) (by kernel_rfl) (by simp) ?_
            refine AllReadyH.cons (by simp only [List.getElem?_toArray]; rfl) (fun K hK => ?_) AllReadyH.nil
            have HH := Lib.hid hHeld.2.2.2.2
            go_simp
            refine (HIS.out _).mono ?_
            rintro e wa ⟨rfl, bb⟩
            have HH2 := Lib.hid (HH.out.trans (bb.mono HH.out.size))
            clear bb HH
            refine hK.out _ _ (HSW.out _ HH2.out) (fun hHeld => ?_)
            clear hK K
            try simp only [Act.put, List.setIfInBounds_toArray, List.set_cons_zero, List.set_cons_succ]
            refine wpAnyH_take (i := 8) (v := ?vq183) (by simp only [List.getElem?_toArray]; rfl) (by kernel_rfl) (by kernel_rfl) (by kernel_rfl) (by exact fun _ _ _ h => h) (Or.inl ⟨by rfl, ?yq183⟩) (by assumption) ?rq183
            case yq183 => (intro w hSw; (try dsimp only at hSw); go_simp; try with_reducible rfl)
            try simp only [Act.put, List.setIfInBounds_toArray, List.set_cons_zero, List.set_cons_succ]
            refine wpAnyH_take (i := 9) (v := ?vq184) (by simp only [List.getElem?_toArray]; rfl) (by kernel_rfl) (by kernel_rfl) (by kernel_rfl) (by exact fun _ _ _ h => h) (Or.inl ⟨by rfl, ?yq184⟩) (by assumption) ?rq184
            case yq184 => (intro w hSw; (try dsimp only at hSw); go_simp; try with_reducible rfl)
            try simp only [Act.put, List.setIfInBounds_toArray, List.set_cons_zero, List.set_cons_succ]
            refine wpAnyH_take (i := 10) (v := ?vq185) (by simp only [List.getElem?_toArray]; rfl) (by kernel_rfl) (by kernel_rfl) (by kernel_rfl) (by exact fun _ _ _ h => h) (Or.inl ⟨by rfl, ?yq185⟩) (by assumption) ?rq185
            case yq185 => (intro w hSw; (try dsimp only at hSw); go_simp; try with_reducible rfl)
            try simp only [Act.put, List.setIfInBounds_toArray, List.set_cons_zero, List.set_cons_succ]
            refine wpAnyH_take (i := 11) (v := ?vq186) (by simp only [List.getElem?_toArray]; rfl) (by kernel_rfl) (by kernel_rfl) (by kernel_rfl) (by exact fun _ _ _ h => h) (Or.inl ⟨by rfl, ?yq186⟩) (by assumption) ?rq186
            case yq186 => (intro w hSw; (try dsimp only at hSw); go_simp; try with_reducible rfl)
            try simp only [Act.put, List.setIfInBounds_toArray, List.set_cons_zero, List.set_cons_succ]
            refine wpAnyH_take (i := 12) (v := ?vq187) (by simp only [List.getElem?_toArray]; rfl) (by kernel_rfl) (by kernel_rfl) (by kernel_rfl) (by exact fun _ _ _ h => h) (Or.inl ⟨by rfl, ?yq187⟩) (by assumption) ?rq187
            case yq187 => (intro w hSw; (try dsimp only at hSw); go_simp; try with_reducible rfl)
            try simp only [Act.put, List.setIfInBounds_toArray, List.set_cons_zero, List.set_cons_succ]
            refine wpAnyH_take (i := 13) (v := ?vq188) (by simp only [List.getElem?_toArray]; rfl) (by kernel_rfl) (by kernel_rfl) (by kernel_rfl) (by exact fun _ _ _ h => h) (Or.inl ⟨by rfl, ?yq188⟩) (by assumption) ?rq188
            case yq188 => (intro w hSw; (try dsimp only at hSw); go_simp; try with_reducible rfl)
            try simp only [Act.put, List.setIfInBounds_toArray, List.set_cons_zero, List.set_cons_succ]
            refine wpAnyH_take (i := 14) (v := ?vq189) (by simp only [List.getElem?_toArray]; rfl) (by kernel_rfl) (by kernel_rfl) (by kernel_rfl) (by exact fun _ _ _ h => h) (Or.inl ⟨by rfl, ?yq189⟩) (by assumption) ?rq189
            case yq189 => (intro w hSw; (try dsimp only at hSw); go_simp; try with_reducible rfl)
            try simp only [Act.put, List.setIfInBounds_toArray, List.set_cons_zero, List.set_cons_succ]
            refine wpAnyH_take (i := 15) (v := ?vq190) (by simp only [List.getElem?_toArray]; rfl) (by kernel_rfl) (by kernel_rfl) (by kernel_rfl) (by exact fun _ _ _ h => h) (Or.inl ⟨by rfl, ?yq190⟩) (by assumption) ?rq190
            case yq190 => (intro w hSw; (try dsimp only at hSw); go_simp; try with_reducible rfl)
            try simp only [Act.put, List.setIfInBounds_toArray, List.set_cons_zero, List.set_cons_succ]
            refine wpAnyH_take (i := 16) (v := undef) (by simp only [List.getElem?_toArray]; rfl) (by kernel_rfl) (by kernel_rfl) (by kernel_rfl) (by exact fun _ _ _ h => h) (Or.inr ⟨by rfl, rfl⟩) (by assumption) ?_
            try simp only [Act.put, List.setIfInBounds_toArray, List.set_cons_zero, List.set_cons_succ]
            refine wpAnyH_take (i := 17) (v := undef) (by simp only [List.getElem?_toArray]; rfl) (by kernel_rfl) (by kernel_rfl) (by kernel_rfl) (by exact fun _ _ _ h => h) (Or.inr ⟨by rfl, rfl⟩) (by assumption) ?_
            try simp only [Act.put, List.setIfInBounds_toArray, List.set_cons_zero, List.set_cons_succ]
            refine wpAnyH_take (i := 18) (v := undef) (by simp only [List.getElem?_toArray]; rfl) (by kernel_rfl) (by kernel_rfl) (by kernel_rfl) (by exact fun _ _ _ h => h) (Or.inr ⟨by rfl, rfl⟩) (by assumption) ?_
            try simp only [Act.put, List.setIfInBounds_toArray, List.set_cons_zero, List.set_cons_succ]
            refine wpAnyH_take (i := 19) (v := undef) (by simp only [List.getElem?_toArray]; rfl) (by kernel_rfl) (by kernel_rfl) (by kernel_rfl) (by exact fun _ _ _ h => h) (Or.inr ⟨by rfl, rfl⟩) (by assumption) ?_
            try simp only [Act.put, List.setIfInBounds_toArray, List.set_cons_zero, List.set_cons_succ]
            refine wpAnyH_take (i := 20) (v := undef) (by simp only [List.getElem?_toArray]; rfl) (by kernel_rfl) (by kernel_rfl) (by kernel_rfl) (by exact fun _ _ _ h => h) (Or.inr ⟨by rfl, rfl⟩) (by assumption) ?_
            try simp only [Act.put, List.setIfInBounds_toArray, List.set_cons_zero, List.set_cons_succ]
            refine wpAnyH_take (i := 21) (v := undef) (by simp only [List.getElem?_toArray]; rfl) (by kernel_rfl) (by kernel_rfl) (by kernel_rfl) (by exact fun _ _ _ h => h) (Or.inr ⟨by rfl, rfl⟩) (by assumption) ?_
            try simp only [Act.put, List.setIfInBounds_toArray, List.set_cons_zero, List.set_cons_succ]
            refine wpAnyH_take (i := 22) (v := undef) (by simp only [List.getElem?_toArray]; rfl) (by kernel_rfl) (by kernel_rfl) (by kernel_rfl) (by exact fun _ _ _ h => h) (Or.inr ⟨by rfl, rfl⟩) (by assumption) ?_
            try simp only [Act.put, List.setIfInBounds_toArray, List.set_cons_zero, List.set_cons_succ]
            refine wpAnyH_take (i := 23) (v := undef) (by simp only [List.getElem?_toArray]; rfl) (by kernel_rfl) (by kernel_rfl) (by kernel_rfl) (by exact fun _ _ _ h => h) (Or.inr ⟨by rfl, rfl⟩) (by assumption) ?_
            try simp only [Act.put, List.setIfInBounds_toArray, List.set_cons_zero, List.set_cons_succ]
            refine wpAnyH_take (i := 24) (v := undef) (by simp only [List.getElem?_toArray]; rfl) (by kernel_rfl) (by kernel_rfl) (by kernel_rfl) (by exact fun _ _ _ h => h) (Or.inr ⟨by rfl, rfl⟩) (by assumption) ?_
            try simp only [Act.put, List.setIfInBounds_toArray, List.set_cons_zero, List.set_cons_succ]
            refine wpAnyH_take (i := 25) (v := ?vq191) (by simp only [List.getElem?_toArray]; rfl) (by kernel_rfl) (by kernel_rfl) (by kernel_rfl) (by exact fun _ _ _ h => h) (Or.inl ⟨by rfl, ?yq191⟩) (by assumption) ?rq191
            case yq191 => (intro w hSw; (try dsimp only at hSw); go_simp; try with_reducible rfl)
            try simp only [Act.put, List.setIfInBounds_toArray, List.set_cons_zero, List.set_cons_succ]
            refine wpAnyH_take (i := 26) (v := ?vq192) (by simp only [List.getElem?_toArray]; rfl) (by kernel_rfl) (by kernel_rfl) (by kernel_rfl) (by exact fun _ _ _ h => h) (Or.inl ⟨by rfl, ?yq192⟩) (by assumption) ?rq192
            case yq192 => (intro w hSw; (try dsimp only at hSw); go_simp; try with_reducible rfl)
            try simp only [Act.put, List.setIfInBounds_toArray, List.set_cons_zero, List.set_cons_succ]
            refine wpAnyH_done (by kernel_rfl) ?_ _
            have HBD := Lib.hid HH2.out
            clear HH2
            rename_i hH
            clear hH
            go_wp2_with fail
            go_roundw
            case rel => exact ⟨k + 1, by omega, by go_num, HBD⟩
            case measure => simp [intOf]; omega
        · have hbf := Lib.hid (HBW.out.trans (HZ.out.mono HBW.out.size))
          go_wp2_with fail
          go_roundw
          case rel => exact ⟨i + 1, by omega, by go_num, hbf⟩
          case measure => simp [intOf]; omega
    · obtain rfl : i = m := by omega
      go_wp2_with fail
      go_ret
      exact ⟨rfl, HB.out⟩
end Go.Proofs.YtbcnapkbdbefhaaGreatDoor
namespace Go.Proofs.YtbcnapkbdbefhaaGreatDoor
open Go.RowKit

end Go.Proofs.YtbcnapkbdbefhaaGreatDoor

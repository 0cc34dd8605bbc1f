/- The book of lists, lists of kind Text: their marks; a list is kept. No condition. | The book of lists, lists of kind Text: the marks are written into each list. No condition. | The book of lists, lists of kind Text: forty marks more behind each list. No condition. | The book of lists, lists of kind Text: each list holds its own marks. No condition. | The book of lists, lists of kind Text: a list is told. No condition. -/
import Derived.Test.YtbcnapkbdbefhaaGreatDoorKindA
namespace Go.Proofs.YtbcnapkbdbefhaaGreatDoor
open Go.RowKit

set_option maxRecDepth 100000 in
theorem infoHText : (Tryz.prog.info? 116).map (fun i => (i.zero, i.size, i.bytes)) = some (some (.agg #[.slice none 0 0, .slice none 0 0, .int .i64 0]), 3, 56) := by kernel_rfl
set_option maxRecDepth 100000 in
theorem infoEText : (Tryz.prog.info? 9).map (fun i => (i.zero, i.size, i.bytes)) = some (some (.string .empty), 1, 16) := by kernel_rfl
def mkText (n : Nat) : List Value := [.string (wordB n)]
theorem one_mkText (n : Nat) : ∀ u ∈ mkText n, u.oneCell' = true := by
  intro u hu
  simp only [mkText, List.mem_cons, List.not_mem_nil, or_false] at hu
  subst hu; rfl
set_option maxRecDepth 100000 in
theorem markText_any (n : Nat) (hn : n < 10) (w : World) : Calls Tryz.prog 104 #[.int .i64 n] w fun e w' => e = .returned (.string (wordB n)) ∧ Below w.heap.size w w' := by
  have HW := Lib.hid (fun w' => word_any n hn w')
  have HA : Hid (∀ o, Below w.heap.size w (w.alloc o)) := Lib.hid fun o => (Below.refl _ _).alloc (Nat.le_refl _) _
  go_enter Tryz.func104, Tryz.ntmps104
  go_wp2_with fail
  refine (HW.out _).mono ?_
  rintro e w' ⟨rfl, rfl⟩
  go_wp2
  go_ret
  exact ⟨rfl, Below.refl _ _⟩
set_option maxRecDepth 100000 in
theorem isText_any (n : Nat) (hn : n < 10) (w : World) : Calls Tryz.prog 117 #[(.string (wordB n)), .int .i64 n] w fun e w' => e = .returned (.bool true) ∧ Below w.heap.size w w' := by
  have HW := Lib.hid (fun w' => word_any n hn w')
  have HA : Hid (∀ o, Below w.heap.size w (w.alloc o)) := Lib.hid fun o => (Below.refl _ _).alloc (Nat.le_refl _) _
  go_enter Tryz.func117, Tryz.ntmps117
  go_wp2_with fail
  refine (HW.out _).mono ?_
  rintro e w' ⟨rfl, rfl⟩
  go_wp2
  go_ret
  exact ⟨by first | rfl | (simp; done), by first | exact Below.refl _ _ | exact HA.out _⟩
theorem bkF_setText (M : Nat) (f : Nat → Value) (v : Value) : (bkF M f).setIfInBounds 5 v = bkF M (upd f 5 v) := rfl
set_option maxRecDepth 100000 in
set_option maxHeartbeats 8000000 in
theorem fillText_any (w : World) (base g m : Nat) (B : Array Value) (bv : Value) (L : Nat → Value) (num n : Nat → Nat) (C : Nat → List Value) (S : Nat → Prop) (hB : Blk w g B 54) (hBi : B[5]? = some bv) (hK : KSt w base g 116 9 1 m bv L (fun _ => .slice none 0 0) num n C S) (hm : m ≤ 1000) (hnum : ∀ j, j < m → num j < 10) :
    Calls Tryz.prog 37 #[.pointer (some ⟨g, 0, none⟩)] w fun e w' => e = .returned (.tuple #[]) ∧ Hid (KSt w' base g 116 9 1 m bv L (fun _ => .slice none 0 0) num n (fun j => marks (mkText (num j)) (n j)) S) ∧ Hid (Fr S w w') := by
  have HK := Lib.hid hK
  obtain ⟨va, vc, hbvs⟩ := (reads_of_own hK.own).slice
  subst hbvs
  have HB0 := Lib.hid hB
  have HSG := Lib.hid hK.sg
  have HNUM := Lib.hid hnum
  have HBI := Lib.hid hBi
  clear hK hB hnum hBi
  go_enter Tryz.func37, Tryz.ntmps37
  go_wp2_with fail
  try show Code.wp _ _ _ _ _
  go_loopw [2, 3, 4] (fun iv _ _ wr => ∃ i : Nat, i ≤ m ∧ iv = .int .i64 i ∧ ∃ C' : Nat → List Value, Hid (KSt wr base g 116 9 1 m (.slice va m vc) L (fun _ => .slice none 0 0) num n C' S) ∧ Hid (∀ j, j < i → C' j = marks (mkText (num j)) (n j)) ∧ Hid (Fr S w wr)) (fun iv _ _ _ => m - (intOf iv).toNat)
  case atStart => exact ⟨0, Nat.zero_le _, rfl, C, HK, Lib.hid (fun j hj => absurd hj (by omega)), Lib.hid (Fr.refl _ _)⟩
  case round =>
    obtain ⟨i, hi, rfl, C', HC, HD, HB⟩ := hrel
    have g1 := (HB.out.blk HB0.out HSG.out).cellv 5 (.slice va m vc) HBI.out
    by_cases hlt : i < m
    · obtain ⟨b2, off2, c2, e2, k0, k1, k2⟩ := HC.out.cells i hlt
      simp only [Value.slice.injEq] at e2
      obtain ⟨e2, _, ec⟩ := e2
      subst e2
      clear ec
      obtain ⟨x, hx⟩ : ∃ x, x = (wordB (num i)) := ⟨_, rfl⟩
      have HMKC : Hid (mkText (num i) = [.string x]) := Lib.hid (by rw [hx]; rfl)
      obtain ⟨i1, hi1⟩ : ∃ x, x = num i := ⟨_, rfl⟩
      have HMK : Hid (∀ w', Calls Tryz.prog 104 #[.int .i64 (i1 : Int)] w' fun e w'' => e = .returned (.string x) ∧ Below w'.heap.size w' w'') := Lib.hid fun w' => by rw [hi1, hx]; exact markText_any (num i) (HNUM.out i hlt) w'
      rw [← hi1] at k2
      clear hi1 hx
      have hown := HC.out.held i hlt
      obtain ⟨la, lc, hls⟩ := (reads_of_own hown).slice
      rw [hls] at k0
      have HLS := Lib.hid hls
      clear hown hls
      obtain ⟨ni, hni⟩ : ∃ x, x = n i := ⟨_, rfl⟩
      rw [← hni] at k0 HLS
      have HNI := Lib.hid hni
      clear hni
      have hnb : ni ≤ 9223372036854775807 := by
        obtain ⟨_, _, _, _, hq1, hq2, _⟩ := reads_of_own (HC.out.held i hlt)
        rw [HNI.out]; omega
      have hic : (i : Int) < (m : Int) := by omega
      go_upto_region 4 with (fail)
      obtain ⟨hb, hhb⟩ : ∃ x, x = wr.heap.size := ⟨_, rfl⟩
      have hal : Below wr.heap.size wr (wr.alloc (.cells #[.slice la ni lc, .slice none 0 0, .int .i64 (i1 : Int)] 116)) := (Below.refl _ _).alloc (Nat.le_refl _) _
      have HWB : Hid (Blk (wr.alloc (.cells #[.slice la ni lc, .slice none 0 0, .int .i64 (i1 : Int)] 116)) hb #[.slice la ni lc, .slice none 0 0, .int .i64 (i1 : Int)] 116) := Lib.hid (Blk.new_at _ _ _ _ hhb)
      have HCW := Lib.hid (HC.out.below hal)
      have HBW := Lib.hid (HB.out.trans (Fr.of_below hal))
      have HSH : Hid (∀ q, S q → q ≠ hb) := Lib.hid fun q hq e => by have := (HC.out.sb q hq).2; omega
      rw [← hhb]
      generalize wr.alloc (.cells #[.slice la ni lc, .slice none 0 0, .int .i64 (i1 : Int)] 116) = W at HWB HCW HBW ⊢
      clear hal hhb HC HB g1 k0 k1 k2
      go_wp2_with fail
      try show Code.wp _ _ _ _ _
      go_loopw [4] (fun kv wz => ∃ k : Nat, k ≤ ni ∧ kv = .int .i64 k ∧ ∃ C2 : Nat → List Value, Hid (KSt wz base g 116 9 1 m (.slice (some ⟨b2, off2, none⟩) m vc) L (fun _ => .slice none 0 0) num n C2 S) ∧ Hid (∀ j, j < i → C2 j = marks (mkText (num j)) (n j)) ∧ Hid ((C2 i).take (k * 1) = marks (mkText (num i)) k) ∧
        Hid (Blk wz hb #[.slice la ni lc, .slice none 0 0, .int .i64 (i1 : Int)] 116) ∧ Hid (Fr S w wz)) (fun kv _ => ni - (intOf kv).toNat)
      case atStart => exact ⟨0, Nat.zero_le _, rfl, C', HCW, HD, Lib.hid (by rw [Nat.zero_mul]; rfl), HWB, HBW⟩
      case round =>
        obtain ⟨k, hk, rfl, C2, HC2, HD2, HT2, HH, HB2⟩ := hrel
        obtain ⟨wz, hwz⟩ : ∃ z, z = wr := ⟨_, rfl⟩
        subst hwz
        have h0 := HH.out.cellv 0 (.slice la ni lc) rfl
        by_cases hkn : k < ni
        · have h2 := HH.out.cellv 2 (.int .i64 (i1 : Int)) rfl
          have hb0 : ∃ b, la = some ⟨b, 0, none⟩ := by
            have := HC2.out.held i hlt
            rw [HLS.out, ← HNI.out] at this
            obtain ⟨b, e, _⟩ := own_ptr this (by omega)
            exact ⟨b, e⟩
          obtain ⟨b, rfl⟩ := hb0
          have h0d : wz.drew.cell? ⟨hb, 0, none⟩ = some (.slice (some ⟨b, 0, none⟩) ni lc) := h0
          have h2d : wz.drew.cell? ⟨hb, 2, none⟩ = some (.int .i64 (i1 : Int)) := h2
          have hkc : (k : Int) < (ni : Int) := by omega
          have HDR : Hid (Below wz.heap.size wz wz.drew) := Lib.hid (Below.refl _ _).drew
          go_upto_region 7 with (fail)
          clear h0 h2
          refine wp_region_held_drew (S := fun w' => w'.cell? ⟨hb, 0, none⟩ = some (.slice (some ⟨b, 0, none⟩) ni lc) ∧ w'.cell? ⟨hb, 2, none⟩ = some (.int .i64 (i1 : Int))) (by kernel_rfl) (⟨h0d, h2d⟩) (fun hHeld => ?_)
          refine wpAnyH_take (i := 0) (v := ?vq17) (by simp only [List.getElem?_toArray]; rfl) (by kernel_rfl) (by kernel_rfl) (by kernel_rfl) (by exact fun _ _ _ h => h) (Or.inl ⟨by rfl, ?yq17⟩) (by assumption) ?rq17
          case yq17 => (intro w hSw; (try dsimp only at hSw); go_simp; try with_reducible rfl)
          try simp only [Act.put, List.setIfInBounds_toArray, List.set_cons_zero, List.set_cons_succ]
          refine wpAnyH_take (i := 1) (v := ?vq18) (by simp only [List.getElem?_toArray]; rfl) (by kernel_rfl) (by kernel_rfl) (by kernel_rfl) (by exact fun _ _ _ h => h) (Or.inl ⟨by rfl, ?yq18⟩) (by assumption) ?rq18
          case yq18 => (intro w hSw; (try dsimp only at hSw); go_simp; try with_reducible rfl)
          try simp only [Act.put, List.setIfInBounds_toArray, List.set_cons_zero, List.set_cons_succ]
          refine wpAnyH_take (i := 2) (v := ?vq19) (by simp only [List.getElem?_toArray]; rfl) (by kernel_rfl) (by kernel_rfl) (by kernel_rfl) (by exact fun _ _ _ h => h) (Or.inl ⟨by rfl, ?yq19⟩) (by assumption) ?rq19
          case yq19 => (intro w hSw; (try dsimp only at hSw); go_simp; try with_reducible rfl)
          try simp only [Act.put, List.setIfInBounds_toArray, List.set_cons_zero, List.set_cons_succ]
          refine wpAnyH_take (i := 3) (v := ?vq20) (by simp only [List.getElem?_toArray]; rfl) (by kernel_rfl) (by kernel_rfl) (by kernel_rfl) (by exact fun _ _ _ h => h) (Or.inl ⟨by rfl, ?yq20⟩) (by assumption) ?rq20
          case yq20 => (intro w hSw; (try dsimp only at hSw); go_simp; try with_reducible rfl)
          try simp only [Act.put, List.setIfInBounds_toArray, List.set_cons_zero, List.set_cons_succ]
          refine wpAnyH_take (i := 4) (v := ?vq21) (by simp only [List.getElem?_toArray]; rfl) (by kernel_rfl) (by kernel_rfl) (by kernel_rfl) (by exact fun _ _ _ h => h) (Or.inl ⟨by rfl, ?yq21⟩) (by assumption) ?rq21
          case yq21 => (intro w hSw; (try dsimp only at hSw); go_simp; try with_reducible rfl)
          try simp only [Act.put, List.setIfInBounds_toArray, List.set_cons_zero, List.set_cons_succ]
          refine wpAnyH_ready (rs := [5]) (by kernel_rfl) (by simp) ?_
          refine AllReadyH.cons (by simp only [List.getElem?_toArray]; rfl) (fun K hK => ?_) AllReadyH.nil
          go_simp
          refine (HMK.out _).mono ?_
          rintro e wm ⟨rfl, bm⟩
          have HBm := Lib.hid (HDR.out.trans (bm.mono HDR.out.size))
          have HCm := Lib.hid (HC2.out.below HBm.out)
          have HHm := Lib.hid (HH.out.below HBm.out)
          have HFm := Lib.hid (HB2.out.trans (Fr.of_below HBm.out))
          have HOW : Own wm base 9 1 (.slice (some ⟨b, 0, none⟩) ni lc) ni (C2 i) := by
            have := HCm.out.held i hlt
            rw [HLS.out, ← HNI.out] at this
            exact this
          have hL : rowOf (L i) = some b := by rw [HLS.out]; exact rowOf_pos (own_room HOW (by omega))
          have hSb : S b := HCm.out.ls i hlt b hL
          have hbb : b ≠ hb := HSH.out b hSb
          obtain ⟨y0, _, ck0⟩ := own_cellv HOW (k) (by omega)
          have fk0 := own_free HOW (k) (by omega)
          have hON : Only wm (wm.setCell ⟨b, k, none⟩ (.string x)) b := (Only.set wm b k (.string x))
          have HST : Hid (KSt (wm.setCell ⟨b, k, none⟩ (.string x)) base g 116 9 1 m (.slice (some ⟨b2, off2, none⟩) m vc) L (fun _ => .slice none 0 0) num n (fun j => if j = i then (C2 i).set k (.string x) else C2 j) S) := Lib.hid (HCm.out.write i hlt hL hON (by
            simp only [if_true]
            rw [HLS.out, ← HNI.out]
            exact own_storeG HOW k (by omega) (.string x)) (fun j hj => by simp only [if_neg hj]))
          have HHS : Hid (Blk (wm.setCell ⟨b, k, none⟩ (.string x)) hb #[.slice (some ⟨b, 0, none⟩) ni lc, .slice none 0 0, .int .i64 (i1 : Int)] 116) := Lib.hid (HHm.out.only hON (fun e => hbb e.symm))
          have HBS : Hid (Fr S w (wm.setCell ⟨b, k, none⟩ (.string x))) := Lib.hid (HFm.out.trans (Fr.of_only hON hSb))
          have HTS : Hid (((C2 i).set k (.string x)).take ((k + 1) * 1) = marks (mkText (num i)) (k + 1)) := Lib.hid (by
            rw [marks_next, ← HT2.out, HMKC.out]
            first | exact take_setV _ _ _ (by rw [HC2.out.len i hlt, ← HNI.out]; omega) | (simp only [Nat.mul_one]; exact take_setV _ _ _ (by rw [HC2.out.len i hlt, ← HNI.out]; omega)))
          have HKP : Hid ((wm.setCell ⟨b, k, none⟩ (.string x)).cell? ⟨hb, 0, none⟩ = some (.slice (some ⟨b, 0, none⟩) ni lc) ∧ (wm.setCell ⟨b, k, none⟩ (.string x)).cell? ⟨hb, 2, none⟩ = some (.int .i64 (i1 : Int))) := Lib.hid ⟨HHS.out.cellv 0 _ rfl, HHS.out.cellv 2 _ rfl⟩
          have HKM : Hid (wm.cell? ⟨hb, 0, none⟩ = some (.slice (some ⟨b, 0, none⟩) ni lc) ∧ wm.cell? ⟨hb, 2, none⟩ = some (.int .i64 (i1 : Int))) := Lib.hid ⟨HHm.out.cellv 0 _ rfl, HHm.out.cellv 2 _ rfl⟩
          clear hL hON hSb HOW bm HCm HHm HFm HBm
          refine hK.out _ _ (HKM.out) (fun hHeld => ?_)
          clear hK K
          try simp only [Act.put, List.setIfInBounds_toArray, List.set_cons_zero, List.set_cons_succ]
          refine wpAnyH_take (i := 6) (v := ?vq22) (by simp only [List.getElem?_toArray]; rfl) (by kernel_rfl) (by kernel_rfl) (by kernel_rfl) (by exact fun _ _ _ h => h) (Or.inl ⟨by rfl, ?yq22⟩) (by assumption) ?rq22
          case yq22 => (intro w hSw; (try dsimp only at hSw); go_simp; try with_reducible rfl)
          try simp only [Act.put, List.setIfInBounds_toArray, List.set_cons_zero, List.set_cons_succ]
          refine wpAnyH_ready (rs := [7]) (by kernel_rfl) (by simp) ?_
          refine AllReadyH.cons (by simp only [List.getElem?_toArray]; rfl) (fun K hK => ?_) AllReadyH.nil
          go_simp
          refine hK.out _ _ (HKP.out) (fun hHeld => ?_)
          clear hK K
          try simp only [Act.put, List.setIfInBounds_toArray, List.set_cons_zero, List.set_cons_succ]
          refine wpAnyH_done (by kernel_rfl) ?_ _
          rename_i hH
          generalize (wm.setCell ⟨b, k, none⟩ (.string x)) = wt at HST HHS HBS ⊢
          clear hH h0d h2d
          clear ck0 fk0
          go_wp2_with fail
          go_roundw
          case rel => exact ⟨k + 1, by omega, by go_num, _, HST, Lib.hid (fun j hj => by rw [if_neg (by omega)]; exact HD2.out j hj), Lib.hid (by rw [if_pos rfl]; exact HTS.out), HHS, HBS⟩
          case measure => simp [intOf]; omega
        · have hkn2 : k = ni := by omega
          have HDN : Hid (∀ j, j < i + 1 → C2 j = marks (mkText (num j)) (n j)) := Lib.hid fun j hj => by
            by_cases e : j = i
            · subst e
              exact marks_full (HC2.out.len j hlt) (hkn2.trans HNI.out) HT2.out
            · exact HD2.out j (by omega)
          clear hkn2
          go_wp2_with fail
          go_roundw
          case rel => exact ⟨i + 1, by omega, by go_num, C2, HC2, HDN, HB2⟩
          case measure => simp [intOf]; omega
    · obtain rfl : i = m := by omega
      have HCF : Hid (KSt wr base g 116 9 1 i (.slice va i vc) L (fun _ => .slice none 0 0) num n (fun j => marks (mkText (num j)) (n j)) S) :=
        Lib.hid ⟨HC.out.own, fun j hj => by rw [← HD.out j hj]; exact HC.out.held j hj, HC.out.bs, HC.out.ls, HC.out.lb, HC.out.ap, HC.out.sg, HC.out.sb⟩
      go_wp2_with fail
      go_end0
      exact ⟨rfl, HCF, HB⟩
end Go.Proofs.YtbcnapkbdbefhaaGreatDoor
namespace Go.Proofs.YtbcnapkbdbefhaaGreatDoor
open Go.RowKit

set_option maxRecDepth 100000 in
set_option maxHeartbeats 8000000 in
theorem growText_any (w : World) (base g m : Nat) (B : Array Value) (bv : Value) (L : Nat → Value) (num n : Nat → Nat) (S : Nat → Prop) (hB : Blk w g B 54) (hBi : B[5]? = some bv) (hK : KSt w base g 116 9 1 m bv L (fun _ => .slice none 0 0) num n (fun j => marks (mkText (num j)) (n j)) S) (hm : m ≤ 1000) (hnum : ∀ j, j < m → num j < 10) (hbw : base ≤ w.heap.size) (hn : ∀ j, j < m → n j ≤ 1000000000) :
    Calls Tryz.prog 50 #[.pointer (some ⟨g, 0, none⟩)] w fun e w' => e = .returned (.tuple #[]) ∧ Hid (∃ G, KGw w' base g 116 9 1 m bv L G num n (fun j => mkText (num j)) S m ∧ ∀ j, j < m → ∀ b, rowOf (G j) = some b → S b ∨ w.heap.size ≤ b) ∧ Hid (Fr S w w') := by
  obtain ⟨va, vc, hbvs⟩ := (reads_of_own hK.own).slice
  subst hbvs
  obtain ⟨i0, hi0, hz, hz1, hz2⟩ := info_parts infoEText
  have HK : Hid (KGw w base g 116 9 1 m (.slice va m vc) L (fun _ => .slice none 0 0) num n (fun j => mkText (num j)) S 0) := Lib.hid ⟨hK, fun j hj => absurd hj (by omega), fun j _ => rfl, fun j hj => absurd hj (by omega), fun j hj => absurd hj (by omega), fun j k hj => absurd hj (by omega), fun j k hj => absurd hj (by omega)⟩
  have HB0 := Lib.hid hB
  have HSG := Lib.hid hK.sg
  have HNUM := Lib.hid hnum
  have HBI := Lib.hid hBi
  have HN := Lib.hid hn
  have HBS : Hid (∀ b, rowOf (Value.slice va m vc) = some b → S b) := Lib.hid hK.bs
  have HLS0 : Hid (∀ j, j < m → ∀ b, rowOf (L j) = some b → S b) := Lib.hid hK.ls
  clear hK hn hB hnum hBi
  go_enter Tryz.func50, Tryz.ntmps50
  go_wp2_with fail
  try show Code.wp _ _ _ _ _
  go_loopw [2, 3, 4, 5] (fun iv _ _ _ wr => ∃ i : Nat, i ≤ m ∧ iv = .int .i64 i ∧ ∃ G : Nat → Value, Hid (KGw wr base g 116 9 1 m (.slice va m vc) L G num n (fun j => mkText (num j)) S i) ∧ Hid (∀ j, j < i → ∀ b, rowOf (G j) = some b → S b ∨ w.heap.size ≤ b) ∧ Hid (Fr S w wr)) (fun iv _ _ _ _ => m - (intOf iv).toNat)
  case atStart => exact ⟨0, Nat.zero_le _, rfl, _, HK, Lib.hid (fun j hj => absurd hj (by omega)), Lib.hid (Fr.refl _ _)⟩
  case round =>
    obtain ⟨i, hi, rfl, G, HC, HGS, HB⟩ := hrel
    have g1 := (HB.out.blk HB0.out HSG.out).cellv 5 (.slice va m vc) HBI.out
    by_cases hlt : i < m
    · have hb0 : ∃ b, va = some ⟨b, 0, none⟩ := by
        obtain ⟨b, e, _⟩ := own_ptr HC.out.bk.own (by omega)
        exact ⟨b, e⟩
      obtain ⟨b2, hb2⟩ := hb0
      subst hb2
      obtain ⟨b3, off3, c3, e3, k0, k1, k2⟩ := HC.out.bk.cells i hlt
      simp only [Value.slice.injEq, Option.some.injEq, Addr.mk.injEq, and_true, true_and] at e3
      obtain ⟨⟨e4, e5⟩, e6⟩ := e3
      rw [← e4, ← e5, Nat.zero_add] at k0 k1 k2
      rw [HC.out.nil i (Nat.le_refl _)] at k1
      clear e4 e5 e6
      obtain ⟨x, hx⟩ : ∃ x, x = (wordB (num i)) := ⟨_, rfl⟩
      have HMKC : Hid (mkText (num i) = [.string x]) := Lib.hid (by rw [hx]; rfl)
      obtain ⟨i1, hi1⟩ : ∃ x, x = num i := ⟨_, rfl⟩
      have HMK : Hid (∀ w', Calls Tryz.prog 104 #[.int .i64 (i1 : Int)] w' fun e w'' => e = .returned (.string x) ∧ Below w'.heap.size w' w'') := Lib.hid fun w' => by rw [hi1, hx]; exact markText_any (num i) (HNUM.out i hlt) w'
      rw [← hi1] at k2
      clear hi1 hx
      have hown := HC.out.bk.held i hlt
      obtain ⟨la, lc, hls⟩ := (reads_of_own hown).slice
      rw [hls] at k0
      have HLS := Lib.hid hls
      clear hown hls
      obtain ⟨ni, hni⟩ : ∃ x, x = n i := ⟨_, rfl⟩
      rw [← hni] at k0 HLS
      have HNI := Lib.hid hni
      clear hni
      have hnb : ni ≤ 1000000000 := by rw [HNI.out]; exact HN.out i hlt
      have hic : (i : Int) < (m : Int) := by omega
      go_upto_region 4 with (fail)
      obtain ⟨hb, hhb⟩ : ∃ x, x = wr.heap.size := ⟨_, rfl⟩
      have hal : Below wr.heap.size wr (wr.alloc (.cells #[.slice la ni lc, .slice none 0 0, .int .i64 (i1 : Int)] 116)) := (Below.refl _ _).alloc (Nat.le_refl _) _
      have HWB : Hid (Blk (wr.alloc (.cells #[.slice la ni lc, .slice none 0 0, .int .i64 (i1 : Int)] 116)) hb #[.slice la ni lc, .slice none 0 0, .int .i64 (i1 : Int)] 116) := Lib.hid (Blk.new_at _ _ _ _ hhb)
      have HCW := Lib.hid (HC.out.below hal)
      have HBW := Lib.hid (HB.out.trans (Fr.of_below hal))
      have HNE : Hid (rowOf (L i) ≠ some hb) := Lib.hid fun e => by have := HC.out.bk.lw i hlt hb e; omega
      have HGW : Hid (g < (wr.alloc (.cells #[.slice la ni lc, .slice none 0 0, .int .i64 (i1 : Int)] 116)).heap.size) := Lib.hid (Nat.lt_of_lt_of_le (HB.out.blk HB0.out HSG.out).lt hal.size)
      rw [← hhb]
      generalize wr.alloc (.cells #[.slice la ni lc, .slice none 0 0, .int .i64 (i1 : Int)] 116) = W at HWB HCW HBW HGW ⊢
      clear hal hhb HC HB g1 k0 k1 k2
      have HOT : Hid (∀ u, Oth g hb m i (.slice (some ⟨b2, 0, none⟩) m vc) L G u → ApartR W u (.slice la ni lc)) := Lib.hid (by
        rw [← HLS.out]; exact HCW.out.start hlt HGW.out HWB.out.lt HNE.out)
      have HLO : Hid (Own W base 9 1 (.slice la ni lc) ni (marks (mkText (num i)) ni)) := Lib.hid (by
        have := HCW.out.bk.held i hlt
        rw [HLS.out, ← HNI.out] at this
        exact this)
      have HSS : Hid (∀ b, rowOf (Value.slice la ni lc) = some b → S b ∨ w.heap.size ≤ b) := Lib.hid fun b hb => .inl (HLS0.out i hlt b (by rw [HLS.out]; exact hb))
      have h0 := HWB.out.cellv 0 (.slice la ni lc) rfl
      go_wp2_with fail
      try show Code.wp _ _ _ _ _
      go_loopw [4, 5] (fun lv kv wz => ∃ k : Nat, k ≤ 40 ∧ kv = .int .i64 k ∧ (∃ xa xn xc, lv = .slice xa xn xc ∧ xn = ni + k ∧ Hid (Own wz base 9 1 (.slice xa xn xc) xn (marks (mkText (num i)) xn)) ∧ Hid (∀ u, Oth g hb m i (.slice (some ⟨b2, 0, none⟩) m vc) L G u → ApartR wz u (.slice xa xn xc)) ∧ Hid (∀ b, rowOf (Value.slice xa xn xc) = some b → S b ∨ w.heap.size ≤ b)) ∧
        Hid (KGw wz base g 116 9 1 m (.slice (some ⟨b2, 0, none⟩) m vc) L G num n (fun j => mkText (num j)) S i) ∧ Hid (Blk wz hb #[.slice la ni lc, .slice none 0 0, .int .i64 (i1 : Int)] 116) ∧ Hid (Fr S w wz)) (fun _ kv _ => 40 - (intOf kv).toNat)
      case atStart => exact ⟨0, by omega, rfl, ⟨la, ni, lc, rfl, rfl, HLO, HOT, HSS⟩, HCW, HWB, HBW⟩
      case round =>
        obtain ⟨k, hk, rfl, ⟨xa, xn, xc, rfl, hxn, HX, HO, HXS⟩, HG2, HH, HB2⟩ := hrel
        have HXN := Lib.hid hxn
        have hxb : xn ≤ 2000000000 := by omega
        clear hxn h0
        obtain ⟨wz, hwz⟩ : ∃ z, z = wr := ⟨_, rfl⟩
        subst hwz
        by_cases hk40 : k < 40
        · have h2 := HH.out.cellv 2 (.int .i64 (i1 : Int)) rfl
          go_upto_region 8 with (fail)
          go_wp2_with fail
          refine (HMK.out _).mono ?_
          rintro e wm ⟨rfl, bm⟩
          have HAL : Hid (Below wz.heap.size wz (wm.alloc (.cells #[.string x] 9))) := Lib.hid (bm.trans ((Below.refl _ _).alloc bm.size _))
          have HRD : Hid (Reads (wm.alloc (.cells #[.string x] 9)) 1 (.slice (some ⟨wm.heap.size, 0, none⟩) 1 1) 1 (mkText (num i))) := Lib.hid (by rw [HMKC.out]; exact reads_new wm #[.string x] _ 1 1 rfl (by unfold maxLen; omega))
          have HBZ : Hid (base ≤ (wm.alloc (.cells #[.string x] 9)).heap.size) := Lib.hid (Nat.le_trans (Nat.le_trans hbw HB2.out.size) HAL.out.size)
          clear bm h2
          go_wp2_with (at_builtin; go_loud (refine wp_app_oneG rfl _ _ rfl Tryz.underlying77 hi0 hz hz1 hz2 rfl (by omega) base xn (.slice xa xn xc) ⟨wm.heap.size, 0, none⟩ 1 (marks (mkText (num i)) xn) (mkText (num i)) (marks (mkText (num i)) (xn + 1)) (xn + 1) rfl rfl (own_below HX.out HAL.out) HRD.out (one_mkText _) rfl (marks_next _ _).symm (by omega) (by omega) HBZ.out ?_); intro ya yc w7 HY HGR HLE)
          have hgw : KGw w7 base g 116 9 1 m (.slice (some ⟨b2, 0, none⟩) m vc) L G num n (fun j => mkText (num j)) S i := (HG2.out.below HAL.out).app (hb := hb) HGR.out HLE.out (by rw [← HNI.out, HXN.out]; omega) (fun u hu => (HO.out u hu).later HAL.out.size)
          have hot : ∀ u, Oth g hb m i (.slice (some ⟨b2, 0, none⟩) m vc) L G u → ApartR w7 u (.slice ya (xn + 1) yc) := fun u hu => HGR.out.apart u ((HO.out u hu).later HAL.out.size)
          have hbh := (HH.out.below HAL.out).grown HGR.out.rows (fun e => (HO.out _ (.inr (.inl rfl)) hb rfl).2 e.symm)
          have hb7 : Fr S w w7 := (HB2.out.trans (Fr.of_below HAL.out)).trans' (Fr.of_grown (S := fun b => rowOf (Value.slice xa xn xc) = some b) HGR.out.rows fun _ e => e) HXS.out
          have hs7 : ∀ b, rowOf (Value.slice ya (xn + 1) yc) = some b → S b ∨ w.heap.size ≤ b := fun b hb' => by
            rcases grew_from HGR.out b hb' with h | h
            · exact HXS.out b h
            · exact .inr (Nat.le_trans (Nat.le_trans HB2.out.size HAL.out.size) h)
          exact ⟨⟨k + 1, by omega, by go_num, ⟨ya, xn + 1, yc, rfl, by rw [HXN.out]; omega, HY, Lib.hid hot, Lib.hid hs7⟩, Lib.hid hgw, Lib.hid hbh, Lib.hid hb7⟩, by simp [intOf]; omega⟩
        · obtain rfl : k = 40 := by omega
          have hx40 := HXN.out
          have hlo : Own wz base 9 1 (.slice xa xn xc) (n i + 40) (marks (mkText (num i)) (n i + 40)) := by
            have := HX.out
            rw [hx40, HNI.out] at this
            rw [hx40, HNI.out]
            exact this
          have HNX := Lib.hid (HG2.out.next hlt hlo HO.out)
          have HGN : Hid (∀ j, j < i + 1 → ∀ b, rowOf ((fun j => if j = i then (Value.slice xa xn xc) else G j) j) = some b → S b ∨ w.heap.size ≤ b) := Lib.hid fun j hj b hb' => by
            by_cases e : j = i
            · simp only [if_pos e] at hb'
              exact HXS.out b hb'
            · simp only [if_neg e] at hb'
              exact HGS.out j (by omega) b hb'
          have g1 := (HB2.out.blk HB0.out HSG.out).cellv 5 (.slice (some ⟨b2, 0, none⟩) m vc) HBI.out
          have fr := own_free HG2.out.bk.own (i * 3 + 1) (by omega)
          obtain ⟨b3, off3, c3, e3, _, k1, _⟩ := HG2.out.bk.cells i hlt
          simp only [Value.slice.injEq, Option.some.injEq, Addr.mk.injEq, and_true, true_and] at e3
          obtain ⟨⟨e4, e5⟩, e6⟩ := e3
          rw [← e4, ← e5, Nat.zero_add] at k1
          have HBZ := Lib.hid (HB2.out.trans (Fr.of_only (Only.set wz b2 (i * 3 + 1) (.slice xa xn xc)) (HBS.out b2 (rowOf_pos (own_room HG2.out.bk.own (by omega))))))
          clear e4 e5 e6 hx40 hlo
          go_upto_region 2 with (fail)
          clear g1 fr k1 hk hk40
          generalize wz.setCell ⟨b2, i * 3 + 1, none⟩ (.slice xa xn xc) = ws at HNX HBZ ⊢
          go_wp2_with fail
          go_roundw
          case rel => exact ⟨i + 1, by omega, by go_num, _, HNX, HGN, HBZ⟩
          case measure => simp [intOf]; omega
    · obtain rfl : i = m := by omega
      go_wp2_with fail
      go_end0
      exact ⟨rfl, Lib.hid ⟨G, HC.out, HGS.out⟩, HB⟩
end Go.Proofs.YtbcnapkbdbefhaaGreatDoor
namespace Go.Proofs.YtbcnapkbdbefhaaGreatDoor
open Go.RowKit

set_option maxRecDepth 100000 in
set_option maxHeartbeats 8000000 in
theorem lookText_any (w : World) (base g m : Nat) (B : Array Value) (bv : Value) (L G : Nat → Value) (num n : Nat → Nat) (S : Nat → Prop) (hB : Blk w g B 54) (hBi : B[5]? = some bv) (hK : KGw w base g 116 9 1 m bv L G num n (fun j => mkText (num j)) S m) (hm : m ≤ 1000) (hnum : ∀ j, j < m → num j < 10) (hn : ∀ j, j < m → n j ≤ 1000000000) :
    Calls Tryz.prog 63 #[.pointer (some ⟨g, 0, none⟩)] w fun e w' => e = .returned (.bool true) ∧ Below w.heap.size w w' := by
  obtain ⟨va, vc, hbvs⟩ := (reads_of_own hK.bk.own).slice
  subst hbvs
  have HK := Lib.hid hK
  have HN := Lib.hid hn
  have HB0 := Lib.hid hB
  have HNUM := Lib.hid hnum
  have HBI := Lib.hid hBi
  clear hK hn hB hnum hBi
  go_enter Tryz.func63, Tryz.ntmps63
  go_wp2_with fail
  try show Code.wp _ _ _ _ _
  go_loopw [3, 4, 5] (fun iv _ _ wr => ∃ i : Nat, i ≤ m ∧ iv = .int .i64 i ∧ Hid (Below w.heap.size w wr)) (fun iv _ _ _ => m - (intOf iv).toNat)
  case atStart => exact ⟨0, Nat.zero_le _, rfl, Lib.hid (Below.refl _ _)⟩
  case round =>
    obtain ⟨i, hi, rfl, HB⟩ := hrel
    obtain ⟨wr, hwr⟩ := the_world HB.out
    subst hwr
    have HC := Lib.hid (HK.out.below HB.out)
    have g1 := (HB0.out.below HB.out).cellv 5 (.slice va m vc) HBI.out
    by_cases hlt : i < m
    · obtain ⟨b3, off3, c3, e3, k0, k1, k2⟩ := HC.out.bk.cells i hlt
      simp only [Value.slice.injEq, true_and] at e3
      obtain ⟨e4, e6⟩ := e3
      subst e4
      clear e6
      obtain ⟨x, hx⟩ : ∃ x, x = (wordB (num i)) := ⟨_, rfl⟩
      have HMKC : Hid (mkText (num i) = [.string x]) := Lib.hid (by rw [hx]; rfl)
      obtain ⟨i1, hi1⟩ : ∃ x, x = num i := ⟨_, rfl⟩
      have HIS : Hid (∀ w', Calls Tryz.prog 117 #[(.string x), .int .i64 (i1 : Int)] w' fun e w'' => e = .returned (.bool true) ∧ Below w'.heap.size w' w'') := Lib.hid fun w' => by
        rw [hi1, hx]; exact isText_any (num i) (HNUM.out i hlt) w'
      rw [← hi1] at k2
      clear hi1 hx
      have hown := HC.out.bk.held i hlt
      obtain ⟨la, lc, hls⟩ := (reads_of_own hown).slice
      rw [hls] at k0 hown
      have hog := HC.out.own i hlt
      obtain ⟨ga, gc, hgs⟩ := (reads_of_own hog).slice
      rw [hgs] at k1 hog
      obtain ⟨ni, hni⟩ : ∃ x, x = n i := ⟨_, rfl⟩
      rw [← hni] at k0 k1 hown hog
      have hnb : ni ≤ 1000000000 := by rw [hni]; exact HN.out i hlt
      obtain ⟨ng, hng⟩ : ∃ x, x = ni + 40 := ⟨_, rfl⟩
      rw [← hng] at k1 hog
      have hngi : (ni : Int) + 40 = (ng : Int) := by omega
      have hngw : IntKind.i64.wrap (ng : Int) = (ng : Int) := IntWalk.i64_in _ (by omega)
      have hneq : ((ng : Int) != (ng : Int)) = false := by simp
      obtain ⟨bg, hga, _⟩ := own_ptr hog (by omega)
      subst hga
      have HOW := Lib.hid hown
      have HOG := Lib.hid hog
      have HNG := Lib.hid hng
      clear hown hog hls hgs hni hng
      go_upto_region 5 with (fail)
      obtain ⟨hb, hhb⟩ : ∃ x, x = wr.heap.size := ⟨_, rfl⟩
      have hal : Below wr.heap.size wr (wr.alloc (.cells #[.slice la ni lc, .slice (some ⟨bg, 0, none⟩) ng gc, .int .i64 (i1 : Int)] 116)) := (Below.refl _ _).alloc (Nat.le_refl _) _
      have HWB : Hid (Blk (wr.alloc (.cells #[.slice la ni lc, .slice (some ⟨bg, 0, none⟩) ng gc, .int .i64 (i1 : Int)] 116)) hb #[.slice la ni lc, .slice (some ⟨bg, 0, none⟩) ng gc, .int .i64 (i1 : Int)] 116) := Lib.hid (Blk.new_at _ _ _ _ hhb)
      have HBW := Lib.hid (HB.out.trans (hal.mono HB.out.size))
      have HOW2 := Lib.hid (own_below HOW.out hal)
      have HOG2 := Lib.hid (own_below HOG.out hal)
      rw [← hhb]
      generalize wr.alloc (.cells #[.slice la ni lc, .slice (some ⟨bg, 0, none⟩) ng gc, .int .i64 (i1 : Int)] 116) = W at HWB HBW HOW2 HOG2 ⊢
      clear hal hhb HC HB HOW HOG g1 k0 k1 k2
      have h0 := HWB.out.cellv 0 (.slice la ni lc) rfl
      have h1 := HWB.out.cellv 1 (.slice (some ⟨bg, 0, none⟩) ng gc) rfl
      go_upto_region 8 with (fail)
      go_loopw [5] (fun kv wz => ∃ k : Nat, k ≤ ng ∧ kv = .int .i64 k ∧ Hid (Below W.heap.size W wz)) (fun kv _ => ng - (intOf kv).toNat)
      case atStart => exact ⟨0, Nat.zero_le _, rfl, Lib.hid (Below.refl _ _)⟩
      case round =>
        obtain ⟨k, hk, rfl, HZ⟩ := hrel
        obtain ⟨wz, hwz⟩ : ∃ z, z = wr := ⟨_, rfl⟩
        subst hwz
        clear h0 h1
        have h1 := (HWB.out.below HZ.out).cellv 1 (.slice (some ⟨bg, 0, none⟩) ng gc) rfl
        by_cases hkg : k < ng
        · have HZD := Lib.hid (HZ.out.drew)
          have hkgc : (k : Int) < (ng : Int) := by omega
          have eg0 : ∀ w', Below W.heap.size W w' → w'.cell? ⟨bg, k, none⟩ = some (.string x) := fun w' hq => by
            have := mark_cell (own_below HOG2.out hq) (sz := 1) (by rw [HMKC.out]; rfl) k 0 (by omega) (by omega) (.string x) (by rw [HMKC.out]; rfl)
            simpa using this
          have eg0H := Lib.hid eg0
          clear eg0
          by_cases hki : k < ni
          · have hb0 : ∃ b, la = some ⟨b, 0, none⟩ := by
              obtain ⟨b, e, _⟩ := own_ptr HOW2.out (by omega)
              exact ⟨b, e⟩
            obtain ⟨bl, rfl⟩ := hb0
            have hkic : (k : Int) < (ni : Int) := by omega
            have el0 : ∀ w', Below W.heap.size W w' → w'.cell? ⟨bl, k, none⟩ = some (.string x) := fun w' hq => by
              have := mark_cell (own_below HOW2.out hq) (sz := 1) (by rw [HMKC.out]; rfl) k 0 (by omega) (by omega) (.string x) (by rw [HMKC.out]; rfl)
              simpa using this
            have el0H := Lib.hid el0
            clear el0
            have HSW : Hid (∀ w', Below W.heap.size W w' → w'.cell? ⟨hb, 0, none⟩ = some (.slice (some ⟨bl, 0, none⟩) ni lc) ∧ w'.cell? ⟨hb, 1, none⟩ = some (.slice (some ⟨bg, 0, none⟩) ng gc) ∧ w'.cell? ⟨hb, 2, none⟩ = some (.int .i64 (i1 : Int)) ∧ (w'.cell? ⟨bg, k, none⟩ = some (.string x)) ∧ (w'.cell? ⟨bl, k, none⟩ = some (.string x)) ∧ Below W.heap.size W w') := Lib.hid fun w' hq => ⟨(HWB.out.below hq).cellv 0 _ rfl, (HWB.out.below hq).cellv 1 _ rfl, (HWB.out.below hq).cellv 2 _ rfl, eg0H.out w' hq, el0H.out w' hq, hq⟩
            go_upto_region 10 with (fail)
            clear h1
            refine wp_region_held_drew (S := fun w' => w'.cell? ⟨hb, 0, none⟩ = some (.slice (some ⟨bl, 0, none⟩) ni lc) ∧ w'.cell? ⟨hb, 1, none⟩ = some (.slice (some ⟨bg, 0, none⟩) ng gc) ∧ w'.cell? ⟨hb, 2, none⟩ = some (.int .i64 (i1 : Int)) ∧ (w'.cell? ⟨bg, k, none⟩ = some (.string x)) ∧ (w'.cell? ⟨bl, k, none⟩ = some (.string x)) ∧ Below W.heap.size W w') (by kernel_rfl) (HSW.out _ HZD.out) (fun hHeld => ?_)
            refine wpAnyH_take (i := 0) (v := ?vq23) (by simp only [List.getElem?_toArray]; rfl) (by kernel_rfl) (by kernel_rfl) (by kernel_rfl) (by exact fun _ _ _ h => h) (Or.inl ⟨by rfl, ?yq23⟩) (by assumption) ?rq23
            case yq23 => (intro w hSw; (try dsimp only at hSw); go_simp; try with_reducible rfl)
            try simp only [Act.put, List.setIfInBounds_toArray, List.set_cons_zero, List.set_cons_succ]
            refine wpAnyH_take (i := 1) (v := ?vq24) (by simp only [List.getElem?_toArray]; rfl) (by kernel_rfl) (by kernel_rfl) (by kernel_rfl) (by exact fun _ _ _ h => h) (Or.inl ⟨by rfl, ?yq24⟩) (by assumption) ?rq24
            case yq24 => (intro w hSw; (try dsimp only at hSw); go_simp; try with_reducible rfl)
            try simp only [Act.put, List.setIfInBounds_toArray, List.set_cons_zero, List.set_cons_succ]
            refine wpAnyH_take (i := 2) (v := ?vq25) (by simp only [List.getElem?_toArray]; rfl) (by kernel_rfl) (by kernel_rfl) (by kernel_rfl) (by exact fun _ _ _ h => h) (Or.inl ⟨by rfl, ?yq25⟩) (by assumption) ?rq25
            case yq25 => (intro w hSw; (try dsimp only at hSw); go_simp; try with_reducible rfl)
            try simp only [Act.put, List.setIfInBounds_toArray, List.set_cons_zero, List.set_cons_succ]
            refine wpAnyH_take (i := 3) (v := ?vq26) (by simp only [List.getElem?_toArray]; rfl) (by kernel_rfl) (by kernel_rfl) (by kernel_rfl) (by exact fun _ _ _ h => h) (Or.inl ⟨by rfl, ?yq26⟩) (by assumption) ?rq26
            case yq26 => (intro w hSw; (try dsimp only at hSw); go_simp; try with_reducible rfl)
            try simp only [Act.put, List.setIfInBounds_toArray, List.set_cons_zero, List.set_cons_succ]
            refine wpAnyH_take (i := 4) (v := ?vq27) (by simp only [List.getElem?_toArray]; rfl) (by kernel_rfl) (by kernel_rfl) (by kernel_rfl) (by exact fun _ _ _ h => h) (Or.inl ⟨by rfl, ?yq27⟩) (by assumption) ?rq27
            case yq27 => (intro w hSw; (try dsimp only at hSw); go_simp; try with_reducible rfl)
            try simp only [Act.put, List.setIfInBounds_toArray, List.set_cons_zero, List.set_cons_succ]
            refine wpAnyH_take (i := 5) (v := ?vq28) (by simp only [List.getElem?_toArray]; rfl) (by kernel_rfl) (by kernel_rfl) (by kernel_rfl) (by exact fun _ _ _ h => h) (Or.inl ⟨by rfl, ?yq28⟩) (by assumption) ?rq28
            case yq28 => (intro w hSw; (try dsimp only at hSw); go_simp; try with_reducible rfl)
            try simp only [Act.put, List.setIfInBounds_toArray, List.set_cons_zero, List.set_cons_succ]
            refine wpAnyH_take (i := 6) (v := ?vq29) (by simp only [List.getElem?_toArray]; rfl) (by kernel_rfl) (by kernel_rfl) (by kernel_rfl) (by exact fun _ _ _ h => h) (Or.inl ⟨by rfl, ?yq29⟩) (by assumption) ?rq29
            case yq29 => (intro w hSw; (try dsimp only at hSw); go_simp; try with_reducible rfl)
            try simp only [Act.put, List.setIfInBounds_toArray, List.set_cons_zero, List.set_cons_succ]
            refine wpAnyH_ready (rs := [7]) (by kernel_rfl) (by simp) ?_
            refine AllReadyH.cons (by simp only [List.getElem?_toArray]; rfl) (fun K hK => ?_) AllReadyH.nil
            have HH := Lib.hid hHeld.2.2.2.2.2
            go_simp
            refine (HIS.out _).mono ?_
            rintro e wa ⟨rfl, bb⟩
            have HH2 := Lib.hid (HH.out.trans (bb.mono HH.out.size))
            clear bb HH
            refine hK.out _ _ (HSW.out _ HH2.out) (fun hHeld => ?_)
            clear hK K
            try simp only [Act.put, List.setIfInBounds_toArray, List.set_cons_zero, List.set_cons_succ]
            refine wpAnyH_take (i := 8) (v := ?vq30) (by simp only [List.getElem?_toArray]; rfl) (by kernel_rfl) (by kernel_rfl) (by kernel_rfl) (by exact fun _ _ _ h => h) (Or.inl ⟨by rfl, ?yq30⟩) (by assumption) ?rq30
            case yq30 => (intro w hSw; (try dsimp only at hSw); go_simp; try with_reducible rfl)
            try simp only [Act.put, List.setIfInBounds_toArray, List.set_cons_zero, List.set_cons_succ]
            refine wpAnyH_take (i := 9) (v := ?vq31) (by simp only [List.getElem?_toArray]; rfl) (by kernel_rfl) (by kernel_rfl) (by kernel_rfl) (by exact fun _ _ _ h => h) (Or.inl ⟨by rfl, ?yq31⟩) (by assumption) ?rq31
            case yq31 => (intro w hSw; (try dsimp only at hSw); go_simp; try with_reducible rfl)
            try simp only [Act.put, List.setIfInBounds_toArray, List.set_cons_zero, List.set_cons_succ]
            refine wpAnyH_take (i := 10) (v := ?vq32) (by simp only [List.getElem?_toArray]; rfl) (by kernel_rfl) (by kernel_rfl) (by kernel_rfl) (by exact fun _ _ _ h => h) (Or.inl ⟨by rfl, ?yq32⟩) (by assumption) ?rq32
            case yq32 => (intro w hSw; (try dsimp only at hSw); go_simp; try with_reducible rfl)
            try simp only [Act.put, List.setIfInBounds_toArray, List.set_cons_zero, List.set_cons_succ]
            refine wpAnyH_take (i := 11) (v := ?vq33) (by simp only [List.getElem?_toArray]; rfl) (by kernel_rfl) (by kernel_rfl) (by kernel_rfl) (by exact fun _ _ _ h => h) (Or.inl ⟨by rfl, ?yq33⟩) (by assumption) ?rq33
            case yq33 => (intro w hSw; (try dsimp only at hSw); go_simp; try with_reducible rfl)
            try simp only [Act.put, List.setIfInBounds_toArray, List.set_cons_zero, List.set_cons_succ]
            refine wpAnyH_take (i := 12) (v := ?vq34) (by simp only [List.getElem?_toArray]; rfl) (by kernel_rfl) (by kernel_rfl) (by kernel_rfl) (by exact fun _ _ _ h => h) (Or.inl ⟨by rfl, ?yq34⟩) (by assumption) ?rq34
            case yq34 => (intro w hSw; (try dsimp only at hSw); go_simp; try with_reducible rfl)
            try simp only [Act.put, List.setIfInBounds_toArray, List.set_cons_zero, List.set_cons_succ]
            refine wpAnyH_take (i := 13) (v := ?vq35) (by simp only [List.getElem?_toArray]; rfl) (by kernel_rfl) (by kernel_rfl) (by kernel_rfl) (by exact fun _ _ _ h => h) (Or.inl ⟨by rfl, ?yq35⟩) (by assumption) ?rq35
            case yq35 => (intro w hSw; (try dsimp only at hSw); go_simp; try with_reducible rfl)
            try simp only [Act.put, List.setIfInBounds_toArray, List.set_cons_zero, List.set_cons_succ]
            refine wpAnyH_take (i := 14) (v := ?vq36) (by simp only [List.getElem?_toArray]; rfl) (by kernel_rfl) (by kernel_rfl) (by kernel_rfl) (by exact fun _ _ _ h => h) (Or.inl ⟨by rfl, ?yq36⟩) (by assumption) ?rq36
            case yq36 => (intro w hSw; (try dsimp only at hSw); go_simp; try with_reducible rfl)
            try simp only [Act.put, List.setIfInBounds_toArray, List.set_cons_zero, List.set_cons_succ]
            refine wpAnyH_take (i := 15) (v := ?vq37) (by simp only [List.getElem?_toArray]; rfl) (by kernel_rfl) (by kernel_rfl) (by kernel_rfl) (by exact fun _ _ _ h => h) (Or.inl ⟨by rfl, ?yq37⟩) (by assumption) ?rq37
            case yq37 => (intro w hSw; (try dsimp only at hSw); go_simp; try with_reducible rfl)
            try simp only [Act.put, List.setIfInBounds_toArray, List.set_cons_zero, List.set_cons_succ]
            refine wpAnyH_take (i := 16) (v := ?vq38) (by simp only [List.getElem?_toArray]; rfl) (by kernel_rfl) (by kernel_rfl) (by kernel_rfl) (by exact fun _ _ _ h => h) (Or.inl ⟨by rfl, ?yq38⟩) (by assumption) ?rq38
            case yq38 => (intro w hSw; (try dsimp only at hSw); go_simp; try with_reducible rfl)
            try simp only [Act.put, List.setIfInBounds_toArray, List.set_cons_zero, List.set_cons_succ]
            refine wpAnyH_take (i := 17) (v := ?vq39) (by simp only [List.getElem?_toArray]; rfl) (by kernel_rfl) (by kernel_rfl) (by kernel_rfl) (by exact fun _ _ _ h => h) (Or.inl ⟨by rfl, ?yq39⟩) (by assumption) ?rq39
            case yq39 => (intro w hSw; (try dsimp only at hSw); go_simp; try with_reducible rfl)
            try simp only [Act.put, List.setIfInBounds_toArray, List.set_cons_zero, List.set_cons_succ]
            refine wpAnyH_take (i := 18) (v := ?vq40) (by simp only [List.getElem?_toArray]; rfl) (by kernel_rfl) (by kernel_rfl) (by kernel_rfl) (by exact fun _ _ _ h => h) (Or.inl ⟨by rfl, ?yq40⟩) (by assumption) ?rq40
            case yq40 => (intro w hSw; (try dsimp only at hSw); go_simp; try with_reducible rfl)
            try simp only [Act.put, List.setIfInBounds_toArray, List.set_cons_zero, List.set_cons_succ]
            refine wpAnyH_take (i := 19) (v := ?vq41) (by simp only [List.getElem?_toArray]; rfl) (by kernel_rfl) (by kernel_rfl) (by kernel_rfl) (by exact fun _ _ _ h => h) (Or.inl ⟨by rfl, ?yq41⟩) (by assumption) ?rq41
            case yq41 => (intro w hSw; (try dsimp only at hSw); go_simp; try with_reducible rfl)
            try simp only [Act.put, List.setIfInBounds_toArray, List.set_cons_zero, List.set_cons_succ]
            refine wpAnyH_take (i := 20) (v := ?vq42) (by simp only [List.getElem?_toArray]; rfl) (by kernel_rfl) (by kernel_rfl) (by kernel_rfl) (by exact fun _ _ _ h => h) (Or.inl ⟨by rfl, ?yq42⟩) (by assumption) ?rq42
            case yq42 => (intro w hSw; (try dsimp only at hSw); go_simp; try with_reducible rfl)
            try simp only [Act.put, List.setIfInBounds_toArray, List.set_cons_zero, List.set_cons_succ]
            refine wpAnyH_take (i := 21) (v := ?vq43) (by simp only [List.getElem?_toArray]; rfl) (by kernel_rfl) (by kernel_rfl) (by kernel_rfl) (by exact fun _ _ _ h => h) (Or.inl ⟨by rfl, ?yq43⟩) (by assumption) ?rq43
            case yq43 => (intro w hSw; (try dsimp only at hSw); go_simp; try with_reducible rfl)
            try simp only [Act.put, List.setIfInBounds_toArray, List.set_cons_zero, List.set_cons_succ]
            refine wpAnyH_take (i := 22) (v := ?vq44) (by simp only [List.getElem?_toArray]; rfl) (by kernel_rfl) (by kernel_rfl) (by kernel_rfl) (by exact fun _ _ _ h => h) (Or.inl ⟨by rfl, ?yq44⟩) (by assumption) ?rq44
            case yq44 => (intro w hSw; (try dsimp only at hSw); go_simp; try with_reducible rfl)
            try simp only [Act.put, List.setIfInBounds_toArray, List.set_cons_zero, List.set_cons_succ]
            refine wpAnyH_ready (rs := [23]) (by kernel_rfl) (by simp) ?_
            refine AllReadyH.cons (by simp only [List.getElem?_toArray]; rfl) (fun K hK => ?_) AllReadyH.nil
            have HH := Lib.hid hHeld.2.2.2.2.2
            go_simp
            refine (HIS.out _).mono ?_
            rintro e wb ⟨rfl, bb⟩
            have HH2 := Lib.hid (HH.out.trans (bb.mono HH.out.size))
            clear bb HH
            refine hK.out _ _ (HSW.out _ HH2.out) (fun hHeld => ?_)
            clear hK K
            try simp only [Act.put, List.setIfInBounds_toArray, List.set_cons_zero, List.set_cons_succ]
            refine wpAnyH_take (i := 24) (v := ?vq45) (by simp only [List.getElem?_toArray]; rfl) (by kernel_rfl) (by kernel_rfl) (by kernel_rfl) (by exact fun _ _ _ h => h) (Or.inl ⟨by rfl, ?yq45⟩) (by assumption) ?rq45
            case yq45 => (intro w hSw; (try dsimp only at hSw); go_simp; try with_reducible rfl)
            try simp only [Act.put, List.setIfInBounds_toArray, List.set_cons_zero, List.set_cons_succ]
            refine wpAnyH_take (i := 25) (v := ?vq46) (by simp only [List.getElem?_toArray]; rfl) (by kernel_rfl) (by kernel_rfl) (by kernel_rfl) (by exact fun _ _ _ h => h) (Or.inl ⟨by rfl, ?yq46⟩) (by assumption) ?rq46
            case yq46 => (intro w hSw; (try dsimp only at hSw); go_simp; try with_reducible rfl)
            try simp only [Act.put, List.setIfInBounds_toArray, List.set_cons_zero, List.set_cons_succ]
            refine wpAnyH_take (i := 26) (v := ?vq47) (by simp only [List.getElem?_toArray]; rfl) (by kernel_rfl) (by kernel_rfl) (by kernel_rfl) (by exact fun _ _ _ h => h) (Or.inl ⟨by rfl, ?yq47⟩) (by assumption) ?rq47
            case yq47 => (intro w hSw; (try dsimp only at hSw); go_simp; try with_reducible rfl)
            try simp only [Act.put, List.setIfInBounds_toArray, List.set_cons_zero, List.set_cons_succ]
            refine wpAnyH_done (by kernel_rfl) ?_ _
            have HBD := Lib.hid HH2.out
            clear HH2
            rename_i hH
            clear hH
            go_wp2_with fail
            go_roundw
            case rel => exact ⟨k + 1, by omega, by go_num, HBD⟩
            case measure => simp [intOf]; omega
          · have hd : decide ((k : Int) < (ni : Int)) = false := by simp; omega
            have hd2 : decide (k < ni) = false := by simp; omega
            have HSW : Hid (∀ w', Below W.heap.size W w' → w'.cell? ⟨hb, 0, none⟩ = some (.slice la ni lc) ∧ w'.cell? ⟨hb, 1, none⟩ = some (.slice (some ⟨bg, 0, none⟩) ng gc) ∧ w'.cell? ⟨hb, 2, none⟩ = some (.int .i64 (i1 : Int)) ∧ (w'.cell? ⟨bg, k, none⟩ = some (.string x)) ∧ Below W.heap.size W w') := Lib.hid fun w' hq => ⟨(HWB.out.below hq).cellv 0 _ rfl, (HWB.out.below hq).cellv 1 _ rfl, (HWB.out.below hq).cellv 2 _ rfl, eg0H.out w' hq, hq⟩
            go_upto_region 10 with (fail)
            clear h1
            refine wp_region_held_drew (S := fun w' => w'.cell? ⟨hb, 0, none⟩ = some (.slice la ni lc) ∧ w'.cell? ⟨hb, 1, none⟩ = some (.slice (some ⟨bg, 0, none⟩) ng gc) ∧ w'.cell? ⟨hb, 2, none⟩ = some (.int .i64 (i1 : Int)) ∧ (w'.cell? ⟨bg, k, none⟩ = some (.string x)) ∧ Below W.heap.size W w') (by kernel_rfl) (HSW.out _ HZD.out) (fun hHeld => ?_)
            refine wpAnyH_take (i := 0) (v := ?vq48) (by simp only [List.getElem?_toArray]; rfl) (by kernel_rfl) (by kernel_rfl) (by kernel_rfl) (by exact fun _ _ _ h => h) (Or.inl ⟨by rfl, ?yq48⟩) (by assumption) ?rq48
            case yq48 => (intro w hSw; (try dsimp only at hSw); go_simp; try with_reducible rfl)
            try simp only [Act.put, List.setIfInBounds_toArray, List.set_cons_zero, List.set_cons_succ]
            refine wpAnyH_take (i := 1) (v := ?vq49) (by simp only [List.getElem?_toArray]; rfl) (by kernel_rfl) (by kernel_rfl) (by kernel_rfl) (by exact fun _ _ _ h => h) (Or.inl ⟨by rfl, ?yq49⟩) (by assumption) ?rq49
            case yq49 => (intro w hSw; (try dsimp only at hSw); go_simp; try with_reducible rfl)
            try simp only [Act.put, List.setIfInBounds_toArray, List.set_cons_zero, List.set_cons_succ]
            refine wpAnyH_take (i := 2) (v := ?vq50) (by simp only [List.getElem?_toArray]; rfl) (by kernel_rfl) (by kernel_rfl) (by kernel_rfl) (by exact fun _ _ _ h => h) (Or.inl ⟨by rfl, ?yq50⟩) (by assumption) ?rq50
            case yq50 => (intro w hSw; (try dsimp only at hSw); go_simp; try with_reducible rfl)
            try simp only [Act.put, List.setIfInBounds_toArray, List.set_cons_zero, List.set_cons_succ]
            refine wpAnyH_take (i := 3) (v := ?vq51) (by simp only [List.getElem?_toArray]; rfl) (by kernel_rfl) (by kernel_rfl) (by kernel_rfl) (by exact fun _ _ _ h => h) (Or.inl ⟨by rfl, ?yq51⟩) (by assumption) ?rq51
            case yq51 => (intro w hSw; (try dsimp only at hSw); go_simp; try with_reducible rfl)
            try simp only [Act.put, List.setIfInBounds_toArray, List.set_cons_zero, List.set_cons_succ]
            refine wpAnyH_take (i := 4) (v := ?vq52) (by simp only [List.getElem?_toArray]; rfl) (by kernel_rfl) (by kernel_rfl) (by kernel_rfl) (by exact fun _ _ _ h => h) (Or.inl ⟨by rfl, ?yq52⟩) (by assumption) ?rq52
            case yq52 => (intro w hSw; (try dsimp only at hSw); go_simp; try with_reducible rfl)
            try simp only [Act.put, List.setIfInBounds_toArray, List.set_cons_zero, List.set_cons_succ]
            refine wpAnyH_take (i := 5) (v := ?vq53) (by simp only [List.getElem?_toArray]; rfl) (by kernel_rfl) (by kernel_rfl) (by kernel_rfl) (by exact fun _ _ _ h => h) (Or.inl ⟨by rfl, ?yq53⟩) (by assumption) ?rq53
            case yq53 => (intro w hSw; (try dsimp only at hSw); go_simp; try with_reducible rfl)
            try simp only [Act.put, List.setIfInBounds_toArray, List.set_cons_zero, List.set_cons_succ]
            refine wpAnyH_take (i := 6) (v := ?vq54) (by simp only [List.getElem?_toArray]; rfl) (by kernel_rfl) (by kernel_rfl) (by kernel_rfl) (by exact fun _ _ _ h => h) (Or.inl ⟨by rfl, ?yq54⟩) (by assumption) ?rq54
            case yq54 => (intro w hSw; (try dsimp only at hSw); go_simp; try with_reducible rfl)
            try simp only [Act.put, List.setIfInBounds_toArray, List.set_cons_zero, List.set_cons_succ]
            refine wpAnyH_ready (rs := [7]) (by kernel_rfl) (by simp) ?_
            refine AllReadyH.cons (by simp only [List.getElem?_toArray]; rfl) (fun K hK => ?_) AllReadyH.nil
            have HH := Lib.hid hHeld.2.2.2.2
            go_simp
            refine (HIS.out _).mono ?_
            rintro e wa ⟨rfl, bb⟩
            have HH2 := Lib.hid (HH.out.trans (bb.mono HH.out.size))
            clear bb HH
            refine hK.out _ _ (HSW.out _ HH2.out) (fun hHeld => ?_)
            clear hK K
            try simp only [Act.put, List.setIfInBounds_toArray, List.set_cons_zero, List.set_cons_succ]
            refine wpAnyH_take (i := 8) (v := ?vq55) (by simp only [List.getElem?_toArray]; rfl) (by kernel_rfl) (by kernel_rfl) (by kernel_rfl) (by exact fun _ _ _ h => h) (Or.inl ⟨by rfl, ?yq55⟩) (by assumption) ?rq55
            case yq55 => (intro w hSw; (try dsimp only at hSw); go_simp; try with_reducible rfl)
            try simp only [Act.put, List.setIfInBounds_toArray, List.set_cons_zero, List.set_cons_succ]
            refine wpAnyH_take (i := 9) (v := ?vq56) (by simp only [List.getElem?_toArray]; rfl) (by kernel_rfl) (by kernel_rfl) (by kernel_rfl) (by exact fun _ _ _ h => h) (Or.inl ⟨by rfl, ?yq56⟩) (by assumption) ?rq56
            case yq56 => (intro w hSw; (try dsimp only at hSw); go_simp; try with_reducible rfl)
            try simp only [Act.put, List.setIfInBounds_toArray, List.set_cons_zero, List.set_cons_succ]
            refine wpAnyH_take (i := 10) (v := ?vq57) (by simp only [List.getElem?_toArray]; rfl) (by kernel_rfl) (by kernel_rfl) (by kernel_rfl) (by exact fun _ _ _ h => h) (Or.inl ⟨by rfl, ?yq57⟩) (by assumption) ?rq57
            case yq57 => (intro w hSw; (try dsimp only at hSw); go_simp; try with_reducible rfl)
            try simp only [Act.put, List.setIfInBounds_toArray, List.set_cons_zero, List.set_cons_succ]
            refine wpAnyH_take (i := 11) (v := ?vq58) (by simp only [List.getElem?_toArray]; rfl) (by kernel_rfl) (by kernel_rfl) (by kernel_rfl) (by exact fun _ _ _ h => h) (Or.inl ⟨by rfl, ?yq58⟩) (by assumption) ?rq58
            case yq58 => (intro w hSw; (try dsimp only at hSw); go_simp; try with_reducible rfl)
            try simp only [Act.put, List.setIfInBounds_toArray, List.set_cons_zero, List.set_cons_succ]
            refine wpAnyH_take (i := 12) (v := ?vq59) (by simp only [List.getElem?_toArray]; rfl) (by kernel_rfl) (by kernel_rfl) (by kernel_rfl) (by exact fun _ _ _ h => h) (Or.inl ⟨by rfl, ?yq59⟩) (by assumption) ?rq59
            case yq59 => (intro w hSw; (try dsimp only at hSw); go_simp; try with_reducible rfl)
            try simp only [Act.put, List.setIfInBounds_toArray, List.set_cons_zero, List.set_cons_succ]
            refine wpAnyH_take (i := 13) (v := ?vq60) (by simp only [List.getElem?_toArray]; rfl) (by kernel_rfl) (by kernel_rfl) (by kernel_rfl) (by exact fun _ _ _ h => h) (Or.inl ⟨by rfl, ?yq60⟩) (by assumption) ?rq60
            case yq60 => (intro w hSw; (try dsimp only at hSw); go_simp; try with_reducible rfl)
            try simp only [Act.put, List.setIfInBounds_toArray, List.set_cons_zero, List.set_cons_succ]
            refine wpAnyH_take (i := 14) (v := ?vq61) (by simp only [List.getElem?_toArray]; rfl) (by kernel_rfl) (by kernel_rfl) (by kernel_rfl) (by exact fun _ _ _ h => h) (Or.inl ⟨by rfl, ?yq61⟩) (by assumption) ?rq61
            case yq61 => (intro w hSw; (try dsimp only at hSw); go_simp; try with_reducible rfl)
            try simp only [Act.put, List.setIfInBounds_toArray, List.set_cons_zero, List.set_cons_succ]
            refine wpAnyH_take (i := 15) (v := ?vq62) (by simp only [List.getElem?_toArray]; rfl) (by kernel_rfl) (by kernel_rfl) (by kernel_rfl) (by exact fun _ _ _ h => h) (Or.inl ⟨by rfl, ?yq62⟩) (by assumption) ?rq62
            case yq62 => (intro w hSw; (try dsimp only at hSw); go_simp; try with_reducible rfl)
            try simp only [Act.put, List.setIfInBounds_toArray, List.set_cons_zero, List.set_cons_succ]
            refine wpAnyH_take (i := 16) (v := undef) (by simp only [List.getElem?_toArray]; rfl) (by kernel_rfl) (by kernel_rfl) (by kernel_rfl) (by exact fun _ _ _ h => h) (Or.inr ⟨by rfl, rfl⟩) (by assumption) ?_
            try simp only [Act.put, List.setIfInBounds_toArray, List.set_cons_zero, List.set_cons_succ]
            refine wpAnyH_take (i := 17) (v := undef) (by simp only [List.getElem?_toArray]; rfl) (by kernel_rfl) (by kernel_rfl) (by kernel_rfl) (by exact fun _ _ _ h => h) (Or.inr ⟨by rfl, rfl⟩) (by assumption) ?_
            try simp only [Act.put, List.setIfInBounds_toArray, List.set_cons_zero, List.set_cons_succ]
            refine wpAnyH_take (i := 18) (v := undef) (by simp only [List.getElem?_toArray]; rfl) (by kernel_rfl) (by kernel_rfl) (by kernel_rfl) (by exact fun _ _ _ h => h) (Or.inr ⟨by rfl, rfl⟩) (by assumption) ?_
            try simp only [Act.put, List.setIfInBounds_toArray, List.set_cons_zero, List.set_cons_succ]
            refine wpAnyH_take (i := 19) (v := undef) (by simp only [List.getElem?_toArray]; rfl) (by kernel_rfl) (by kernel_rfl) (by kernel_rfl) (by exact fun _ _ _ h => h) (Or.inr ⟨by rfl, rfl⟩) (by assumption) ?_
            try simp only [Act.put, List.setIfInBounds_toArray, List.set_cons_zero, List.set_cons_succ]
            refine wpAnyH_take (i := 20) (v := undef) (by simp only [List.getElem?_toArray]; rfl) (by kernel_rfl) (by kernel_rfl) (by kernel_rfl) (by exact fun _ _ _ h => h) (Or.inr ⟨by rfl, rfl⟩) (by assumption) ?_
            try simp only [Act.put, List.setIfInBounds_toArray, List.set_cons_zero, List.set_cons_succ]
            refine wpAnyH_take (i := 21) (v := undef) (by simp only [List.getElem?_toArray]; rfl) (by kernel_rfl) (by kernel_rfl) (by kernel_rfl) (by exact fun _ _ _ h => h) (Or.inr ⟨by rfl, rfl⟩) (by assumption) ?_
            try simp only [Act.put, List.setIfInBounds_toArray, List.set_cons_zero, List.set_cons_succ]
            refine wpAnyH_take (i := 22) (v := undef) (by simp only [List.getElem?_toArray]; rfl) (by kernel_rfl) (by kernel_rfl) (by kernel_rfl) (by exact fun _ _ _ h => h) (Or.inr ⟨by rfl, rfl⟩) (by assumption) ?_
            try simp only [Act.put, List.setIfInBounds_toArray, List.set_cons_zero, List.set_cons_succ]
            refine wpAnyH_take (i := 23) (v := undef) (by simp only [List.getElem?_toArray]; rfl) (by kernel_rfl) (by kernel_rfl) (by kernel_rfl) (by exact fun _ _ _ h => h) (Or.inr ⟨by rfl, rfl⟩) (by assumption) ?_
            try simp only [Act.put, List.setIfInBounds_toArray, List.set_cons_zero, List.set_cons_succ]
            refine wpAnyH_take (i := 24) (v := undef) (by simp only [List.getElem?_toArray]; rfl) (by kernel_rfl) (by kernel_rfl) (by kernel_rfl) (by exact fun _ _ _ h => h) (Or.inr ⟨by rfl, rfl⟩) (by assumption) ?_
            try simp only [Act.put, List.setIfInBounds_toArray, List.set_cons_zero, List.set_cons_succ]
            refine wpAnyH_take (i := 25) (v := ?vq63) (by simp only [List.getElem?_toArray]; rfl) (by kernel_rfl) (by kernel_rfl) (by kernel_rfl) (by exact fun _ _ _ h => h) (Or.inl ⟨by rfl, ?yq63⟩) (by assumption) ?rq63
            case yq63 => (intro w hSw; (try dsimp only at hSw); go_simp; try with_reducible rfl)
            try simp only [Act.put, List.setIfInBounds_toArray, List.set_cons_zero, List.set_cons_succ]
            refine wpAnyH_take (i := 26) (v := ?vq64) (by simp only [List.getElem?_toArray]; rfl) (by kernel_rfl) (by kernel_rfl) (by kernel_rfl) (by exact fun _ _ _ h => h) (Or.inl ⟨by rfl, ?yq64⟩) (by assumption) ?rq64
            case yq64 => (intro w hSw; (try dsimp only at hSw); go_simp; try with_reducible rfl)
            try simp only [Act.put, List.setIfInBounds_toArray, List.set_cons_zero, List.set_cons_succ]
            refine wpAnyH_done (by kernel_rfl) ?_ _
            have HBD := Lib.hid HH2.out
            clear HH2
            rename_i hH
            clear hH
            go_wp2_with fail
            go_roundw
            case rel => exact ⟨k + 1, by omega, by go_num, HBD⟩
            case measure => simp [intOf]; omega
        · have hbf := Lib.hid (HBW.out.trans (HZ.out.mono HBW.out.size))
          go_wp2_with fail
          go_roundw
          case rel => exact ⟨i + 1, by omega, by go_num, hbf⟩
          case measure => simp [intOf]; omega
    · obtain rfl : i = m := by omega
      go_wp2_with fail
      go_ret
      exact ⟨rfl, HB.out⟩
end Go.Proofs.YtbcnapkbdbefhaaGreatDoor
namespace Go.Proofs.YtbcnapkbdbefhaaGreatDoor
open Go.RowKit

end Go.Proofs.YtbcnapkbdbefhaaGreatDoor

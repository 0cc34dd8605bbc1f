/- Walk of lookByte: each list holds its own marks. No condition. -/
import Derived.Test.YtafanohpkbfknaaGreatDoorBook5
import Derived.Deep.QuietTactic
namespace Go.Proofs.YtafanohpkbfknaaGreatDoor
open Go.RowKit

theorem still_all {P : Program} {id : Nat} {Q : Exit → Act → World → Prop} {a : Act} {w wd : World} {l : List Oper} (hm : P.follows .mixedOrders = true) (hB : Region.lexB .any l.toArray = true) (hwd : wd = w.drew)
    (h : wpStill P l.toArray wd (fun a' => Q .normal a' wd) l a) : (Code.region id l.toArray true).wp P Q a w := by
  subst hwd
  exact wp_region_still_lit hm hB h
theorem still_skip6 {P : Program} {ops : Array Oper} {w : World} {Q : Act → Prop} {a : Act} {o : Oper} {rest : List Oper} (hw : Region.wanted o (yielded ops a.tmps) = false) (h : wpStill P ops w Q rest (a.put o.dst undef)) : wpStill P ops w Q (o :: rest) a :=
  wpStill_step fun K hK => by rw [if_neg (by rw [hw]; decide)]; exact hK _ h
theorem rd_rep {w : World} {a : Option Addr} {n c : Nat} {x : UInt8} (h : Rd w (.slice a n c) (List.replicate n x)) (k : Nat) (hk : k < n) : ∃ b off, a = some ⟨b, off, none⟩ ∧ w.cell? ⟨b, off + k, none⟩ = some (.int .u8 (x.toNat : Int)) := by
  obtain ⟨a', c', e, _, _, hcell⟩ := h
  obtain ⟨b, off, hae, hc⟩ := hcell k (by rw [List.length_replicate]; exact hk)
  simp only [Value.slice.injEq] at e
  exact ⟨b, off, by rw [e.1, hae], by rw [hc]; simp⟩
set_option maxRecDepth 100000 in
set_option maxHeartbeats 8000000 in
theorem lookByte_any (w : World) (base g m : Nat) (bv ev : Value) (L G : Nat → Value) (n : Nat → Nat) (hK : Gw w base g m bv ev L G n m) (hm : m ≤ 1000) (hn : ∀ j, j < m → n j ≤ 1000000000000) :
    Calls Tryz.prog 70 #[.pointer (some ⟨g, 0, none⟩)] w fun e w' => e = .returned (.bool true) ∧ Below w.heap.size w w' := by
  obtain ⟨va, vc, hbvs⟩ := (reads_of_own hK.bk.own).slice
  subst hbvs
  have HK := Lib.hid hK
  have HN := Lib.hid hn
  clear hK hn
  go_enter Tryz.func70, Tryz.ntmps70
  go_wp2_with fail
  try show Code.wp _ _ _ _ _
  go_loopw [3, 4, 5] (fun iv _ _ wr => ∃ i : Nat, i ≤ m ∧ iv = .int .i64 i ∧ Hid (Below w.heap.size w wr)) (fun iv _ _ _ => m - (intOf iv).toNat)
  case atStart => exact ⟨0, Nat.zero_le _, rfl, Below.refl _ _⟩
  case round =>
    obtain ⟨i, hi, rfl, HB⟩ := hrel
    obtain ⟨wr, hwr⟩ := the_world HB.out
    subst hwr
    have HC := Lib.hid (HK.out.below HB.out)
    have g1 := HC.out.bk.blk.cellv 1 (.slice va m vc) rfl
    by_cases hlt : i < m
    · obtain ⟨b3, off3, c3, e3, k0, k1, k2⟩ := HC.out.bk.cells i hlt
      simp only [Value.slice.injEq, true_and] at e3
      obtain ⟨e4, e6⟩ := e3
      subst e4
      clear e6
      obtain ⟨i1, hi1⟩ : ∃ x, x = i + 1 := ⟨_, rfl⟩
      rw [← hi1] at k2
      obtain ⟨mk, hmk⟩ : ∃ x, x = (mkB i).toNat := ⟨_, rfl⟩
      have HIS : Hid (∀ w', Calls Tryz.prog 130 #[.int .u8 (mk : Int), .int .i64 (i1 : Int)] w' fun e w'' => e = .returned (.bool true) ∧ w'' = w') := fun w' => by
        rw [hi1, hmk]; exact (isByte_any i w').mono fun e w'' h => ⟨h.1, h.2.symm⟩
      have HMKE := Lib.hid hmk
      clear hi1 hmk
      have hown := HC.out.bk.held i hlt
      obtain ⟨la, lc, hls⟩ := (reads_of_own hown).slice
      rw [hls] at k0 hown
      have hog := HC.out.own i hlt
      obtain ⟨ga, gc, hgs⟩ := (reads_of_own hog).slice
      rw [hgs] at k1 hog
      obtain ⟨ni, hni⟩ : ∃ x, x = n i := ⟨_, rfl⟩
      rw [← hni] at k0 k1 hown hog
      have hnb : ni ≤ 1000000000000 := by rw [hni]; exact HN.out i hlt
      obtain ⟨ng, hng⟩ : ∃ x, x = ni + 40 := ⟨_, rfl⟩
      rw [← hng] at k1 hog
      have hngi : (ni : Int) + 40 = (ng : Int) := by omega
      have hngw : IntKind.i64.wrap (ng : Int) = (ng : Int) := IntWalk.i64_in _ (by omega)
      have hneq : ((ng : Int) != (ng : Int)) = false := by simp
      have HOW := Lib.hid (rd_of_own hown).2
      have HOG := Lib.hid (rd_of_own hog).2
      have HNG := Lib.hid hng
      clear hown hog hls hgs hni hng
      go_upto_region 5 with (fail)
      obtain ⟨hb, hhb⟩ : ∃ x, x = wr.heap.size := ⟨_, rfl⟩
      have hal : Below wr.heap.size wr (wr.alloc (.cells #[.slice la ni lc, .slice ga ng gc, .int .i64 (i1 : Int)] 116)) := (Below.refl _ _).alloc (Nat.le_refl _) _
      have HWB : Hid (Blk (wr.alloc (.cells #[.slice la ni lc, .slice ga ng gc, .int .i64 (i1 : Int)] 116)) hb #[.slice la ni lc, .slice ga ng gc, .int .i64 (i1 : Int)] 116) := Blk.new_at _ _ _ _ hhb
      have HBW := Lib.hid (HB.out.trans (hal.mono HB.out.size))
      have HOW2 := Lib.hid (HOW.out.below hal)
      have HOG2 := Lib.hid (HOG.out.below hal)
      rw [← hhb]
      generalize wr.alloc (.cells #[.slice la ni lc, .slice ga ng gc, .int .i64 (i1 : Int)] 116) = W at HWB HBW HOW2 HOG2 ⊢
      clear hal hhb HC HB HOW HOG g1 k0 k1 k2
      have h0 := HWB.out.cellv 0 (.slice la ni lc) rfl
      have h1 := HWB.out.cellv 1 (.slice ga ng gc) rfl
      go_upto_region 8 with (fail)
      go_loopw [5] (fun kv wz => ∃ k : Nat, k ≤ ng ∧ kv = .int .i64 k ∧ Hid (Below W.heap.size W wz)) (fun kv _ => ng - (intOf kv).toNat)
      case atStart => exact ⟨0, Nat.zero_le _, rfl, Below.refl _ _⟩
      case round =>
        obtain ⟨k, hk, rfl, HZ⟩ := hrel
        obtain ⟨wz, hwz⟩ := the_world HZ.out
        subst hwz
        have h1 := (HWB.out.below HZ.out).cellv 1 (.slice ga ng gc) rfl
        by_cases hkg : k < ng
        · obtain ⟨wd, hwd⟩ : ∃ wd, wd = wz.drew := ⟨_, rfl⟩
          have HWD := Lib.hid hwd
          have hbd : Below wz.heap.size wz wd := by rw [hwd]; exact (Below.refl _ _).drew
          have HBD := Lib.hid (HZ.out.trans (hbd.mono HZ.out.size))
          clear hwd hbd h0 h1
          obtain ⟨bg, og, hga, ck⟩ := rd_rep (HOG2.out.below HBD.out) k hkg
          subst hga
          rw [← HMKE.out] at ck
          have hkgc : (k : Int) < (ng : Int) := by omega
          have hh := HWB.out.below HBD.out
          have h0 := hh.cellv 0 (.slice la ni lc) rfl
          have h1 := hh.cellv 1 (.slice (some ⟨bg, og, none⟩) ng gc) rfl
          have h2 := hh.cellv 2 (.int .i64 (i1 : Int)) rfl
          have h1z := (HWB.out.below HZ.out).cellv 1 (.slice (some ⟨bg, og, none⟩) ng gc) rfl
          clear hh
          by_cases hki : k < ni
          · obtain ⟨bl, ol, hla, cl⟩ := rd_rep (HOW2.out.below HBD.out) k hki
            subst hla
            rw [← HMKE.out] at cl
            have hkic : (k : Int) < (ni : Int) := by omega
            go_upto_region 10 with (fail)
            clear h1z
            refine still_all (wd := wd) ?hm ?hB ?hwd ?h
            case hm => kernel_rfl
            case hB => kernel_rfl
            case hwd => exact HWD.out
            repeat (first | ((with_reducible refine still_skip6 ?hw ?hrest); case hw => rfl; simp only [Act.put, List.setIfInBounds_toArray, List.set_cons_zero, List.set_cons_succ]) | ((with_reducible refine wpStill_step (fun K hK => ?_)); go_simp; refine hK _ ?_; clear hK K))
            (with_reducible refine wpStill_step (fun K hK => ?_))
            go_simp
            refine ⟨_, HIS.out _, hK _ ?_⟩
            clear hK K
            repeat (first | ((with_reducible refine still_skip6 ?hw ?hrest); case hw => rfl; simp only [Act.put, List.setIfInBounds_toArray, List.set_cons_zero, List.set_cons_succ]) | ((with_reducible refine wpStill_step (fun K hK => ?_)); go_simp; refine hK _ ?_; clear hK K))
            (with_reducible refine wpStill_step (fun K hK => ?_))
            go_simp
            refine ⟨_, HIS.out _, hK _ ?_⟩
            clear hK K
            repeat (first | ((with_reducible refine still_skip6 ?hw ?hrest); case hw => rfl; simp only [Act.put, List.setIfInBounds_toArray, List.set_cons_zero, List.set_cons_succ]) | ((with_reducible refine wpStill_step (fun K hK => ?_)); go_simp; refine hK _ ?_; clear hK K))
            try refine wpStill_nil ?_
            clear cl hkic
            clear h0 h1 h2 ck HWD
            go_wp2_with fail
            go_roundw
            case rel => exact ⟨k + 1, by omega, by go_num, HBD⟩
            case measure => simp [intOf]; omega
          · have hd : decide ((k : Int) < (ni : Int)) = false := by simp; omega
            have hd2 : decide (k < ni) = false := by simp; omega
            go_upto_region 10 with (fail)
            clear h1z
            refine still_all (wd := wd) ?hm ?hB ?hwd ?h
            case hm => kernel_rfl
            case hB => kernel_rfl
            case hwd => exact HWD.out
            repeat (first | ((with_reducible refine still_skip6 ?hw ?hrest); case hw => rfl; simp only [Act.put, List.setIfInBounds_toArray, List.set_cons_zero, List.set_cons_succ]) | ((with_reducible refine wpStill_step (fun K hK => ?_)); go_simp; refine hK _ ?_; clear hK K))
            (with_reducible refine wpStill_step (fun K hK => ?_))
            go_simp
            refine ⟨_, HIS.out _, hK _ ?_⟩
            clear hK K
            repeat (first | ((with_reducible refine still_skip6 ?hw ?hrest); case hw => rfl; simp only [Act.put, List.setIfInBounds_toArray, List.set_cons_zero, List.set_cons_succ]) | ((with_reducible refine wpStill_step (fun K hK => ?_)); go_simp; refine hK _ ?_; clear hK K))
            try refine wpStill_nil ?_
            clear hd hd2
            clear h0 h1 h2 ck HWD
            go_wp2_with fail
            go_roundw
            case rel => exact ⟨k + 1, by omega, by go_num, HBD⟩
            case measure => simp [intOf]; omega
        · have hbf := Lib.hid (HBW.out.trans (HZ.out.mono HBW.out.size))
          go_wp2_with fail
          go_roundw
          case rel => exact ⟨i + 1, by omega, by go_num, hbf⟩
          case measure => simp [intOf]; omega
    · obtain rfl : i = m := by omega
      go_wp2_with fail
      go_ret
      exact ⟨rfl, HB.out⟩
end Go.Proofs.YtafanohpkbfknaaGreatDoor

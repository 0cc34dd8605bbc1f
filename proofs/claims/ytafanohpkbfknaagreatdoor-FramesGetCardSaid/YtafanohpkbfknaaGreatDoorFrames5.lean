/- Walks of slices.Clone of bytes and of frames.Get, with the place of the answer's block. The condition: bytes of at most 2^47. -/
import Derived.Test.YtafanohpkbfknaaGreatDoorFrames3
namespace Go.Proofs.YtafanohpkbfknaaGreatDoor
open Go.RowKit

def RetMyR (l : List UInt8) (w : World) (e : Ending) (w' : World) : Prop :=
  ∃ a n c, e = .returned (.slice a n c) ∧ Hid (n = l.length) ∧ Hid (Own w' w.heap.size 5 1 (.slice a n c) n (u8s l)) ∧ Below w.heap.size w w' ∧ Hid (∀ b, (Value.slice a n c).ownBlock = some b → w.heap.size ≤ b ∧ b < w'.heap.size)
set_option maxRecDepth 100000 in
set_option maxHeartbeats 1000000 in
theorem clone_zero (w : World) (ad : Addr) (c : Nat) :
    Calls Tryz.prog 90 #[.slice (some ad) 0 c] w (RetMyR [] w) := by
  have hnn := Lib.run_eql_slice_nil (P := Tryz.prog) w 25 5 (some ad) 0 c 0 0 Tryz.underlying25
  have hal : ∀ o, Below w.heap.size w (w.alloc o) := fun o => (Below.refl _ _).alloc (Nat.le_refl _) _
  have HAL := Lib.hid hal
  clear hal
  go_enter Tryz.func90, Tryz.ntmps90
  go_wp2
  go_ret
  refine ⟨_, _, _, rfl, rfl, .inl ⟨rfl, rfl, _, rfl⟩, HAL.out _, fun b hb => ?_⟩
  simp only [Value.ownBlock, Option.some.injEq] at hb
  subst hb
  simp
theorem clone_rng (w : World) (ad : Addr) (n c : Nat) (l : List UInt8) (hv : Rd w (.slice (some ad) n c) l) (hl : l.length ≤ 549755813888) :
    Calls Tryz.prog 90 #[.slice (some ad) n c] w (RetMyR l w) := by
  by_cases h0 : l = []
  · obtain ⟨a1, c1, e, _⟩ := hv
    simp only [Value.slice.injEq] at e
    obtain ⟨_, e2, _⟩ := e
    subst h0
    subst e2
    exact clone_zero w ad c
  · refine (clone_any w ad n c l hv hl).mono ?_
    rintro e w' ⟨a, k, cc, rfl, hk, ho, hb⟩
    exact ⟨a, k, cc, rfl, hk, ho, hb, own_lt ho.out (by rw [hk.out]; exact List.length_pos_iff.2 h0)⟩

def RetRecR (r : List UInt8 × Nat × Nat) (w : World) (e : Ending) (w' : World) : Prop :=
  ∃ a n c, e = .returned (.tuple #[.slice a n c, .int .i64 r.2.1, .int .i64 r.2.2]) ∧ Hid (n = r.1.length) ∧ Hid (Own w' w.heap.size 5 1 (.slice a n c) n (u8s r.1)) ∧ Below w.heap.size w w' ∧ Hid (∀ b, (Value.slice a n c).ownBlock = some b → w.heap.size ≤ b ∧ b < w'.heap.size)
theorem ret_rec_badR {r : List UInt8 × Nat × Nat} {w w' : World} {er : Nat} (h : r = ([], 0, er)) (hb : Below w.heap.size w w') : RetRecR r w (.returned (.tuple #[.slice none 0 0, .int .i64 0, .int .i64 er])) w' := by
  subst h
  exact ⟨_, _, _, rfl, rfl, own_nil _ _ _ _, hb, fun b hb => by simp [Value.ownBlock] at hb⟩

set_option maxRecDepth 100000 in
set_option maxHeartbeats 4000000 in
theorem framesGet_rng (w : World) (v : Value) (l : List UInt8) (hv : Rd w v l) (hl : l.length ≤ 140737488351232) :
    Calls Tryz.prog 23 #[v] w (RetRecR (fgetR l) w) := by
  obtain ⟨va, vn, vc, rfl, hvn⟩ := rd_len hv
  rw [← hvn] at hl
  have HVN := Lib.hid hvn
  have HV := Lib.hid hv
  clear hv hvn
  by_cases h8 : vn < 8
  · have HR : Hid (fgetR l = ([], 0, 5)) := by show _ = _; unfold fgetR; rw [if_pos (by rw [← HVN.out]; exact h8)]
    go_enter Tryz.func23, Tryz.ntmps23
    go_wp2
    go_ret3
    exact ret_rec_badR HR.out (Below.refl _ _)
  · have h8l : 8 ≤ l.length := by rw [← HVN.out]; omega
    have H8 := Lib.hid h8l
    obtain ⟨n, hn⟩ : ∃ n, n = fval (l.take 4) := ⟨_, rfl⟩
    obtain ⟨q, hq⟩ : ∃ q, q = fval ((l.drop 4).take 4) := ⟨_, rfl⟩
    have hnl : n < 4294967296 := by
      rw [hn]; have h5 := fval_lt (l.take 4); have h6 : (l.take 4).length = 4 := by simp; omega
      rw [h6] at h5; omega
    have hql : q < 4294967296 := by
      rw [hq]; have h5 := fval_lt ((l.drop 4).take 4); have h6 : ((l.drop 4).take 4).length = 4 := by simp; omega
      rw [h6] at h5; omega
    have HF1 := Lib.hid (fget_eight h8l)
    have HF2 := Lib.hid (fget_eight2 h8l)
    rw [← hn] at HF1
    rw [← hq] at HF2
    have HN := Lib.hid hn
    have HQ := Lib.hid hq
    obtain ⟨x1a, x1c, hcut1, hr1⟩ := cut_from HV.out 4 (by omega)
    rw [← HVN.out] at hcut1 hr1
    simp only [show ((4 : Nat) : Int) = 4 from rfl] at hcut1
    have H1 := Lib.hid hr1
    clear hr1 hn hq h8l
    go_enter Tryz.func23, Tryz.ntmps23
    go_wp2_with fail
    refine (intsGetFour_any _ l w HV.out).mono ?_
    rintro e w' ⟨rfl, rfl⟩
    rw [HF1.out]
    go_wp2_with fail
    refine (intsGetFour_any _ (l.drop 4) w H1.out).mono ?_
    rintro e w' ⟨rfl, rfl⟩
    rw [HF2.out]
    clear hcut1 H1
    by_cases hbig : 65536 < n
    · have HR : Hid (fgetR l = ([], 0, 4)) := by
        show _ = _; unfold fgetR
        rw [if_neg (by have := H8.out; omega), if_pos (by rw [← HN.out]; exact hbig)]
      go_wp2
      go_ret3
      exact ret_rec_badR HR.out (Below.refl _ _)
    · by_cases hsh : vn < 8 + n
      · have HR : Hid (fgetR l = ([], 0, 5)) := by
          show _ = _; unfold fgetR
          rw [if_neg (by have := H8.out; omega), if_neg (by rw [← HN.out]; exact hbig), if_pos (by rw [← HN.out, ← HVN.out]; exact hsh)]
        go_wp2
        go_ret3
        exact ret_rec_badR HR.out (Below.refl _ _)
      · obtain ⟨y1a, y1c, hcut2, hr2⟩ := cut_two HV.out 4 (by have := H8.out; omega)
        obtain ⟨y2a, y2c, hcut3, hr3, hne⟩ := cut_three HV.out 8 (8 + n) (by omega) (by rw [← HVN.out]; omega)
        obtain ⟨ad, rfl⟩ := hne (by have := H8.out; omega)
        have hrec : (l.take (8 + n)).drop 8 = (l.drop 8).take n := by rw [List.drop_take]; congr 1; omega
        rw [hrec] at hr3
        have e8 : 8 + n - 8 = n := by omega
        rw [e8] at hcut3 hr3
        simp only [show ((4 : Nat) : Int) = 4 from rfl] at hcut2
        have hcut4 : ∀ (w' : World), (Instr.slice 25 (.slice va vn vc) (some (.int .i64 8)) (some (.int .i64 (8 + (n : Int)))) (some (.int .i64 (8 + (n : Int))))).run Tryz.prog w' = .ok (.slice (some ad) n y2c) w' := fun w' => by
          have := hcut3 w' .i64 .i64 .i64
          rwa [show ((8 + n : Nat) : Int) = 8 + (n : Int) from by omega, show ((8 : Nat) : Int) = 8 from rfl] at this
        have HR2 := Lib.hid hr2
        have HR3 := Lib.hid hr3
        obtain ⟨C, hC⟩ : ∃ C, C = crcOn 0 (l.take 4 ++ (l.drop 8).take n) := ⟨_, rfl⟩
        have HC := Lib.hid hC
        have hfin : fgetR l = if C = q then ((l.drop 8).take n, 8 + n, 0) else ([], 0, 4) := by
          unfold fgetR
          rw [if_neg (by have := H8.out; omega), if_neg (by rw [← HN.out]; exact hbig), if_neg (by rw [← HN.out, ← HVN.out]; exact hsh), ← HN.out, ← HQ.out, ← hC]
        have HF := Lib.hid hfin
        have hww : Below w.heap.size w w := Below.refl _ _
        have hrl : ((l.drop 8).take n).length = n := by simp; have := HVN.out; omega
        have HRL := Lib.hid hrl
        clear hr2 hr3 hcut3 hrec e8 hC hfin hrl
        have d1 : decide (65536 < (n : Int)) = false := by simp; omega
        have HSUM : Hid (∀ w', Below w.heap.size w w' → Calls Tryz.prog 89 #[.slice y1a 4 y1c, .slice (some ad) n y2c] w' fun e w9 => e = .returned (.int .u32 C) ∧ Below w'.heap.size w' w9) := by
          intro w' hb
          refine (sum_any _ _ _ _ _ (HR2.out.below hb) (HR3.out.below hb)).mono ?_
          rintro e w9 ⟨rfl, hb9⟩
          exact ⟨by rw [HC.out], hb9⟩
        have n8 : (8 : Int) + (n : Int) ≤ (vn : Int) := by omega
        have n8' : decide ((vn : Int) < 8 + (n : Int)) = false := by simp; omega
        by_cases hCq : C = q
        · have hcq : ((C : Int) != (q : Int)) = false := by simp [hCq]
          have hn16 : n ≤ 65536 := by omega
          have HN16 := Lib.hid hn16
          clear hn16
          rw [if_pos hCq] at HF
          clear hCq hbig hsh
          go_upto_region 10 with (fail)
          have HS1 := Lib.hid (HSUM.out w.drew (Below.drew hww))
          have s1 := fun w' => hcut2 w' .i64 .i64
          clear hcut2 HSUM hnl hql
          go_region_with ((go_at_call 89; refine HS1.out.mono ?_; rintro e w9 ⟨rfl, hb9⟩))
          have B9 : Below w.heap.size w w9 := Below.trans (Below.drew hww) hb9
          go_wp2_with fail
          refine (clone_rng w9 ad n y2c _ (HR3.out.below B9) (by rw [HRL.out]; have := HN16.out; omega)).mono ?_
          rintro e w10 ⟨ca, cn, cc, rfl, HCN, HCO, hb10, HRG⟩
          go_wp2
          go_ret3
          rw [HF.out]
          refine ⟨ca, cn, cc, ?_, HCN, own_mono HCO.out B9.size, Below.trans B9 (hb10.mono B9.size), fun b hb => ⟨Nat.le_trans B9.size (HRG.out b hb).1, (HRG.out b hb).2⟩⟩
          congr 4
        · have hcq : ((C : Int) != (q : Int)) = true := by simp; omega
          rw [if_neg hCq] at HF
          clear hCq hbig hsh
          go_upto_region 10 with (fail)
          have HS1 := Lib.hid (HSUM.out w.drew (Below.drew hww))
          have s1 := fun w' => hcut2 w' .i64 .i64
          clear hcut2 HSUM hnl hql
          go_region_with ((go_at_call 89; refine HS1.out.mono ?_; rintro e w9 ⟨rfl, hb9⟩))
          have B9 : Below w.heap.size w w9 := Below.trans (Below.drew hww) hb9
          go_wp2
          go_ret3
          exact ret_rec_badR HF.out B9
end Go.Proofs.YtafanohpkbfknaaGreatDoor

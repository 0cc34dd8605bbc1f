/- Walks of slices.Clone of bytes and of frames.Get. The condition: bytes of at most 2^47. -/
import Derived.Test.YtafanohpkbfknaaGreatDoorFrames2
import Derived.Deep.RegionHeld3
namespace Go.Proofs.YtafanohpkbfknaaGreatDoor
open Go.RowKit

set_option maxRecDepth 100000 in
set_option maxHeartbeats 1000000 in
theorem clone_any (w : World) (ad : Addr) (n c : Nat) (l : List UInt8) (hv : Rd w (.slice (some ad) n c) l) (hl : l.length ≤ 549755813888) :
    Calls Tryz.prog 90 #[.slice (some ad) n c] w (RetMy l w) := by
  have HV := Lib.hid hv
  clear hv
  have hnn := Lib.run_eql_slice_nil (P := Tryz.prog) w 25 5 (some ad) n c 0 0 Tryz.underlying25
  go_enter Tryz.func90, Tryz.ntmps90
  go_wp2_with (at_builtin; go_loud (refine wp_app_my rfl _ _ rfl w.heap.size 0 _ _ [] l rfl rfl (.inl ⟨rfl, rfl, _, rfl⟩) (HV.out.below ((Below.refl _ _).alloc (Nat.le_refl _) _)) (by simp; omega) (by simp) ?_); intro b k cc w' HK HO hb)
  go_ret
  exact ⟨b, k, cc, rfl, HK, HO, Below.trans ((Below.refl _ _).alloc (Nat.le_refl _) _) hb⟩
/-- v[lo:hi:hi] -/
theorem cut_three {w : World} {v : Value} {l : List UInt8} (h : Rd w v l) (lo hi : Nat) (h1 : lo ≤ hi) (h2 : hi ≤ l.length) :
    ∃ a c, (∀ (w' : World) (kl kh km : IntKind), (Instr.slice 25 v (some (.int kl lo)) (some (.int kh hi)) (some (.int km hi))).run Tryz.prog w' = .ok (.slice a (hi - lo) c) w') ∧ Rd w (.slice a (hi - lo) c) ((l.take hi).drop lo) ∧ (0 < l.length → ∃ ad, a = some ad) := by
  obtain ⟨a0, c0, rfl, hc, hm, hr⟩ := h
  have hlen : ((l.take hi).drop lo).length = hi - lo := by simp; omega
  refine ⟨if hi = lo then a0 else a0.map (·.add (lo * 1)), hi - lo, fun w' kl kh km => ?_, ?_, ?_⟩
  · rw [run_slice_lhm w' 25 a0 l.length c0 (by kernel_rfl) kl kh km lo hi hi (by omega) (by omega) (by omega) (by omega)]
    simp [sliced, go_sem, Result.andThen]
  · refine ⟨_, _, by rw [hlen], by rw [hlen]; exact Nat.le_refl _, by omega, fun j hj => ?_⟩
    rw [hlen] at hj
    obtain ⟨b, off, rfl, hc'⟩ := hr (lo + j) (by omega)
    refine ⟨b, off + lo, ?_, ?_⟩
    · rw [if_neg (by omega)]
      by_cases h0 : lo = 0
      · simp [Addr.add, h0]
      · simp [Addr.add, h0]
    · rw [Nat.add_assoc, hc']; simp
  · intro h0
    obtain ⟨b, off, rfl, _⟩ := hr 0 h0
    split
    · exact ⟨_, rfl⟩
    · exact ⟨_, rfl⟩
/-- v[:hi:hi] -/
theorem cut_two {w : World} {v : Value} {l : List UInt8} (h : Rd w v l) (hi : Nat) (h2 : hi ≤ l.length) :
    ∃ a c, (∀ (w' : World) (kh km : IntKind), (Instr.slice 25 v none (some (.int kh hi)) (some (.int km hi))).run Tryz.prog w' = .ok (.slice a hi c) w') ∧ Rd w (.slice a hi c) (l.take hi) := by
  obtain ⟨a0, c0, rfl, hc, hm, hr⟩ := h
  have hlen : (l.take hi).length = hi := by simp; omega
  refine ⟨a0, hi, fun w' kh km => ?_, ?_⟩
  · rw [run_slice_hm w' 25 a0 l.length c0 (by kernel_rfl) kh km hi hi (by omega) (by omega) (by omega)]
    simp [go_sem]
  · refine ⟨_, _, by rw [hlen], by rw [hlen]; exact Nat.le_refl _, by omega, fun j hj => ?_⟩
    rw [hlen] at hj
    obtain ⟨b, off, e, hc'⟩ := hr j (by omega)
    exact ⟨b, off, e, by rw [hc']; simp⟩

def RetRec (r : List UInt8 × Nat × Nat) (w : World) (e : Ending) (w' : World) : Prop :=
  ∃ a n c, e = .returned (.tuple #[.slice a n c, .int .i64 r.2.1, .int .i64 r.2.2]) ∧ Hid (n = r.1.length) ∧ Hid (Own w' w.heap.size 5 1 (.slice a n c) n (u8s r.1)) ∧ Below w.heap.size w w'
theorem ret_rec_bad {r : List UInt8 × Nat × Nat} {w w' : World} {er : Nat} (h : r = ([], 0, er)) (hb : Below w.heap.size w w') : RetRec r w (.returned (.tuple #[.slice none 0 0, .int .i64 0, .int .i64 er])) w' := by
  subst h
  exact ⟨_, _, _, rfl, rfl, own_nil _ _ _ _, hb⟩
theorem fget_eight {l : List UInt8} (h : 8 ≤ l.length) : fget l = (fval (l.take 4), 0) := by unfold fget; rw [if_neg (by omega)]
theorem fget_eight2 {l : List UInt8} (h : 8 ≤ l.length) : fget (l.drop 4) = (fval ((l.drop 4).take 4), 0) := by unfold fget; rw [if_neg (by simp; omega)]

set_option maxRecDepth 100000 in
set_option maxHeartbeats 4000000 in
theorem framesGet_any (w : World) (v : Value) (l : List UInt8) (hv : Rd w v l) (hl : l.length ≤ 140737488351232) :
    Calls Tryz.prog 23 #[v] w (RetRec (fgetR l) w) := by
  obtain ⟨va, vn, vc, rfl, hvn⟩ := rd_len hv
  rw [← hvn] at hl
  have HVN := Lib.hid hvn
  have HV := Lib.hid hv
  clear hv hvn
  by_cases h8 : vn < 8
  · have HR : Hid (fgetR l = ([], 0, 5)) := by show _ = _; unfold fgetR; rw [if_pos (by rw [← HVN.out]; exact h8)]
    go_enter Tryz.func23, Tryz.ntmps23
    go_wp2
    go_ret3
    exact ret_rec_bad HR.out (Below.refl _ _)
  · have h8l : 8 ≤ l.length := by rw [← HVN.out]; omega
    have H8 := Lib.hid h8l
    obtain ⟨n, hn⟩ : ∃ n, n = fval (l.take 4) := ⟨_, rfl⟩
    obtain ⟨q, hq⟩ : ∃ q, q = fval ((l.drop 4).take 4) := ⟨_, rfl⟩
    have hnl : n < 4294967296 := by
      rw [hn]; have h5 := fval_lt (l.take 4); have h6 : (l.take 4).length = 4 := by simp; omega
      rw [h6] at h5; omega
    have hql : q < 4294967296 := by
      rw [hq]; have h5 := fval_lt ((l.drop 4).take 4); have h6 : ((l.drop 4).take 4).length = 4 := by simp; omega
      rw [h6] at h5; omega
    have HF1 := Lib.hid (fget_eight h8l)
    have HF2 := Lib.hid (fget_eight2 h8l)
    rw [← hn] at HF1
    rw [← hq] at HF2
    have HN := Lib.hid hn
    have HQ := Lib.hid hq
    obtain ⟨x1a, x1c, hcut1, hr1⟩ := cut_from HV.out 4 (by omega)
    rw [← HVN.out] at hcut1 hr1
    simp only [show ((4 : Nat) : Int) = 4 from rfl] at hcut1
    have H1 := Lib.hid hr1
    clear hr1 hn hq h8l
    go_enter Tryz.func23, Tryz.ntmps23
    go_wp2_with fail
    refine (intsGetFour_any _ l w HV.out).mono ?_
    rintro e w' ⟨rfl, rfl⟩
    rw [HF1.out]
    go_wp2_with fail
    refine (intsGetFour_any _ (l.drop 4) w H1.out).mono ?_
    rintro e w' ⟨rfl, rfl⟩
    rw [HF2.out]
    clear hcut1 H1
    by_cases hbig : 65536 < n
    · have HR : Hid (fgetR l = ([], 0, 4)) := by
        show _ = _; unfold fgetR
        rw [if_neg (by have := H8.out; omega), if_pos (by rw [← HN.out]; exact hbig)]
      go_wp2
      go_ret3
      exact ret_rec_bad HR.out (Below.refl _ _)
    · by_cases hsh : vn < 8 + n
      · have HR : Hid (fgetR l = ([], 0, 5)) := by
          show _ = _; unfold fgetR
          rw [if_neg (by have := H8.out; omega), if_neg (by rw [← HN.out]; exact hbig), if_pos (by rw [← HN.out, ← HVN.out]; exact hsh)]
        go_wp2
        go_ret3
        exact ret_rec_bad HR.out (Below.refl _ _)
      · obtain ⟨y1a, y1c, hcut2, hr2⟩ := cut_two HV.out 4 (by have := H8.out; omega)
        obtain ⟨y2a, y2c, hcut3, hr3, hne⟩ := cut_three HV.out 8 (8 + n) (by omega) (by rw [← HVN.out]; omega)
        obtain ⟨ad, rfl⟩ := hne (by have := H8.out; omega)
        have hrec : (l.take (8 + n)).drop 8 = (l.drop 8).take n := by rw [List.drop_take]; congr 1; omega
        rw [hrec] at hr3
        have e8 : 8 + n - 8 = n := by omega
        rw [e8] at hcut3 hr3
        simp only [show ((4 : Nat) : Int) = 4 from rfl] at hcut2
        have hcut4 : ∀ (w' : World), (Instr.slice 25 (.slice va vn vc) (some (.int .i64 8)) (some (.int .i64 (8 + (n : Int)))) (some (.int .i64 (8 + (n : Int))))).run Tryz.prog w' = .ok (.slice (some ad) n y2c) w' := fun w' => by
          have := hcut3 w' .i64 .i64 .i64
          rwa [show ((8 + n : Nat) : Int) = 8 + (n : Int) from by omega, show ((8 : Nat) : Int) = 8 from rfl] at this
        have HR2 := Lib.hid hr2
        have HR3 := Lib.hid hr3
        obtain ⟨C, hC⟩ : ∃ C, C = crcOn 0 (l.take 4 ++ (l.drop 8).take n) := ⟨_, rfl⟩
        have HC := Lib.hid hC
        have hfin : fgetR l = if C = q then ((l.drop 8).take n, 8 + n, 0) else ([], 0, 4) := by
          unfold fgetR
          rw [if_neg (by have := H8.out; omega), if_neg (by rw [← HN.out]; exact hbig), if_neg (by rw [← HN.out, ← HVN.out]; exact hsh), ← HN.out, ← HQ.out, ← hC]
        have HF := Lib.hid hfin
        have hww : Below w.heap.size w w := Below.refl _ _
        have hrl : ((l.drop 8).take n).length = n := by simp; have := HVN.out; omega
        have HRL := Lib.hid hrl
        clear hr2 hr3 hcut3 hrec e8 hC hfin hrl
        have d1 : decide (65536 < (n : Int)) = false := by simp; omega
        have HSUM : Hid (∀ w', Below w.heap.size w w' → Calls Tryz.prog 89 #[.slice y1a 4 y1c, .slice (some ad) n y2c] w' fun e w9 => e = .returned (.int .u32 C) ∧ Below w'.heap.size w' w9) := by
          intro w' hb
          refine (sum_any _ _ _ _ _ (HR2.out.below hb) (HR3.out.below hb)).mono ?_
          rintro e w9 ⟨rfl, hb9⟩
          exact ⟨by rw [HC.out], hb9⟩
        have n8 : (8 : Int) + (n : Int) ≤ (vn : Int) := by omega
        have n8' : decide ((vn : Int) < 8 + (n : Int)) = false := by simp; omega
        by_cases hCq : C = q
        · have hcq : ((C : Int) != (q : Int)) = false := by simp [hCq]
          have hn16 : n ≤ 65536 := by omega
          have HN16 := Lib.hid hn16
          clear hn16
          rw [if_pos hCq] at HF
          clear hCq hbig hsh
          go_upto_region 10 with (fail)
          have HS1 := Lib.hid (HSUM.out w.drew (Below.drew hww))
          have s1 := fun w' => hcut2 w' .i64 .i64
          clear hcut2 HSUM hnl hql
          go_region_with ((go_at_call 89; refine HS1.out.mono ?_; rintro e w9 ⟨rfl, hb9⟩))
          have B9 : Below w.heap.size w w9 := Below.trans (Below.drew hww) hb9
          go_wp2_with fail
          refine (clone_any w9 ad n y2c _ (HR3.out.below B9) (by rw [HRL.out]; have := HN16.out; omega)).mono ?_
          rintro e w10 ⟨ca, cn, cc, rfl, HCN, HCO, hb10⟩
          go_wp2
          go_ret3
          rw [HF.out]
          refine ⟨ca, cn, cc, ?_, HCN, own_mono HCO.out B9.size, Below.trans B9 (hb10.mono B9.size)⟩
          congr 4
        · have hcq : ((C : Int) != (q : Int)) = true := by simp; omega
          rw [if_neg hCq] at HF
          clear hCq hbig hsh
          go_upto_region 10 with (fail)
          have HS1 := Lib.hid (HSUM.out w.drew (Below.drew hww))
          have s1 := fun w' => hcut2 w' .i64 .i64
          clear hcut2 HSUM hnl hql
          go_region_with ((go_at_call 89; refine HS1.out.mono ?_; rintro e w9 ⟨rfl, hb9⟩))
          have B9 : Below w.heap.size w w9 := Below.trans (Below.drew hww) hb9
          go_wp2
          go_ret3
          exact ret_rec_bad HF.out B9
end Go.Proofs.YtafanohpkbfknaaGreatDoor

/- The law BlocksShort answers true for any text and any two numbers. No condition. -/
import Derived.Test.YtafgioidneohhaaLawBlocksMany
namespace Go.Proofs.Ytafgioidneohhaa
open Go.RowKit

theorem bs_key (k : ByteArray) (x : UInt8) : bs (k.data.toList ++ [x]) = k ++ bs [x] := by
  apply ByteArray.ext
  apply Array.ext'
  simp [bs, ByteArray.data_append]
theorem put_row (w : World) (v : Value) (p : List UInt8) (s n : Nat) (hp : p.length ≤ 31) (h1 : 0 < n) (h2 : n ≤ 64) (hs : s < 18446744073709551616) (hv : RdE w v (rowP p s 100 n)) :
    Calls Try.prog 22 #[v] w fun e w' => ∃ a k c, e = .returned (.tuple #[.slice a k c, .int .i64 0]) ∧ Hid (k = n * (6 + (vint s).length) + (n + 3) / 4 * p.length + 2 * ((n + 3) / 4) + 2) ∧ Below w.heap.size w w' := by
  refine (put_is w v _ hv (rowP_seqs p s 100 n hs) (by rw [rowP_ents]; exact row_may p s 100 n hp h1 h2 (by omega))).mono ?_
  rintro e w' ⟨a, k, c, rfl, hk, _, hb⟩
  refine ⟨a, k, c, rfl, ?_, hb⟩
  have := hk.out
  rw [rowP_ents, row_blk p s 100 n hp (by omega)] at this
  exact this
set_option maxRecDepth 100000 in
set_option maxHeartbeats 4000000 in
theorem blocksShort_walk (w : World) (key : ByteArray) (a1 a2 : Int) (hk : key.size ≤ 140737488351232) (wa : (Lit.int .u8 a1).wf = true) (wb : (Lit.int .u64 a2).wf = true) :
    Calls Try.prog 8 #[.string key, .int .u8 a1, .int .u64 a2] w (RetTrue w) := by
  obtain ⟨c, rfl, hc⟩ := nat_u8 wa
  obtain ⟨s, rfl, hs⟩ := nat_u64 wb
  clear wa wb
  have hend : ∀ (w5 : World), Hid (Calls Try.prog 20 #[] w5 (RetTrue w5)) := fun w5 => alive08_any w5
  by_cases hbig : 30 < key.size
  · go_enter Try.func8, Try.ntmps8
    go_wp2_with fail
    refine (hend _).out.mono ?_
    rintro e w1 ⟨rfl, bel1⟩
    go_wp2_with fail
    refine (hend _).out.mono ?_
    rintro e w2 ⟨rfl, bel2⟩
    have bel := bel1.trans (bel2.mono bel1.size)
    go_wp2
    go_ret
    exact ⟨rfl, bel⟩
  obtain ⟨n, hn⟩ : ∃ n, n = 1 + c % 64 := ⟨_, rfl⟩
  have hni : (1 : Int) + (c : Int) % 64 = (n : Int) := by omega
  have hn1 : 1 ≤ n := by omega
  have hn2 : n ≤ 64 := by omega
  obtain ⟨i0, hi0, hz, hz1, hz2⟩ := info_parts info_ent
  clear hn
  have HKD := Lib.hid (size_data key)
  go_enter Try.func8, Try.ntmps8
  go_wp2_with fail
  refine (hend _).out.mono ?_
  rintro e w1 ⟨rfl, bel1⟩
  have HB0 := Lib.hid bel1
  clear bel1
  have hd0 : decide (30 < (key.size : Int)) = false := by simp; omega
  have hd1 : decide (30 < key.size) = false := by simp; omega
  go_wp2_with fail
  clear hni hd0 hd1
  try show Code.wp _ _ _ _ _
  go_loopw [8, 9, 10] (fun av bv iv wr => ∃ i : Nat, i ≤ n ∧ iv = .int .i64 i ∧ (∃ la lc, av = .slice la i lc ∧ Hid (Own wr w.heap.size 30 4 (.slice la i lc) i (pcells (rowP key.data.toList s 100 i))) ∧
      (∃ ma mc, bv = .slice ma i mc ∧ Hid (Own wr w.heap.size 30 4 (.slice ma i mc) i (pcells (rowP [] s 100 i))) ∧ Hid (Apart wr (.slice ma i mc) (.slice la i lc)))) ∧ Hid (Below w.heap.size w wr)) (fun _ _ iv _ => n - (intOf iv).toNat)
  case atStart => exact ⟨0, by omega, rfl, ⟨none, 0, rfl, own_none _ _ _ _, none, 0, rfl, own_none _ _ _ _, Apart.none _ _⟩, HB0⟩
  case round =>
    obtain ⟨i, hi, rfl, ⟨la, lc, rfl, HO, ma, mc, rfl, HM, HA⟩, HB⟩ := hrel
    by_cases hlt : i < n
    · obtain ⟨ci, hci⟩ : ∃ ci, ci = 100 + i := ⟨_, rfl⟩
      have hadd : (100 : Int) + (i : Int) = (ci : Int) := by omega
      have hci2 : ci < 256 := by omega
      have hwi : IntKind.u8.wrap (ci : Int) = (ci : Int) := IntWalk.u8_in _ (by omega)
      have hwa : IntKind.i64.wrap (ci : Int) = (ci : Int) := IntWalk.i64_in _ (by omega)
      have hrd : Rd (wr.alloc (.cells #[.int .u8 (ci : Int)] 5)) (.slice (some ⟨wr.heap.size, 0, none⟩) 1 1) [UInt8.ofNat ci] :=
        rd_one wr (UInt8.ofNat ci) ci (by rw [toNat_ofNat ci (by omega)]) _
      have hcv := run_str hrd
      obtain ⟨K, hK⟩ : ∃ K, K = bs [UInt8.ofNat ci] := ⟨_, rfl⟩
      have hKs : K.size = 1 := by rw [hK, bs_size]; rfl
      have HX : Hid (rowPE [] s 100 i = ⟨K, s, false, ⟨#[118]⟩⟩) := by show _ = _; unfold rowPE; rw [← hci, hK]; rfl
      have HY : Hid (rowPE key.data.toList s 100 i = ⟨key ++ K, s, false, ⟨#[118]⟩⟩) := by show _ = _; unfold rowPE; rw [← hci, hK, bs_key]
      rw [← hK] at hcv
      clear hK hrd hci
      have hsz : (key.size : Int) + (K.size : Int) ≤ 9223372036854775807 := by omega
      have HE : Hid (∀ w' k, Calls Try.prog 28 #[.string k, .int .u64 s, .string ⟨#[118]⟩] w' fun e w2 => e = .returned (.agg #[.string k, .int .u64 s, .bool false, .string ⟨#[118]⟩]) ∧ Below w'.heap.size w' w2) :=
        fun w' k => entry8_any w' k ⟨#[118]⟩ s false (by decide)
      have hb1 : Below wr.heap.size wr (wr.alloc (.cells #[.int .u8 (ci : Int)] 5)) := (Below.refl _ _).alloc (Nat.le_refl _) _
      have HB1 := Lib.hid hb1
      clear hb1
      go_wp2_with fail
      refine (HE.out _ _).mono ?_
      rintro e w2 ⟨rfl, bel2⟩
      have b12 := HB1.out.trans (bel2.mono HB1.out.size)
      have HB2 := Lib.hid (HB.out.trans (b12.mono HB.out.size))
      have HO2 := Lib.hid (own_below HO.out b12)
      have HM2 := Lib.hid (own_below HM.out b12)
      have HA2 := Lib.hid (HA.out.later b12.size)
      clear b12 bel2 HB1 HO HB hcv HM HA
      have HAL : Hid (∀ o, Below w2.heap.size w2 (w2.alloc o)) := fun o => (Below.refl _ _).alloc (Nat.le_refl _) _
      go_wp2_with (at_builtin; go_loud (refine wp_app_el2 rfl _ _ rfl Try.underlying43 hi0 hz hz1 hz2 rfl (by omega) w.heap.size i 1 (.slice la i lc) _ (pcells (rowP key.data.toList s 100 i)) (pcell ⟨key ++ K, s, false, ⟨#[118]⟩⟩) (pcells (rowP key.data.toList s 100 (i + 1))) (i + 1) rfl rfl (own_below HO2.out (HAL.out _)) (reads_ent _ ⟨key ++ K, s, false, ⟨#[118]⟩⟩ _) (one_pcells [⟨key ++ K, s, false, ⟨#[118]⟩⟩]) rfl (by rw [rowP_next, pcells_app, HY.out]; simp [pcells]) (by omega) (by omega) (Nat.le_trans HB2.out.size (HAL.out _).size) ?_); intro ua uc w4 HU HG)
      have HM4 := Lib.hid (HG.out.keep _ _ _ _ _ _ (own_below HM2.out (HAL.out _)) (HA2.out.later (HAL.out _).size))
      have HA4 := Lib.hid (Apart.comm (HG.out.apart _ (HA2.out.later (HAL.out _).size)) HU.out (Nat.succ_pos _))
      have HB4 := Lib.hid ((HB2.out.trans ((HAL.out _).mono HB2.out.size)).trans HG.out.below)
      clear HG HAL HO2 HM2 HA2 HB2
      refine (HE.out _ _).mono ?_
      rintro e w5 ⟨rfl, bel5⟩
      have HU5 := Lib.hid (own_below HU.out bel5)
      have HM5 := Lib.hid (own_below HM4.out bel5)
      have HA5 := Lib.hid (HA4.out.later bel5.size)
      have HB5 := Lib.hid (HB4.out.trans (bel5.mono HB4.out.size))
      clear HU HM4 HA4 HB4 bel5
      have HAL : Hid (∀ o, Below w5.heap.size w5 (w5.alloc o)) := fun o => (Below.refl _ _).alloc (Nat.le_refl _) _
      go_wp2_with (at_builtin; go_loud (refine wp_app_el2 rfl _ _ rfl Try.underlying43 hi0 hz hz1 hz2 rfl (by omega) w.heap.size i 1 (.slice ma i mc) _ (pcells (rowP [] s 100 i)) (pcell ⟨K, s, false, ⟨#[118]⟩⟩) (pcells (rowP [] s 100 (i + 1))) (i + 1) rfl rfl (own_below HM5.out (HAL.out _)) (reads_ent _ ⟨K, s, false, ⟨#[118]⟩⟩ _) (one_pcells [⟨K, s, false, ⟨#[118]⟩⟩]) rfl (by rw [rowP_next, pcells_app, HX.out]; simp [pcells]) (by omega) (by omega) (Nat.le_trans HB5.out.size (HAL.out _).size) ?_); intro mb mbc w6 HV HG)
      have HU6 := HG.out.keep _ _ _ _ _ _ (own_below HU5.out (HAL.out _)) (HA5.out.later (HAL.out _).size)
      have HA6 := Apart.comm (HG.out.apart _ (HA5.out.later (HAL.out _).size)) HV.out (Nat.succ_pos _)
      exact ⟨⟨i + 1, by omega, by go_num, ⟨ua, uc, rfl, HU6, mb, mbc, rfl, HV, HA6⟩, (HB5.out.trans ((HAL.out _).mono HB5.out.size)).trans HG.out.below⟩, by simp [intOf]; omega⟩
    · obtain rfl : i = n := by omega
      clear hlt hi HA
      have HP := Lib.hid (put_row wr _ key.data.toList s i (by rw [HKD.out]; omega) hn1 hn2 hs (rdE_of (reads_of_own HO.out)).2)
      have HRM := Lib.hid (rdE_of (reads_of_own HM.out)).2
      rw [HKD.out] at HP
      clear HO HM
      go_wp2_with fail
      refine HP.out.mono ?_
      rintro e w3 ⟨pa, pn, pc, rfl, HPN, bel3⟩
      have hb3 := HB.out.trans (bel3.mono HB.out.size)
      have HB3 := Lib.hid hb3
      have HP2 := Lib.hid (put_row w3 _ [] s i (by decide) hn1 hn2 hs (HRM.out.below bel3))
      clear HP HRM bel3 hb3 HB
      go_wp2_with fail
      refine HP2.out.mono ?_
      rintro e w4 ⟨ra, rn, rc, rfl, HRN, bel4⟩
      have hb4 := HB3.out.trans (bel4.mono HB3.out.size)
      obtain ⟨q, hq⟩ : ∃ q, q = (i + 3) / 4 := ⟨_, rfl⟩
      have hqi : ((i : Int) + 3) / 4 = (q : Int) := by omega
      have hq16 : q ≤ 16 := by omega
      have hvl := vint_le s
      have hpr : q * key.size ≤ 16 * 30 := Nat.mul_le_mul hq16 (by omega)
      obtain ⟨m, hm⟩ : ∃ m, m = q * key.size := ⟨_, rfl⟩
      have hmi : (q : Int) * (key.size : Int) = (m : Int) := by rw [hm]; simp
      have hpn : pn = rn + m := by
        have h1 := HPN.out
        have h2 := HRN.out
        rw [← hq] at h1 h2
        rw [List.length_nil, Nat.mul_zero] at h2
        rw [← hm] at h1
        omega
      have hrn : rn ≤ 100000 := by
        have h2 := HRN.out
        rw [List.length_nil, Nat.mul_zero] at h2
        have h3 : i * (6 + (vint s).length) ≤ 64 * 100 := Nat.mul_le_mul hn2 (by omega)
        omega
      rw [← hm] at hpr
      clear hq hm HPN HRN HP2 HB3 bel4 hvl
      have hsum : (rn : Int) + (m : Int) = (pn : Int) := by omega
      clear hpn
      go_upto_region 14 with (fail)
      try rw [hqi]
      have hwm : IntKind.i64.wrap (m : Int) = (m : Int) := IntWalk.i64_in _ (by omega)
      have hwp : IntKind.i64.wrap (pn : Int) = (pn : Int) := IntWalk.i64_in _ (by omega)
      go_wp2_with fail
      go_ret
      exact ⟨by first | rfl | (simp; done), hb4⟩
end Go.Proofs.Ytafgioidneohhaa

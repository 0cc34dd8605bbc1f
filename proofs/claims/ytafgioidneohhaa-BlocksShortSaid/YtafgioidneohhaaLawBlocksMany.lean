/- The law BlocksMany answers true for any two numbers. No condition. -/
import Derived.Test.YtafgioidneohhaaBlkL
import Derived.Test.YtafgioidneohhaaBlkM
namespace Go.Proofs.Ytafgioidneohhaa
open Go.RowKit

/-- the entry i as the program holds it -/
def rowPE (p : List UInt8) (s b i : Nat) : PE := ⟨bs (p ++ [UInt8.ofNat (b + i)]), s, false, ⟨#[118]⟩⟩
def rowP (p : List UInt8) (s b n : Nat) : List PE := (List.range n).map (rowPE p s b)
theorem rowP_next (p : List UInt8) (s b n : Nat) : rowP p s b (n + 1) = rowP p s b n ++ [rowPE p s b n] := by
  unfold rowP; rw [List.range_succ, List.map_append]; rfl
theorem rowP_length (p : List UInt8) (s b n : Nat) : (rowP p s b n).length = n := by simp [rowP]
theorem rowP_ents (p : List UInt8) (s b n : Nat) : entsOf (rowP p s b n) = rowL p s b n := by
  unfold entsOf rowP rowL
  rw [List.map_map]
  exact List.map_congr_left fun i _ => by
    show entOf (bs (p ++ [UInt8.ofNat (b + i)])) s false ⟨#[118]⟩ = _
    unfold entOf rowE
    rw [bs_data]
theorem rowP_seqs (p : List UInt8) (s b n : Nat) (hs : s < 18446744073709551616) : ∀ x ∈ rowP p s b n, x.s < 18446744073709551616 := by
  intro x hx
  obtain ⟨i, _, rfl⟩ := List.mem_map.1 hx
  exact hs

set_option maxRecDepth 100000 in
set_option maxHeartbeats 4000000 in
theorem blocksMany_walk (w : World) (a1 a2 : Int) (wa : (Lit.int .u8 a1).wf = true) (wb : (Lit.int .u64 a2).wf = true) :
    Calls Try.prog 9 #[.int .u8 a1, .int .u64 a2] w (RetTrue w) := by
  obtain ⟨c, rfl, hc⟩ := nat_u8 wa
  obtain ⟨s, rfl, hs⟩ := nat_u64 wb
  clear wa wb
  have hend : ∀ (w5 : World), Hid (Calls Try.prog 20 #[] w5 (RetTrue w5)) := fun w5 => alive08_any w5
  obtain ⟨n, hn⟩ : ∃ n, n = 61 + c % 6 := ⟨_, rfl⟩
  have hni : (61 : Int) + (c : Int) % 6 = (n : Int) := by omega
  have hn1 : 61 ≤ n := by omega
  have hn2 : n ≤ 66 := by omega
  obtain ⟨i0, hi0, hz, hz1, hz2⟩ := info_parts info_ent
  clear hn
  go_enter Try.func9, Try.ntmps9
  go_wp2_with fail

  clear hni
  try show Code.wp _ _ _ _ _
  go_loopw [6, 7] (fun lv iv wr => ∃ i : Nat, i ≤ n ∧ iv = .int .i64 i ∧ (∃ la lc, lv = .slice la i lc ∧ Hid (Own wr w.heap.size 30 4 (.slice la i lc) i (pcells (rowP [107] s 0 i)))) ∧ Hid (Below w.heap.size w wr)) (fun _ iv _ => n - (intOf iv).toNat)
  case atStart => exact ⟨0, by omega, rfl, ⟨none, 0, rfl, own_none _ _ _ _⟩, Below.refl _ _⟩
  case round =>
    obtain ⟨i, hi, rfl, ⟨la, lc, rfl, HO⟩, HB⟩ := hrel
    by_cases hlt : i < n
    · have hwi : IntKind.u8.wrap (i : Int) = (i : Int) := IntWalk.u8_in _ (by omega)
      have hrd : Rd (wr.alloc (.cells #[.int .u8 107, .int .u8 (i : Int)] 5)) (.slice (some ⟨wr.heap.size, 0, none⟩) 2 2) [107, UInt8.ofNat i] :=
        rd_lit wr [107, UInt8.ofNat i] _ _ 2 (by simp only [u8s, List.map_cons, List.map_nil]; rw [toNat_ofNat i (by omega)]; rfl) rfl (by simp)
      have hcv := run_str hrd
      have HX : Hid (rowPE [107] s 0 i = ⟨bs [107, UInt8.ofNat i], s, false, ⟨#[118]⟩⟩) := by show _ = _; unfold rowPE; rw [Nat.zero_add]; rfl
      obtain ⟨K, hK⟩ : ∃ K, K = bs [107, UInt8.ofNat i] := ⟨_, rfl⟩
      rw [← hK] at hcv HX
      clear hK hrd
      have HE : Hid (∀ w', Calls Try.prog 28 #[.string K, .int .u64 s, .string ⟨#[118]⟩] w' fun e w2 => e = .returned (.agg #[.string K, .int .u64 s, .bool false, .string ⟨#[118]⟩]) ∧ Below w'.heap.size w' w2) :=
        fun w' => entry8_any w' K ⟨#[118]⟩ s false (by decide)
      have hb1 : Below wr.heap.size wr (wr.alloc (.cells #[.int .u8 107, .int .u8 (i : Int)] 5)) := (Below.refl _ _).alloc (Nat.le_refl _) _
      have HB1 := Lib.hid hb1
      clear hb1
      go_wp2_with fail
      refine (HE.out _).mono ?_
      rintro e w2 ⟨rfl, bel2⟩
      have b12 := HB1.out.trans (bel2.mono HB1.out.size)
      have HB2 := Lib.hid (HB.out.trans (b12.mono HB.out.size))
      have HO2 := Lib.hid (own_below HO.out b12)
      clear b12 bel2 HB1 HO HB hcv HE
      have HAL : Hid (∀ o, Below w2.heap.size w2 (w2.alloc o)) := fun o => (Below.refl _ _).alloc (Nat.le_refl _) _
      go_wp2_with (at_builtin; go_loud (refine wp_app_el2 rfl _ _ rfl Try.underlying43 hi0 hz hz1 hz2 rfl (by omega) w.heap.size i 1 (.slice la i lc) _ (pcells (rowP [107] s 0 i)) (pcell ⟨K, s, false, ⟨#[118]⟩⟩) (pcells (rowP [107] s 0 (i + 1))) (i + 1) rfl rfl (own_below HO2.out (HAL.out _)) (reads_ent _ ⟨K, s, false, ⟨#[118]⟩⟩ _) (one_pcells [⟨K, s, false, ⟨#[118]⟩⟩]) rfl (by rw [rowP_next, pcells_app, HX.out]; simp [pcells]) (by omega) (by omega) (Nat.le_trans HB2.out.size (HAL.out _).size) ?_); intro ua uc w4 HU HG)
      exact ⟨⟨i + 1, by omega, by go_num, ⟨ua, uc, rfl, HU⟩, (HB2.out.trans ((HAL.out _).mono HB2.out.size)).trans HG.out.below⟩, by simp [intOf]; omega⟩
    · obtain rfl : i = n := by omega
      clear hlt hi
      have hre := (rdE_of (reads_of_own HO.out)).2
      have HRE := Lib.hid hre
      clear hre
      by_cases h64 : 64 < i
      · have HP := Lib.hid (put_no wr _ _ HRE.out (rowP_seqs [107] s 0 i hs) (by rw [rowP_ents]; exact row_long _ _ _ _ h64))
        go_wp2_with fail
        refine HP.out.mono ?_
        rintro e w3 ⟨rfl, bel3⟩
        have hb3 := HB.out.trans (bel3.mono HB.out.size)
        go_wp2_with fail
        refine (hend _).out.mono ?_
        rintro e w4 ⟨rfl, bel4⟩
        have hb4 := hb3.trans (bel4.mono hb3.size)
        go_wp2
        go_ret
        exact ⟨rfl, hb4⟩
      · have hm : mayL (entsOf (rowP [107] s 0 i)) = true := by rw [rowP_ents]; exact row_may [107] s 0 i (by decide) (by omega) (by omega) (by omega)
        have hsq : Seqs (entsOf (rowP [107] s 0 i)) := fun y hy => by
          obtain ⟨x, hx, rfl⟩ := List.mem_map.1 hy
          exact rowP_seqs [107] s 0 i hs x hx
        have HP := Lib.hid (put_is wr _ _ HRE.out (rowP_seqs [107] s 0 i hs) hm)
        have HM := Lib.hid hm
        have HSQ := Lib.hid hsq
        clear hm hsq
        go_wp2_with fail
        refine HP.out.mono ?_
        rintro e w3 ⟨pa, pn, pc, rfl, HN, HPO, bel3⟩
        have hb3 := HB.out.trans (bel3.mono HB.out.size)
        have HB3 := Lib.hid hb3
        have HR3 := Lib.hid (HRE.out.below bel3)
        have HG := Lib.hid (get_is w3 _ _ _ (rd_of_own HPO.out).2 (Nat.le_trans (blk_small HM.out) (by decide)) HM.out HSQ.out rfl)
        clear HP HRE bel3 hb3 HB HO
        go_upto_region 10 with (fail)
        go_wp2_with fail
        refine HG.out.mono ?_
        rintro e w4 ⟨ga, gn, gc, rfl, HGN, HGO, bel4⟩
        have hb4 := HB3.out.trans (bel4.mono HB3.out.size)
        have HB4 := Lib.hid hb4
        have HR4 := Lib.hid (HR3.out.below bel4)
        have HPR := Lib.hid ((rd_of_own HPO.out).2.below bel4)
        have HGR := Lib.hid (rdE_of (reads_of_own HGO.out)).2
        clear HG HR3 HPO HGO bel4 hb4 HB3
        go_upto_region 11 with (fail)
        go_wp2_with fail
        refine (hend _).out.mono ?_
        rintro e w5 ⟨rfl, bel5⟩
        have hb5 := HB4.out.trans (bel5.mono HB4.out.size)
        have HB5 := Lib.hid hb5
        have HR5 := Lib.hid (HR4.out.below bel5)
        have HPR5 := Lib.hid (HPR.out.below bel5)
        have HGR5 := Lib.hid (HGR.out.below bel5)
        rw [toPE_entsOf] at HGR5
        have HSM := Lib.hid (sameE_any w5 _ _ _ HGR5.out HR5.out)
        clear HR4 HPR HGR bel5 hb5 HB4
        go_wp2_with fail
        refine HSM.out.mono ?_
        rintro e w6 ⟨rfl, bel6⟩
        have hb6 := HB5.out.trans (bel6.mono HB5.out.size)
        have HB6 := Lib.hid hb6
        obtain ⟨a', c', e1, hvc, _, hcell⟩ := HPR5.out.below bel6
        obtain ⟨pre, hpre⟩ := blk_last (entsOf (rowP [107] s 0 i)) (by rw [entsOf_length, rowP_length]; omega)
        rw [entsOf_length, rowP_length] at hpre
        have hpl : (blkPut (entsOf (rowP [107] s 0 i))).length = pre.length + 2 := by rw [hpre]; simp
        obtain ⟨en, hen⟩ : ∃ n, n = pre.length := ⟨_, rfl⟩
        obtain ⟨bb, off, hae, d0⟩ := hcell en (by omega)
        obtain ⟨b2, off2, hae2, d1⟩ := hcell (en + 1) (by omega)
        rw [hae] at hae2
        cases hae2
        simp only [Value.slice.injEq] at e1
        obtain ⟨e1, el, ec⟩ := e1
        rw [hae] at e1
        subst e1
        have hpn : pn = en + 2 := by rw [HN.out]; omega
        have hsm := blk_small HM.out
        have hps : en ≤ 40000 := by omega
        clear hsm
        have v0 : (blkPut (entsOf (rowP [107] s 0 i)))[en]'(by omega) = 0 := by simp [hpre, hen]
        have v1 : (blkPut (entsOf (rowP [107] s 0 i)))[en + 1]'(by omega) = UInt8.ofNat ((i + 3) / 4) := by simp [hpre, hen]
        rw [v0] at d0
        rw [v1] at d1
        have q1 : (UInt8.ofNat ((i + 3) / 4)).toNat = (i + 3) / 4 := toNat_ofNat _ (by omega)
        rw [q1] at d1
        obtain ⟨q, hq⟩ : ∃ q, q = (i + 3) / 4 := ⟨_, rfl⟩
        rw [← hq] at d1
        have hqi : ((i : Int) + 3) / 4 = (q : Int) := by omega
        clear el ec hae hcell v0 v1 q1 hq hpre hpl hen HSM HPR5 HGR5 HR5 HB5 hb6 HN HGN
        have d0' : w6.cell? ⟨bb, off + en, none⟩ = some (.int .u8 0) := d0
        clear d0
        obtain ⟨fn, hfn⟩ : ∃ n, n = en + 1 := ⟨_, rfl⟩
        rw [← hfn] at d1
        have he1 : (pn : Int) - 2 = (en : Int) := by omega
        have he2 : (pn : Int) - 1 = (fn : Int) := by omega
        have hb1 : (en : Int) < (pn : Int) := by omega
        have hb2 : (fn : Int) < (pn : Int) := by omega
        have hps2 : pn ≤ 50000 := by omega
        have hb1n : en < pn := by omega
        have hb2n : fn < pn := by omega
        clear hpn hfn
        go_wp2_with fail
        go_ret
        exact ⟨rfl, HB6.out⟩
end Go.Proofs.Ytafgioidneohhaa

/- What the reference's reader of files has found, block by block, if the bytes are a file's; in plain Lean. No condition. | Walk of the reference's reader of a whole file. The condition: at most 2^28 bytes. | Walk of the reference's Get out of a file. The condition: at most 2^28 bytes. | Walk of the reference's From out of a file. The condition: at most 2^28 bytes, a key as a machine bears. -/
import Derived.Test.YtbcnapkbdbefhaaGreatDoorRefGetA
import Derived.Test.YtbcnapkbdbefhaaGreatDoorSRefA
namespace Go.Proofs.YtbcnapkbdbefhaaGreatDoor
open Go.RowKit

/-- if the bytes are a file's: k blocks are read, the next stands at at_ -/
def FitsB (b : List UInt8) (L : List Ent) (k at_ : Nat) : Prop := ∀ E, IsS b E → k < nBlk E ∧ L = E.take (16 * k) ∧ at_ = (framesN E k).length
theorem fitsB_zero (b : List UInt8) : FitsB b [] 0 0 := fun E hE => by
  have h := ((mayS_iff E).1 hE.1).1
  exact ⟨by unfold nBlk; omega, by simp, rfl⟩
theorem fitsB_long {b : List UInt8} {L : List Ent} {k at_ : Nat} (h : FitsB b L k at_) (hk : 4096 < 16 * k) : ∀ E, ¬ IsS b E := fun E hE => by
  have h1 := (h E hE).1
  have h2 := hE.2.2.1
  unfold nBlk at h1
  omega
theorem fitsB_get {b : List UInt8} {L : List Ent} {k at_ : Nat} (h : FitsB b L k at_) {E : List Ent} (hE : IsS b E) : fgetR (b.drop at_) = (blkPut (blkN E k), (blkPut (blkN E k)).length + 8, 0) := by
  obtain ⟨h1, h2, h3⟩ := h E hE
  have e := hE.2.2.2
  subst e
  rw [h3]
  exact fget_blk hE k h1
theorem fitsB_bad {b r : List UInt8} {L : List Ent} {k at_ t er : Nat} (h : FitsB b L k at_) (hf : fgetR (b.drop at_) = (r, t, er)) (he : er ≠ 0) : ∀ E, ¬ IsS b E := fun E hE => by
  rw [fitsB_get h hE] at hf
  simp only [Prod.mk.injEq] at hf
  exact he hf.2.2.symm
theorem fitsB_noblk {b r : List UInt8} {L : List Ent} {k at_ t : Nat} (h : FitsB b L k at_) (hf : fgetR (b.drop at_) = (r, t, 0)) (hn : ∀ F, mayL F = true → (∀ x ∈ F, x.seq < 18446744073709551616) → blkPut F ≠ r) : ∀ E, ¬ IsS b E := fun E hE => by
  rw [fitsB_get h hE] at hf
  simp only [Prod.mk.injEq] at hf
  exact hn _ (blkN_may hE.1 k (h E hE).1) (blkN_seqs hE.2.1 k) hf.1
theorem fitsB_next {b r : List UInt8} {L F : List Ent} {k at_ t : Nat} (h : FitsB b L k at_) (hf : fgetR (b.drop at_) = (r, t, 0)) (hm : mayL F = true) (hs : ∀ x ∈ F, x.seq < 18446744073709551616) (hr : blkPut F = r)
    {E : List Ent} (hE : IsS b E) : F = blkN E k ∧ L ++ F = E.take (16 * (k + 1)) ∧ at_ + t = (framesN E (k + 1)).length := by
  obtain ⟨h1, h2, h3⟩ := h E hE
  rw [fitsB_get h hE] at hf
  simp only [Prod.mk.injEq] at hf
  have e : F = blkN E k := blk_unique hm (blkN_may hE.1 k h1) hs (blkN_seqs hE.2.1 k) (by rw [hr]; exact hf.1.symm)
  refine ⟨e, ?_, ?_⟩
  · rw [h2, e, blkN, ← List.take_add]
    congr 1
  · rw [framesN_step, h3, ← hf.2.1]
/-- what was read is no file of these bytes: one more block must stand there -/
theorem fitsB_more {b r : List UInt8} {L F : List Ent} {k at_ t : Nat} (h : FitsB b L k at_) (hf : fgetR (b.drop at_) = (r, t, 0)) (hm : mayL F = true) (hs : ∀ x ∈ F, x.seq < 18446744073709551616) (hr : blkPut F = r)
    (hno : ¬ (errS (L ++ F) = 0 ∧ outS (L ++ F) = b)) {E : List Ent} (hE : IsS b E) : k + 1 < nBlk E ∧ F.length = 16 := by
  obtain ⟨e1, e2, e3⟩ := fitsB_next h hf hm hs hr hE
  have hlen : 16 * (k + 1) < E.length := by
    refine Nat.lt_of_not_le fun hle => hno ?_
    rw [List.take_of_length_le hle] at e2
    have he := errS_ok hE.1 hE.2.2.1
    rw [e2]
    exact ⟨he, by rw [outS_ok he]; exact hE.2.2.2⟩
  refine ⟨by unfold nBlk; omega, ?_⟩
  rw [e1, blkN_length]
  omega
theorem fitsB_short {b r : List UInt8} {L F : List Ent} {k at_ t : Nat} (h : FitsB b L k at_) (hf : fgetR (b.drop at_) = (r, t, 0)) (hm : mayL F = true) (hs : ∀ x ∈ F, x.seq < 18446744073709551616) (hr : blkPut F = r)
    (hno : ¬ (errS (L ++ F) = 0 ∧ outS (L ++ F) = b)) (hl : F.length ≠ 16) : ∀ E, ¬ IsS b E := fun _ hE => hl (fitsB_more h hf hm hs hr hno hE).2
theorem fitsB_step {b r : List UInt8} {L F : List Ent} {k at_ t : Nat} (h : FitsB b L k at_) (hf : fgetR (b.drop at_) = (r, t, 0)) (hm : mayL F = true) (hs : ∀ x ∈ F, x.seq < 18446744073709551616) (hr : blkPut F = r)
    (hno : ¬ (errS (L ++ F) = 0 ∧ outS (L ++ F) = b)) : FitsB b (L ++ F) (k + 1) (at_ + t) := fun _ hE =>
  ⟨(fitsB_more h hf hm hs hr hno hE).1, (fitsB_next h hf hm hs hr hE).2⟩
/-- a block's entries, as a program holds them -/
theorem blk_oks {F : List Ent} (hm : mayL F = true) (hs : ∀ x ∈ F, x.seq < 18446744073709551616) : ∀ x ∈ F.map toPE, x.ok := fun y hy => by
  obtain ⟨x, hx, rfl⟩ := List.mem_map.1 hy
  obtain ⟨i, hi, rfl⟩ := List.getElem_of_mem hx
  have hok := ((mayL_iff F).1 hm).2 i hi
  unfold okAt at hok
  rw [Bool.and_eq_true, atE_get F i hi] at hok
  obtain ⟨f1, f2, _⟩ := (fitE_iff _).1 hok.1
  have f3 : 1 ≤ F[i].key.length ∧ F[i].key.length ≤ 32 := by simpa [checkK] using f1
  refine ⟨?_, hs _ hx, ?_⟩
  · show (bs F[i].key).size ≤ _
    rw [bs_size]; omega
  · show (bs F[i].val).size ≤ _
    rw [bs_size]; omega
/-- no file -/
theorem retAE_no {b : List UInt8} {X : List Ent} {er : Nat} (hX : AllIs b X er) (hno : ∀ E, ¬ IsS b E) {w w' : World} (hb : Below w.heap.size w w') : RetAE X er w (.returned (.tuple #[.slice none 0 0, .int .i64 4])) w' := by
  obtain ⟨rfl, rfl⟩ := hX.no hno
  exact ⟨none, 0, 0, rfl, rfl, .inl ⟨rfl, rfl, none, rfl⟩, hb⟩
/-- a file -/
theorem retAE_yes {b : List UInt8} {X E : List Ent} {er : Nat} (hX : AllIs b X er) (hs : ∀ x ∈ E, x.seq < 18446744073709551616) (he : errS E = 0) (ho : outS E = b) {w w' : World} {a : Option Addr} {n c : Nat}
    (hn : n = E.length) (how : Own w' w.heap.size 34 4 (.slice a n c) n (pcells (E.map toPE))) (hb : Below w.heap.size w w') : RetAE X er w (.returned (.tuple #[.slice a n c, .int .i64 0])) w' := by
  have h := isS_put hs he
  rw [ho] at h
  obtain ⟨rfl, rfl⟩ := hX.of h
  exact ⟨a, n, c, rfl, hn, how, hb⟩
end Go.Proofs.YtbcnapkbdbefhaaGreatDoor
namespace Go.Proofs.YtbcnapkbdbefhaaGreatDoor
open Go.RowKit

set_option maxRecDepth 100000 in
set_option maxHeartbeats 3000000 in
theorem refAll_any (w : World) (v : Value) (b : List UInt8) (X : List Ent) (er : Nat) (hv : Rd w v b) (hb : b.length ≤ 268435456) (hX : AllIs b X er) : Calls Tryz.prog 9 #[v] w (RetAE X er w) := by
  have HV := Lib.hid hv
  have HX := Lib.hid hX
  obtain ⟨va, vn, vc, rfl, hvn⟩ := rd_len hv
  have HVN := Lib.hid hvn
  rw [← hvn] at hb
  have HNO : Hid (∀ w', (∀ E, ¬ IsS b E) → Below w.heap.size w w' → RetAE X er w (.returned (.tuple #[.slice none 0 0, .int .i64 4])) w') := fun w' hno hb => retAE_no HX.out hno hb
  clear hvn hv hX
  go_enter Tryz.func9, Tryz.ntmps9
  go_upto_region 3 with (fail)
  try show Code.wp _ _ _ _ _
  go_loopw [4, 5] (fun lv av wr => ∃ (k q n c : Nat) (a : Option Addr) (L : List Ent), lv = .slice a n c ∧ av = .int .i64 q ∧ q ≤ vn ∧ n ≤ 4200 ∧ Hid (n = 16 * k ∧ L.length = n) ∧ Hid (Own wr w.heap.size 34 4 (.slice a n c) n (pcells (L.map toPE))) ∧ Hid (FitsB b L k q) ∧ Hid (∀ x ∈ L.map toPE, x.ok) ∧ Hid (Below w.heap.size w wr)) (fun lv _ _ => 5000 - lenV lv)
  case atStart => exact ⟨0, 0, 0, 0, none, [], rfl, rfl, Nat.zero_le _, by omega, ⟨rfl, rfl⟩, .inl ⟨rfl, rfl, none, rfl⟩, fitsB_zero b, (fun x hx => absurd hx (by simp)), Below.refl _ _⟩
  case round =>
    obtain ⟨k, q, n, c, a, L, rfl, rfl, hqv, hn42, HKN, HO, HF, HOK, HBR⟩ := hrel
    by_cases hlong : 4096 < n
    · have HR := Lib.hid (HNO.out wr (fitsB_long HF.out (by rw [← HKN.out.1]; exact hlong)) HBR.out)
      go_wp2_with fail
      go_ret2
      exact HR.out
    · obtain ⟨n2, hn2⟩ : ∃ x, x = vn - q := ⟨_, rfl⟩
      obtain ⟨ba, bc, hbcut, hbr⟩ := cut_rest (HV.out.below HBR.out) q n2 (by rw [← HVN.out]; omega)
      have hbcut2 := fun w' => hbcut w' .i64
      have hfg := refFramesGet_any wr (.slice ba n2 bc) (b.drop q) hbr (by rw [List.length_drop, ← HVN.out]; omega)
      obtain ⟨⟨r, t, e0⟩, hfr⟩ : ∃ z, z = fgetR (b.drop q) := ⟨_, rfl⟩
      rw [← hfr] at hfg
      have HFG := Lib.hid hfg
      have HFR := Lib.hid hfr.symm
      clear hbcut hbr hfg hfr hn2
      by_cases he0 : e0 = 0
      · subst he0
        obtain ⟨g1, g2, g3, -⟩ := fgetR_got HFR.out
        have htv : q + t ≤ vn := by rw [List.length_drop, ← HVN.out] at g3; omega
        have HBG := Lib.hid (fun w' v' (hr : Rd w' v' r) => refBlkGet_any w' v' r hr (by omega))
        clear g2 g3
        go_upto_region 6 with (go_at_call 28; refine HFG.out.mono ?_; rintro e w5 ⟨ra, rn, rc, rfl, HRN, HRO, bel5⟩)
        have HO5 := Lib.hid (own_below HO.out bel5)
        have HB5 := Lib.hid (HBR.out.trans (bel5.mono HBR.out.size))
        replace HBG := Lib.hid (HBG.out w5 _ (rd_of_own HRO.out).2)
        clear HFG HRO HRN HO HBR bel5 hbcut2 g1
        go_wp2_with fail
        refine HBG.out.mono ?_
        rintro e w6 ⟨bel6, ⟨F, hm, hs, hr, ma, mn, mc, rfl, HMN, HMO⟩ | ⟨hno, rfl⟩⟩
        · have HO6 := Lib.hid (own_below HO5.out bel6)
          have HB6 := Lib.hid (HB5.out.trans (bel6.mono HB5.out.size))
          have HBK : Hid (mayL F = true ∧ (∀ x ∈ F, x.seq < 18446744073709551616) ∧ blkPut F = r) := ⟨hm, hs, hr⟩
          have hmn64 : mn ≤ 64 := by rw [HMN.out]; exact ((mayL_iff F).1 hm).1.2
          have hx6 := reads_of_own HMO.out
          have HX6 := Lib.hid hx6
          obtain ⟨r2, hr2⟩ : ∃ x, n + mn = x := ⟨_, rfl⟩
          have HR2 := Lib.hid hr2
          have hr2b : r2 ≤ 5000 := by omega
          have hz : pcells (L.map toPE) ++ pcells (F.map toPE) = pcells ((L ++ F).map toPE) := by rw [List.map_append, pcells_app]
          have HZ := Lib.hid hz
          have hoks : ∀ x ∈ (L ++ F).map toPE, x.ok := fun x hx => by
            rw [List.map_append] at hx
            rcases List.mem_append.1 hx with h | h
            · exact HOK.out x h
            · exact blk_oks hm hs x h
          have HOK2 := Lib.hid hoks
          have HL2 : Hid (r2 = (L ++ F).length) := by show _ = _; rw [List.length_append, HKN.out.2, ← HMN.out, hr2]
          have hsz6 := HB6.out.size
          obtain ⟨i0, hi0, hz0, hz1, hz2⟩ := info_parts info_ent
          have haq : IntKind.i64.wrap ((q : Int) + (t : Int)) = (q : Int) + (t : Int) := IntWalk.i64_in _ (by omega)
          clear HBG HMO HO5 HB5 bel6 hm hs hr hx6 hr2 hz hoks
          go_wp2_with (at_builtin; go_loud (refine wp_app_elR rfl _ _ rfl Tryz.underlying29 hi0 hz0 hz1 hz2 rfl (by omega) w.heap.size n mn (.slice a n c) (.slice ma mn mc) _ _ _ r2 rfl rfl HO6.out HX6.out (one_pcells _) HR2.out HZ.out (by omega) (by omega) hsz6 ?_); intro a2 c2 w7 HO7 HG7)
          have HB7 := Lib.hid (HB6.out.trans HG7.out.below)
          have HPT := Lib.hid (refSPut_any w7 (.slice a2 r2 c2) ((L ++ F).map toPE) (rdE_of (reads_of_own HO7.out)).2 HOK2.out (by rw [List.length_map, ← HL2.out]; omega))
          have hpt := HPT.out
          rw [entsOf_toPE] at hpt
          have HPT2 := Lib.hid hpt
          clear hpt HPT HO6 HX6 HG7 hsz6 HB6 HZ HR2
          refine HPT2.out.mono ?_
          rintro e w8 ⟨ca, cn, cc, rfl, HCN, HCO, bel8⟩
          have HO8 := Lib.hid (own_below HO7.out bel8)
          have HB8 := Lib.hid (HB7.out.trans (bel8.mono HB7.out.size))
          have hc1 := run_str (rd_of_own HCO.out).2
          have hc2 := run_str (HV.out.below HB8.out)
          have HSQ2 : Hid (∀ x ∈ L ++ F, x.seq < 18446744073709551616) := fun x hx => (HOK2.out (toPE x) (List.mem_map_of_mem hx)).2.1
          clear HPT2 HO7 HB7 HCO HCN bel8
          by_cases hyes : errS (L ++ F) = 0 ∧ outS (L ++ F) = b
          · rw [hyes.1]
            rw [hyes.2] at hc1
            have HR := Lib.hid (retAE_yes HX.out HSQ2.out hyes.1 hyes.2 HL2.out HO8.out HB8.out)
            have hbz : ((bs b).toList == (bs b).toList) = true := by simp
            clear hyes
            go_wp2_with fail
            go_ret2
            exact HR.out
          · have HYES := Lib.hid hyes
            by_cases hez : errS (L ++ F) = 0
            · rw [hez]
              have hne : outS (L ++ F) ≠ b := fun h => hyes ⟨hez, h⟩
              obtain ⟨oz, hoz⟩ : ∃ z, z = outS (L ++ F) := ⟨_, rfl⟩
              rw [← hoz] at hc1 hne
              have hkl2 : ¬ (bs oz).toList = (bs b).toList := fun h => hne (by have h2 := ba_ext h; rw [← bs_data oz, h2, bs_data])
              have hkb : ((bs oz).toList == (bs b).toList) = false := by simp [hkl2]
              clear hyes hez hne hoz
              by_cases h16 : mn = 16
              · have HF2 : Hid (FitsB b (L ++ F) (k + 1) (q + t)) := fitsB_step HF.out HFR.out HBK.out.1 HBK.out.2.1 HBK.out.2.2 HYES.out
                have HK2 : Hid (r2 = 16 * (k + 1) ∧ (L ++ F).length = r2) := ⟨by rw [HL2.out, List.length_append, HKN.out.2, ← HMN.out, h16, HKN.out.1]; omega, HL2.out.symm⟩
                have hr42 : r2 ≤ 4200 := by have := HK2.out.1; have := HKN.out.1; omega
                have HRN2 : Hid (r2 = n + 16) := by show _ = _; have := HK2.out.1; have := HKN.out.1; omega
                subst h16
                clear HKN HF HOK
                go_wp2_with fail
                go_roundw
                case rel => exact ⟨k + 1, q + t, r2, c2, a2, L ++ F, rfl, by go_num, htv, hr42, HK2, HO8, HF2, HOK2, HB8⟩
                case measure => have := HRN2.out; simp [lenV]; omega
              · have HR := Lib.hid (HNO.out w8 (fitsB_short HF.out HFR.out HBK.out.1 HBK.out.2.1 HBK.out.2.2 HYES.out (by rw [← HMN.out]; exact h16)) HB8.out)
                have hne16 : ((mn : Int) == 16) = false := by simp; omega
                go_wp2_with fail
                go_ret2
                exact HR.out
            · obtain ⟨ez, hez2⟩ : ∃ z, z = errS (L ++ F) := ⟨_, rfl⟩
              rw [← hez2] at hez ⊢
              have hen : ((ez : Int) == 0) = false := by simp; omega
              clear hyes hez2
              by_cases h16 : mn = 16
              · have HF2 : Hid (FitsB b (L ++ F) (k + 1) (q + t)) := fitsB_step HF.out HFR.out HBK.out.1 HBK.out.2.1 HBK.out.2.2 HYES.out
                have HK2 : Hid (r2 = 16 * (k + 1) ∧ (L ++ F).length = r2) := ⟨by rw [HL2.out, List.length_append, HKN.out.2, ← HMN.out, h16, HKN.out.1]; omega, HL2.out.symm⟩
                have hr42 : r2 ≤ 4200 := by have := HK2.out.1; have := HKN.out.1; omega
                have HRN2 : Hid (r2 = n + 16) := by show _ = _; have := HK2.out.1; have := HKN.out.1; omega
                subst h16
                clear HKN HF HOK
                go_wp2_with fail
                go_roundw
                case rel => exact ⟨k + 1, q + t, r2, c2, a2, L ++ F, rfl, by go_num, htv, hr42, HK2, HO8, HF2, HOK2, HB8⟩
                case measure => have := HRN2.out; simp [lenV]; omega
              · have HR := Lib.hid (HNO.out w8 (fitsB_short HF.out HFR.out HBK.out.1 HBK.out.2.1 HBK.out.2.2 HYES.out (by rw [← HMN.out]; exact h16)) HB8.out)
                have hne16 : ((mn : Int) == 16) = false := by simp; omega
                go_wp2_with fail
                go_ret2
                exact HR.out
        · have HR := Lib.hid (HNO.out w6 (fitsB_noblk HF.out HFR.out hno) (HB5.out.trans (bel6.mono HB5.out.size)))
          clear hno
          go_wp2_with fail
          go_ret2
          exact HR.out
      · have HBAD := Lib.hid (fitsB_bad HF.out HFR.out he0)
        rcases (fgetR_bad HFR.out he0).2.2 with rfl | rfl <;>
        · clear he0
          go_wp2_with fail
          refine HFG.out.mono ?_
          rintro e w5 ⟨ra, rn, rc, rfl, HRN, HRO, bel5⟩
          have HR := Lib.hid (HNO.out w5 HBAD.out (HBR.out.trans (bel5.mono HBR.out.size)))
          go_wp2_with fail
          go_ret2
          exact HR.out
end Go.Proofs.YtbcnapkbdbefhaaGreatDoor
namespace Go.Proofs.YtbcnapkbdbefhaaGreatDoor
open Go.RowKit

set_option maxRecDepth 100000 in
theorem res_getR {tmps : Array Value} {w : World} {c : Nat} {k u : ByteArray} {s : Nat} {b : Bool} {v1 v2 : Value} (hp : tmps[6]?.getD undef = .pointer (some ⟨c, 0, none⟩)) (h1 : tmps[7]?.getD undef = v1) (h2 : tmps[8]?.getD undef = v2) (hX : Blk w c #[.string k, .int .u64 s, .bool b, .string u] 34) :
    (results Tryz.f10 tmps).run Tryz.prog w = .ok (.tuple #[.agg #[.string k, .int .u64 s, .bool b, .string u], v1, v2]) w := by
  have c0 := hX.cellv 0 (.string k) rfl
  have c1 := hX.cellv 1 (.int .u64 s) rfl
  have c2 := hX.cellv 2 (.bool b) rfl
  have c3 := hX.cellv 3 (.string u) rfl
  simp only [results, Tryz.results10]
  simp [go_sem, hp, h1, h2, c0, c1, c2, c3]
set_option maxRecDepth 100000 in
set_option maxHeartbeats 3000000 in
theorem refGetS_any (w : World) (v : Value) (b : List UInt8) (X : List Ent) (er : Nat) (k : ByteArray) (s : Nat) (hv : Rd w v b) (hb : b.length ≤ 268435456) (hX : AllIs b X er) :
    Calls Tryz.prog 10 #[v, .string k, .int .u64 s] w (RetGE (getS k.data.toList s X) er w) := by
  obtain ⟨W, hW⟩ : ∃ W, W = w.alloc (.cells #[.string ⟨#[]⟩, .int .u64 0, .bool false, .string ⟨#[]⟩] 34) := ⟨_, rfl⟩
  obtain ⟨g, hg⟩ : ∃ g, g = w.heap.size := ⟨_, rfl⟩
  have hE : Blk W g #[.string ⟨#[]⟩, .int .u64 0, .bool false, .string ⟨#[]⟩] 34 := by rw [hW]; exact Blk.new_at _ _ _ _ hg
  have hbW : Below w.heap.size w W := by rw [hW]; exact (Below.refl _ _).alloc (Nat.le_refl _) _
  have HA := Lib.hid (refAll_any W v b X er (hv.below hbW) hb hX)
  have HGF := Lib.hid (getS_find hX.rises k.data.toList s)
  have HSM := Lib.hid hX.small
  have HER : Hid (0 < X.length → er = 0) := fun h => by
    rcases hX with ⟨h1, _⟩ | ⟨_, rfl, _⟩
    · exact h1
    · exact absurd h (by simp)
  have HW := Lib.hid hW
  have HE := Lib.hid hE
  have HBW := Lib.hid hbW
  have HG := Lib.hid hg
  have hgw : w.heap.size ≤ g := Nat.le_of_eq hg.symm
  clear hW hE hbW hv hX hg
  go_enter Tryz.func10, Tryz.ntmps10
  go_upto_region 1 with (fail)
  rw [← HG.out, ← HW.out]
  go_upto_region 2 with (go_at_call 9; refine HA.out.mono ?_; rintro e w2 ⟨la, n, lc, rfl, HN, HO, bel2⟩)
  have HB2 := Lib.hid (HBW.out.trans (bel2.mono HBW.out.size))
  have HE2 := Lib.hid (HE.out.below bel2)
  have HR2 := Lib.hid (rdE_of (reads_of_own HO.out)).2
  have hn : n ≤ 4096 := by rw [HN.out]; exact HSM.out.1
  clear bel2 HA HO HE
  go_wp2_with fail
  try show Code.wp _ _ _ _ _
  go_loopw [11] (fun iv wr => ∃ i : Nat, i ≤ n ∧ iv = .int .i64 i ∧ Hid (getS k.data.toList s X = wantD X k.data.toList s i) ∧ Hid (Below w2.heap.size w2 wr)) (fun iv _ => n - (intOf iv).toNat)
  case atStart => exact ⟨0, Nat.zero_le _, rfl, by show _ = _; rw [HGF.out, wantD_zero], Below.refl _ _⟩
  case round =>
    obtain ⟨i, hi, rfl, HW2, HBR⟩ := hrel
    have HBT := Lib.hid (HB2.out.trans (HBR.out.mono HB2.out.size))
    have HE3 := Lib.hid (HE2.out.below HBR.out)
    by_cases hlt : i < n
    · have hil : i < X.length := by rw [← HN.out]; exact hlt
      have hii : (i : Int) < (n : Int) := by omega
      obtain ⟨b3, off3, hae, c0, c1, c2, c3⟩ := row_at (HR2.out.below HBR.out) i (by rw [List.length_map]; exact hil)
      subst hae
      have hst := wantD_step X k.data.toList s i hil
      rw [atE_get X i hil] at hst
      obtain ⟨y, hy⟩ : ∃ y, y = X[i] := ⟨_, rfl⟩
      simp only [List.getElem_map] at c0 c1 c2 c3
      rw [← hy] at c0 c1 c2 c3 hst
      have hys : y.seq < 18446744073709551616 := HSM.out.2.1 y (by rw [hy]; exact List.getElem_mem hil)
      have HST := Lib.hid hst
      obtain ⟨yk, ys, yg, yu⟩ := y
      simp only [toPE] at c0 c1 c2 c3 hys
      obtain ⟨zk, hzk⟩ : ∃ z, z = bs yk := ⟨_, rfl⟩
      obtain ⟨zu, hzu⟩ : ∃ z, z = bs yu := ⟨_, rfl⟩
      have HZ : Hid (zk = bs yk ∧ zu = bs yu) := ⟨hzk, hzu⟩
      rw [← hzk] at c0
      rw [← hzu] at c3
      have HX0 := Lib.hid (HER.out (by omega))
      clear hst hy hzk hzu
      by_cases hk : zk = k
      · have hkb : (zk.toList == k.toList) = true := by rw [hk]; simp
        by_cases hq : ys ≤ s
        · have HF : Hid (getS k.data.toList s X = some ⟨yk, ys, yg, yu⟩) := by
            show _ = _
            rw [HW2.out, HST.out, if_pos (by simp only [ofK, Bool.and_eq_true, decide_eq_true_eq]; exact ⟨by rw [← hk, HZ.out.1, bs_data], hq⟩)]
          have hqd : decide ((ys : Int) ≤ (s : Int)) = true := by simp; omega
          have HK := Lib.hid hk
          have y0 := HE3.out.cellv 0 (.string ⟨#[]⟩) rfl
          have y1 := HE3.out.cellv 1 (.int .u64 0) rfl
          have y2 := HE3.out.cellv 2 (.bool false) rfl
          have y3 := HE3.out.cellv 3 (.string ⟨#[]⟩) rfl
          have f0 := HE3.out.free 0
          have f1 := HE3.out.free 1
          have f2 := HE3.out.free 2
          have f3 := HE3.out.free 3
          clear hk
          go_wp2_with fail
          have hF := ((((HE3.out.set 0 (.string zk)).set 1 (.int .u64 ys)).set 2 (.bool yg)).set 3 (.string zu))
          have hB := (((HBT.out.setCell (p := ⟨g, 0, none⟩) hgw (.string zk)).setCell (p := ⟨g, 1, none⟩) hgw (.int .u64 ys)).setCell (p := ⟨g, 2, none⟩) hgw (.bool yg)).setCell (p := ⟨g, 3, none⟩) hgw (.string zu)
          refine bodyPost_ret (res_getR rfl rfl rfl hF) rfl ?_
          refine ⟨?_, hB⟩
          rw [HF.out, HX0.out, HZ.out.1, HZ.out.2]
          rfl
        · have HF : Hid (getS k.data.toList s X = wantD X k.data.toList s (i + 1)) := by
            show _ = _
            rw [HW2.out, HST.out, if_neg (by simp only [ofK, Bool.and_eq_true, decide_eq_true_eq]; exact fun h => hq h.2)]
          have hqd : decide ((ys : Int) ≤ (s : Int)) = false := by simp; omega
          have HK := Lib.hid hk
          clear hk
          go_wp2_with fail
          go_roundw
          case rel => exact ⟨i + 1, by omega, by go_num, HF, HBR⟩
          case measure => simp [intOf]; omega
      · have HF : Hid (getS k.data.toList s X = wantD X k.data.toList s (i + 1)) := by
          show _ = _
          rw [HW2.out, HST.out, if_neg (by simp only [ofK, Bool.and_eq_true, decide_eq_true_eq]; exact fun h => hk (by rw [HZ.out.1, h.1, bs_of]))]
        have hkl2 : ¬ zk.toList = k.toList := fun h => hk (ba_ext h)
        have hkb : (zk.toList == k.toList) = false := by simp [hkl2]
        go_wp2_with fail
        go_roundw
        case rel => exact ⟨i + 1, by omega, by go_num, HF, HBR⟩
        case measure => simp [intOf]; omega
    · obtain rfl : i = n := by omega
      have HF : Hid (getS k.data.toList s X = none) := by show _ = _; rw [HW2.out, HN.out, wantD_end]
      have y0 := HE3.out.cellv 0 (.string ⟨#[]⟩) rfl
      have y1 := HE3.out.cellv 1 (.int .u64 0) rfl
      have y2 := HE3.out.cellv 2 (.bool false) rfl
      have y3 := HE3.out.cellv 3 (.string ⟨#[]⟩) rfl
      have f0 := HE3.out.free 0
      have f1 := HE3.out.free 1
      have f2 := HE3.out.free 2
      have f3 := HE3.out.free 3
      go_wp2_with fail
      have hF := ((((HE3.out.set 0 (.string ⟨#[]⟩)).set 1 (.int .u64 0)).set 2 (.bool false)).set 3 (.string ⟨#[]⟩))
      have hB := (((HBT.out.setCell (p := ⟨g, 0, none⟩) hgw (.string ⟨#[]⟩)).setCell (p := ⟨g, 1, none⟩) hgw (.int .u64 0)).setCell (p := ⟨g, 2, none⟩) hgw (.bool false)).setCell (p := ⟨g, 3, none⟩) hgw (.string ⟨#[]⟩)
      refine bodyPost_ret (res_getR rfl rfl rfl hF) rfl ?_
      refine ⟨?_, hB⟩
      rw [HF.out]
      rfl
end Go.Proofs.YtbcnapkbdbefhaaGreatDoor
namespace Go.Proofs.YtbcnapkbdbefhaaGreatDoor
open Go.RowKit

set_option maxRecDepth 100000 in
set_option maxHeartbeats 3000000 in
theorem refFromS_any (w : World) (v : Value) (b : List UInt8) (X : List Ent) (er : Nat) (mk : ByteArray) (ms : Nat) (mg : Bool) (most : Int) (hv : Rd w v b) (hb : b.length ≤ 268435456) (hX : AllIs b X er) (hm1 : -9223372036854775808 ≤ most) (hm2 : most ≤ 9223372036854775807) (hmk : mk.size ≤ 9223372036854775807) :
    Calls Tryz.prog 11 #[v, .agg #[.string mk, .int .u64 ms, .bool mg], .int .i64 most] w (RetAE ((X.drop (seekAt mk.data.toList ms mg X)).take (mostN most (X.drop (seekAt mk.data.toList ms mg X)).length)) er w) := by
  obtain ⟨W, hW⟩ : ∃ W, W = w.alloc (.cells #[.string mk, .int .u64 ms, .bool mg] 25) := ⟨_, rfl⟩
  obtain ⟨g, hg⟩ : ∃ g, g = w.heap.size := ⟨_, rfl⟩
  have hM : Blk W g #[.string mk, .int .u64 ms, .bool mg] 25 := by rw [hW]; exact Blk.new_at _ _ _ _ hg
  have hbW : Below w.heap.size w W := by rw [hW]; exact (Below.refl _ _).alloc (Nat.le_refl _) _
  have HA := Lib.hid (refAll_any W v b X er (hv.below hbW) hb hX)
  have HSM := Lib.hid hX.small
  have HKS : Hid (∀ x ∈ X.map toPE, x.k.size ≤ 9223372036854775807) := fun y hy => by
    obtain ⟨x, hx, rfl⟩ := List.mem_map.1 hy
    obtain ⟨i, hi, rfl⟩ := List.getElem_of_mem hx
    have hok := hX.rises i hi
    unfold okAt at hok
    rw [Bool.and_eq_true, atE_get X i hi] at hok
    have f1 := ((fitE_iff _).1 hok.1).1
    have f3 : 1 ≤ X[i].key.length ∧ X[i].key.length ≤ 32 := by simpa [checkK] using f1
    show (bs X[i].key).size ≤ _
    rw [bs_size]; omega
  have HFS := Lib.hid (from_seek hX.rises mk.data.toList ms mg)
  obtain ⟨Y, hY⟩ : ∃ Y, Y = X.drop (seekAt mk.data.toList ms mg X) := ⟨_, rfl⟩
  have hYl : Y.length ≤ 4096 := by rw [hY, List.length_drop]; have := HSM.out.1; omega
  rw [← hY] at HFS ⊢
  have HW := Lib.hid hW
  have HM := Lib.hid hM
  have HBW := Lib.hid hbW
  have HG := Lib.hid hg
  have HMK := Lib.hid hmk
  have HYL := Lib.hid hYl
  clear hW hM hbW hv hX hg hY hmk hYl
  go_enter Tryz.func11, Tryz.ntmps11
  go_upto_region 1 with (fail)
  rw [← HG.out, ← HW.out]
  go_upto_region 2 with (go_at_call 9; refine HA.out.mono ?_; rintro e w2 ⟨la, n, lc, rfl, HN, HO, bel2⟩)
  have HB2 := Lib.hid (HBW.out.trans (bel2.mono HBW.out.size))
  have HM2 := Lib.hid (HM.out.below bel2)
  have hrf := refFrom_any w2 (.slice la n lc) (X.map toPE) mk ms mg (rdE_of (reads_of_own HO.out)).2 HKS.out HMK.out (by rw [List.length_map]; have := HSM.out.1; omega)
  rw [filter_toPE] at hrf
  have HRF := Lib.hid hrf
  have m0 := HM2.out.cellv 0 (.string mk) rfl
  have m1 := HM2.out.cellv 1 (.int .u64 ms) rfl
  have m2 := HM2.out.cellv 2 (.bool mg) rfl
  clear bel2 HA HO HN HM hrf
  go_upto_region 3 with (go_at_call 30; refine HRF.out.mono ?_; rintro e w3 ⟨fa, fn, fc, rfl, HFN, HFO, -, bel3⟩)
  have HB3 := Lib.hid (HB2.out.trans (bel3.mono HB2.out.size))
  have hfn := HFN.out
  have hfo := own_mono HFO.out HB2.out.size
  rw [HFS.out, List.length_map] at hfn
  rw [HFS.out] at hfo
  have HFN2 := Lib.hid hfn
  have HFO2 := Lib.hid hfo
  have hfn4 : fn ≤ 4096 := by rw [hfn]; exact HYL.out
  clear hfn hfo HFN HFO HRF m0 m1 m2 bel3 HM2
  by_cases hc : most < (fn : Int)
  · obtain ⟨nn, hnn⟩ : ∃ z, z = mostN most Y.length := ⟨_, rfl⟩
    have hn2 : (nn : Int) = max 0 most := by rw [hnn, ← HFN2.out]; unfold mostN; omega
    have h1 : (if most < 0 then 0 else most) = (nn : Int) := by rw [hn2]; split <;> omega
    have h2 : (if 0 < most then most else 0) = (nn : Int) := by rw [hn2]; split <;> omega
    have hnl : nn ≤ fn := by omega
    obtain ⟨ca, cc, hcut, hcr⟩ := cutE_to (rdE_of (reads_of_own HFO2.out)).2 nn (by rw [List.length_map, ← HFN2.out]; exact hnl)
    have hcut2 := fun w' => hcut w' .i64
    rw [← List.map_take] at hcr
    have hle : ((Y.take nn).map toPE).length = nn := by rw [List.length_map, List.length_take, ← HFN2.out]; omega
    have hrr := rdE_reads hcr
    rw [hle] at hrr
    have HRR := Lib.hid hrr
    have HLE : Hid (nn = (Y.take nn).length) := by show _ = _; rw [List.length_map] at hle; exact hle.symm
    have HNN := Lib.hid hnn
    obtain ⟨i0, hi0, hz0, hz1, hz2⟩ := info_parts info_ent
    have hsz := HB3.out.size
    obtain ⟨rq, hrq⟩ : ∃ z, 0 + nn = z := ⟨_, rfl⟩
    have HRQ := Lib.hid hrq
    have hrq2 : rq ≤ 4096 := by omega
    clear hn2 hcut hcr hle hrr hnn hrq
    go_wp2_with (at_builtin; go_loud (refine wp_app_elR rfl _ _ rfl Tryz.underlying29 hi0 hz0 hz1 hz2 rfl (by omega) w.heap.size 0 nn (.slice none 0 0) (.slice ca nn cc) [] _ _ rq rfl rfl (own_none _ _ _ _) HRR.out (one_pcells _) HRQ.out (List.nil_append _) (by omega) (by omega) hsz ?_); intro a4 c4 w4 HO4 HG4)
    have HR : Hid (rq = (Y.take nn).length) := by show _ = _; rw [← HLE.out, ← HRQ.out, Nat.zero_add]
    have HB4 := Lib.hid (HB3.out.trans HG4.out.below)
    go_ret2
    refine ⟨a4, rq, c4, rfl, ?_, ?_, HB4.out⟩
    · rw [← HNN.out]; exact HR.out
    · rw [← HNN.out]; exact HO4.out
  · have hnn : mostN most Y.length = Y.length := by rw [← HFN2.out]; unfold mostN; omega
    have HNN := Lib.hid hnn
    have hc2 : (fn : Int) ≤ most := by omega
    clear hnn
    go_wp2_with fail
    go_ret2
    refine ⟨fa, fn, fc, rfl, ?_, ?_, HB3.out⟩
    · rw [HNN.out, List.take_length]; exact HFN2.out
    · rw [HNN.out, List.take_length]; exact HFO2.out
end Go.Proofs.YtbcnapkbdbefhaaGreatDoor

/- The law SortedParts answers true for any entries. No condition. -/
import Derived.Test.YtbcnapkbdbefhaaSPartsP
import Derived.Test.YtbcnapkbdbefhaaSameE
import Derived.Test.YtbcnapkbdbefhaaSSplit
namespace Go.Proofs.Ytbcnapkbdbefhaa
open Go.RowKit

set_option maxRecDepth 100000 in
set_option maxHeartbeats 3000000 in
theorem sortedParts_walk (w : World) (v : Value) (l : List PE) (hv : RdE w v l) (hl : l.length ≤ 2932031007402 ∧ ∀ x ∈ l, x.ok) :
    Calls Try.prog 6 #[v] w (RetTrue w) := by
  have hend : ∀ (w5 : World), Hid (Calls Try.prog 10 #[] w5 (RetTrue w5)) := fun w5 => alive10_any w5
  obtain ⟨hln, hlo⟩ := hl
  have HS := Lib.hid hlo
  have HV := Lib.hid hv
  have HGR := Lib.hid (fun w' (hb : Below w.heap.size w w') => great10_any w' v l (hv.below hb) hln hlo)
  obtain ⟨va, vc, rfl, h1, h2, h3⟩ := hv
  clear h3 hlo
  obtain ⟨vn, hvn⟩ : ∃ n, n = l.length := ⟨_, rfl⟩
  have HVN := Lib.hid hvn
  rw [← hvn] at h1 HV hln HGR ⊢
  clear hvn
  go_enter Try.func6, Try.ntmps6
  go_wp2_with fail
  refine (hend _).out.mono ?_
  rintro e w1 ⟨rfl, bel1⟩
  go_wp2_with fail
  refine (HGR.out _ bel1).mono ?_
  rintro e w2 ⟨gr, rfl, hgr, bel2⟩
  have HB2 := Lib.hid (bel1.trans (bel2.mono bel1.size))
  clear bel1 bel2 HGR
  cases gr
  case true =>
    go_wp2_with (go_at_call 10; refine (hend _).out.mono ?_; rintro e w3 ⟨rfl, bel3⟩)
    have hb := HB2.out.trans (bel3.mono HB2.out.size)
    go_ret
    exact ⟨rfl, hb⟩
  have hvs : vn ≤ 300 := hgr rfl
  clear hgr hln
  obtain ⟨hs1, hs2⟩ := seqs_ok HS.out
  cases hm : mayS (entsOf l)
  · have HP := Lib.hid (sput_no w2 _ l 1 (HV.out.below HB2.out) hs1 (by rw [← HVN.out]; omega) (errS_arg hm) (by decide))
    clear hs1 hs2 hm
    go_wp2_with (go_at_call 12; refine HP.out.mono ?_; rintro e w3 ⟨⟨pa, pc, rfl⟩, bel3⟩)
    have hb := HB2.out.trans (bel3.mono HB2.out.size)
    go_ret
    exact ⟨rfl, hb⟩
  have he := errS_ok hm (by rw [entsOf_length, ← HVN.out]; omega)
  have HP := Lib.hid (sput_is w2 _ l (HV.out.below HB2.out) hs1 (by rw [← HVN.out]; omega) he)
  have hfile := file_of HS.out he
  have HIS := Lib.hid hfile.1
  have HFL := Lib.hid hfile.2.2.1
  have HMM := Lib.hid hm
  have HSQ := Lib.hid hs2
  have HEL : Hid ((entsOf l).length = vn) := by show _ = _; rw [entsOf_length, ← HVN.out]
  have hv0 : 0 < vn := by have := hfile.2.2.2.1; rw [← HVN.out] at this; exact this
  clear hs1 hs2 hm he hfile
  go_upto_region 7 with (go_at_call 12; refine HP.out.mono ?_; rintro e w3 ⟨pa, pn, pc, rfl, HPN, HPO, bel3⟩)
  have HB3 := Lib.hid (HB2.out.trans (bel3.mono HB2.out.size))
  have HRB := Lib.hid (rd_of_own HPO.out).2
  obtain ⟨nb, hnb⟩ : ∃ n, n = nBlk (entsOf l) := ⟨_, rfl⟩
  have hnb2 : nb = (vn + 15) / 16 := by rw [hnb, nBlk, HEL.out]
  have HNB := Lib.hid (And.intro hnb hnb2)
  have hnb3 : nb ≤ 19 := by omega
  obtain ⟨v15, hv15⟩ : ∃ n, n = vn + 15 := ⟨_, rfl⟩
  have ha15 : (vn : Int) + 15 = (v15 : Int) := by omega
  have hw15 : IntKind.i64.wrap (v15 : Int) = (v15 : Int) := IntWalk.i64_in _ (by omega)
  have hu15 : IntKind.u64.wrap (v15 : Int) = (v15 : Int) := wrap_u64_in _ (by omega)
  have hq15 : Int.tdiv (v15 : Int) 16 = (nb : Int) := by rw [hnb2, hv15]; rfl
  have hunb : IntKind.u64.wrap (nb : Int) = (nb : Int) := wrap_u64_in _ (by omega)
  have hpi := put_my' w3 (.slice none 0 0) [] nb (rd_nil' _) (by omega) (by simp)
  rw [List.nil_append] at hpi
  have HPI := Lib.hid hpi
  clear hnb hnb2 hv15 hpi bel3 HP HPO HB2
  go_upto_region 8 with (go_at_call 20; refine HPI.out.mono ?_; rintro e w4 ⟨xa, xn, xc, rfl, HXN, HXO, bel4⟩)
  have HI0 : Hid (PartI (entsOf l) w3 (vint nb ++ marksN (entsOf l) 0) 0 xa xn xc none 0 0 w4) := by
    refine ⟨?_, .inl ⟨rfl, rfl, none, rfl⟩, bel4⟩
    rw [marksN, List.append_nil]; exact HXO.out
  clear ha15 hw15 hu15 hq15 hunb HPI HXO HXN bel4
  go_upto_region 10 with (fail)
  try show Code.wp _ _ _ _ _
  go_loopw [5, 6, 7, 8] (fun av xv kv iv wr => ∃ (j q i xn xc kn kc : Nat) (xa ka : Option Addr), j ≤ nb ∧ av = .int .i64 q ∧ xv = .slice xa xn xc ∧ kv = .slice ka kn kc ∧ iv = .int .i64 i ∧ Hid (q = (framesN (entsOf l) j).length ∧ i = 16 * j) ∧ Hid (PartI (entsOf l) w3 (vint nb ++ marksN (entsOf l) j) (min (16 * j) vn) xa xn xc ka kn kc wr)) (fun _ _ _ iv _ => vn + 16 - (intOf iv).toNat)
  case atStart => exact ⟨0, 0, 0, xn, xc, 0, 0, xa, none, Nat.zero_le _, rfl, rfl, rfl, rfl, ⟨rfl, rfl⟩, by rw [Nat.mul_zero, Nat.zero_min]; exact HI0⟩
  case round =>
    clear HI0
    obtain ⟨j, q, i, xn, xc, kn, kc, xa, ka, hj, rfl, rfl, rfl, rfl, HQI, HI⟩ := hrel
    by_cases hlt : j < nb
    · have hi16 := HQI.out.2
      have hnb2 := HNB.out.2
      have hjE : j < nBlk (entsOf l) := by rw [← HNB.out.1]; exact hlt
      have hiv : (i : Int) < (vn : Int) := by omega
      have hil : i + 16 ≤ 320 := by omega
      obtain ⟨m, hm⟩ : ∃ m, m = min 16 (vn - i) := ⟨_, rfl⟩
      have hm0 : 0 < m := by omega
      have him : i + m ≤ vn := by omega
      have hmin : (if (i : Int) + 16 < (vn : Int) then (i : Int) + 16 else (vn : Int)) = (i : Int) + (m : Int) := by split <;> omega
      have hw16 : IntKind.i64.wrap ((i : Int) + 16) = (i : Int) + 16 := IntWalk.i64_in _ (by omega)
      obtain ⟨p, hp⟩ : ∃ p, m = p + 1 := ⟨m - 1, by omega⟩
      have HM : Hid (m = min 16 (vn - i) ∧ m = p + 1 ∧ min (16 * j) vn = i ∧ min (16 * (j + 1)) vn = i + m) := ⟨hm, hp, by omega, by omega⟩
      have hm16 : m ≤ 16 := by omega
      obtain ⟨pa2, pc2, hcut, hcr⟩ := cutE_mid HV.out i m (by rw [← HVN.out]; exact him)
      obtain ⟨pl, hpl⟩ : ∃ pl, pl = (l.drop i).take m := ⟨_, rfl⟩
      rw [← hpl] at hcr
      have hpll : pl.length = m := by rw [hpl, List.length_take, List.length_drop, ← HVN.out]; omega
      have hplb : (blkN (entsOf l) j).map toPE = pl := by
        rw [hpl, hi16] at *
        unfold blkN
        rw [← entsOf_drop, ← entsOf_take, toPE_entsOf, hm]
        by_cases h16 : 16 ≤ vn - 16 * j
        · rw [Nat.min_eq_left h16]
        · rw [Nat.min_eq_right (by omega), List.take_of_length_le (by rw [List.length_drop, ← HVN.out]; omega), List.take_of_length_le (by rw [List.length_drop, ← HVN.out]; exact Nat.le_refl _)]
      have hatE : ∀ t, (h : t < pl.length) → atE (entsOf l) (i + t) = pl[t].ent := fun t h => by
        have h2 : t < l.length - i := by rw [← HVN.out]; omega
        rw [entsOf_at l (i + t) (by omega)]
        congr 1
        simp only [hpl, List.getElem_take, List.getElem_drop]
      have hmem : ∀ x ∈ pl, x ∈ l := fun x hx => by rw [hpl] at hx; exact List.mem_of_mem_drop (List.mem_of_mem_take hx)
      have hMl : (vint nb ++ marksN (entsOf l) j).length ≤ 2000 := by
        have h1 := marksN_small HMM.out j (Nat.le_of_lt hjE)
        have h2 := vint_le nb
        rw [List.length_append]; omega
      have HPL := Lib.hid (And.intro hpll (And.intro hplb (And.intro hatE hmem)))
      have HCR := Lib.hid hcr
      have hroom := framesN_room (entsOf l) j (Nat.le_of_lt hjE)
      rw [← HQI.out.1] at hroom
      obtain ⟨n2, hn2⟩ : ∃ n, n = (fileS (entsOf l)).length - q := ⟨_, rfl⟩
      have hqb : q ≤ 17000000 := Nat.le_trans hroom HFL.out
      obtain ⟨ba, bc, hbcut, hbr⟩ := cut_rest (HRB.out.below HI.out.bel) q n2 (by omega)
      have hbcut2 := fun w' => hbcut w' .i64
      obtain ⟨tk, htk⟩ : ∃ t, t = (blkPut (blkN (entsOf l) j)).length + 8 := ⟨_, rfl⟩
      have hbs := blkN_small HMM.out j hjE
      have hfg := framesGet_is wr (.slice ba n2 bc) _ (blkPut (blkN (entsOf l) j)) tk hbr (by rw [List.length_drop]; have := HFL.out; omega) (by rw [HQI.out.1, htk]; exact fget_blk HIS.out j hjE)
      have HFG := Lib.hid hfg
      have HBG := Lib.hid (fun w' v' (hr : Rd w' v' (blkPut (blkN (entsOf l) j))) => blocksGet_is w' v' _ hr (blkN_may HMM.out j hjE) (blkN_seqs HSQ.out j) (by omega))
      have HTK := Lib.hid htk
      have htk2 : tk ≤ 65544 := by omega
      clear hi16 hnb2 hm hp hcr hpl hpll hplb hatE hmem hroom hn2 hbcut hbr htk hbs hfg hjE
      go_upto_region 14 with (go_at_call 21; refine HFG.out.mono ?_; rintro e w5 ⟨ra, rn, rc, rfl, HRN, HRO, bel5⟩)
      have HI5 := Lib.hid (HI.out.later bel5)
      replace HBG := Lib.hid (HBG.out w5 _ (rd_of_own HRO.out).2)
      clear hmin hw16 hcut hbcut2 HFG HRO HI bel5 hiv
      go_upto_region 15 with (go_at_call 22; refine HBG.out.mono ?_; rintro e w6 ⟨ma, mn, mc, rfl, HMR, bel6⟩)
      have HI6 := Lib.hid (HI5.out.later bel6)
      have hmr := HMR.out
      rw [HPL.out.2.1] at hmr
      have HSE := Lib.hid (sameE_any w6 _ _ _ hmr (HCR.out.below (HB3.out.trans (HI6.out.bel.mono HB3.out.size))))
      clear hmr HMR HBG HI5 bel6
      go_upto_region 17 with (go_at_call 15; refine HSE.out.mono ?_; rintro e w7 ⟨rfl, bel7⟩)
      have HI7 := Lib.hid (HI6.out.later bel7)
      obtain ⟨b3, off3, hae, -⟩ := row_at HCR.out p (by rw [HPL.out.1]; have := HM.out.2.1; omega)
      subst hae
      have HROW : Hid (∀ t, (ht : t < pl.length) → ∀ w', Below w3.heap.size w3 w' → w'.cell? ⟨b3, off3 + t * 4, none⟩ = some (.string pl[t].k) ∧ w'.cell? ⟨b3, off3 + t * 4 + 1, none⟩ = some (.int .u64 pl[t].s) ∧
          w'.cell? ⟨b3, off3 + t * 4 + 2, none⟩ = some (.bool pl[t].g) ∧ w'.cell? ⟨b3, off3 + t * 4 + 3, none⟩ = some (.string pl[t].u)) := fun t ht w' hb => by
        obtain ⟨b, off, e, c0, c1, c2, c3⟩ := row_at (HCR.out.below (HB3.out.trans (hb.mono HB3.out.size))) t ht
        simp only [Option.some.injEq, Addr.mk.injEq, and_true] at e
        obtain ⟨rfl, rfl⟩ := e
        exact ⟨c0, c1, c2, c3⟩
      have hpm : p < pl.length := by rw [HPL.out.1]; have := HM.out.2.1; omega
      obtain ⟨c0, c1, c2, c3⟩ := HROW.out p hpm w7 HI7.out.bel
      have hlast := HPL.out.2.2.1 p hpm
      have hoky : pl[p].ok := HS.out _ (HPL.out.2.2.2 _ (List.getElem_mem hpm))
      obtain ⟨y, hy⟩ : ∃ y, y = pl[p] := ⟨_, rfl⟩
      rw [← hy] at c0 c1 c2 c3 hlast hoky
      obtain ⟨yk, ys, yg, yu⟩ := y
      have hyk := key_small HMM.out (i + p) (by rw [HEL.out]; have := HM.out.2.1; omega)
      rw [hlast] at hyk
      have hyk2 : yk.size ≤ 32 := by have e : (PE.ent ⟨yk, ys, yg, yu⟩).key.length = yk.size := size_data yk; omega
      have hys : ys < 18446744073709551616 := hoky.2.1
      simp only at c0 c1 c2 c3
      have HNX : Hid (marksN (entsOf l) (j + 1) = marksN (entsOf l) j ++ (vint q ++ ((vint yk.size ++ yk.data.toList) ++ (vint ys ++ [flagB yg])))) := by
        show _ = _
        have e : min (16 * (j + 1)) (entsOf l).length - 1 = i + p := by rw [HEL.out, HM.out.2.2.2]; have := HM.out.2.1; omega
        have e2 : yk.data.toList.length = yk.size := size_data yk
        rw [marksN, e, hlast, ← HQI.out.1]
        simp only [markB, tput, PE.ent, entOf, e2]
      have hpi : (p : Int) < (m : Int) := by have := HM.out.2.1; omega
      have hps : (m : Int) - 1 = (p : Int) := by have := HM.out.2.1; omega
      have hpw : IntKind.i64.wrap (p : Int) = (p : Int) := IntWalk.i64_in _ (by omega)
      clear hpm hlast hoky hy hyk bel7 HSE HI6
      go_upto_region 18 with (fail)
      obtain ⟨gY, hgY⟩ : ∃ g, g = w7.heap.size := ⟨_, rfl⟩
      obtain ⟨w8, hw8⟩ : ∃ z, z = w7.alloc (.cells #[.string yk, .int .u64 ys, .bool yg, .string yu] 37) := ⟨_, rfl⟩
      have hb8 : Below w7.heap.size w7 w8 := by rw [hw8]; exact (Below.refl _ _).alloc (Nat.le_refl _) _
      have HY8 : Hid (Blk w8 gY #[.string yk, .int .u64 ys, .bool yg, .string yu] 37) := Lib.hid (by rw [hw8]; exact Blk.new_at _ _ _ _ hgY)
      rw [← hgY, ← hw8]
      have HI8 := Lib.hid (HI7.out.later hb8)
      have hqu : IntKind.u64.wrap (q : Int) = (q : Int) := wrap_u64_in _ (by omega)
      clear hgY hw8 hb8 c0 c1 c2 c3 hpi hps hpw HI7
      have HSS : Hid (∀ w', Below w8.heap.size w8 w' → (fun w' => Below w8.heap.size w8 w' ∧ w'.cell? ⟨gY, 0, none⟩ = some (.string yk) ∧ w'.cell? ⟨gY, 1, none⟩ = some (.int .u64 ys)) w') := fun w' hb => by
        have g := HY8.out.below hb
        exact ⟨hb, g.cellv 0 _ rfl, g.cellv 1 _ rfl⟩
      refine wp_region_held_drew (S := fun w' => Below w8.heap.size w8 w' ∧ w'.cell? ⟨gY, 0, none⟩ = some (.string yk) ∧ w'.cell? ⟨gY, 1, none⟩ = some (.int .u64 ys)) (by kernel_rfl) (HSS.out _ (Below.refl _ _).drew) (fun hHeld => ?_)
      have BD : Below w8.heap.size w8 w8.drew := (Below.refl _ _).drew
      refine wpAnyH_take (i := 0) (v := ?vq1) (by simp only [List.getElem?_toArray]; rfl) (by kernel_rfl) (by kernel_rfl) (by kernel_rfl) (by exact fun _ _ _ h => h) (Or.inl ⟨by rfl, ?yq1⟩) (by assumption) ?rq1
      case yq1 => (intro w hSw; (try dsimp only at hSw); go_simp; try with_reducible rfl)
      try simp only [Act.put, List.setIfInBounds_toArray, List.set_cons_zero, List.set_cons_succ]
      refine wpAnyH_take (i := 1) (v := ?vq2) (by simp only [List.getElem?_toArray]; rfl) (by kernel_rfl) (by kernel_rfl) (by kernel_rfl) (by exact fun _ _ _ h => h) (Or.inl ⟨by rfl, ?yq2⟩) (by assumption) ?rq2
      case yq2 => (intro w hSw; (try dsimp only at hSw); go_simp; try with_reducible rfl)
      try simp only [Act.put, List.setIfInBounds_toArray, List.set_cons_zero, List.set_cons_succ]
      refine wpAnyH_take (i := 2) (v := ?vq3) (by simp only [List.getElem?_toArray]; rfl) (by kernel_rfl) (by kernel_rfl) (by kernel_rfl) (by exact fun _ _ _ h => h) (Or.inl ⟨by rfl, ?yq3⟩) (by assumption) ?rq3
      case yq3 => (intro w hSw; (try dsimp only at hSw); go_simp; try with_reducible rfl)
      try simp only [Act.put, List.setIfInBounds_toArray, List.set_cons_zero, List.set_cons_succ]
      refine wpAnyH_take (i := 4) (v := ?vq4) (by simp only [List.getElem?_toArray]; rfl) (by kernel_rfl) (by kernel_rfl) (by kernel_rfl) (by exact fun _ _ _ h => h) (Or.inl ⟨by rfl, ?yq4⟩) (by assumption) ?rq4
      case yq4 => (intro w hSw; (try dsimp only at hSw); go_simp; try with_reducible rfl)
      try simp only [Act.put, List.setIfInBounds_toArray, List.set_cons_zero, List.set_cons_succ]
      refine wpAnyH_take (i := 5) (v := ?vq5) (by simp only [List.getElem?_toArray]; rfl) (by kernel_rfl) (by kernel_rfl) (by kernel_rfl) (by exact fun _ _ _ h => h) (Or.inl ⟨by rfl, ?yq5⟩) (by assumption) ?rq5
      case yq5 => (intro w hSw; (try dsimp only at hSw); go_simp; try with_reducible rfl)
      try simp only [Act.put, List.setIfInBounds_toArray, List.set_cons_zero, List.set_cons_succ]
      refine wpAnyH_take (i := 6) (v := ?vq6) (by simp only [List.getElem?_toArray]; rfl) (by kernel_rfl) (by kernel_rfl) (by kernel_rfl) (by exact fun _ _ _ h => h) (Or.inl ⟨by rfl, ?yq6⟩) (by assumption) ?rq6
      case yq6 => (intro w hSw; (try dsimp only at hSw); go_simp; try with_reducible rfl)
      try simp only [Act.put, List.setIfInBounds_toArray, List.set_cons_zero, List.set_cons_succ]
      refine wpAnyH_take (i := 8) (v := ?vq7) (by simp only [List.getElem?_toArray]; rfl) (by kernel_rfl) (by kernel_rfl) (by kernel_rfl) (by exact fun _ _ _ h => h) (Or.inl ⟨by rfl, ?yq7⟩) (by assumption) ?rq7
      case yq7 => (intro w hSw; (try dsimp only at hSw); go_simp; try with_reducible rfl)
      try simp only [Act.put, List.setIfInBounds_toArray, List.set_cons_zero, List.set_cons_succ]
      refine wpAnyH_take (i := 9) (v := ?vq8) (by simp only [List.getElem?_toArray]; rfl) (by kernel_rfl) (by kernel_rfl) (by kernel_rfl) (by exact fun _ _ _ h => h) (Or.inl ⟨by rfl, ?yq8⟩) (by assumption) ?rq8
      case yq8 => (intro w hSw; (try dsimp only at hSw); go_simp; try with_reducible rfl)
      try simp only [Act.put, List.setIfInBounds_toArray, List.set_cons_zero, List.set_cons_succ]
      refine wpAnyH_take (i := 10) (v := ?vq9) (by simp only [List.getElem?_toArray]; rfl) (by kernel_rfl) (by kernel_rfl) (by kernel_rfl) (by exact fun _ _ _ h => h) (Or.inl ⟨by rfl, ?yq9⟩) (by assumption) ?rq9
      case yq9 => (intro w hSw; (try dsimp only at hSw); go_simp; try with_reducible rfl)
      try simp only [Act.put, List.setIfInBounds_toArray, List.set_cons_zero, List.set_cons_succ]
      refine wpAnyH_ready (rs := [3]) (by kernel_rfl) (by simp) ?_
      refine AllReadyH.cons (by simp only [List.getElem?_toArray]; rfl) (fun K hK => ?_) AllReadyH.nil
      go_simp
      refine (put_my' _ _ _ q (rd_of_own (HI8.out.later BD).ix).2 (by omega) (Nat.le_trans hMl (by omega))).mono ?_
      rintro e w9 ⟨da, dn, dc, rfl, -, HDO, hb9⟩
      have B9 := BD.trans (hb9.mono BD.size)
      refine hK.out _ _ (HSS.out _ B9) (fun hHeld => ?_)
      clear hK K
      try simp only [Act.put, List.setIfInBounds_toArray, List.set_cons_zero, List.set_cons_succ]
      refine wpAnyH_ready (rs := [7]) (by kernel_rfl) (by simp) ?_
      refine AllReadyH.cons (by simp only [List.getElem?_toArray]; rfl) (fun K hK => ?_) AllReadyH.nil
      go_simp
      have hMl2 : ((vint nb ++ marksN (entsOf l) j) ++ vint q).length ≤ 2010 := by rw [List.length_append]; have := vint_le q; omega
      refine (putText_my' _ _ _ yk (rd_of_own HDO.out).2 (by omega) (Nat.le_trans hMl2 (by omega))).mono ?_
      rintro e w10 ⟨ea, en, ec, rfl, -, HEO, hb10⟩
      have B10 := B9.trans (hb10.mono B9.size)
      refine hK.out _ _ (HSS.out _ B10) (fun hHeld => ?_)
      clear hK K
      try simp only [Act.put, List.setIfInBounds_toArray, List.set_cons_zero, List.set_cons_succ]
      refine wpAnyH_ready (rs := [11]) (by kernel_rfl) (by simp) ?_
      refine AllReadyH.cons (by simp only [List.getElem?_toArray]; rfl) (fun K hK => ?_) AllReadyH.nil
      go_simp
      have hMl3 : (((vint nb ++ marksN (entsOf l) j) ++ vint q) ++ (vint yk.size ++ yk.data.toList)).length ≤ 2060 := by
        have h6 : yk.data.toList.length = yk.size := size_data yk
        have := vint_le yk.size
        simp only [List.length_append] at hMl2 ⊢
        omega
      refine (put_my' _ _ _ ys (rd_of_own HEO.out).2 (by omega) (Nat.le_trans hMl3 (by omega))).mono ?_
      rintro e w12 ⟨ra2, rn2, rc2, rfl, -, HRO2, hb12⟩
      have B12 := B10.trans (hb12.mono B10.size)
      refine hK.out _ _ (HSS.out _ B12) (fun hHeld => ?_)
      clear hK K
      try simp only [Act.put, List.setIfInBounds_toArray, List.set_cons_zero, List.set_cons_succ]
      refine wpAnyH_take (i := 12) (v := ?vq10) (by simp only [List.getElem?_toArray]; rfl) (by kernel_rfl) (by kernel_rfl) (by kernel_rfl) (by exact fun _ _ _ h => h) (Or.inl ⟨by rfl, ?yq10⟩) (by assumption) ?rq10
      case yq10 => (intro w hSw; (try dsimp only at hSw); go_simp; try with_reducible rfl)
      try simp only [Act.put, List.setIfInBounds_toArray, List.set_cons_zero, List.set_cons_succ]
      refine wpAnyH_done (by kernel_rfl) ?_ _
      have HB12 := Lib.hid B12
      have HI12 := Lib.hid (HI8.out.newI B12 B10.size HRO2.out)
      clear hb9 hb10 hb12 B9 B10 B12 HDO HEO HRO2 BD hHeld
      have c2 := (HY8.out.below HB12.out).cellv 2 (.bool yg) rfl
      obtain ⟨iu, hiu, hzu, hzu1, hzu2⟩ := info_parts info_u8
      have hbz := HI12.out.bel.size
      have hrn : rn2 ≤ 3000 := by
        rw [HI12.out.xn_eq]
        have h3 := vint_le q
        have h4 := vint_le ys
        have h5 := vint_le yk.size
        have h6 : yk.data.toList.length = yk.size := size_data yk
        simp only [List.length_append] at hMl ⊢
        omega
      have HNX2 : Hid (∀ z : UInt8, z = flagB yg → ((((vint nb ++ marksN (entsOf l) j) ++ vint q) ++ (vint yk.size ++ yk.data.toList)) ++ vint ys) ++ [z] = vint nb ++ marksN (entsOf l) (j + 1)) := fun z hz => by rw [HNX.out, hz]; simp only [List.append_assoc]
      have HRN2 := Lib.hid hrn
      clear hMl hMl2 hMl3 hqu hrn
      cases yg
      case true =>
        go_wp2_with (at_builtin; go_loud (refine wp_app_elR rfl _ _ rfl Try.underlying26 hiu hzu hzu1 hzu2 rfl (by omega) w3.heap.size rn2 1 (.slice ra2 rn2 rc2) _ _ (u8s [1]) _ (rn2 + 1) rfl rfl (HI12.out.later ((Below.refl _ _).alloc (Nat.le_refl _) _)).ix (reads_one _ _ _) (one_u8s _) rfl (u8s_append _ _).symm (by have := HRN2.out; omega) (by have := HRN2.out; omega) (Nat.le_trans hbz ((Below.refl _ _).alloc (Nat.le_refl _) _).size) ?_); intro xa2 xc2 w14 HO14 HG14)
        have HT0 : Hid (PartI (entsOf l) w3 (vint nb ++ marksN (entsOf l) (j + 1)) (i + 0) xa2 (rn2 + 1) xc2 ka kn kc w14) := by
          have h := (HI12.out.later ((Below.refl _ _).alloc (Nat.le_refl _) _)).appI HO14.out HG14.out
          rw [HM.out.2.2.1, HNX2.out 1 rfl] at h
          exact h
        clear c2 HO14 HG14 HI12 HI8 HNX HNX2 HY8 HSS HB12
        try show Code.wp _ _ _ _ _
        go_loopw [7, 16] (fun kv tv wr => ∃ (t kn kc : Nat) (ka : Option Addr), t ≤ m ∧ kv = .slice ka kn kc ∧ tv = .int .i64 t ∧ Hid (PartI (entsOf l) w3 (vint nb ++ marksN (entsOf l) (j + 1)) (i + t) xa2 (rn2 + 1) xc2 ka kn kc wr)) (fun _ tv _ => m - (intOf tv).toNat)
        case atStart => exact ⟨0, kn, kc, ka, Nat.zero_le _, rfl, rfl, HT0⟩
        case round =>
          clear HT0
          obtain ⟨t, kn, kc, ka, ht, rfl, rfl, HT⟩ := hrel
          by_cases hlt2 : t < m
          · have htl : t < pl.length := by rw [HPL.out.1]; exact hlt2
            have hti : (t : Int) < (m : Int) := by omega
            have hkl : kn ≤ 300 := by
              have h1 := HT.out.kn_eq
              have h2 := keysN_len (entsOf l) (i + t)
              omega
            obtain ⟨c0, -, -, -⟩ := HROW.out t htl wr HT.out.bel
            obtain ⟨xk, hxk⟩ : ∃ k, k = pl[t].k := ⟨_, rfl⟩
            have hkey : (atE (entsOf l) (i + t)).key = xk.data.toList := by rw [HPL.out.2.2.1 t htl, hxk]; rfl
            rw [← hxk] at c0
            have HXK := Lib.hid hxk
            have HKEY := Lib.hid hkey
            obtain ⟨ik, hik, hzk, hzk1, hzk2⟩ := info_parts info_str
            have hkstep : (i + t = 0 ∨ (atE (entsOf l) (i + t)).key ≠ (atE (entsOf l) (i + t - 1)).key) → txs ((keysN (entsOf l) (i + t)).map bs) ++ [.string xk] = txs ((keysN (entsOf l) (i + (t + 1))).map bs) := fun h => by
              rw [← Nat.add_assoc, keysN_step _ _ h, List.map_append, txs_app, hkey, List.map_cons, List.map_nil, bs_of]; rfl
            have HKS := Lib.hid hkstep
            clear hxk hkey hkstep
            obtain ⟨u, hu⟩ : ∃ u, u = i + t := ⟨_, rfl⟩
            rcases Nat.eq_zero_or_pos u with hu0 | hu0
            · have HKN := Lib.hid (HKS.out (.inl (by omega)))
              have hk0 : kn = 0 := by rw [HT.out.kn_eq, ← hu, hu0]; rfl
              subst hk0
              clear hu hu0 HKS
              go_upto_region 25 with (fail)
              go_quiet (fail)
              have hdw := drewN_below wr nq
              have HT2 := Lib.hid (HT.out.later hdw)
              generalize wr.drewN nq = wv at HT2 ⊢
              clear c0 hdw HT
              have c0 := (HROW.out t htl wv HT2.out.bel).1
              rw [← HXK.out] at c0
              go_wp2_with (at_builtin; go_loud (refine wp_app_elR rfl _ _ rfl Try.underlying49 hik hzk hzk1 hzk2 rfl (by omega) w3.heap.size 0 1 (.slice ka 0 kc) _ _ [.string xk] _ (0 + 1) rfl rfl (HT2.out.later ((Below.refl _ _).alloc (Nat.le_refl _) _)).ks (reads_one _ _ _) (by intro u hu; rw [List.mem_singleton.1 hu]; rfl) rfl HKN.out (by omega) (by omega) (Nat.le_trans HT2.out.bel.size ((Below.refl _ _).alloc (Nat.le_refl _) _).size) ?_); intro kb2 kc2 w16 HO16 HG16)
              have HT3 := Lib.hid ((HT2.out.later ((Below.refl _ _).alloc (Nat.le_refl _) _)).appK HO16.out HG16.out)
              clear c0 HO16 HG16 HT2 HKN
              go_roundw
              case rel => exact ⟨t + 1, 0 + 1, kc2, kb2, by omega, rfl, by go_num, HT3⟩
              case measure => simp [intOf]; omega
            · obtain ⟨u', rfl⟩ : ∃ u', u = u' + 1 := ⟨u - 1, by omega⟩
              have HT' := HT.out
              rw [← hu] at HT'
              obtain ⟨d, kb, koff, hkd, hkab, ck⟩ := HT'.last
              have hks : (kn : Int) - 1 = (d : Int) := by omega
              have hdk : (d : Int) < (kn : Int) := by omega
              have hkn0 : ¬ kn = 0 := by omega
              have hen : ((kn : Int) == 0) = false := by simp; omega
              have hwd : IntKind.i64.wrap (d : Int) = (d : Int) := IntWalk.i64_in _ (by omega)
              subst hkab
              obtain ⟨zk, hzk0⟩ : ∃ k, k = bs (atE (entsOf l) u').key := ⟨_, rfl⟩
              rw [← hzk0] at ck
              have hprev : (atE (entsOf l) (i + t - 1)).key = zk.data.toList := by rw [← hu, hzk0, bs_data]; rfl
              have hit0 : i + t ≠ 0 := by omega
              have HPV := Lib.hid (And.intro hprev hit0)
              clear HT' hu hu0 hzk0 hprev hit0 hkd
              by_cases hq : zk = xk
              · subst hq
                have hbz : (zk.toList == zk.toList) = true := by simp
                have HTS := Lib.hid (HT.out.same (t' := i + (t + 1)) (by rw [← Nat.add_assoc]; exact keysN_same _ _ HPV.out.2 (by rw [HKEY.out, HPV.out.1])))
                clear HKS HT
                go_upto_region 25 with (fail)
                go_quiet (fail)
                have HT3 := Lib.hid (HTS.out.later (drewN_below wr nq))
                generalize wr.drewN nq = wv at HT3 ⊢
                go_wp2_with fail
                clear c0 ck HTS hks hdk hkn0 hwd hbz hen
                go_roundw
                case rel => exact ⟨t + 1, kn, kc, _, by omega, rfl, by go_num, HT3⟩
                case measure => simp [intOf]; omega
              · have HKN := Lib.hid (HKS.out (.inr (by rw [HKEY.out, HPV.out.1]; intro e; exact hq (by rw [← bs_of zk, ← bs_of xk, e]))))
                have hkl2 : ¬ zk.toList = xk.toList := fun h => hq (ba_ext h)
                have hkb : (zk.toList == xk.toList) = false := by simp [hkl2]
                clear HKS
                go_upto_region 25 with (fail)
                go_quiet (fail)
                clear ck hks hdk hkn0 hwd hq hen hkb hkl2
                have hdw := drewN_below wr nq
                have HT2 := Lib.hid (HT.out.later hdw)
                generalize wr.drewN nq = wv at HT2 ⊢
                clear c0 hdw HT
                have c0 := (HROW.out t htl wv HT2.out.bel).1
                rw [← HXK.out] at c0
                go_wp2_with (at_builtin; go_loud (refine wp_app_elR rfl _ _ rfl Try.underlying49 hik hzk hzk1 hzk2 rfl (by omega) w3.heap.size kn 1 (.slice (some ⟨kb, koff, none⟩) kn kc) _ _ [.string xk] _ (kn + 1) rfl rfl (HT2.out.later ((Below.refl _ _).alloc (Nat.le_refl _) _)).ks (reads_one _ _ _) (by intro u hu; rw [List.mem_singleton.1 hu]; rfl) rfl HKN.out (by omega) (by omega) (Nat.le_trans HT2.out.bel.size ((Below.refl _ _).alloc (Nat.le_refl _) _).size) ?_); intro kb2 kc2 w16 HO16 HG16)
                have HT3 := Lib.hid ((HT2.out.later ((Below.refl _ _).alloc (Nat.le_refl _) _)).appK HO16.out HG16.out)
                clear c0 HO16 HG16 HT2 HKN
                go_roundw
                case rel => exact ⟨t + 1, kn + 1, kc2, kb2, by omega, rfl, by go_num, HT3⟩
                case measure => simp [intOf]; omega
          · obtain rfl : t = m := by omega
            have HQ2 : Hid (q + tk = (framesN (entsOf l) (j + 1)).length ∧ i + 16 = 16 * (j + 1)) := ⟨by rw [framesN_step, HTK.out, HQI.out.1], by have := HQI.out.2; omega⟩
            have HI2 : Hid (PartI (entsOf l) w3 (vint nb ++ marksN (entsOf l) (j + 1)) (min (16 * (j + 1)) vn) xa2 (rn2 + 1) xc2 ka kn kc wr) := by rw [HM.out.2.2.2]; exact HT.out
            have hwq2 : IntKind.i64.wrap ((q : Int) + (tk : Int)) = (q : Int) + (tk : Int) := IntWalk.i64_in _ (by omega)
            clear HT HQI HM
            go_upto_region 10 with (fail)
            go_roundw
            case rel => exact ⟨j + 1, q + tk, i + 16, _, _, _, _, _, _, by omega, by go_num, rfl, rfl, by go_num, HQ2, HI2⟩
            case measure => simp [intOf]; omega
      case false =>
        go_wp2_with (at_builtin; go_loud (refine wp_app_elR rfl _ _ rfl Try.underlying26 hiu hzu hzu1 hzu2 rfl (by omega) w3.heap.size rn2 1 (.slice ra2 rn2 rc2) _ _ (u8s [0]) _ (rn2 + 1) rfl rfl (HI12.out.later ((Below.refl _ _).alloc (Nat.le_refl _) _)).ix (reads_one _ _ _) (one_u8s _) rfl (u8s_append _ _).symm (by have := HRN2.out; omega) (by have := HRN2.out; omega) (Nat.le_trans hbz ((Below.refl _ _).alloc (Nat.le_refl _) _).size) ?_); intro xa2 xc2 w14 HO14 HG14)
        have HT0 : Hid (PartI (entsOf l) w3 (vint nb ++ marksN (entsOf l) (j + 1)) (i + 0) xa2 (rn2 + 1) xc2 ka kn kc w14) := by
          have h := (HI12.out.later ((Below.refl _ _).alloc (Nat.le_refl _) _)).appI HO14.out HG14.out
          rw [HM.out.2.2.1, HNX2.out 0 rfl] at h
          exact h
        clear c2 HO14 HG14 HI12 HI8 HNX HNX2 HY8 HSS HB12
        try show Code.wp _ _ _ _ _
        go_loopw [7, 16] (fun kv tv wr => ∃ (t kn kc : Nat) (ka : Option Addr), t ≤ m ∧ kv = .slice ka kn kc ∧ tv = .int .i64 t ∧ Hid (PartI (entsOf l) w3 (vint nb ++ marksN (entsOf l) (j + 1)) (i + t) xa2 (rn2 + 1) xc2 ka kn kc wr)) (fun _ tv _ => m - (intOf tv).toNat)
        case atStart => exact ⟨0, kn, kc, ka, Nat.zero_le _, rfl, rfl, HT0⟩
        case round =>
          clear HT0
          obtain ⟨t, kn, kc, ka, ht, rfl, rfl, HT⟩ := hrel
          by_cases hlt2 : t < m
          · have htl : t < pl.length := by rw [HPL.out.1]; exact hlt2
            have hti : (t : Int) < (m : Int) := by omega
            have hkl : kn ≤ 300 := by
              have h1 := HT.out.kn_eq
              have h2 := keysN_len (entsOf l) (i + t)
              omega
            obtain ⟨c0, -, -, -⟩ := HROW.out t htl wr HT.out.bel
            obtain ⟨xk, hxk⟩ : ∃ k, k = pl[t].k := ⟨_, rfl⟩
            have hkey : (atE (entsOf l) (i + t)).key = xk.data.toList := by rw [HPL.out.2.2.1 t htl, hxk]; rfl
            rw [← hxk] at c0
            have HXK := Lib.hid hxk
            have HKEY := Lib.hid hkey
            obtain ⟨ik, hik, hzk, hzk1, hzk2⟩ := info_parts info_str
            have hkstep : (i + t = 0 ∨ (atE (entsOf l) (i + t)).key ≠ (atE (entsOf l) (i + t - 1)).key) → txs ((keysN (entsOf l) (i + t)).map bs) ++ [.string xk] = txs ((keysN (entsOf l) (i + (t + 1))).map bs) := fun h => by
              rw [← Nat.add_assoc, keysN_step _ _ h, List.map_append, txs_app, hkey, List.map_cons, List.map_nil, bs_of]; rfl
            have HKS := Lib.hid hkstep
            clear hxk hkey hkstep
            obtain ⟨u, hu⟩ : ∃ u, u = i + t := ⟨_, rfl⟩
            rcases Nat.eq_zero_or_pos u with hu0 | hu0
            · have HKN := Lib.hid (HKS.out (.inl (by omega)))
              have hk0 : kn = 0 := by rw [HT.out.kn_eq, ← hu, hu0]; rfl
              subst hk0
              clear hu hu0 HKS
              go_upto_region 25 with (fail)
              go_quiet (fail)
              have hdw := drewN_below wr nq
              have HT2 := Lib.hid (HT.out.later hdw)
              generalize wr.drewN nq = wv at HT2 ⊢
              clear c0 hdw HT
              have c0 := (HROW.out t htl wv HT2.out.bel).1
              rw [← HXK.out] at c0
              go_wp2_with (at_builtin; go_loud (refine wp_app_elR rfl _ _ rfl Try.underlying49 hik hzk hzk1 hzk2 rfl (by omega) w3.heap.size 0 1 (.slice ka 0 kc) _ _ [.string xk] _ (0 + 1) rfl rfl (HT2.out.later ((Below.refl _ _).alloc (Nat.le_refl _) _)).ks (reads_one _ _ _) (by intro u hu; rw [List.mem_singleton.1 hu]; rfl) rfl HKN.out (by omega) (by omega) (Nat.le_trans HT2.out.bel.size ((Below.refl _ _).alloc (Nat.le_refl _) _).size) ?_); intro kb2 kc2 w16 HO16 HG16)
              have HT3 := Lib.hid ((HT2.out.later ((Below.refl _ _).alloc (Nat.le_refl _) _)).appK HO16.out HG16.out)
              clear c0 HO16 HG16 HT2 HKN
              go_roundw
              case rel => exact ⟨t + 1, 0 + 1, kc2, kb2, by omega, rfl, by go_num, HT3⟩
              case measure => simp [intOf]; omega
            · obtain ⟨u', rfl⟩ : ∃ u', u = u' + 1 := ⟨u - 1, by omega⟩
              have HT' := HT.out
              rw [← hu] at HT'
              obtain ⟨d, kb, koff, hkd, hkab, ck⟩ := HT'.last
              have hks : (kn : Int) - 1 = (d : Int) := by omega
              have hdk : (d : Int) < (kn : Int) := by omega
              have hkn0 : ¬ kn = 0 := by omega
              have hen : ((kn : Int) == 0) = false := by simp; omega
              have hwd : IntKind.i64.wrap (d : Int) = (d : Int) := IntWalk.i64_in _ (by omega)
              subst hkab
              obtain ⟨zk, hzk0⟩ : ∃ k, k = bs (atE (entsOf l) u').key := ⟨_, rfl⟩
              rw [← hzk0] at ck
              have hprev : (atE (entsOf l) (i + t - 1)).key = zk.data.toList := by rw [← hu, hzk0, bs_data]; rfl
              have hit0 : i + t ≠ 0 := by omega
              have HPV := Lib.hid (And.intro hprev hit0)
              clear HT' hu hu0 hzk0 hprev hit0 hkd
              by_cases hq : zk = xk
              · subst hq
                have hbz : (zk.toList == zk.toList) = true := by simp
                have HTS := Lib.hid (HT.out.same (t' := i + (t + 1)) (by rw [← Nat.add_assoc]; exact keysN_same _ _ HPV.out.2 (by rw [HKEY.out, HPV.out.1])))
                clear HKS HT
                go_upto_region 25 with (fail)
                go_quiet (fail)
                have HT3 := Lib.hid (HTS.out.later (drewN_below wr nq))
                generalize wr.drewN nq = wv at HT3 ⊢
                go_wp2_with fail
                clear c0 ck HTS hks hdk hkn0 hwd hbz hen
                go_roundw
                case rel => exact ⟨t + 1, kn, kc, _, by omega, rfl, by go_num, HT3⟩
                case measure => simp [intOf]; omega
              · have HKN := Lib.hid (HKS.out (.inr (by rw [HKEY.out, HPV.out.1]; intro e; exact hq (by rw [← bs_of zk, ← bs_of xk, e]))))
                have hkl2 : ¬ zk.toList = xk.toList := fun h => hq (ba_ext h)
                have hkb : (zk.toList == xk.toList) = false := by simp [hkl2]
                clear HKS
                go_upto_region 25 with (fail)
                go_quiet (fail)
                clear ck hks hdk hkn0 hwd hq hen hkb hkl2
                have hdw := drewN_below wr nq
                have HT2 := Lib.hid (HT.out.later hdw)
                generalize wr.drewN nq = wv at HT2 ⊢
                clear c0 hdw HT
                have c0 := (HROW.out t htl wv HT2.out.bel).1
                rw [← HXK.out] at c0
                go_wp2_with (at_builtin; go_loud (refine wp_app_elR rfl _ _ rfl Try.underlying49 hik hzk hzk1 hzk2 rfl (by omega) w3.heap.size kn 1 (.slice (some ⟨kb, koff, none⟩) kn kc) _ _ [.string xk] _ (kn + 1) rfl rfl (HT2.out.later ((Below.refl _ _).alloc (Nat.le_refl _) _)).ks (reads_one _ _ _) (by intro u hu; rw [List.mem_singleton.1 hu]; rfl) rfl HKN.out (by omega) (by omega) (Nat.le_trans HT2.out.bel.size ((Below.refl _ _).alloc (Nat.le_refl _) _).size) ?_); intro kb2 kc2 w16 HO16 HG16)
                have HT3 := Lib.hid ((HT2.out.later ((Below.refl _ _).alloc (Nat.le_refl _) _)).appK HO16.out HG16.out)
                clear c0 HO16 HG16 HT2 HKN
                go_roundw
                case rel => exact ⟨t + 1, kn + 1, kc2, kb2, by omega, rfl, by go_num, HT3⟩
                case measure => simp [intOf]; omega
          · obtain rfl : t = m := by omega
            have HQ2 : Hid (q + tk = (framesN (entsOf l) (j + 1)).length ∧ i + 16 = 16 * (j + 1)) := ⟨by rw [framesN_step, HTK.out, HQI.out.1], by have := HQI.out.2; omega⟩
            have HI2 : Hid (PartI (entsOf l) w3 (vint nb ++ marksN (entsOf l) (j + 1)) (min (16 * (j + 1)) vn) xa2 (rn2 + 1) xc2 ka kn kc wr) := by rw [HM.out.2.2.2]; exact HT.out
            have hwq2 : IntKind.i64.wrap ((q : Int) + (tk : Int)) = (q : Int) + (tk : Int) := IntWalk.i64_in _ (by omega)
            clear HT HQI HM
            go_upto_region 10 with (fail)
            go_roundw
            case rel => exact ⟨j + 1, q + tk, i + 16, _, _, _, _, _, _, by omega, by go_num, rfl, rfl, by go_num, HQ2, HI2⟩
            case measure => simp [intOf]; omega
    · obtain rfl : j = nb := by omega
      have hiv : ¬ (i : Int) < (vn : Int) := by have := HQI.out.2; have := HNB.out.2; omega
      have HT : Hid (PartI (entsOf l) w3 (idxP (entsOf l)) (entsOf l).length xa xn xc ka kn kc wr) := by
        have h := HI.out
        have e : min (16 * j) vn = (entsOf l).length := by rw [HEL.out]; have := HNB.out.2; omega
        rw [e] at h
        unfold idxP
        rw [← HNB.out.1]
        exact h
      have hq : q = (framesN (entsOf l) (nBlk (entsOf l))).length := by rw [← HNB.out.1]; exact HQI.out.1
      obtain ⟨ti, hti⟩ : ∃ t, t = (idxP (entsOf l)).length + 8 := ⟨_, rfl⟩
      obtain ⟨tb, htb⟩ : ∃ t, t = (bloomPut (keysN (entsOf l) (entsOf l).length)).length + 8 := ⟨_, rfl⟩
      have hroom := fileS_room (entsOf l)
      rw [← hq, ← hti, ← htb] at hroom
      obtain ⟨qi, hqi⟩ : ∃ t, t = q + ti := ⟨_, rfl⟩
      obtain ⟨qt, hqt⟩ : ∃ t, t = qi + tb := ⟨_, rfl⟩
      obtain ⟨F, hF⟩ : ∃ t, t = (fileS (entsOf l)).length := ⟨_, rfl⟩
      have hF2 := HFL.out
      rw [← hF] at hF2 hroom
      obtain ⟨n1, hn1⟩ : ∃ n, n = F - q := ⟨_, rfl⟩
      obtain ⟨n2, hn2⟩ : ∃ n, n = F - qi := ⟨_, rfl⟩
      obtain ⟨n3, hn3⟩ : ∃ n, n = F - qt := ⟨_, rfl⟩
      have hqiF : qi ≤ F := by omega
      have hqtF : qt ≤ F := by omega
      obtain ⟨a1, c1, hc1, hr1⟩ := cut_rest HRB.out q n1 (by omega)
      obtain ⟨a2, c2, hc2, hr2⟩ := cut_rest HRB.out qi n2 (by omega)
      obtain ⟨a3, c3, hc3, hr3⟩ := cut_rest HRB.out qt n3 (by omega)
      have hcut1 := fun w' => hc1 w' .i64
      have hcut2 := fun w' => hc2 w' .i64
      have hcut3 := fun w' => hc3 w' .i64
      have hfg1 := framesGet_is wr (.slice a1 n1 c1) _ (idxP (entsOf l)) ti (hr1.below HI.out.bel) (by rw [List.length_drop]; omega) (by rw [hq, hti]; exact fget_idx HIS.out)
      have HFG1 := Lib.hid hfg1
      have HFG2 := Lib.hid (fun w' (hb : Below w3.heap.size w3 w') => framesGet_is w' (.slice a2 n2 c2) _ (bloomPut (keysN (entsOf l) (entsOf l).length)) tb (hr2.below hb) (by rw [List.length_drop]; omega) (by rw [hqi, hq, hti, htb]; exact fget_bloom HIS.out))
      have hd3 : (fileS (entsOf l)).drop qt = four q ++ (four qi ++ four vn) := by
        rw [hqt, hqi, hq, hti, htb, fileS_drop3, HEL.out]
      rw [hd3] at hr3
      have HR3 := Lib.hid hr3
      have HSB : Hid (∀ w' v1 v2 L, Rd w' v1 L → Rd w' v2 L → Calls Try.prog 18 #[v1, v2] w' fun e w'' => e = .returned (.bool true) ∧ Below w'.heap.size w' w'') := fun w' v1 v2 L g1 g2 => by
        refine (sameBytes_any v1 v2 L L w' g1 g2).mono ?_
        rintro e w'' ⟨rfl, n, rfl⟩
        exact ⟨by simp, drewN_below _ _⟩
      have haq : (q : Int) + (ti : Int) = (qi : Int) := by omega
      have hat : (qi : Int) + (tb : Int) = (qt : Int) := by omega
      have hwqi : IntKind.i64.wrap (qi : Int) = (qi : Int) := IntWalk.i64_in _ (by omega)
      have hwqt : IntKind.i64.wrap (qt : Int) = (qt : Int) := IntWalk.i64_in _ (by omega)
      have hu1 : IntKind.u32.wrap (q : Int) = (q : Int) := by rw [IntKind.wrap_u32]; omega
      have hu2 : IntKind.u32.wrap (qi : Int) = (qi : Int) := by rw [IntKind.wrap_u32]; omega
      have hu3 : IntKind.u32.wrap (vn : Int) = (vn : Int) := by rw [IntKind.wrap_u32]; omega
      have hqb : q ≤ 17000000 := by omega
      have hqib : qi ≤ 17000000 := by omega
      have HKL : Hid ((keysN (entsOf l) (entsOf l).length).length ≤ 300 ∧ (∀ s ∈ (keysN (entsOf l) (entsOf l).length).map bs, s.size ≤ 1099511627776) ∧ ((keysN (entsOf l) (entsOf l).length).map bs).map (fun s => s.data.toList) = keysN (entsOf l) (entsOf l).length) := by
        refine ⟨by have := keysN_len (entsOf l) (entsOf l).length; rw [HEL.out] at *; omega, fun s hs => ?_, ?_⟩
        · obtain ⟨k, hk, rfl⟩ := List.mem_map.1 hs
          obtain ⟨i, hi, rfl⟩ := keysN_mem hk
          have := key_small HMM.out i hi
          have e : (bs (atE (entsOf l) i).key).size = (atE (entsOf l) i).key.length := by rw [← size_data, bs_data]
          omega
        · rw [List.map_map]
          conv => rhs; rw [← List.map_id (keysN (entsOf l) (entsOf l).length)]
          exact List.map_congr_left fun k _ => bs_data k
      clear hq hti htb hroom hqi hqt hF hF2 hn1 hn2 hn3 hqiF hqtF hc1 hc2 hc3 hr1 hr2 hr3 hfg1 hd3 HI HQI
      go_upto_region 29 with (go_at_call 21; refine HFG1.out.mono ?_; rintro e w5 ⟨ra, rn, rc, rfl, HRN, HRO, bel5⟩)
      have HT5 := Lib.hid (HT.out.later bel5)
      have HS5 := Lib.hid (HSB.out w5 _ _ _ (rd_of_own HRO.out).2 (rd_of_own HT5.out.ix).2)
      clear hiv HFG1 HRO HT bel5 hcut1
      go_upto_region 31 with (go_at_call 18; refine HS5.out.mono ?_; rintro e w6 ⟨rfl, bel6⟩)
      have HT6 := Lib.hid (HT5.out.later bel6)
      have HF6 := Lib.hid (HFG2.out w6 HT6.out.bel)
      clear HS5 HT5 bel6
      go_upto_region 32 with (go_at_call 21; refine HF6.out.mono ?_; rintro e w7 ⟨ya, yn, yc, rfl, HYN, HYO, bel7⟩)
      have HT7 := Lib.hid (HT6.out.later bel7)
      have hbp := bloomsPut_any w7 (.slice ka kn kc) _ (rdT_of (reads_of_own HT7.out.ks)).2 (by rw [List.length_map]; have := HKL.out.1; omega) HKL.out.2.1
      rw [HKL.out.2.2] at hbp
      have HBP := Lib.hid hbp
      clear HF6 HFG2 HT6 bel7 hcut2 hbp
      go_wp2_with (go_at_call 24; refine HBP.out.mono ?_; rintro e w8 ⟨za, zn, zc, rfl, HZN, HZO, bel8⟩)
      have HT8 := Lib.hid (HT7.out.later bel8)
      have HS8 := Lib.hid (HSB.out w8 _ _ _ (rd_of_own (own_below HYO.out bel8)).2 (rd_of_own HZO.out).2)
      clear HBP HYO HZO HT7 bel8
      go_upto_region 34 with (go_at_call 18; refine HS8.out.mono ?_; rintro e w9 ⟨rfl, bel9⟩)
      have HT9 := Lib.hid (HT8.out.later bel9)
      have HP1 := Lib.hid (putFour_my' w9 (.slice none 0 0) [] q (rd_nil' _) (by omega) (by simp))
      clear HS8 HT8 bel9
      go_wp2_with fail
      refine HP1.out.mono ?_
      rintro e w10 ⟨f1, f1n, f1c, rfl, HN1, HO1, bel10⟩
      have HT10 := Lib.hid (HT9.out.later bel10)
      have HP2 := Lib.hid (putFour_my' w10 _ _ qi (rd_of_own HO1.out).2 (by omega) (by simp [four_len]))
      clear HP1 HO1 HT9 bel10
      go_wp2_with fail
      refine HP2.out.mono ?_
      rintro e w11 ⟨f2, f2n, f2c, rfl, HN2, HO2, bel11⟩
      have HT11 := Lib.hid (HT10.out.later bel11)
      have HP3 := Lib.hid (putFour_my' w11 _ _ vn (rd_of_own HO2.out).2 (by omega) (by simp [four_len]))
      clear HP2 HO2 HT10 bel11
      go_wp2_with fail
      refine HP3.out.mono ?_
      rintro e w12 ⟨f3, f3n, f3c, rfl, HN3, HO3, bel12⟩
      have HT12 := Lib.hid (HT11.out.later bel12)
      have hend4 := (rd_of_own HO3.out).2
      rw [List.nil_append, List.append_assoc] at hend4
      have HS12 := Lib.hid (HSB.out w12 _ _ _ (HR3.out.below HT12.out.bel) hend4)
      clear HP3 HO3 HT11 bel12 hend4
      go_upto_region 35 with (fail)
      go_wp2_with (go_at_call 18; refine HS12.out.mono ?_; rintro e w13 ⟨rfl, bel13⟩)
      have hbf := HB3.out.trans ((HT12.out.later bel13).bel.mono HB3.out.size)
      go_ret
      exact ⟨rfl, hbf⟩
end Go.Proofs.Ytbcnapkbdbefhaa

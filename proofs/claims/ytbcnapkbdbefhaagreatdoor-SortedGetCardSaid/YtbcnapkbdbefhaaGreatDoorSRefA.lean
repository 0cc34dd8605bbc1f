/- The reference's test whether entries may be a file, and its frame; what it keeps while it puts. The condition: keys as long as a machine bears; bytes of at most 65536. | Walk of the reference's Put of a file. The condition: at most 1000000 entries, as a program holds them. -/
import Derived.Test.YtbcnapkbdbefhaaGreatDoorRefBlk2
import Derived.Test.YtbcnapkbdbefhaaGreatDoorRefFrames
import Derived.Test.YtbcnapkbdbefhaaGreatDoorRefBloom
import Derived.Test.YtbcnapkbdbefhaaGreatDoorSLib
namespace Go.Proofs.YtbcnapkbdbefhaaGreatDoor
open Go.RowKit

theorem mayS_parts (E : List Ent) : mayS E = (fitsL E && (decide (0 < E.length) && upL E)) := by
  rw [Bool.eq_iff_iff, mayS_iff]
  simp only [fitsL, upL, Bool.and_eq_true, decide_eq_true_eq, okAt, Bool.or_eq_true, beq_iff_eq]
  constructor
  · rintro ⟨h0, h⟩
    exact ⟨fun k hk => (h k hk).1, h0, fun k hk => (h k hk).2⟩
  · rintro ⟨h1, h0, h2⟩
    exact ⟨h0, fun k hk => ⟨h1 k hk, h2 k hk⟩⟩
set_option maxRecDepth 100000 in
set_option maxHeartbeats 2000000 in
theorem refMayS_any (w : World) (v : Value) (l : List PE) (hv : RdE w v l) (hks : ∀ x ∈ l, x.k.size ≤ 9223372036854775807) :
    Calls Tryz.prog 82 #[v] w (RetB (mayS (entsOf l)) w) := by
  have HV0 := Lib.hid hv
  have HRI : Hid (∀ w', Below w.heap.size w w' → Calls Tryz.prog 145 #[v] w' (RetB (upL (entsOf l)) w')) := Lib.hid fun w' hb => refRises_any w' v l (hv.below hb) hks
  obtain ⟨va, vc, rfl, h1, h2, h3⟩ := hv
  clear h3 hks
  obtain ⟨vn, hvn⟩ : ∃ n, n = l.length := ⟨_, rfl⟩
  have HVN := Lib.hid hvn
  rw [← hvn] at h1 HV0 HRI ⊢
  clear hvn
  have HM : Hid (mayS (entsOf l) = (fitsL (entsOf l) && (decide (0 < vn) && upL (entsOf l)))) := Lib.hid (by rw [mayS_parts, entsOf_length, ← HVN.out])
  have HFI : Hid (fitsL (entsOf l) = decide (∀ k, k < vn → fitE (atE (entsOf l) k) = true)) := Lib.hid (by unfold fitsL; rw [entsOf_length, ← HVN.out])
  go_enter Tryz.func82, Tryz.ntmps82
  go_wp2_with fail
  try show Code.wp _ _ _ _ _
  go_loopw [3] (fun i wr => ∃ k : Nat, k ≤ vn ∧ i = .int .i64 k ∧ Hid (∀ j, j < k → fitE (atE (entsOf l) j) = true) ∧ Hid (Below w.heap.size w wr)) (fun i _ => vn - (intOf i).toNat)
  case atStart => exact ⟨0, by omega, rfl, Lib.hid (fun j hj => by omega), Below.refl _ _⟩
  case round =>
    obtain ⟨k, hk, rfl, HRK, HBR⟩ := hrel
    by_cases hlt : k < vn
    · have hkl : k < l.length := by rw [← HVN.out]; exact hlt
      have HAK := Lib.hid (entsOf_at l k hkl)
      obtain ⟨b, off, hab, c0, c1, c2, c3⟩ := row_at (HV0.out.below HBR.out) k hkl
      subst hab
      obtain ⟨x, hx⟩ : ∃ x, x = l[k] := ⟨_, rfl⟩
      rw [← hx] at c0 c1 c2 c3 HAK
      clear hx
      obtain ⟨xk, xs, xg, xu⟩ := x
      simp only at c0 c1 c2 c3
      obtain ⟨f, hf⟩ : ∃ f, f = fitE (entOf xk xs xg xu) := ⟨_, rfl⟩
      have HFN : Hid (fitE (atE (entsOf l) k) = f) := Lib.hid (by rw [HAK.out, hf]; rfl)
      have HCF : Hid (∀ wd, Calls Tryz.prog 144 #[.agg #[.string xk, .int .u64 xs, .bool xg, .string xu]] wd (RetB f wd)) := Lib.hid fun wd => by rw [hf]; exact refFine_any wd _ _ _ _
      clear hf
      go_wp2_with fail
      refine (HCF.out _).mono ?_
      rintro e w9 ⟨rfl, bel9⟩
      have B9 := Lib.hid (HBR.out.trans (bel9.mono HBR.out.size))
      clear c0 c1 c2 c3 bel9
      cases f with
      | true =>
        have HRN : Hid (∀ j, j < k + 1 → fitE (atE (entsOf l) j) = true) := Lib.hid fun i hi => by
          by_cases e : i = k
          · subst e; exact HFN.out
          · exact HRK.out i (by omega)
        go_wp2_with fail
        go_roundw
        case rel => exact ⟨k + 1, by omega, by go_num, HRN, B9⟩
        case measure => simp [intOf]; omega
      | false =>
        have HF : Hid (mayS (entsOf l) = false) := Lib.hid (by
          rw [HM.out, HFI.out, decide_eq_false (fun h => by have := h k hlt; rw [HFN.out] at this; cases this)]; rfl)
        go_wp2_with fail
        go_ret
        exact ⟨retB HF.out.symm, B9.out⟩
    · obtain rfl : k = vn := by omega
      by_cases h0 : k = 0
      · subst h0
        have HF : Hid (mayS (entsOf l) = false) := Lib.hid (by rw [HM.out]; simp)
        go_wp2_with fail
        go_ret
        exact ⟨retB HF.out.symm, HBR.out⟩
      · have hgt : decide ((k : Int) > 0) = true := by simp; omega
        have hgt2 : 0 < k := by omega
        have HF : Hid (mayS (entsOf l) = upL (entsOf l)) := Lib.hid (by
          rw [HM.out, HFI.out, decide_eq_true HRK.out, decide_eq_true hgt2]; rfl)
        have HR2 := Lib.hid (HRI.out wr HBR.out)
        clear h0
        go_wp2_with fail
        refine HR2.out.mono ?_
        rintro e w9 ⟨rfl, bel9⟩
        have B9 := Lib.hid (HBR.out.trans (bel9.mono HBR.out.size))
        go_wp2_with fail
        go_ret
        exact ⟨retB HF.out.symm, B9.out⟩
set_option maxRecDepth 100000 in
set_option maxHeartbeats 2000000 in
theorem refFrame_any (w : World) (v : Value) (l : List UInt8) (hv : Rd w v l) (hl : l.length ≤ 65536) :
    Calls Tryz.prog 86 #[v] w (RetMy (fput l) w) := by
  obtain ⟨va, vn, vc, rfl, -⟩ := rd_len hv
  have HP := Lib.hid (refFramesPut_any w _ l hv hl)
  clear hv
  go_enter Tryz.func86, Tryz.ntmps86
  go_wp2_with fail
  refine HP.out.mono ?_
  rintro e w2 ⟨a, n, c, rfl, h1, h2, h3⟩
  go_wp2_with fail
  go_ret
  exact ⟨a, n, c, rfl, h1, h2, h3⟩
/-- bytes put so far, and the index, apart -/
structure RefI (W : World) (B M : List UInt8) (oa : Option Addr) (on oc : Nat) (xa : Option Addr) (xn xc : Nat) (wr : World) : Prop where
  ot : Own wr W.heap.size 5 1 (.slice oa on oc) on (u8s B)
  ix : Own wr W.heap.size 5 1 (.slice xa xn xc) xn (u8s M)
  ap : ApartR wr (.slice xa xn xc) (.slice oa on oc)
  bel : Below W.heap.size W wr
section
variable {W wr w' : World} {B M B' M' : List UInt8} {oa xa : Option Addr} {on oc xn xc : Nat}
theorem RefI.on_eq (h : RefI W B M oa on oc xa xn xc wr) : on = B.length := (rd_of_own h.ot).1
theorem RefI.xn_eq (h : RefI W B M oa on oc xa xn xc wr) : xn = M.length := (rd_of_own h.ix).1
theorem RefI.pa (h : RefI W B M oa on oc xa xn xc wr) : ApartR wr (.slice oa on oc) (.slice xa xn xc) := fun k hk => ⟨(own_ltR h.ot k hk).2, fun e => (h.ap k e).2 hk⟩
theorem RefI.later (h : RefI W B M oa on oc xa xn xc wr) (hb : Below wr.heap.size wr w') : RefI W B M oa on oc xa xn xc w' :=
  ⟨own_below h.ot hb, own_below h.ix hb, h.ap.later hb.size, h.bel.trans (hb.mono h.bel.size)⟩
theorem RefI.newX (h : RefI W B M oa on oc xa xn xc wr) (hb : Below wr.heap.size wr w') {ra : Option Addr} {rn rc b : Nat} (hb0 : wr.heap.size ≤ b) (ho : Own w' b 5 1 (.slice ra rn rc) rn (u8s M')) : RefI W B M' oa on oc ra rn rc w' :=
  ⟨own_below h.ot hb, own_mono ho (Nat.le_trans h.bel.size hb0), fun k hk => ⟨(own_ltR ho k hk).2, fun e => by
    have h1 := (own_ltR ho k hk).1
    have h2 := (own_ltR h.ot k e).2
    omega⟩, h.bel.trans (hb.mono h.bel.size)⟩
theorem RefI.appX (h : RefI W B M oa on oc xa xn xc wr) {ra : Option Addr} {rn rc : Nat} (ho : Own w' W.heap.size 5 1 (.slice ra rn rc) rn (u8s M')) (hg : GrewR wr w' W.heap.size (.slice xa xn xc) (.slice ra rn rc)) : RefI W B M' oa on oc ra rn rc w' :=
  ⟨hg.keep _ _ _ _ _ _ h.ot h.pa, ho, fun k hk => ⟨(own_ltR ho k hk).2, fun e => (hg.apart _ h.pa k e).2 hk⟩, h.bel.trans hg.below⟩
theorem RefI.appO (h : RefI W B M oa on oc xa xn xc wr) {ra : Option Addr} {rn rc : Nat} (ho : Own w' W.heap.size 5 1 (.slice ra rn rc) rn (u8s B')) (hg : GrewR wr w' W.heap.size (.slice oa on oc) (.slice ra rn rc)) : RefI W B' M ra rn rc xa xn xc w' :=
  ⟨ho, hg.keep _ _ _ _ _ _ h.ix h.ap, hg.apart _ h.ap, h.bel.trans hg.below⟩
end
/-- .. and the keys -/
structure RefK (E : List Ent) (W : World) (B M : List UInt8) (t : Nat) (oa : Option Addr) (on oc : Nat) (xa : Option Addr) (xn xc : Nat) (ka : Option Addr) (kn kc : Nat) (wr : World) : Prop where
  i : RefI W B M oa on oc xa xn xc wr
  ks : Own wr W.heap.size 9 1 (.slice ka kn kc) kn (txs ((keysN E t).map bs))
section
variable {E : List Ent} {W wr w' : World} {B M B' M' : List UInt8} {oa xa ka : Option Addr} {t on oc xn xc kn kc : Nat}
theorem RefK.kn_eq (h : RefK E W B M t oa on oc xa xn xc ka kn kc wr) : kn = (keysN E t).length := by
  have := (rdT_of (reads_of_own h.ks)).1
  rw [List.length_map] at this; exact this
theorem RefK.later (h : RefK E W B M t oa on oc xa xn xc ka kn kc wr) (hb : Below wr.heap.size wr w') : RefK E W B M t oa on oc xa xn xc ka kn kc w' := ⟨h.i.later hb, own_below h.ks hb⟩
theorem RefK.same (h : RefK E W B M t oa on oc xa xn xc ka kn kc wr) {t' : Nat} (e : keysN E t' = keysN E t) : RefK E W B M t' oa on oc xa xn xc ka kn kc wr := ⟨h.i, by rw [e]; exact h.ks⟩
theorem RefK.appK (h : RefK E W B M t oa on oc xa xn xc ka kn kc wr) {ra : Option Addr} {rn rc t' : Nat} (ho : Own w' W.heap.size 9 1 (.slice ra rn rc) rn (txs ((keysN E t').map bs))) (hg : GrewR wr w' W.heap.size (.slice ka kn kc) (.slice ra rn rc)) : RefK E W B M t' oa on oc xa xn xc ra rn rc w' :=
  ⟨⟨hg.keep _ _ _ _ _ _ h.i.ot (types_apart h.i.ot h.ks (by decide)), hg.keep _ _ _ _ _ _ h.i.ix (types_apart h.i.ix h.ks (by decide)), h.i.ap.later hg.below.size, h.i.bel.trans hg.below⟩, ho⟩
theorem RefK.appO (h : RefK E W B M t oa on oc xa xn xc ka kn kc wr) {ra : Option Addr} {rn rc : Nat} (ho : Own w' W.heap.size 5 1 (.slice ra rn rc) rn (u8s B')) (hg : GrewR wr w' W.heap.size (.slice oa on oc) (.slice ra rn rc)) : RefK E W B' M t ra rn rc xa xn xc ka kn kc w' :=
  ⟨h.i.appO ho hg, hg.keep _ _ _ _ _ _ h.ks (types_apart h.ks h.i.ot (by decide))⟩
end
end Go.Proofs.YtbcnapkbdbefhaaGreatDoor
namespace Go.Proofs.YtbcnapkbdbefhaaGreatDoor
open Go.RowKit

set_option maxRecDepth 100000 in
set_option maxHeartbeats 3000000 in
theorem refSPut_any (w : World) (v : Value) (l : List PE) (hv : RdE w v l) (hlo : ∀ x ∈ l, x.ok) (hln : l.length ≤ 1000000) :
    Calls Tryz.prog 20 #[v] w (RetSP (entsOf l) w) := by
  have hks : ∀ x ∈ l, x.k.size ≤ 9223372036854775807 := fun x hx => Nat.le_trans (hlo x hx).1 (by decide)
  have HMY := Lib.hid (refMayS_any w v l hv hks)
  have HKS := Lib.hid hks
  have HS := Lib.hid hlo
  have HV := Lib.hid hv
  obtain ⟨va, vc, rfl, h1, h2, h3⟩ := hv
  clear h3 hlo hks
  obtain ⟨vn, hvn⟩ : ∃ n, n = l.length := ⟨_, rfl⟩
  have HVN := Lib.hid hvn
  rw [← hvn] at h1 HV hln HMY ⊢
  clear hvn
  have HEL : Hid ((entsOf l).length = vn) := by show _ = _; rw [entsOf_length, ← HVN.out]
  obtain ⟨hs1, hs2⟩ := seqs_ok HS.out
  go_enter Tryz.func20, Tryz.ntmps20
  cases hm : mayS (entsOf l)
  · have he := errS_arg hm
    rw [hm] at HMY
    clear hm
    go_wp2_with (go_at_call 82; refine HMY.out.mono ?_; rintro e w3 ⟨rfl, bel3⟩)
    go_ret2
    exact ⟨none, 0, 0, by rw [he]; rfl, by rw [outS_no (by rw [he]; decide)]; rfl, by rw [outS_no (by rw [he]; decide)]; exact .inl ⟨rfl, rfl, none, rfl⟩, bel3⟩
  rw [hm] at HMY
  by_cases hmax : 4096 < vn
  · have he := errS_limit hm (by rw [HEL.out]; omega)
    clear hm
    go_wp2_with (go_at_call 82; refine HMY.out.mono ?_; rintro e w3 ⟨rfl, bel3⟩)
    go_ret2
    exact ⟨none, 0, 0, by rw [he]; rfl, by rw [outS_no (by rw [he]; decide)]; rfl, by rw [outS_no (by rw [he]; decide)]; exact .inl ⟨rfl, rfl, none, rfl⟩, bel3⟩
  have hv4 : vn ≤ 4096 := by omega
  have he := errS_ok hm (by rw [HEL.out]; omega)
  have HE := Lib.hid he
  have HMM := Lib.hid hm
  have HSQ := Lib.hid hs2
  have HS1 := Lib.hid hs1
  have hv0 : 0 < vn := by have := ((mayS_iff _).1 hm).1; rw [HEL.out] at this; exact this
  obtain ⟨b3, off3, hvae, -⟩ := row_at HV.out 0 (by rw [← HVN.out]; exact hv0)
  subst hvae
  clear hs1 hs2 hm he hln
  go_upto_region 6 with (go_at_call 82; refine HMY.out.mono ?_; rintro e W ⟨rfl, bel1⟩)
  have HBW := Lib.hid bel1
  clear bel1 HMY hmax
  obtain ⟨nb, hnb⟩ : ∃ n, n = nBlk (entsOf l) := ⟨_, rfl⟩
  have hnb2 : nb = (vn + 15) / 16 := by rw [hnb, nBlk, HEL.out]
  have HNB := Lib.hid (And.intro hnb hnb2)
  have hnb3 : nb ≤ 256 := by omega
  obtain ⟨v16, hv16⟩ : ∃ n, n = vn + 16 := ⟨_, rfl⟩
  obtain ⟨v15, hv15⟩ : ∃ n, n = vn + 15 := ⟨_, rfl⟩
  have ha16 : (vn : Int) + 16 = (v16 : Int) := by omega
  have ha15 : (v16 : Int) - 1 = (v15 : Int) := by omega
  have hw16 : IntKind.i64.wrap (v16 : Int) = (v16 : Int) := IntWalk.i64_in _ (by omega)
  have hw15 : IntKind.i64.wrap (v15 : Int) = (v15 : Int) := IntWalk.i64_in _ (by omega)
  have hq15 : Int.tdiv (v15 : Int) 16 = (nb : Int) := by rw [hnb2, hv15]; rfl
  have hinb : IntKind.i64.wrap (nb : Int) = (nb : Int) := IntWalk.i64_in _ (by omega)
  have hunb : IntKind.u64.wrap (nb : Int) = (nb : Int) := wrap_u64_in _ (by omega)
  have hpi := refPut_any W (.slice none 0 0) [] nb (rd_nil' _) (by omega) (by simp)
  rw [List.nil_append] at hpi
  have HPI := Lib.hid hpi
  clear hnb hnb2 hv15 hv16 hpi
  go_upto_region 7 with (go_at_call 83; refine HPI.out.mono ?_; rintro e w4 ⟨xa, xn, xc, rfl, HXN, HXO, bel4⟩)
  have HI0 : Hid (RefI W (framesN (entsOf l) 0) (vint nb ++ marksN (entsOf l) 0) none 0 0 xa xn xc w4) := by
    refine ⟨.inl ⟨rfl, rfl, none, rfl⟩, ?_, fun k hk => ⟨(own_ltR HXO.out k hk).2, by rw [rowOf_nil]; exact fun e => by cases e⟩, bel4⟩
    rw [marksN, List.append_nil]; exact HXO.out
  clear ha16 ha15 hw16 hw15 hq15 hinb hunb HPI HXO HXN bel4
  go_upto_region 8 with (fail)
  try show Code.wp _ _ _ _ _
  go_loopw [4, 5, 6] (fun ov xv iv wr => ∃ (j i on oc xn xc : Nat) (oa xa : Option Addr), j ≤ nb ∧ ov = .slice oa on oc ∧ xv = .slice xa xn xc ∧ iv = .int .i64 i ∧ Hid (i = 16 * j) ∧ Hid (RefI W (framesN (entsOf l) j) (vint nb ++ marksN (entsOf l) j) oa on oc xa xn xc wr)) (fun _ _ iv _ => vn + 16 - (intOf iv).toNat)
  case atStart => exact ⟨0, 0, 0, 0, xn, xc, none, xa, Nat.zero_le _, rfl, rfl, rfl, rfl, HI0⟩
  case round =>
    clear HI0
    obtain ⟨j, i, on, oc, xn, xc, oa, xa, hj, rfl, rfl, rfl, HQI, HI⟩ := hrel
    by_cases hlt : j < nb
    · have hi16 := HQI.out
      have hnb2 := HNB.out.2
      have hjE : j < nBlk (entsOf l) := by rw [← HNB.out.1]; exact hlt
      have hiv : (i : Int) < (vn : Int) := by omega
      have hil : i + 16 ≤ 5000 := by omega
      obtain ⟨m, hm⟩ : ∃ m, m = min 16 (vn - i) := ⟨_, rfl⟩
      have hm0 : 0 < m := by omega
      have him : i + m ≤ vn := by omega
      have hmin : (if (i : Int) + 16 < (vn : Int) then (i : Int) + 16 else (vn : Int)) = (i : Int) + (m : Int) := by split <;> omega
      have hw16 : IntKind.i64.wrap ((i : Int) + 16) = (i : Int) + 16 := IntWalk.i64_in _ (by omega)
      obtain ⟨p, hp⟩ : ∃ p, m = p + 1 := ⟨m - 1, by omega⟩
      have HM : Hid (m = min 16 (vn - i) ∧ m = p + 1 ∧ min (16 * (j + 1)) vn = i + m) := ⟨hm, hp, by omega⟩
      have hm16 : m ≤ 16 := by omega
      obtain ⟨pa2, pc2, hcut, hcr⟩ := cutE_mid HV.out i m (by rw [← HVN.out]; exact him)
      obtain ⟨pl, hpl⟩ : ∃ pl, pl = (l.drop i).take m := ⟨_, rfl⟩
      rw [← hpl] at hcr
      have hpll : pl.length = m := by rw [hpl, List.length_take, List.length_drop, ← HVN.out]; omega
      have hplb : entsOf pl = blkN (entsOf l) j := by
        rw [hpl, hi16] at *
        unfold blkN entsOf
        rw [List.map_take, List.map_drop, hm]
        by_cases h16 : 16 ≤ vn - 16 * j
        · rw [Nat.min_eq_left h16]
        · rw [Nat.min_eq_right (by omega), List.take_of_length_le (by rw [List.length_drop, List.length_map, ← HVN.out]; exact Nat.le_refl _), List.take_of_length_le (by rw [List.length_drop, List.length_map, ← HVN.out]; omega)]
      have hatE : ∀ t, (h : t < pl.length) → atE (entsOf l) (i + t) = pl[t].ent := fun t h => by
        have h2 : t < l.length - i := by rw [← HVN.out]; omega
        rw [entsOf_at l (i + t) (by omega)]
        congr 1
        simp only [hpl, List.getElem_take, List.getElem_drop]
      have hmem : ∀ x ∈ pl, x ∈ l := fun x hx => by rw [hpl] at hx; exact List.mem_of_mem_drop (List.mem_of_mem_take hx)
      have hMl : (vint nb ++ marksN (entsOf l) j).length ≤ 21000 := by
        have h1 := marksN_small HMM.out j (Nat.le_of_lt hjE)
        have h2 := vint_le nb
        rw [List.length_append]; omega
      have hBl := framesN_small HMM.out j (Nat.le_of_lt hjE)
      rw [← HI.out.on_eq] at hBl
      have hon : on ≤ 17000000 := by omega
      have HPL := Lib.hid (And.intro hpll (And.intro hplb (And.intro hatE hmem)))
      have HCR := Lib.hid (hcr.below HBW.out)
      have hbs := blkN_small HMM.out j hjE
      have hpb : ∀ w', Below W.heap.size W w' → Calls Tryz.prog 84 #[.slice pa2 m pc2] w' fun e w'' => ∃ a n c, e = .returned (.tuple #[.slice a n c, .int .i64 0]) ∧ Hid (Own w'' w'.heap.size 5 1 (.slice a n c) n (u8s (blkPut (blkN (entsOf l) j)))) ∧ Below w'.heap.size w' w'' := fun w' hb => by
        have h := refBlkPut_any w' (.slice pa2 m pc2) pl (HCR.out.below hb) (fun x hx => HKS.out x (hmem x hx)) (fun x hx => HS1.out x (hmem x hx))
        rw [hplb] at h
        refine h.mono ?_
        rintro e w'' ⟨hb2, ⟨_, a, n, c, rfl, _, ho⟩ | ⟨hno, _⟩⟩
        · exact ⟨a, n, c, rfl, ho, hb2⟩
        · rw [blkN_may HMM.out j hjE] at hno; cases hno
      have HPB := Lib.hid (hpb wr HI.out.bel)
      have HBS := Lib.hid hbs
      clear hi16 hnb2 hm hp hcr hpl hpll hplb hatE hmem hbs hpb hjE hBl
      go_upto_region 11 with (fail)
      go_upto_region 12 with (go_at_call 84; refine HPB.out.mono ?_; rintro e w7 ⟨ra, rn, rc, rfl, HRO, bel7⟩)
      have HI7 := Lib.hid (HI.out.later bel7)
      have HR7 := Lib.hid HRO.out
      clear hmin hw16 hcut HPB HRO HI bel7 hiv
      obtain ⟨b4, off4, hae, -⟩ := row_at HCR.out p (by rw [HPL.out.1]; have := HM.out.2.1; omega)
      subst hae
      have hpm : p < pl.length := by rw [HPL.out.1]; have := HM.out.2.1; omega
      obtain ⟨b5, off5, hae5, c0, c1, c2, c3⟩ := row_at (HCR.out.below HI7.out.bel) p hpm
      simp only [Option.some.injEq, Addr.mk.injEq, and_true] at hae5
      obtain ⟨rfl, rfl⟩ := hae5
      have hlast := HPL.out.2.2.1 p hpm
      have hoky : pl[p].ok := HS.out _ (HPL.out.2.2.2 _ (List.getElem_mem hpm))
      obtain ⟨y, hy⟩ : ∃ y, y = pl[p] := ⟨_, rfl⟩
      rw [← hy] at c0 c1 c2 c3 hlast hoky
      obtain ⟨yk, ys, yg, yu⟩ := y
      have hyk := key_small HMM.out (i + p) (by rw [HEL.out]; have := HM.out.2.1; omega)
      rw [hlast] at hyk
      have hyk2 : yk.size ≤ 32 := by have e : (PE.ent ⟨yk, ys, yg, yu⟩).key.length = yk.size := size_data yk; omega
      have hys : ys < 18446744073709551616 := hoky.2.1
      simp only at c0 c1 c2 c3
      have HNX : Hid (marksN (entsOf l) (j + 1) = marksN (entsOf l) j ++ (vint on ++ ((vint yk.size ++ yk.data.toList) ++ (vint ys ++ [flagB yg])))) := by
        show _ = _
        have e : min (16 * (j + 1)) (entsOf l).length - 1 = i + p := by rw [HEL.out, HM.out.2.2]; have := HM.out.2.1; omega
        have e2 : yk.data.toList.length = yk.size := size_data yk
        rw [marksN, e, hlast, ← HI7.out.on_eq]
        simp only [markB, tput, PE.ent, entOf, e2]
      have hpi : (p : Int) < (m : Int) := by have := HM.out.2.1; omega
      have hps : (m : Int) - 1 = (p : Int) := by have := HM.out.2.1; omega
      have hpw : IntKind.i64.wrap (p : Int) = (p : Int) := IntWalk.i64_in _ (by omega)
      clear hpm hlast hoky hy hyk
      go_upto_region 13 with (fail)
      obtain ⟨gY, hgY⟩ : ∃ g, g = w7.heap.size := ⟨_, rfl⟩
      obtain ⟨w8, hw8⟩ : ∃ z, z = w7.alloc (.cells #[.string yk, .int .u64 ys, .bool yg, .string yu] 34) := ⟨_, rfl⟩
      have hb8 : Below w7.heap.size w7 w8 := by rw [hw8]; exact (Below.refl _ _).alloc (Nat.le_refl _) _
      have HY8' : Hid (Blk w8 gY #[.string yk, .int .u64 ys, .bool yg, .string yu] 34) := Lib.hid (by rw [hw8]; exact Blk.new_at _ _ _ _ hgY)
      rw [← hgY, ← hw8]
      have HI8' := Lib.hid (HI7.out.later hb8)
      have HR8' := Lib.hid (own_below HR7.out hb8)
      have hqu : IntKind.u64.wrap (on : Int) = (on : Int) := wrap_u64_in _ (by omega)
      have HPX := Lib.hid (refPut_any w8 (.slice xa xn xc) _ on (rd_of_own HI8'.out.ix).2 (by omega) (Nat.le_trans hMl (by omega)))
      clear hgY hw8 hb8 c0 c1 c2 c3 hpi hps hpw HI7 HR7
      go_upto_region 14 with (go_at_call 83; refine HPX.out.mono ?_; rintro e w9 ⟨da, dn, dc, rfl, HDN, HDO, bel9⟩)
      have HI9 := Lib.hid (HI8'.out.newX bel9 (Nat.le_refl _) HDO.out)
      have HY9 := Lib.hid (HY8'.out.below bel9)
      have HR9 := Lib.hid (own_below HR8'.out bel9)
      clear HPX HDO HDN bel9 HY8' HI8' HR8'
      have HSS : Hid (∀ w', Below w9.heap.size w9 w' → (fun w' => Below w9.heap.size w9 w' ∧ w'.cell? ⟨gY, 0, none⟩ = some (.string yk) ∧ w'.cell? ⟨gY, 1, none⟩ = some (.int .u64 ys)) w') := fun w' hb => by
        have g := HY9.out.below hb
        exact ⟨hb, g.cellv 0 _ rfl, g.cellv 1 _ rfl⟩
      refine wp_region_held_drew (S := fun w' => Below w9.heap.size w9 w' ∧ w'.cell? ⟨gY, 0, none⟩ = some (.string yk) ∧ w'.cell? ⟨gY, 1, none⟩ = some (.int .u64 ys)) (by kernel_rfl) (HSS.out _ (Below.refl _ _).drew) (fun hHeld => ?_)
      have BD : Below w9.heap.size w9 w9.drew := (Below.refl _ _).drew
      refine wpAnyH_take (i := 0) (v := ?vq1) (by simp only [List.getElem?_toArray]; rfl) (by kernel_rfl) (by kernel_rfl) (by kernel_rfl) (by exact fun _ _ _ h => h) (Or.inl ⟨by rfl, ?yq1⟩) (by assumption) ?rq1
      case yq1 => (intro w hSw; (try dsimp only at hSw); go_simp; try with_reducible rfl)
      try simp only [Act.put, List.setIfInBounds_toArray, List.set_cons_zero, List.set_cons_succ]
      refine wpAnyH_take (i := 1) (v := ?vq2) (by simp only [List.getElem?_toArray]; rfl) (by kernel_rfl) (by kernel_rfl) (by kernel_rfl) (by exact fun _ _ _ h => h) (Or.inl ⟨by rfl, ?yq2⟩) (by assumption) ?rq2
      case yq2 => (intro w hSw; (try dsimp only at hSw); go_simp; try with_reducible rfl)
      try simp only [Act.put, List.setIfInBounds_toArray, List.set_cons_zero, List.set_cons_succ]
      refine wpAnyH_take (i := 2) (v := ?vq3) (by simp only [List.getElem?_toArray]; rfl) (by kernel_rfl) (by kernel_rfl) (by kernel_rfl) (by exact fun _ _ _ h => h) (Or.inl ⟨by rfl, ?yq3⟩) (by assumption) ?rq3
      case yq3 => (intro w hSw; (try dsimp only at hSw); go_simp; try with_reducible rfl)
      try simp only [Act.put, List.setIfInBounds_toArray, List.set_cons_zero, List.set_cons_succ]
      refine wpAnyH_take (i := 3) (v := ?vq4) (by simp only [List.getElem?_toArray]; rfl) (by kernel_rfl) (by kernel_rfl) (by kernel_rfl) (by exact fun _ _ _ h => h) (Or.inl ⟨by rfl, ?yq4⟩) (by assumption) ?rq4
      case yq4 => (intro w hSw; (try dsimp only at hSw); go_simp; try with_reducible rfl)
      try simp only [Act.put, List.setIfInBounds_toArray, List.set_cons_zero, List.set_cons_succ]
      refine wpAnyH_take (i := 5) (v := ?vq5) (by simp only [List.getElem?_toArray]; rfl) (by kernel_rfl) (by kernel_rfl) (by kernel_rfl) (by exact fun _ _ _ h => h) (Or.inl ⟨by rfl, ?yq5⟩) (by assumption) ?rq5
      case yq5 => (intro w hSw; (try dsimp only at hSw); go_simp; try with_reducible rfl)
      try simp only [Act.put, List.setIfInBounds_toArray, List.set_cons_zero, List.set_cons_succ]
      refine wpAnyH_take (i := 6) (v := ?vq6) (by simp only [List.getElem?_toArray]; rfl) (by kernel_rfl) (by kernel_rfl) (by kernel_rfl) (by exact fun _ _ _ h => h) (Or.inl ⟨by rfl, ?yq6⟩) (by assumption) ?rq6
      case yq6 => (intro w hSw; (try dsimp only at hSw); go_simp; try with_reducible rfl)
      try simp only [Act.put, List.setIfInBounds_toArray, List.set_cons_zero, List.set_cons_succ]
      refine wpAnyH_take (i := 7) (v := ?vq7) (by simp only [List.getElem?_toArray]; rfl) (by kernel_rfl) (by kernel_rfl) (by kernel_rfl) (by exact fun _ _ _ h => h) (Or.inl ⟨by rfl, ?yq7⟩) (by assumption) ?rq7
      case yq7 => (intro w hSw; (try dsimp only at hSw); go_simp; try with_reducible rfl)
      try simp only [Act.put, List.setIfInBounds_toArray, List.set_cons_zero, List.set_cons_succ]
      refine wpAnyH_ready (rs := [4]) (by kernel_rfl) (by simp) ?_
      refine AllReadyH.cons (by simp only [List.getElem?_toArray]; rfl) (fun K hK => ?_) AllReadyH.nil
      go_simp
      have hMl2 : ((vint nb ++ marksN (entsOf l) j) ++ vint on).length ≤ 21010 := by rw [List.length_append]; have := vint_le on; omega
      refine (refPutText_any _ _ _ yk (rd_of_own (HI9.out.later BD).ix).2 (by omega) (Nat.le_trans hMl2 (by omega))).mono ?_
      rintro e w10 ⟨ea, en, ec, rfl, -, HEO, hb10⟩
      have B10 := BD.trans (hb10.mono BD.size)
      refine hK.out _ _ (HSS.out _ B10) (fun hHeld => ?_)
      clear hK K
      try simp only [Act.put, List.setIfInBounds_toArray, List.set_cons_zero, List.set_cons_succ]
      refine wpAnyH_ready (rs := [8]) (by kernel_rfl) (by simp) ?_
      refine AllReadyH.cons (by simp only [List.getElem?_toArray]; rfl) (fun K hK => ?_) AllReadyH.nil
      go_simp
      have hMl3 : (((vint nb ++ marksN (entsOf l) j) ++ vint on) ++ (vint yk.size ++ yk.data.toList)).length ≤ 21060 := by
        have h6 : yk.data.toList.length = yk.size := size_data yk
        have := vint_le yk.size
        simp only [List.length_append] at hMl2 ⊢
        omega
      refine (refPut_any _ _ _ ys (rd_of_own HEO.out).2 (by omega) (Nat.le_trans hMl3 (by omega))).mono ?_
      rintro e w12 ⟨ra2, rn2, rc2, rfl, -, HRO2, hb12⟩
      have B12 := B10.trans (hb12.mono B10.size)
      refine hK.out _ _ (HSS.out _ B12) (fun hHeld => ?_)
      clear hK K
      try simp only [Act.put, List.setIfInBounds_toArray, List.set_cons_zero, List.set_cons_succ]
      refine wpAnyH_take (i := 9) (v := ?vq8) (by simp only [List.getElem?_toArray]; rfl) (by kernel_rfl) (by kernel_rfl) (by kernel_rfl) (by exact fun _ _ _ h => h) (Or.inl ⟨by rfl, ?yq8⟩) (by assumption) ?rq8
      case yq8 => (intro w hSw; (try dsimp only at hSw); go_simp; try with_reducible rfl)
      try simp only [Act.put, List.setIfInBounds_toArray, List.set_cons_zero, List.set_cons_succ]
      refine wpAnyH_done (by kernel_rfl) ?_ _
      have HB12 := Lib.hid B12
      have HI12 := Lib.hid (HI9.out.newX B12 B10.size HRO2.out)
      have HAPB : Hid (ApartR w12 (.slice ra rn rc) (.slice ra2 rn2 rc2)) := Lib.hid (fun k hk => ⟨Nat.lt_of_lt_of_le (own_ltR HR9.out k hk).2 B12.size, fun e => by
        have h1 := (own_ltR HR9.out k hk).2
        have h2 := (own_ltR HRO2.out k e).1
        have h3 := B10.size
        omega⟩)
      clear hb10 hb12 B10 B12 HEO HRO2 BD hHeld
      have c2 := (HY9.out.below HB12.out).cellv 2 (.bool yg) rfl
      have HR12 := Lib.hid (own_below HR9.out HB12.out)
      obtain ⟨iu, hiu, hzu, hzu1, hzu2⟩ := info_parts info_u8
      have hrn : rn2 ≤ 22000 := by
        rw [HI12.out.xn_eq]
        have h3 := vint_le on
        have h4 := vint_le ys
        have h5 := vint_le yk.size
        have h6 : yk.data.toList.length = yk.size := size_data yk
        simp only [List.length_append] at hMl ⊢
        omega
      have HNX2 : Hid (∀ z : UInt8, z = flagB yg → ((((vint nb ++ marksN (entsOf l) j) ++ vint on) ++ (vint yk.size ++ yk.data.toList)) ++ vint ys) ++ [z] = vint nb ++ marksN (entsOf l) (j + 1)) := fun z hz => by rw [HNX.out, hz]; simp only [List.append_assoc]
      have HRN2 := Lib.hid hrn
      clear hMl hMl2 hMl3 hqu hrn
      cases yg
      case true =>
        go_wp2_with (at_builtin; go_loud (refine wp_app_elR rfl _ _ rfl Tryz.underlying22 hiu hzu hzu1 hzu2 rfl (by omega) W.heap.size rn2 1 (.slice ra2 rn2 rc2) _ _ (u8s [1]) _ (rn2 + 1) rfl rfl (HI12.out.later ((Below.refl _ _).alloc (Nat.le_refl _) _)).ix (reads_one _ _ _) (one_u8s _) rfl (u8s_append _ _).symm (by have := HRN2.out; omega) (by have := HRN2.out; omega) (Nat.le_trans HI12.out.bel.size ((Below.refl _ _).alloc (Nat.le_refl _) _).size) ?_); intro xa2 xc2 w14 HO14 HG14)
        have HT14 : Hid (RefI W (framesN (entsOf l) j) (vint nb ++ marksN (entsOf l) (j + 1)) oa on oc xa2 (rn2 + 1) xc2 w14) := by
          have h := (HI12.out.later ((Below.refl _ _).alloc (Nat.le_refl _) _)).appX HO14.out HG14.out
          rw [HNX2.out 1 rfl] at h
          exact h
        have ho := HG14.out.keep _ _ _ _ _ _ (own_below HR12.out ((Below.refl _ _).alloc (Nat.le_refl _) _)) (HAPB.out.later ((Below.refl _ _).alloc (Nat.le_refl _) _).size)
        have HFR := Lib.hid (refFrame_any w14 (.slice ra rn rc) _ (rd_of_own ho).2 HBS.out)
        clear ho c2 HO14 HG14 HI12 HI9 HNX HNX2 HY9 HSS HB12 HR12 HR9 HAPB
        refine HFR.out.mono ?_
        rintro e w15 ⟨fa, fn, fc, rfl, HFN, HFO, bel15⟩
        have HT15 := Lib.hid (HT14.out.later bel15)
        have hfn : fn ≤ 70000 := by rw [HFN.out, fput_length]; have := HBS.out; omega
        have HZZ : Hid (u8s (framesN (entsOf l) j) ++ u8s (fput (blkPut (blkN (entsOf l) j))) = u8s (framesN (entsOf l) (j + 1))) := by show _ = _; rw [framesN, u8s_append]
        have hx15 := reads_of_own HFO.out
        obtain ⟨q2, hq2⟩ : ∃ q, on + fn = q := ⟨_, rfl⟩
        have HQ2 := Lib.hid hq2
        have hq2b : q2 ≤ 20000000 := by omega
        have HX15 := Lib.hid hx15
        clear HT14 HFR HFN HFO bel15 hq2 hx15
        go_wp2_with (at_builtin; go_loud (refine wp_app_elR rfl _ _ rfl Tryz.underlying22 hiu hzu hzu1 hzu2 rfl (by omega) W.heap.size on fn (.slice oa on oc) (.slice fa fn fc) _ _ _ q2 rfl rfl HT15.out.ot HX15.out (one_u8s _) HQ2.out HZZ.out (by omega) (by omega) HT15.out.bel.size ?_); intro oa2 oc2 w16 HO16 HG16)
        have HT16 := Lib.hid (HT15.out.appO HO16.out HG16.out)
        have HI16 : Hid (i + 16 = 16 * (j + 1)) := by show _ = _; have := HQI.out; omega
        clear HT15 HO16 HG16 HQ2 HZZ HX15 hfn HQI HM
        go_roundw
        case rel => exact ⟨j + 1, i + 16, _, _, _, _, _, _, by omega, rfl, rfl, by go_num, HI16, HT16⟩
        case measure => simp [intOf]; omega
      case false =>
        go_wp2_with (at_builtin; go_loud (refine wp_app_elR rfl _ _ rfl Tryz.underlying22 hiu hzu hzu1 hzu2 rfl (by omega) W.heap.size rn2 1 (.slice ra2 rn2 rc2) _ _ (u8s [0]) _ (rn2 + 1) rfl rfl (HI12.out.later ((Below.refl _ _).alloc (Nat.le_refl _) _)).ix (reads_one _ _ _) (one_u8s _) rfl (u8s_append _ _).symm (by have := HRN2.out; omega) (by have := HRN2.out; omega) (Nat.le_trans HI12.out.bel.size ((Below.refl _ _).alloc (Nat.le_refl _) _).size) ?_); intro xa2 xc2 w14 HO14 HG14)
        have HT14 : Hid (RefI W (framesN (entsOf l) j) (vint nb ++ marksN (entsOf l) (j + 1)) oa on oc xa2 (rn2 + 1) xc2 w14) := by
          have h := (HI12.out.later ((Below.refl _ _).alloc (Nat.le_refl _) _)).appX HO14.out HG14.out
          rw [HNX2.out 0 rfl] at h
          exact h
        have ho := HG14.out.keep _ _ _ _ _ _ (own_below HR12.out ((Below.refl _ _).alloc (Nat.le_refl _) _)) (HAPB.out.later ((Below.refl _ _).alloc (Nat.le_refl _) _).size)
        have HFR := Lib.hid (refFrame_any w14 (.slice ra rn rc) _ (rd_of_own ho).2 HBS.out)
        clear ho c2 HO14 HG14 HI12 HI9 HNX HNX2 HY9 HSS HB12 HR12 HR9 HAPB
        refine HFR.out.mono ?_
        rintro e w15 ⟨fa, fn, fc, rfl, HFN, HFO, bel15⟩
        have HT15 := Lib.hid (HT14.out.later bel15)
        have hfn : fn ≤ 70000 := by rw [HFN.out, fput_length]; have := HBS.out; omega
        have HZZ : Hid (u8s (framesN (entsOf l) j) ++ u8s (fput (blkPut (blkN (entsOf l) j))) = u8s (framesN (entsOf l) (j + 1))) := by show _ = _; rw [framesN, u8s_append]
        have hx15 := reads_of_own HFO.out
        obtain ⟨q2, hq2⟩ : ∃ q, on + fn = q := ⟨_, rfl⟩
        have HQ2 := Lib.hid hq2
        have hq2b : q2 ≤ 20000000 := by omega
        have HX15 := Lib.hid hx15
        clear HT14 HFR HFN HFO bel15 hq2 hx15
        go_wp2_with (at_builtin; go_loud (refine wp_app_elR rfl _ _ rfl Tryz.underlying22 hiu hzu hzu1 hzu2 rfl (by omega) W.heap.size on fn (.slice oa on oc) (.slice fa fn fc) _ _ _ q2 rfl rfl HT15.out.ot HX15.out (one_u8s _) HQ2.out HZZ.out (by omega) (by omega) HT15.out.bel.size ?_); intro oa2 oc2 w16 HO16 HG16)
        have HT16 := Lib.hid (HT15.out.appO HO16.out HG16.out)
        have HI16 : Hid (i + 16 = 16 * (j + 1)) := by show _ = _; have := HQI.out; omega
        clear HT15 HO16 HG16 HQ2 HZZ HX15 hfn HQI HM
        go_roundw
        case rel => exact ⟨j + 1, i + 16, _, _, _, _, _, _, by omega, rfl, rfl, by go_num, HI16, HT16⟩
        case measure => simp [intOf]; omega
    · obtain rfl : j = nb := by omega
      have hiv : ¬ (i : Int) < (vn : Int) := by have := HQI.out; have := HNB.out.2; omega
      have HB0 := framesN_small HMM.out (nBlk (entsOf l)) (Nat.le_refl _)
      have hnbE : j = nBlk (entsOf l) := HNB.out.1
      have h0 := HI.out
      rw [hnbE] at h0
      have hfx : vint (nBlk (entsOf l)) ++ marksN (entsOf l) (nBlk (entsOf l)) = idxP (entsOf l) := rfl
      rw [hfx] at h0
      have hon : on ≤ 17000000 := by rw [h0.on_eq]; omega
      obtain ⟨B, hB⟩ : ∃ B, B = framesN (entsOf l) (nBlk (entsOf l)) := ⟨_, rfl⟩
      rw [← hB] at h0
      have HBE := Lib.hid hB
      have HONE := Lib.hid h0.on_eq
      have HK0 : Hid (RefK (entsOf l) W B (idxP (entsOf l)) 0 oa on oc xa xn xc none 0 0 wr) := ⟨h0, .inl ⟨rfl, rfl, none, rfl⟩⟩
      have HIS := Lib.hid (idxP_small HMM.out (by rw [HEL.out]; exact hv4))
      clear h0 hB hfx hnbE HB0 HI HQI
      go_upto_region 21 with (fail)
      obtain ⟨wo, hwo⟩ : ∃ z, z = wr := ⟨_, rfl⟩
      try show Code.wp _ _ _ _ _
      go_loopw [11, 12] (fun kv tv wr => ∃ (t kn kc : Nat) (ka : Option Addr), t ≤ vn ∧ kv = .slice ka kn kc ∧ tv = .int .i64 t ∧ Hid (RefK (entsOf l) W B (idxP (entsOf l)) t oa on oc xa xn xc ka kn kc wr)) (fun _ tv _ => vn - (intOf tv).toNat)
      case atStart => exact ⟨0, 0, 0, none, Nat.zero_le _, rfl, rfl, HK0⟩
      case round =>
        clear HK0 hwo
        obtain ⟨t, kn, kc, ka, ht, rfl, rfl, HT⟩ := hrel
        by_cases hlt2 : t < vn
        · have htl : t < l.length := by rw [← HVN.out]; exact hlt2
          have hti : (t : Int) < (vn : Int) := by omega
          have hkl : kn ≤ 4096 := by
            have h1 := HT.out.kn_eq
            have h2 := keysN_len (entsOf l) t
            omega
          have HROW : Hid (∀ t, (ht : t < l.length) → ∀ w', Below W.heap.size W w' → w'.cell? ⟨b3, off3 + t * 4, none⟩ = some (.string l[t].k)) := fun t ht w' hb => by
            obtain ⟨b, off, e, c0, c1, c2, c3⟩ := row_at (HV.out.below (HBW.out.trans (hb.mono HBW.out.size))) t ht
            simp only [Option.some.injEq, Addr.mk.injEq, and_true] at e
            obtain ⟨rfl, rfl⟩ := e
            exact c0
          have c0 := HROW.out t htl wr HT.out.i.bel
          obtain ⟨xk, hxk⟩ : ∃ k, k = l[t].k := ⟨_, rfl⟩
          have hkey : (atE (entsOf l) t).key = xk.data.toList := by rw [entsOf_at l t htl, hxk]; rfl
          rw [← hxk] at c0
          have HXK := Lib.hid hxk
          have HKEY := Lib.hid hkey
          obtain ⟨ik, hik, hzk, hzk1, hzk2⟩ := info_parts info_str
          have hkstep : (t = 0 ∨ (atE (entsOf l) t).key ≠ (atE (entsOf l) (t - 1)).key) → txs ((keysN (entsOf l) t).map bs) ++ [.string xk] = txs ((keysN (entsOf l) (t + 1)).map bs) := fun h => by
            rw [keysN_step _ _ h, List.map_append, txs_app, hkey, List.map_cons, List.map_nil, bs_of]; rfl
          have HKS2 := Lib.hid hkstep
          clear hxk hkey hkstep
          by_cases ht0 : t = 0
          · subst ht0
            have HKN := Lib.hid (HKS2.out (.inl rfl))
            clear HKS2
            go_upto_region 23 with (fail)
            go_quiet (fail)
            have hdw := drewN_below wr nq
            have HT2 := Lib.hid (HT.out.later hdw)
            generalize wr.drewN nq = wv at HT2 ⊢
            clear c0 hdw HT
            have c0 := HROW.out 0 htl wv HT2.out.i.bel
            rw [← HXK.out] at c0
            simp only [Nat.zero_mul, Nat.add_zero] at c0
            go_wp2_with (at_builtin; go_loud (refine wp_app_elR rfl _ _ rfl Tryz.underlying77 hik hzk hzk1 hzk2 rfl (by omega) W.heap.size kn 1 (.slice ka kn kc) _ _ [.string xk] _ (kn + 1) rfl rfl (HT2.out.later ((Below.refl _ _).alloc (Nat.le_refl _) _)).ks (reads_one _ _ _) (by intro u hu; rw [List.mem_singleton.1 hu]; rfl) rfl HKN.out (by omega) (by omega) (Nat.le_trans HT2.out.i.bel.size ((Below.refl _ _).alloc (Nat.le_refl _) _).size) ?_); intro kb2 kc2 w16 HO16 HG16)
            have HT3 := Lib.hid ((HT2.out.later ((Below.refl _ _).alloc (Nat.le_refl _) _)).appK HO16.out HG16.out)
            clear c0 HO16 HG16 HT2 HKN
            go_roundw
            case rel => exact ⟨0 + 1, kn + 1, kc2, kb2, by omega, rfl, by go_num, HT3⟩
            case measure => simp [intOf]; omega
          · obtain ⟨p, hp⟩ : ∃ p, p = t - 1 := ⟨_, rfl⟩
            have hps : (t : Int) - 1 = (p : Int) := by omega
            have hpi : (p : Int) < (vn : Int) := by omega
            have hpw : IntKind.i64.wrap (p : Int) = (p : Int) := IntWalk.i64_in _ (by omega)
            have hen : ((t : Int) == 0) = false := by simp; omega
            have hpl : p < l.length := by rw [← HVN.out]; omega
            have ck := HROW.out p hpl wr HT.out.i.bel
            obtain ⟨zk, hzk0⟩ : ∃ k, k = l[p].k := ⟨_, rfl⟩
            rw [← hzk0] at ck
            have HPV : Hid ((atE (entsOf l) (t - 1)).key = zk.data.toList ∧ t ≠ 0) := ⟨by rw [← hp, entsOf_at l p hpl, hzk0]; rfl, ht0⟩
            clear hp hzk0 hpl
            by_cases hq : xk = zk
            · subst hq
              have hbz : (xk.toList == xk.toList) = true := by simp
              have HTS := Lib.hid (HT.out.same (t' := t + 1) (keysN_same _ _ HPV.out.2 (by rw [HKEY.out, HPV.out.1])))
              clear HKS2 HT
              go_upto_region 23 with (fail)
              go_quiet (fail)
              have HT3 := Lib.hid (HTS.out.later (drewN_below wr nq))
              generalize wr.drewN nq = wv at HT3 ⊢
              go_wp2_with fail
              clear c0 ck HTS hps hpi hpw hen hbz
              go_roundw
              case rel => exact ⟨t + 1, kn, kc, _, by omega, rfl, by go_num, HT3⟩
              case measure => simp [intOf]; omega
            · have HKN := Lib.hid (HKS2.out (.inr (by rw [HKEY.out, HPV.out.1]; intro e; exact hq (by rw [← bs_of zk, ← bs_of xk, e]))))
              have hkl2 : ¬ xk.toList = zk.toList := fun h => hq (ba_ext h)
              have hkb : (xk.toList == zk.toList) = false := by simp [hkl2]
              clear HKS2
              go_upto_region 23 with (fail)
              go_quiet (fail)
              clear ck hps hpi hpw hen hq hkl2 hkb ht0
              have hdw := drewN_below wr nq
              have HT2 := Lib.hid (HT.out.later hdw)
              generalize wr.drewN nq = wv at HT2 ⊢
              clear c0 hdw HT
              have c0 := HROW.out t htl wv HT2.out.i.bel
              rw [← HXK.out] at c0
              go_wp2_with (at_builtin; go_loud (refine wp_app_elR rfl _ _ rfl Tryz.underlying77 hik hzk hzk1 hzk2 rfl (by omega) W.heap.size kn 1 (.slice ka kn kc) _ _ [.string xk] _ (kn + 1) rfl rfl (HT2.out.later ((Below.refl _ _).alloc (Nat.le_refl _) _)).ks (reads_one _ _ _) (by intro u hu; rw [List.mem_singleton.1 hu]; rfl) rfl HKN.out (by omega) (by omega) (Nat.le_trans HT2.out.i.bel.size ((Below.refl _ _).alloc (Nat.le_refl _) _).size) ?_); intro kb2 kc2 w16 HO16 HG16)
              have HT3 := Lib.hid ((HT2.out.later ((Below.refl _ _).alloc (Nat.le_refl _) _)).appK HO16.out HG16.out)
              clear c0 HO16 HG16 HT2 HKN
              go_roundw
              case rel => exact ⟨t + 1, kn + 1, kc2, kb2, by omega, rfl, by go_num, HT3⟩
              case measure => simp [intOf]; omega
        · obtain rfl : t = vn := by omega
          have HTE : Hid (RefK (entsOf l) W B (idxP (entsOf l)) (entsOf l).length oa on oc xa xn xc ka kn kc wr) := by have h := HT.out; rw [← HEL.out] at h; exact h
          have HF1 := Lib.hid (refFrame_any wr (.slice xa xn xc) (idxP (entsOf l)) (rd_of_own HTE.out.i.ix).2 HIS.out)
          have HKL : Hid ((keysN (entsOf l) (entsOf l).length).length ≤ 4096 ∧ (∀ s ∈ (keysN (entsOf l) (entsOf l).length).map bs, s.size ≤ 268435456) ∧ ((keysN (entsOf l) (entsOf l).length).map bs).map (fun s => s.data.toList) = keysN (entsOf l) (entsOf l).length) := by
            refine ⟨by have h1 := keysN_len (entsOf l) (entsOf l).length; have h2 := HEL.out; omega, fun s hs => ?_, ?_⟩
            · obtain ⟨k, hk, rfl⟩ := List.mem_map.1 hs
              obtain ⟨i, hi, rfl⟩ := keysN_mem hk
              have := key_small HMM.out i hi
              have e : (bs (atE (entsOf l) i).key).size = (atE (entsOf l) i).key.length := by rw [← size_data, bs_data]
              omega
            · rw [List.map_map]
              conv => rhs; rw [← List.map_id (keysN (entsOf l) (entsOf l).length)]
              exact List.map_congr_left fun k _ => bs_data k
          obtain ⟨iu, hiu, hzu, hzu1, hzu2⟩ := info_parts info_u8
          have hu1 : IntKind.u32.wrap (on : Int) = (on : Int) := wrap_u32_in _ (by omega)
          have hu3 : IntKind.u32.wrap (t : Int) = (t : Int) := wrap_u32_in _ (by omega)
          clear HT
          go_upto_region 26 with (fail)
          go_wp2_with fail
          refine HF1.out.mono ?_
          rintro e w5 ⟨fa, fn, fc, rfl, HFN, HFO, bel5⟩
          have HT5 := Lib.hid (HTE.out.later bel5)
          obtain ⟨q1, hq1⟩ : ∃ q, on + fn = q := ⟨_, rfl⟩
          have hfn : fn ≤ 65544 := by rw [HFN.out, fput_length]; have := HIS.out; omega
          have hq1b : q1 ≤ 18000000 := by omega
          have HQ1 := Lib.hid hq1
          have hx5 := reads_of_own HFO.out
          have HX5 := Lib.hid hx5
          have HZ1 : Hid (u8s B ++ u8s (fput (idxP (entsOf l))) = u8s (B ++ fput (idxP (entsOf l)))) := by show _ = _; rw [u8s_append]
          have hu2 : IntKind.u32.wrap (q1 : Int) = (q1 : Int) := wrap_u32_in _ (by omega)
          clear HTE HF1 HFO bel5 hq1 hx5
          go_wp2_with (at_builtin; go_loud (refine wp_app_elR rfl _ _ rfl Tryz.underlying22 hiu hzu hzu1 hzu2 rfl (by omega) W.heap.size on fn (.slice oa on oc) (.slice fa fn fc) _ _ _ q1 rfl rfl HT5.out.i.ot HX5.out (one_u8s _) HQ1.out HZ1.out (by omega) (by omega) HT5.out.i.bel.size ?_); intro oa2 oc2 w6 HO6 HG6)
          have HT6 := Lib.hid (HT5.out.appO HO6.out HG6.out)
          have hbp := refBloom_any w6 (.slice ka kn kc) _ (rdT_of (reads_of_own HT6.out.ks)).2 (by rw [List.length_map]; have := HKL.out.1; omega) HKL.out.2.1
          rw [HKL.out.2.2] at hbp
          have HBP := Lib.hid hbp
          clear HT5 HO6 HG6 HX5 HZ1 hbp hfn
          refine HBP.out.mono ?_
          rintro e w7 ⟨ba, bn, bc, rfl, HBN, HBO, bel7⟩
          have HT7 := Lib.hid (HT6.out.later bel7)
          have HBSM : Hid ((bloomPut (keysN (entsOf l) (entsOf l).length)).length ≤ 65536) := bloom_small (entsOf l) (by rw [HEL.out]; exact hv4)
          have HF2 := Lib.hid (refFrame_any w7 (.slice ba bn bc) _ (rd_of_own HBO.out).2 HBSM.out)
          clear HT6 HBP HBO HBN bel7
          go_wp2_with fail
          refine HF2.out.mono ?_
          rintro e w8 ⟨ga, gn, gc, rfl, HGN, HGO, bel8⟩
          have HT8 := Lib.hid (HT7.out.later bel8)
          obtain ⟨q2, hq2⟩ : ∃ q, q1 + gn = q := ⟨_, rfl⟩
          have hgn : gn ≤ 65544 := by rw [HGN.out, fput_length]; have := HBSM.out; omega
          have hq2b : q2 ≤ 19000000 := by omega
          have HQ2 := Lib.hid hq2
          have hx8 := reads_of_own HGO.out
          have HX8 := Lib.hid hx8
          have HZ2 : Hid (u8s (B ++ fput (idxP (entsOf l))) ++ u8s (fput (bloomPut (keysN (entsOf l) (entsOf l).length))) = u8s ((B ++ fput (idxP (entsOf l))) ++ fput (bloomPut (keysN (entsOf l) (entsOf l).length)))) := by show _ = _; rw [u8s_append (B ++ fput (idxP (entsOf l)))]
          clear HT7 HF2 HGO HGN bel8 hq2 hx8
          go_wp2_with (at_builtin; go_loud (refine wp_app_elR rfl _ _ rfl Tryz.underlying22 hiu hzu hzu1 hzu2 rfl (by omega) W.heap.size q1 gn (.slice oa2 q1 oc2) (.slice ga gn gc) _ _ _ q2 rfl rfl HT8.out.i.ot HX8.out (one_u8s _) HQ2.out HZ2.out (by omega) (by omega) HT8.out.i.bel.size ?_); intro oa3 oc3 w9 HO9 HG9)
          have HT9 := Lib.hid (HT8.out.appO HO9.out HG9.out)
          have HL9 := Lib.hid HT9.out.i.on_eq
          have HP1 := Lib.hid (refPutFour_any w9 _ _ on (rd_of_own HT9.out.i.ot).2 (by omega) (by rw [← HL9.out]; omega))
          clear HT8 HO9 HG9 HX8 HZ2 hgn HQ2
          refine HP1.out.mono ?_
          rintro e w10 ⟨f1, f1n, f1c, rfl, HN1, HO1, bel10⟩
          have HT10 := Lib.hid (HT9.out.later bel10)
          have HP2 := Lib.hid (refPutFour_any w10 _ _ q1 (rd_of_own HO1.out).2 (by omega) (by rw [List.length_append, four_len, ← HL9.out]; omega))
          clear HP1 HO1 HN1 HT9 bel10
          go_wp2_with fail
          refine HP2.out.mono ?_
          rintro e w11 ⟨f2, f2n, f2c, rfl, HN2, HO2, bel11⟩
          have HT11 := Lib.hid (HT10.out.later bel11)
          have HP3 := Lib.hid (refPutFour_any w11 _ _ t (rd_of_own HO2.out).2 (by omega) (by rw [List.length_append, List.length_append, four_len, four_len, ← HL9.out]; omega))
          clear HP2 HO2 HN2 HT10 bel11
          go_wp2_with fail
          refine HP3.out.mono ?_
          rintro e w12 ⟨f3, f3n, f3c, rfl, HN3, HO3, bel12⟩
          have HT12 := Lib.hid (HT11.out.later bel12)
          have hfile : ((((B ++ fput (idxP (entsOf l))) ++ fput (bloomPut (keysN (entsOf l) (entsOf l).length))) ++ four on) ++ four q1) ++ four t = outS (entsOf l) := by
            rw [outS_ok HE.out]
            unfold fileS
            rw [← HBE.out, ← HONE.out, ← HFN.out, HQ1.out, HEL.out]
            simp only [List.append_assoc]
          have hn3 := HN3.out
          have ho3 := own_mono HO3.out (Nat.le_trans HBW.out.size HT11.out.i.bel.size)
          rw [hfile] at hn3 ho3
          have HR3 := Lib.hid (And.intro hn3 ho3)
          have hbf := HBW.out.trans (HT12.out.i.bel.mono HBW.out.size)
          have HBF := Lib.hid hbf
          clear HP3 HO3 HN3 HT11 bel12 hfile hn3 ho3 hbf
          go_wp2_with fail
          go_ret2
          exact ⟨f3, f3n, f3c, by rw [HE.out]; rfl, HR3.out.1, HR3.out.2, HBF.out⟩
end Go.Proofs.YtbcnapkbdbefhaaGreatDoor

/- Walk of the reference's find. No condition beyond a slice of files. | Walk of the reference's Do of edits. The condition: lists of 1000 elements at most. -/
import Derived.Test.YtimfcinkjjaigaaGreatDoorRqA
import Derived.Test.YtimfcinkjjaigaaGreatDoorFlSort
import Derived.Deep.Cut
import Derived.Deep.CutRange
import Derived.Deep.CutBlock
namespace Go.Proofs.YtimfcinkjjaigaaGreatDoor
open Go.RowKit

/-- where a number stands -/
def FindR (l : List PF) (k : Nat) (z : Int) : Prop := (z = -1 ∧ k ∉ nums l) ∨ ∃ j : Nat, z = j ∧ ∃ h : j < l.length, l[j].n = k
theorem FindR.neg {l : List PF} {k : Nat} {z : Int} (h : FindR l k z) : (z < 0 ↔ k ∉ nums l) := by
  rcases h with ⟨rfl, h⟩ | ⟨j, rfl, hj, e⟩
  · exact ⟨fun _ => h, fun _ => by omega⟩
  · refine ⟨fun h => by omega, fun h => absurd ?_ h⟩
    rw [← e]; exact nums_mem (List.getElem_mem hj)
set_option maxRecDepth 100000 in
set_option maxHeartbeats 2000000 in
theorem refFind_any (w : World) (v : Value) (l : List PF) (k : Nat) (hv : RdF w v l) :
    Calls Tryz.prog 61 #[v, .int .u32 k] w fun e w' => ∃ z : Int, e = .returned (.int .i64 z) ∧ Hid (FindR l k z) ∧ w = w' := by
  have HV0 := Lib.hid hv
  obtain ⟨va, vc, rfl, h1, h2, h3⟩ := hv
  clear h3
  obtain ⟨vn, hvn⟩ : ∃ n, n = l.length := ⟨_, rfl⟩
  have HVN := Lib.hid hvn
  rw [← hvn] at h1 HV0 ⊢
  clear hvn
  go_enter Tryz.func61, Tryz.ntmps61
  go_wp2_with fail
  try show Code.wp _ _ _ _ _
  go_loopw [5] (fun i wr => ∃ j : Nat, j ≤ vn ∧ i = .int .i64 j ∧ Hid (∀ r, (h : r < l.length) → r < j → l[r].n ≠ k) ∧ w = wr) (fun i _ => vn - (intOf i).toNat)
  case atStart => exact ⟨0, Nat.zero_le _, rfl, Lib.hid (fun r _ h => by omega), rfl⟩
  case round =>
    obtain ⟨j, hj, rfl, HNO, rfl⟩ := hrel
    by_cases hlt : j < vn
    · have hjl : j < l.length := by rw [← HVN.out]; exact hlt
      have hj0 : (0 : Int) ≤ (j : Int) := by omega
      have hjn : (j : Int) < (vn : Int) := by omega
      obtain ⟨_, _, he, _, _, hcell⟩ := HV0.out
      simp only [Value.slice.injEq] at he
      obtain ⟨b, off, hab, q0, q1, q2, q3⟩ := hcell j hjl
      rw [← he.1] at hab
      clear he hcell q1 q2 q3
      subst hab
      obtain ⟨f, hf⟩ : ∃ f, f = l[j].n := ⟨_, rfl⟩
      rw [← hf] at q0
      have HF := Lib.hid hf
      clear hf
      by_cases hk : f = k
      · have hke : ((f : Int) == (k : Int)) = true := by simp; omega
        have HR : Hid (FindR l k (j : Int)) := Lib.hid (.inr ⟨j, rfl, hjl, by rw [← HF.out]; exact hk⟩)
        subst hk
        clear HNO
        go_wp2_with fail
        go_ret
        exact ⟨_, rfl, HR, rfl⟩
      · have hke : ((f : Int) == (k : Int)) = false := by simp; omega
        have HN2 : Hid (∀ r, (h : r < l.length) → r < j + 1 → l[r].n ≠ k) := Lib.hid fun r h hr => by
          by_cases e : r = j
          · subst e; rw [← HF.out]; exact hk
          · exact HNO.out r h (by omega)
        clear HNO
        go_wp2_with fail
        go_roundw
        case rel => exact ⟨j + 1, by omega, by go_num, HN2, by first | rfl | trivial⟩
        case measure => simp [intOf]; omega
    · have HR : Hid (FindR l k (-1)) := Lib.hid (.inl ⟨rfl, fun h => by
        obtain ⟨f, hf, e⟩ := List.mem_map.1 h
        obtain ⟨r, hr, rfl⟩ := List.getElem_of_mem hf
        exact HNO.out r hr (by have := HVN.out; omega) e⟩)
      clear HNO
      go_wp2_with fail
      go_ret
      exact ⟨_, rfl, HR, rfl⟩
end Go.Proofs.YtimfcinkjjaigaaGreatDoor
namespace Go.Proofs.YtimfcinkjjaigaaGreatDoor
open Go.RowKit

theorem RdF.at {w : World} {a : Option Addr} {n c : Nat} {l : List PF} (h : RdF w (.slice a n c) l) (j : Nat) (hj : j < l.length) : ∃ b off, a = some ⟨b, off, none⟩ ∧ w.cell? ⟨b, off + j * 4, none⟩ = some (.int .u32 l[j].n) ∧ w.cell? ⟨b, off + j * 4 + 1, none⟩ = some (.int .i64 l[j].lv) ∧ w.cell? ⟨b, off + j * 4 + 2, none⟩ = some (.string l[j].a) ∧ w.cell? ⟨b, off + j * 4 + 3, none⟩ = some (.string l[j].b) := by
  obtain ⟨_, _, he, _, _, hcell⟩ := h
  simp only [Value.slice.injEq] at he
  obtain ⟨b, off, hab, q⟩ := hcell j hj
  exact ⟨b, off, by rw [he.1, hab], q⟩
theorem take_next {l : List PF} {k : Nat} (h : k < l.length) (f : PF) (hf : f = l[k]) : l.take (k + 1) = l.take k ++ [f] := by rw [hf]; exact List.take_succ_eq_append_getElem h
theorem can_take {l add : List PF} {rem : List Nat} {k : Nat} (hk : k < l.length) (h : l[k].n ∈ nums (l.take k)) : ¬ Can l add rem := fun c => by
  have h2 := c.2.2.1
  have e : nums l = nums (l.take (k + 1)) ++ nums (l.drop (k + 1)) := by rw [← nums_app, List.take_append_drop]
  rw [e, List.take_succ_eq_append_getElem hk, nums_app] at h2
  have h3 := (List.nodup_append.1 (List.nodup_append.1 h2).1).2.2
  exact h3 _ h _ (by simp [nums]) rfl
theorem nodup_snoc {m : List PF} {f : PF} (h : (nums m).Nodup) (hf : f.n ∉ nums m) : (nums (m ++ [f])).Nodup := by
  rw [nums_app, List.nodup_append]
  refine ⟨h, by simp [nums], fun a ha b hb => ?_⟩
  simp only [nums, List.map_cons, List.map_nil, List.mem_singleton] at hb
  subst hb
  exact fun e => hf (e ▸ ha)
theorem RdU.at {w : World} {a : Option Addr} {n c : Nat} {l : List Nat} (h : RdU w (.slice a n c) l) (j : Nat) (hj : j < l.length) : ∃ b off, a = some ⟨b, off, none⟩ ∧ w.cell? ⟨b, off + j, none⟩ = some (.int .u32 (l[j] : Nat)) := by
  obtain ⟨_, _, he, _, _, hcell⟩ := h
  simp only [Value.slice.injEq] at he
  obtain ⟨b, off, hab, q⟩ := hcell j hj
  exact ⟨b, off, by rw [he.1, hab], q⟩
/-- v[:k] of files -/
theorem cutF_to {w : World} {v : Value} {n : Nat} {m : List PF} (h : Reads w 4 v n (fcells m)) (hn : n = m.length) (k : Nat) (hk : k ≤ n) :
    ∃ a c, (∀ (w' : World) (kh : IntKind), (Instr.slice 22 v none (some (.int kh k)) none).run Tryz.prog w' = .ok (.slice a k c) w') ∧ Reads w 4 (.slice a k c) k (fcells (m.take k)) := by
  obtain ⟨i0, hi0, hz, hz1, hz2⟩ := info_parts info_file
  obtain ⟨a, c, _, h2, _, h4⟩ := reads_cut Tryz.underlying22 hi0 hz1 (by omega) h 0 k (Nat.zero_le _) hk
  have h2 := h2 rfl
  rw [Nat.sub_zero] at h2 h4
  refine ⟨a, c, h2, ?_⟩
  have h5 : ((fcells m).take (k * 4)).drop (0 * 4) = fcells (m.take k) := by rw [Nat.zero_mul, List.drop_zero]; exact fcells_take m k (by omega)
  rw [h5] at h4
  exact h4
/-- v[k:] of files -/
theorem cutF_rest {w : World} {v : Value} {n : Nat} {m : List PF} (h : Reads w 4 v n (fcells m)) (hn : n = m.length) (k p : Nat) (hk : p + k = n) :
    ∃ a c, (∀ (w' : World) (kl : IntKind), (Instr.slice 22 v (some (.int kl k)) none none).run Tryz.prog w' = .ok (.slice a p c) w') ∧ Reads w 4 (.slice a p c) p (fcells (m.drop k)) := by
  obtain ⟨i0, hi0, hz, hz1, hz2⟩ := info_parts info_file
  obtain ⟨a, c, _, _, h3, h4⟩ := reads_cut Tryz.underlying22 hi0 hz1 (by omega) h k n (by omega) (Nat.le_refl _)
  have e : n - k = p := by omega
  rw [e] at h3 h4
  refine ⟨a, c, h3 rfl, ?_⟩
  have h5 : (fcells m).take (n * 4) = fcells m := List.take_of_length_le (by rw [fcells_length, hn]; exact Nat.le_refl _)
  rw [h5, fcells_drop _ _ (by omega)] at h4
  exact h4
theorem can_add {l add : List PF} {rem : List Nat} {k : Nat} (hk : k < add.length) (h : add[k].n ∈ nums (keepF rem l ++ add.take k)) : ¬ Can l add rem := fun c => by
  have h2 := c.2.2.2.2.2
  have e : keepF rem l ++ add = (keepF rem l ++ add.take (k + 1)) ++ add.drop (k + 1) := by rw [List.append_assoc, List.take_append_drop]
  rw [e, nums_app, List.take_succ_eq_append_getElem hk, ← List.append_assoc, nums_app] at h2
  have h3 := (List.nodup_append.1 (List.nodup_append.1 h2).1).2.2
  exact h3 _ h _ (by simp [nums]) rfl
theorem ltF_tr {x y z : PF} (h1 : ltF x y) (h2 : ltF y z) : ltF x z := by unfold ltF at *; omega
theorem ltF_not {x y : PF} (h : ¬ ltF x y) (hn : x.n ≠ y.n) : ltF y x := by unfold ltF at *; omega
theorem ins_sorted {r : List PF} {f : PF} {q : Nat} (hp : r.Pairwise ltF) (h1 : ∀ s, (h : s < r.length) → s < q → ltF r[s] f) (h2 : ∀ h : q < r.length, ¬ ltF r[q] f) (hn : ∀ g ∈ r, g.n ≠ f.n) : (r.take q ++ ([f] ++ r.drop q)).Pairwise ltF := by
  have ht : ∀ x ∈ r.take q, ltF x f := fun x hx => by
    obtain ⟨s, hs, rfl⟩ := List.getElem_of_mem hx
    rw [List.length_take] at hs
    rw [List.getElem_take]
    exact h1 s (by omega) (by omega)
  have hd : ∀ x ∈ r.drop q, ltF f x := fun x hx => by
    obtain ⟨s, hs, rfl⟩ := List.getElem_of_mem hx
    rw [List.length_drop] at hs
    rw [List.getElem_drop]
    have hq : q < r.length := by omega
    have h0 : ltF f r[q] := ltF_not (h2 hq) (hn _ (List.getElem_mem hq))
    rcases Nat.eq_zero_or_pos s with e | e
    · subst e; exact h0
    · exact ltF_tr h0 (List.pairwise_iff_getElem.1 hp q (q + s) hq (by omega) (by omega))
  rw [List.pairwise_append]
  refine ⟨hp.sublist (List.take_sublist _ _), ?_, ?_⟩
  · rw [List.pairwise_append]
    refine ⟨List.pairwise_singleton _ _, hp.sublist (List.drop_sublist _ _), fun x hx y hy => ?_⟩
    rw [List.mem_singleton.1 hx]; exact hd y hy
  · intro x hx y hy
    rcases List.mem_append.1 hy with h | h
    · rw [List.mem_singleton.1 h]; exact ht x hx
    · exact ltF_tr (ht x hx) (hd y h)
theorem ins_perm {r t : List PF} {f : PF} {q : Nat} (h : r.Perm t) : (r.take q ++ ([f] ++ r.drop q)).Perm (t ++ [f]) := by
  have e : (r.take q ++ ([f] ++ r.drop q)).Perm ([f] ++ r) := by
    have := List.perm_append_comm_assoc (r.take q) [f] (r.drop q)
    rwa [List.take_append_drop] at this
  exact e.trans ((List.perm_append_comm).trans (h.append_right [f]))
theorem nodup_other {R : List PF} {i : Nat} (hi : i < R.length) (h : (nums R).Nodup) {r : List PF} (hr : r.Perm (R.take i)) : ∀ g ∈ r, g.n ≠ R[i].n := by
  intro g hg e
  have hm := hr.mem_iff.1 hg
  have e2 : nums R = nums (R.take (i + 1)) ++ nums (R.drop (i + 1)) := by rw [← nums_app, List.take_append_drop]
  rw [e2, List.take_succ_eq_append_getElem hi, nums_app] at h
  exact (List.nodup_append.1 (List.nodup_append.1 h).1).2.2 _ (nums_mem hm) _ (by simp [nums]) e
theorem still_allD {P : Program} {id : Nat} {Q : Exit → Act → World → Prop} {a : Act} {w wd : World} {l : List Oper} (hm : P.follows .mixedOrders = true) (hB : Region.lexB .any l.toArray = true) (hwd : wd = w.drew)
    (h : wpStill P l.toArray wd (fun a' => Q .normal a' wd) l a) : (Code.region id l.toArray true).wp P Q a w := by
  subst hwd
  exact wp_region_still_lit hm hB h
theorem still_skipD {P : Program} {ops : Array Oper} {w : World} {Q : Act → Prop} {a : Act} {o : Oper} {rest : List Oper} (hw : Region.wanted o (yielded ops a.tmps) = false) (h : wpStill P ops w Q rest (a.put o.dst undef)) : wpStill P ops w Q (o :: rest) a :=
  wpStill_step fun K hK => by rw [if_neg (by rw [hw]; decide)]; exact hK _ h
set_option maxRecDepth 100000 in
set_option maxHeartbeats 16000000 in
theorem refDo_any (w : World) (v vx : Value) (l : List PF) (x : PX) (hv : RdF w v l) (hx : RdX w vx x) (hl : l.length ≤ 1000) (ha : x.add.length ≤ 1000) (hr : x.rem.length ≤ 1000) :
    Calls Tryz.prog 12 #[v, vx] w (RetDo l x w) := by
  obtain ⟨va, vr, rfl, hva, hvr⟩ := hx
  obtain ⟨la, lc, hle, hl1, hl2, -⟩ := id hv
  obtain ⟨aa, ac, hae, ha1, ha2, -⟩ := id hva
  obtain ⟨ra, rc, hre, hr1, hr2, -⟩ := id hvr
  obtain ⟨ln, hln⟩ : ∃ n, n = l.length := ⟨_, rfl⟩
  obtain ⟨an, han⟩ : ∃ n, n = x.add.length := ⟨_, rfl⟩
  obtain ⟨rn, hrn⟩ : ∃ n, n = x.rem.length := ⟨_, rfl⟩
  rw [← hln] at hle hl1 hl
  rw [← han] at hae ha1 ha
  rw [← hrn] at hre hr1 hr
  subst hle
  subst hae
  subst hre
  have HLN := Lib.hid hln
  have HAN := Lib.hid han
  have HRN := Lib.hid hrn
  obtain ⟨W, hW⟩ : ∃ W, W = w.alloc (.cells #[.slice aa an ac, .slice ra rn rc, .int .u32 x.jo, .int .u32 x.nx, .int .u64 x.sq] 27) := ⟨_, rfl⟩
  obtain ⟨gx, hgx⟩ : ∃ g, g = w.heap.size := ⟨_, rfl⟩
  have hBlk : Blk W gx #[.slice aa an ac, .slice ra rn rc, .int .u32 x.jo, .int .u32 x.nx, .int .u64 x.sq] 27 := by rw [hW, hgx]; exact Blk.new _ _ _
  have hbW : Below w.heap.size w W := by rw [hW]; exact alloc_bel _ _
  have HC : Hid (∀ w', Below W.heap.size W w' → w'.cell? ⟨gx, 0, none⟩ = some (.slice aa an ac) ∧ w'.cell? ⟨gx, 1, none⟩ = some (.slice ra rn rc)) := Lib.hid fun w' hb => ⟨(hBlk.below hb).cellv 0 _ rfl, (hBlk.below hb).cellv 1 _ rfl⟩
  have HV : Hid (∀ w', Below W.heap.size W w' → RdF w' (.slice la ln lc) l ∧ RdF w' (.slice aa an ac) x.add ∧ RdU w' (.slice ra rn rc) x.rem) := Lib.hid fun w' hb => ⟨(hv.below hbW).below hb, (hva.below hbW).below hb, (hvr.below hbW).below hb⟩
  have HWB : Hid (∀ w', Below W.heap.size W w' → Below w.heap.size w w') := Lib.hid fun w' hb => hbW.trans (hb.mono hbW.size)
  obtain ⟨i0, hi, hz, hz1, hz2⟩ := info_parts info_file
  clear hv hva hvr hBlk hbW hln han hrn
  go_enter Tryz.func12, Tryz.ntmps12
  go_upto_region 1 with (fail)
  rw [← hW, ← hgx]
  have HSW : Hid (w.heap.size ≤ W.heap.size) := Lib.hid (by rw [hW]; simp)
  clear hW hgx
  go_upto_region 3 with (fail)
  try show Code.wp _ _ _ _ _
  go_loopw [6, 7] (fun lv iv wr => ∃ (k c : Nat) (a : Option Addr), k ≤ ln ∧ iv = .int .i64 k ∧ lv = .slice a k c ∧ Hid (Own wr W.heap.size 86 4 (.slice a k c) k (fcells (l.take k))) ∧ Hid ((l.take k).all mayF = true ∧ (nums (l.take k)).Nodup) ∧ Hid (Below W.heap.size W wr)) (fun _ iv _ => ln - (intOf iv).toNat)
  case atStart => exact ⟨0, 0, none, Nat.zero_le _, rfl, rfl, own_nil _ _ _ _, Lib.hid ⟨by simp, by simp [nums]⟩, Lib.hid (Below.refl _ _)⟩
  case round =>
    obtain ⟨k, c, a, hk, rfl, rfl, HO, HG, HB⟩ := hrel
    by_cases hlt : k < ln
    · have hkl : k < l.length := by rw [← HLN.out]; exact hlt
      have hk0 : (0 : Int) ≤ (k : Int) := by omega
      have hkn : (k : Int) < (ln : Int) := by omega
      have HCK : Hid (∀ w', Below W.heap.size W w' → ∃ b off, la = some ⟨b, off, none⟩ ∧ w'.cell? ⟨b, off + k * 4, none⟩ = some (.int .u32 l[k].n) ∧ w'.cell? ⟨b, off + k * 4 + 1, none⟩ = some (.int .i64 l[k].lv) ∧ w'.cell? ⟨b, off + k * 4 + 2, none⟩ = some (.string l[k].a) ∧ w'.cell? ⟨b, off + k * 4 + 3, none⟩ = some (.string l[k].b)) := Lib.hid fun w' hb => (HV.out w' hb).1.at k hkl
      obtain ⟨f, hf⟩ : ∃ f, f = l[k] := ⟨_, rfl⟩
      have HTK := Lib.hid (take_next hkl f hf)
      have HCT : Hid (∀ (h : f.n ∈ nums (l.take k)), ¬ Can l x.add x.rem) := Lib.hid fun h => can_take hkl (by rw [← hf]; exact h)
      have HMF : Hid (mayF f = false → ¬ Can l x.add x.rem) := Lib.hid fun h => can_1 (by
        refine Bool.eq_false_iff.2 fun h2 => ?_
        have := List.all_eq_true.1 h2 f (by rw [hf]; exact List.getElem_mem hkl)
        rw [h] at this; cases this)
      rw [← hf] at HCK
      clear hf
      obtain ⟨fn, lv, fa, fb⟩ := f
      simp only at HCK HCT
      obtain ⟨b, off, rfl, q0, q1, q2, q3⟩ := HCK.out wr HB.out
      have HM := Lib.hid (refMayF_any wr ⟨fn, lv, fa, fb⟩)
      go_wp2_with fail
      refine HM.out.mono ?_
      rintro e w2 ⟨rfl, b2⟩
      have HB2 := Lib.hid (HB.out.trans (b2.mono HB.out.size))
      have HO2 := Lib.hid (own_below HO.out b2)
      clear b2 HM q0 q1 q2 q3 HB HO
      obtain ⟨M, hM⟩ : ∃ m, m = mayF ⟨fn, lv, fa, fb⟩ := ⟨_, rfl⟩
      rw [← hM]
      cases M with
      | false =>
        have HN : Hid (¬ Can l x.add x.rem) := Lib.hid (HMF.out hM.symm)
        clear hM
        go_wp2_with fail
        go_ret2
        exact retDo_no HN.out (HWB.out _ HB2.out)
      | true =>
        have HMT := Lib.hid hM.symm
        clear hM
        obtain ⟨b', off', he, q0, q1, q2, q3⟩ := HCK.out w2 HB2.out
        simp only [Option.some.injEq, Addr.mk.injEq, and_true] at he
        obtain ⟨rfl, rfl⟩ := he
        have HFI := Lib.hid (refFind_any w2 (.slice a k c) (l.take k) fn (rdF_of (reads_of_own HO2.out)).2)
        go_wp2_with fail
        refine HFI.out.mono ?_
        rintro e w3 ⟨z, rfl, HZ, rfl⟩
        by_cases hz0 : z < 0
        · have hzd : decide (z ≥ 0) = false := by simp; omega
          have hzd2 : decide (0 ≤ z) = false := by simp; omega
          have HNI := Lib.hid (HZ.out.neg.1 hz0)
          have hal : Below w2.heap.size w2 (w2.alloc (.cells #[.int .u32 fn, .int .i64 lv, .string fa, .string fb] 86)) := alloc_bel _ _
          have HO3 := Lib.hid (own_below HO2.out hal)
          have HB3 := Lib.hid (HB2.out.trans (hal.mono HB2.out.size))
          have HRF := Lib.hid (reads_file w2 ⟨fn, lv, fa, fb⟩ 86)
          have HG2 : Hid ((l.take (k + 1)).all mayF = true ∧ (nums (l.take (k + 1))).Nodup) := Lib.hid (by
            rw [HTK.out]
            exact ⟨fine_app HG.out.1 (by simp [HMT.out]), nodup_snoc HG.out.2 HNI.out⟩)
          clear hal HFI HO2
          go_wp2_with (at_builtin; go_loud (refine wp_app_el2 rfl _ _ rfl Tryz.underlying22 hi hz hz1 hz2 rfl (by omega) W.heap.size k 1 (.slice a k c) _ (fcells (l.take k)) (fcells [⟨fn, lv, fa, fb⟩]) (fcells (l.take (k + 1))) (k + 1) rfl rfl HO3.out HRF.out (one_fcells _) rfl (by rw [HTK.out, fcells_app]) (by omega) (by omega) HB3.out.size ?_); intro ua uc w9 HX9 HG9)
          have HB9 := Lib.hid (HB3.out.trans HG9.out.below)
          go_roundw
          case rel => exact ⟨k + 1, uc, ua, by omega, by go_num, rfl, HX9, HG2, HB9⟩
          case measure => simp [intOf]; omega
        · have hzd : decide (z ≥ 0) = true := by simp; omega
          have hzd2 : decide (0 ≤ z) = true := by simp; omega
          have HN : Hid (¬ Can l x.add x.rem) := Lib.hid (HCT.out (by
            by_cases h : fn ∈ nums (l.take k)
            · exact h
            · exact absurd (HZ.out.neg.2 h) hz0))
          go_wp2_with fail
          go_ret2
          exact retDo_no HN.out (HWB.out _ HB2.out)
    · obtain rfl : k = ln := by omega
      have e1 : l.take k = l := List.take_of_length_le (by rw [← HLN.out]; exact Nat.le_refl _)
      rw [e1] at HO HG
      clear e1
      go_upto_region 9 with (fail)
      try show Code.wp _ _ _ _ _
      go_loopw [6, 8] (fun lv iv wr => ∃ (j n c : Nat) (a : Option Addr) (m : List PF), j ≤ rn ∧ iv = .int .i64 j ∧ lv = .slice a n c ∧ n ≤ 1000 ∧ Hid (n = m.length) ∧ Hid (Own wr W.heap.size 86 4 (.slice a n c) n (fcells m)) ∧ Hid (Rem l x.rem j m) ∧ Hid (Below W.heap.size W wr)) (fun _ iv _ => rn - (intOf iv).toNat)
      case atStart => exact ⟨0, k, c, a, l, Nat.zero_le _, rfl, rfl, by omega, HLN, HO, Lib.hid (Rem.start HG.out.2), HB⟩
      case round =>
        clear HO HB
        obtain ⟨j, n, c, a, m, hj, rfl, rfl, hn1, HN, HO, HRM, HB⟩ := hrel
        by_cases hlt2 : j < rn
        · have hjl : j < x.rem.length := by rw [← HRN.out]; exact hlt2
          have hj0 : (0 : Int) ≤ (j : Int) := by omega
          have hjn : (j : Int) < (rn : Int) := by omega
          obtain ⟨b, off, rfl, q0⟩ := (HV.out wr HB.out).2.2.at j hjl
          obtain ⟨c0, c1⟩ := HC.out wr HB.out
          obtain ⟨kk, hkk⟩ : ∃ f, f = x.rem[j] := ⟨_, rfl⟩
          rw [← hkk] at q0
          have HKK := Lib.hid hkk
          clear hkk
          have HFI := Lib.hid (refFind_any wr (.slice a n c) m kk (rdF_of (reads_of_own HO.out)).2)
          go_wp2_with fail
          refine HFI.out.mono ?_
          rintro e w3 ⟨z, rfl, HZ, rfl⟩
          clear HFI c0 c1 q0
          by_cases hz0 : z < 0
          · have hzd : decide (z < 0) = true := by simp; omega
            have HNC : Hid (¬ Can l x.add x.rem) := Lib.hid (HRM.out.lost hjl (by rw [← HKK.out]; exact HZ.out.neg.1 hz0) x.add)
            go_wp2_with fail
            go_ret2
            exact retDo_no HNC.out (HWB.out _ HB.out)
          · obtain ⟨q, rfl, hq, hqe⟩ : ∃ q : Nat, z = q ∧ ∃ h : q < m.length, m[q].n = kk := HZ.out.resolve_left (fun h => hz0 (by have := h.1; omega))
            have hzd : decide ((q : Int) < 0) = false := decide_eq_false (by omega)
            have hqn : q < n := by rw [HN.out]; exact hq
            have hER := erase_at hq HRM.out.2.1 hqe
            have HER : Hid (fcells (m.take q) ++ fcells (m.drop (q + 1)) = fcells (eraseN kk m)) := Lib.hid (by rw [← hER, fcells_app])
            have HEL : Hid (n - 1 = (eraseN kk m).length) := Lib.hid (by rw [← hER, List.length_append, List.length_take, List.length_drop, ← HN.out]; omega)
            have HRM2 : Hid (Rem l x.rem (j + 1) (eraseN kk m)) := Lib.hid (by have := HRM.out.step hjl (by rw [← HKK.out, ← hqe]; exact nums_mem (List.getElem_mem hq)); rwa [← HKK.out] at this)
            obtain ⟨xa, xc, hcut1, hrd1⟩ := cutF_to (reads_of_own HO.out) HN.out q (by omega)
            obtain ⟨q1, hq1⟩ : ∃ q1, q1 = q + 1 := ⟨_, rfl⟩
            obtain ⟨p, hp⟩ : ∃ p, p = n - q1 := ⟨_, rfl⟩
            obtain ⟨ya, yc, hcut2, hrd2⟩ := cutF_rest (reads_of_own HO.out) HN.out q1 p (by omega)
            have s1 := fun w' => hcut1 w' .i64
            have s2 := fun w' => hcut2 w' .i64
            have HR1 := Lib.hid hrd1
            rw [← hq1] at HER
            have HR2 := Lib.hid hrd2
            have hqe1 : (q : Int) + 1 = (q1 : Int) := by omega
            have hwq : IntKind.i64.wrap (q1 : Int) = (q1 : Int) := IntWalk.i64_in _ (by omega)
            have hpq : q + p = n - 1 := by omega
            clear hER hqe hq hcut1 hcut2 hrd1 hrd2 hp HZ hq1
            go_wp2_with (at_builtin; go_loud (first
              | (refine wp_app_el2 rfl _ _ rfl Tryz.underlying22 hi hz hz1 hz2 rfl (by omega) wr.heap.size 0 q (.slice none 0 0) _ [] (fcells (m.take q)) (fcells (m.take q)) q rfl rfl (.inl ⟨rfl, rfl, _, rfl⟩) HR1.out (one_fcells _) (by omega) (by simp) (by omega) (by omega) (Nat.le_refl _) ?_; intro ua uc w5 HX5 HG5; have HR3 := Lib.hid (Reads.later HR2.out HG5.out.below); have HS5 : Hid (wr.heap.size ≤ w5.heap.size) := Lib.hid HG5.out.below.size)
              | (refine wp_app_el2 rfl _ _ rfl Tryz.underlying22 hi hz hz1 hz2 rfl (by omega) wr.heap.size q p (.slice ua q uc) _ (fcells (m.take q)) (fcells (m.drop q1)) (fcells (eraseN kk m)) (n - 1) rfl rfl HX5.out HR3.out (one_fcells _) hpq HER.out (by omega) (by omega) HS5.out ?_; intro ub uc2 w6 HX6 HG6)))
            have HB6 := Lib.hid (HB.out.trans ((HG5.out.below.trans HG6.out.below).mono HB.out.size))
            have HO6 := Lib.hid (own_mono HX6.out HB.out.size)
            clear s1 s2 HR1 HR2 HR3 HG5 HX5 HX6 HG6
            go_roundw
            case rel => exact ⟨j + 1, n - 1, uc2, ub, eraseN kk m, by omega, by go_num, rfl, by omega, HEL, HO6, HRM2, HB6⟩
            case measure => simp [intOf]; omega
        · obtain rfl : j = rn := by omega
          have HRD : Hid (Rem l x.rem x.rem.length m) := Lib.hid (by have := HRM.out; rwa [HRN.out] at this)
          have HKP := Lib.hid HRD.out.done.2.2
          clear HRM
          obtain ⟨c0, c1⟩ := HC.out wr HB.out
          go_upto_region 18 with (fail)
          clear c1
          try show Code.wp _ _ _ _ _
          go_loopw [6, 11] (fun lv iv wr => ∃ (k n2 c : Nat) (a : Option Addr), k ≤ an ∧ iv = .int .i64 k ∧ lv = .slice a n2 c ∧ n2 = n + k ∧ Hid (Own wr W.heap.size 86 4 (.slice a n2 c) n2 (fcells (m ++ x.add.take k))) ∧ Hid ((x.add.take k).all mayF = true ∧ (nums (m ++ x.add.take k)).Nodup) ∧ Hid (Below W.heap.size W wr)) (fun _ iv _ => an - (intOf iv).toNat)
          case atStart => exact ⟨0, n, c, a, Nat.zero_le _, rfl, rfl, rfl, Lib.hid (by simpa using HO.out), Lib.hid ⟨by simp, by simpa using HRD.out.2.1⟩, HB⟩
          case round =>
            clear HO HB c0
            obtain ⟨k2, n2, c, a, hk2, rfl, rfl, hn2, HO, HG3, HB⟩ := hrel
            have HN2 := Lib.hid hn2
            have hn2l : n2 ≤ 2000 := by omega
            clear hn2
            obtain ⟨c0, -⟩ := HC.out wr HB.out
            by_cases hlt3 : k2 < an
            · have hkl : k2 < x.add.length := by rw [← HAN.out]; exact hlt3
              have hk0 : (0 : Int) ≤ (k2 : Int) := by omega
              have hkn : (k2 : Int) < (an : Int) := by omega
              have HCK : Hid (∀ w', Below W.heap.size W w' → ∃ b off, aa = some ⟨b, off, none⟩ ∧ w'.cell? ⟨b, off + k2 * 4, none⟩ = some (.int .u32 x.add[k2].n) ∧ w'.cell? ⟨b, off + k2 * 4 + 1, none⟩ = some (.int .i64 x.add[k2].lv) ∧ w'.cell? ⟨b, off + k2 * 4 + 2, none⟩ = some (.string x.add[k2].a) ∧ w'.cell? ⟨b, off + k2 * 4 + 3, none⟩ = some (.string x.add[k2].b)) := Lib.hid fun w' hb => (HV.out w' hb).2.1.at k2 hkl
              obtain ⟨f, hf⟩ : ∃ f, f = x.add[k2] := ⟨_, rfl⟩
              have HTK := Lib.hid (take_next hkl f hf)
              have HCT : Hid (∀ (h : f.n ∈ nums (m ++ x.add.take k2)), ¬ Can l x.add x.rem) := Lib.hid fun h => can_add hkl (by rw [← hf, ← HKP.out]; exact h)
              have HMF : Hid (mayF f = false → ¬ Can l x.add x.rem) := Lib.hid fun h => can_2 (by
                refine Bool.eq_false_iff.2 fun h2 => ?_
                have := List.all_eq_true.1 h2 f (by rw [hf]; exact List.getElem_mem hkl)
                rw [h] at this; cases this)
              rw [← hf] at HCK
              clear hf
              obtain ⟨fn, lv, fa, fb⟩ := f
              simp only at HCK HCT
              obtain ⟨b, off, rfl, q0, q1, q2, q3⟩ := HCK.out wr HB.out
              have HM := Lib.hid (refMayF_any wr ⟨fn, lv, fa, fb⟩)
              go_wp2_with fail
              refine HM.out.mono ?_
              rintro e w2 ⟨rfl, b2⟩
              have HB2 := Lib.hid (HB.out.trans (b2.mono HB.out.size))
              have HO2 := Lib.hid (own_below HO.out b2)
              clear b2 HM q0 q1 q2 q3 HB HO c0
              obtain ⟨M, hM⟩ : ∃ m, m = mayF ⟨fn, lv, fa, fb⟩ := ⟨_, rfl⟩
              rw [← hM]
              cases M with
              | false =>
                have HNC : Hid (¬ Can l x.add x.rem) := Lib.hid (HMF.out hM.symm)
                clear hM
                go_wp2_with fail
                go_ret2
                exact retDo_no HNC.out (HWB.out _ HB2.out)
              | true =>
                have HMT := Lib.hid hM.symm
                clear hM
                obtain ⟨b', off', he, q0, q1, q2, q3⟩ := HCK.out w2 HB2.out
                simp only [Option.some.injEq, Addr.mk.injEq, and_true] at he
                obtain ⟨rfl, rfl⟩ := he
                obtain ⟨c0, -⟩ := HC.out w2 HB2.out
                have HFI := Lib.hid (refFind_any w2 (.slice a n2 c) (m ++ x.add.take k2) fn (rdF_of (reads_of_own HO2.out)).2)
                go_wp2_with fail
                refine HFI.out.mono ?_
                rintro e w3 ⟨z, rfl, HZ, rfl⟩
                by_cases hz0 : z < 0
                · have hzd : decide (z ≥ 0) = false := by simp; omega
                  have hzd2 : decide (0 ≤ z) = false := by simp; omega
                  have HNI := Lib.hid (HZ.out.neg.1 hz0)
                  have hal : Below w2.heap.size w2 (w2.alloc (.cells #[.int .u32 fn, .int .i64 lv, .string fa, .string fb] 86)) := alloc_bel _ _
                  have HO3 := Lib.hid (own_below HO2.out hal)
                  have HB3 := Lib.hid (HB2.out.trans (hal.mono HB2.out.size))
                  have HRF := Lib.hid (reads_file w2 ⟨fn, lv, fa, fb⟩ 86)
                  have HG4 : Hid ((x.add.take (k2 + 1)).all mayF = true ∧ (nums (m ++ x.add.take (k2 + 1))).Nodup) := Lib.hid (by
                    rw [HTK.out]
                    refine ⟨fine_app HG3.out.1 (by simp [HMT.out]), ?_⟩
                    rw [← List.append_assoc]
                    exact nodup_snoc HG3.out.2 HNI.out)
                  have HTK2 : Hid (fcells (m ++ x.add.take k2) ++ fcells [⟨fn, lv, fa, fb⟩] = fcells (m ++ x.add.take (k2 + 1))) := Lib.hid (by rw [HTK.out, ← List.append_assoc, fcells_app (m ++ x.add.take k2)])
                  clear hal HFI HO2
                  go_wp2_with (at_builtin; go_loud (refine wp_app_el2 rfl _ _ rfl Tryz.underlying22 hi hz hz1 hz2 rfl (by omega) W.heap.size n2 1 (.slice a n2 c) _ (fcells (m ++ x.add.take k2)) (fcells [⟨fn, lv, fa, fb⟩]) (fcells (m ++ x.add.take (k2 + 1))) (n2 + 1) rfl rfl HO3.out HRF.out (one_fcells _) rfl HTK2.out (by omega) (by omega) HB3.out.size ?_); intro ua uc w9 HX9 HG9)
                  have HB9 := Lib.hid (HB3.out.trans HG9.out.below)
                  go_roundw
                  case rel => exact ⟨k2 + 1, n2 + 1, uc, ua, by omega, by go_num, rfl, by have := HN2.out; omega, HX9, HG4, HB9⟩
                  case measure => simp [intOf]; omega
                · have hzd : decide (z ≥ 0) = true := by simp; omega
                  have hzd2 : decide (0 ≤ z) = true := by simp; omega
                  have HNC : Hid (¬ Can l x.add x.rem) := Lib.hid (HCT.out (by
                    by_cases h : fn ∈ nums (m ++ x.add.take k2)
                    · exact h
                    · exact absurd (HZ.out.neg.2 h) hz0))
                  go_wp2_with fail
                  go_ret2
                  exact retDo_no HNC.out (HWB.out _ HB2.out)
            · obtain rfl : k2 = an := by omega
              have e1 : x.add.take k2 = x.add := List.take_of_length_le (by rw [← HAN.out]; exact Nat.le_refl _)
              rw [e1] at HO HG3
              clear e1
              obtain ⟨R, hR⟩ : ∃ R, R = m ++ x.add := ⟨_, rfl⟩
              have HRL : Hid (n2 = R.length) := Lib.hid (by rw [hR, List.length_append, ← HN.out, ← HAN.out]; exact HN2.out)
              have HCAN : Hid (Can l x.add x.rem) := Lib.hid ⟨HG.out.1, HG3.out.1, HG.out.2, HRD.out.done.1, HRD.out.done.2.1, by rw [← HKP.out]; exact HG3.out.2⟩
              have HRK : Hid (R = keepF x.rem l ++ x.add) := Lib.hid (by rw [hR, HKP.out])
              have HND : Hid ((nums R).Nodup) := Lib.hid (by rw [hR]; exact HG3.out.2)
              rw [← hR] at HO
              clear hR HG3 HG HRD HKP HN2 HN
              go_upto_region 25 with (fail)
              clear c0
              try show Code.wp _ _ _ _ _
              go_loopw [12, 13] (fun ov iv wr => ∃ (i p c2 : Nat) (a2 : Option Addr) (r : List PF), i ≤ n2 ∧ iv = .int .i64 i ∧ ov = .slice a2 p c2 ∧ p ≤ i ∧ Hid (p = r.length) ∧ Hid (Own wr W.heap.size 86 4 (.slice a2 p c2) p (fcells r)) ∧ Hid (r.Perm (R.take i) ∧ r.Pairwise ltF) ∧ Hid (Own wr W.heap.size 86 4 (.slice a n2 c) n2 (fcells R)) ∧ Hid (Below W.heap.size W wr)) (fun _ iv _ => n2 - (intOf iv).toNat)
              case atStart => exact ⟨0, 0, 0, none, [], Nat.zero_le _, rfl, rfl, Nat.le_refl _, rfl, own_nil _ _ _ _, Lib.hid ⟨by simp, List.Pairwise.nil⟩, HO, HB⟩
              case round =>
                clear HO HB
                obtain ⟨i, p, c2, a2, r, hi2, rfl, rfl, hpi, HPL, HOU, HPP, HO, HB⟩ := hrel
                obtain ⟨wo, hwo⟩ : ∃ z, z = wr := ⟨_, rfl⟩
                subst hwo
                by_cases hlt4 : i < n2
                · have hil : i < R.length := by rw [← HRL.out]; exact hlt4
                  have hi0 : (0 : Int) ≤ (i : Int) := by omega
                  have hin : (i : Int) < (n2 : Int) := by omega
                  have HCF : Hid (∀ w', Below wo.heap.size wo w' → ∃ b off, a = some ⟨b, off, none⟩ ∧ w'.cell? ⟨b, off + i * 4, none⟩ = some (.int .u32 R[i].n) ∧ w'.cell? ⟨b, off + i * 4 + 1, none⟩ = some (.int .i64 R[i].lv) ∧ w'.cell? ⟨b, off + i * 4 + 2, none⟩ = some (.string R[i].a) ∧ w'.cell? ⟨b, off + i * 4 + 3, none⟩ = some (.string R[i].b)) := Lib.hid fun w' hb => (rdF_of (reads_of_own (own_below HO.out hb))).2.at i hil
                  have HOT : Hid (∀ w', Below wo.heap.size wo w' → ∀ q, (hq : q < r.length) → ∃ b off, a2 = some ⟨b, off, none⟩ ∧ w'.cell? ⟨b, off + q * 4, none⟩ = some (.int .u32 r[q].n) ∧ w'.cell? ⟨b, off + q * 4 + 1, none⟩ = some (.int .i64 r[q].lv) ∧ w'.cell? ⟨b, off + q * 4 + 2, none⟩ = some (.string r[q].a) ∧ w'.cell? ⟨b, off + q * 4 + 3, none⟩ = some (.string r[q].b)) := Lib.hid fun w' hb q hq => (rdF_of (reads_of_own (own_below HOU.out hb))).2.at q hq
                  have HNO : Hid (∀ g ∈ r, g.n ≠ R[i].n) := Lib.hid (nodup_other hil HND.out HPP.out.1)
                  obtain ⟨f, hf⟩ : ∃ f, f = R[i] := ⟨_, rfl⟩
                  have HTK := Lib.hid (take_next hil f hf)
                  rw [← hf] at HCF HNO
                  clear hf hil
                  obtain ⟨fn, fl, fa, fb⟩ := f
                  simp only at HCF
                  obtain ⟨b, off, rfl, -⟩ := HCF.out wo (Below.refl _ _)
                  go_upto_block 8 with (fail)
                  go_cut [14] from 111 to 155 (fun s14 w' => ∃ (q : Nat) (z : World), z = w' ∧ s14 = .int .i64 q ∧ q ≤ p ∧ Hid (∀ s, (h : s < r.length) → s < q → ltF r[s] ⟨fn, fl, fa, fb⟩) ∧ Hid (∀ h : q < r.length, ¬ ltF r[q] ⟨fn, fl, fa, fb⟩) ∧ Hid (Below wo.heap.size wo z))
                  case rest =>
                    obtain ⟨q, z, rfl, rfl, hqp, HLT, HGE, HBZ⟩ := hcut
                    have HSO := Lib.hid (ins_sorted HPP.out.2 HLT.out HGE.out HNO.out)
                    have HPE := Lib.hid (ins_perm (f := ⟨fn, fl, fa, fb⟩) (q := q) HPP.out.1)
                    rw [← HTK.out] at HPE
                    have HOZ := Lib.hid (own_below HOU.out HBZ.out)
                    obtain ⟨xa, xc, hcut1, hrd1⟩ := cutF_to (reads_of_own HOZ.out) HPL.out q hqp
                    obtain ⟨pp, hpp⟩ : ∃ pp, pp = p - q := ⟨_, rfl⟩
                    obtain ⟨ya, yc, hcut2, hrd2⟩ := cutF_rest (reads_of_own HOZ.out) HPL.out q pp (by omega)
                    have s1 := fun w' => hcut1 w' .i64
                    have s2 := fun w' => hcut2 w' .i64
                    have HR1 := Lib.hid hrd1
                    have HR2 := Lib.hid hrd2
                    have hpq : q + 1 + pp = p + 1 := by omega
                    clear hcut1 hcut2 hrd1 hrd2 hpp HLT HGE HNO HOT
                    have HSB : Hid (∀ w', Below z.heap.size z w' → w'.cell? ⟨b, off + i * 4, none⟩ = some (.int .u32 fn) ∧ w'.cell? ⟨b, off + i * 4 + 1, none⟩ = some (.int .i64 fl) ∧ w'.cell? ⟨b, off + i * 4 + 2, none⟩ = some (.string fa) ∧ w'.cell? ⟨b, off + i * 4 + 3, none⟩ = some (.string fb) ∧ Below z.heap.size z w') := Lib.hid fun w' hb => by
                      obtain ⟨b', off', he, l0, l1, l2, l3⟩ := HCF.out w' (HBZ.out.trans (hb.mono HBZ.out.size))
                      simp only [Option.some.injEq, Addr.mk.injEq, and_true] at he
                      obtain ⟨rfl, rfl⟩ := he
                      exact ⟨l0, l1, l2, l3, hb⟩
                    go_upto_region 31 with (fail)
                    refine wp_region_held_drew (S := fun w' => w'.cell? ⟨b, off + i * 4, none⟩ = some (.int .u32 fn) ∧ w'.cell? ⟨b, off + i * 4 + 1, none⟩ = some (.int .i64 fl) ∧ w'.cell? ⟨b, off + i * 4 + 2, none⟩ = some (.string fa) ∧ w'.cell? ⟨b, off + i * 4 + 3, none⟩ = some (.string fb) ∧ Below z.heap.size z w') (by kernel_rfl) (HSB.out _ (Below.drew (Below.refl _ _))) (fun hHeld => ?_)
                    refine wpAnyH_take (i := 0) (v := ?vq1) (by simp only [List.getElem?_toArray]; rfl) (by kernel_rfl) (by kernel_rfl) (by kernel_rfl) (by exact fun _ _ _ h => h) (Or.inl ⟨by rfl, ?yq1⟩) (by assumption) ?rq1
                    case yq1 => (intro w hSw; (try dsimp only at hSw); go_simp; try with_reducible rfl)
                    try simp only [Act.put, List.setIfInBounds_toArray, List.set_cons_zero, List.set_cons_succ]
                    refine wpAnyH_take (i := 1) (v := ?vq2) (by simp only [List.getElem?_toArray]; rfl) (by kernel_rfl) (by kernel_rfl) (by kernel_rfl) (by exact fun _ _ _ h => h) (Or.inl ⟨by rfl, ?yq2⟩) (by assumption) ?rq2
                    case yq2 => (intro w hSw; (try dsimp only at hSw); go_simp; try with_reducible rfl)
                    try simp only [Act.put, List.setIfInBounds_toArray, List.set_cons_zero, List.set_cons_succ]
                    refine wpAnyH_take (i := 2) (v := ?vq3) (by simp only [List.getElem?_toArray]; rfl) (by kernel_rfl) (by kernel_rfl) (by kernel_rfl) (by exact fun _ _ _ h => h) (Or.inl ⟨by rfl, ?yq3⟩) (by assumption) ?rq3
                    case yq3 => (intro w hSw; (try dsimp only at hSw); go_simp; try with_reducible rfl)
                    try simp only [Act.put, List.setIfInBounds_toArray, List.set_cons_zero, List.set_cons_succ]
                    refine wpAnyH_take (i := 3) (v := ?vq4) (by simp only [List.getElem?_toArray]; rfl) (by kernel_rfl) (by kernel_rfl) (by kernel_rfl) (by exact fun _ _ _ h => h) (Or.inl ⟨by rfl, ?yq4⟩) (by assumption) ?rq4
                    case yq4 => (intro w hSw; (try dsimp only at hSw); go_simp; try with_reducible rfl)
                    try simp only [Act.put, List.setIfInBounds_toArray, List.set_cons_zero, List.set_cons_succ]
                    refine wpAnyH_take (i := 5) (v := ?vq5) (by simp only [List.getElem?_toArray]; rfl) (by kernel_rfl) (by kernel_rfl) (by kernel_rfl) (by exact fun _ _ _ h => h) (Or.inl ⟨by rfl, ?yq5⟩) (by assumption) ?rq5
                    case yq5 => (intro w hSw; (try dsimp only at hSw); go_simp; try with_reducible rfl)
                    try simp only [Act.put, List.setIfInBounds_toArray, List.set_cons_zero, List.set_cons_succ]
                    refine wpAnyH_take (i := 6) (v := ?vq6) (by simp only [List.getElem?_toArray]; rfl) (by kernel_rfl) (by kernel_rfl) (by kernel_rfl) (by exact fun _ _ _ h => h) (Or.inl ⟨by rfl, ?yq6⟩) (by assumption) ?rq6
                    case yq6 => (intro w hSw; (try dsimp only at hSw); go_simp; try with_reducible rfl)
                    try simp only [Act.put, List.setIfInBounds_toArray, List.set_cons_zero, List.set_cons_succ]
                    refine wpAnyH_take (i := 7) (v := ?vq7) (by simp only [List.getElem?_toArray]; rfl) (by kernel_rfl) (by kernel_rfl) (by kernel_rfl) (by exact fun _ _ _ h => h) (Or.inl ⟨by rfl, ?yq7⟩) (by assumption) ?rq7
                    case yq7 => (intro w hSw; (try dsimp only at hSw); go_simp; try with_reducible rfl)
                    try simp only [Act.put, List.setIfInBounds_toArray, List.set_cons_zero, List.set_cons_succ]
                    refine wpAnyH_take (i := 8) (v := ?vq8) (by simp only [List.getElem?_toArray]; rfl) (by kernel_rfl) (by kernel_rfl) (by kernel_rfl) (by exact fun _ _ _ h => h) (Or.inl ⟨by rfl, ?yq8⟩) (by assumption) ?rq8
                    case yq8 => (intro w hSw; (try dsimp only at hSw); go_simp; try with_reducible rfl)
                    try simp only [Act.put, List.setIfInBounds_toArray, List.set_cons_zero, List.set_cons_succ]
                    refine wpAnyH_ready (rs := [4, 9]) (by kernel_rfl) (by simp) ?_
                    refine AllReadyH.cons (by simp only [List.getElem?_toArray]; rfl) (fun K hK => ?way1) (AllReadyH.cons (by simp only [List.getElem?_toArray]; rfl) (fun K hK => ?way2) AllReadyH.nil)
                    case way1 =>
                      have HBA : Hid (Below z.heap.size z z.drew) := Lib.hid (Below.drew (Below.refl _ _))
                      refine step_app_el2 rfl _ _ rfl Tryz.underlying22 hi hz hz1 hz2 rfl (by omega) (World.heap z.drew).size 0 q (.slice none 0 0) _ [] (fcells (r.take q)) (fcells (r.take q)) q rfl rfl (.inl ⟨rfl, rfl, _, rfl⟩) (Reads.later HR1.out HBA.out) (one_fcells _) (by omega) (by simp) (by omega) (by omega) (Nat.le_refl _) ?_
                      intro ua uc w5 HX5 HG5
                      refine hK.out _ _ (HSB.out _ (HBA.out.trans (HG5.out.below.mono HBA.out.size))) (fun hHeld => ?_)
                      clear hK K
                      try simp only [Act.put, List.setIfInBounds_toArray, List.set_cons_zero, List.set_cons_succ]
                      have HB5 := Lib.hid (HBA.out.trans (HG5.out.below.mono HBA.out.size))
                      refine wpAnyH_ready (rs := [9]) (by kernel_rfl) (by simp) ?_
                      refine AllReadyH.cons (by simp only [List.getElem?_toArray]; rfl) (fun K hK => ?_) AllReadyH.nil
                      go_simp
                      have hal : Below w5.heap.size w5 (w5.alloc (.cells #[.int .u32 fn, .int .i64 fl, .string fa, .string fb] 86)) := alloc_bel _ _
                      refine hK.out _ _ (HSB.out _ (HB5.out.trans (hal.mono HB5.out.size))) (fun hHeld => ?_)
                      clear hK K
                      try simp only [Act.put, List.setIfInBounds_toArray, List.set_cons_zero, List.set_cons_succ]
                      have HB6 := Lib.hid (HB5.out.trans (hal.mono HB5.out.size))
                      obtain ⟨B1, hB1⟩ : ∃ B, B = (World.heap z.drew).size := ⟨_, rfl⟩
                      have HX6 := Lib.hid (own_below HX5.out hal)
                      rw [← hB1] at HX6
                      have HZ6 : Hid (B1 ≤ (w5.alloc (.cells #[.int .u32 fn, .int .i64 fl, .string fa, .string fb] 86)).heap.size) := Lib.hid (by rw [hB1]; exact Nat.le_trans HG5.out.below.size hal.size)
                      have HZB : Hid (z.heap.size ≤ B1) := Lib.hid (by rw [hB1]; exact HBA.out.size)
                      have HRF := Lib.hid (reads_file w5 ⟨fn, fl, fa, fb⟩ 86)
                      clear hB1 HX5 HG5 hal
                      refine wpAnyH_ready (rs := [10]) (by kernel_rfl) (by simp) ?_
                      refine AllReadyH.cons (by simp only [List.getElem?_toArray]; rfl) (fun K hK => ?_) AllReadyH.nil
                      refine step_app_el2 rfl _ _ rfl Tryz.underlying22 hi hz hz1 hz2 rfl (by omega) B1 q 1 (.slice ua q uc) _ (fcells (r.take q)) (fcells [⟨fn, fl, fa, fb⟩]) (fcells (r.take q ++ [⟨fn, fl, fa, fb⟩])) (q + 1) rfl rfl HX6.out HRF.out (one_fcells _) rfl (by rw [fcells_app]) (by omega) (by omega) HZ6.out ?_
                      intro ub uc2 w7 HX7 HG7
                      refine hK.out _ _ (HSB.out _ (HB6.out.trans (HG7.out.below.mono HZB.out))) (fun hHeld => ?_)
                      clear hK K
                      try simp only [Act.put, List.setIfInBounds_toArray, List.set_cons_zero, List.set_cons_succ]
                      refine wpAnyH_take (i := 11) (v := ?vq9) (by simp only [List.getElem?_toArray]; rfl) (by kernel_rfl) (by kernel_rfl) (by kernel_rfl) (by exact fun _ _ _ h => h) (Or.inl ⟨by rfl, ?yq9⟩) (by assumption) ?rq9
                      case yq9 => (intro w hSw; (try dsimp only at hSw); go_simp; try with_reducible rfl)
                      try simp only [Act.put, List.setIfInBounds_toArray, List.set_cons_zero, List.set_cons_succ]
                      refine wpAnyH_done (by kernel_rfl) ?_ _
                      have HB7 : Hid (Below z.heap.size z w7) := Lib.hid hHeld.2.2.2.2
                      have HR3 := Lib.hid (Reads.later HR2.out HB7.out)
                      have HZ7 : Hid (B1 ≤ w7.heap.size) := Lib.hid (Nat.le_trans HZ6.out HG7.out.below.size)
                      have HFE : Hid (fcells (r.take q ++ [⟨fn, fl, fa, fb⟩]) ++ fcells (r.drop q) = fcells (r.take q ++ ([⟨fn, fl, fa, fb⟩] ++ r.drop q))) := Lib.hid (by rw [← fcells_app, List.append_assoc])
                      clear hHeld HR1 HR2 HX6 HG7 HRF
                      go_wp2_with (at_builtin; go_loud (refine wp_app_el2 rfl _ _ rfl Tryz.underlying22 hi hz hz1 hz2 rfl (by omega) B1 (q + 1) pp (.slice ub (q + 1) uc2) _ (fcells (r.take q ++ [⟨fn, fl, fa, fb⟩])) (fcells (r.drop q)) (fcells (r.take q ++ ([⟨fn, fl, fa, fb⟩] ++ r.drop q))) (p + 1) rfl rfl HX7.out HR3.out (one_fcells _) hpq HFE.out (by omega) (by omega) HZ7.out ?_); intro uz uzc w9 HX9 HG9)
                      have HB9z := Lib.hid (HB7.out.trans (HG9.out.below.mono HZB.out))
                      have HB9o := Lib.hid (HBZ.out.trans (HB9z.out.mono HBZ.out.size))
                      have HB9 := Lib.hid (HB.out.trans (HB9o.out.mono HB.out.size))
                      have HO9 := Lib.hid (own_below HO.out HB9o.out)
                      have HU9 := Lib.hid (own_mono HX9.out (Nat.le_trans (Nat.le_trans HB.out.size HBZ.out.size) HZB.out))
                      have HPL2 : Hid (p + 1 = (r.take q ++ ([PF.mk fn fl fa fb] ++ r.drop q)).length) := Lib.hid (by have := HPL.out; simp only [List.length_append, List.length_take, List.length_drop, List.length_cons, List.length_nil]; omega)
                      clear s1 s2
                      go_roundw
                      case rel => exact ⟨i + 1, p + 1, uzc, uz, r.take q ++ ([PF.mk fn fl fa fb] ++ r.drop q), by omega, by go_num, rfl, by omega, HPL2, HU9, Lib.hid ⟨HPE.out, HSO.out⟩, HO9, HB9⟩
                      case measure => simp [intOf]; omega
                    case way2 =>
                      go_simp
                      have hal : Below z.heap.size z ((z.alloc (.cells #[.int .u32 fn, .int .i64 fl, .string fa, .string fb] 86)).drew) := Below.drew (alloc_bel _ _)
                      have HBA : Hid (Below z.heap.size z ((z.alloc (.cells #[.int .u32 fn, .int .i64 fl, .string fa, .string fb] 86)).drew)) := Lib.hid hal
                      have HRF0 : Hid (Reads ((z.alloc (.cells #[.int .u32 fn, .int .i64 fl, .string fa, .string fb] 86)).drew) 4 (.slice (some ⟨z.heap.size, 0, none⟩) 1 1) 1 (fcells [⟨fn, fl, fa, fb⟩])) := Lib.hid (Reads.later (reads_file z ⟨fn, fl, fa, fb⟩ 86) (Below.drew (Below.refl _ _)))
                      refine hK.out _ _ (HSB.out _ (HBA.out)) (fun hHeld => ?_)
                      clear hK K
                      try simp only [Act.put, List.setIfInBounds_toArray, List.set_cons_zero, List.set_cons_succ]
                      refine wpAnyH_ready (rs := [4]) (by kernel_rfl) (by simp) ?_
                      refine AllReadyH.cons (by simp only [List.getElem?_toArray]; rfl) (fun K hK => ?_) AllReadyH.nil
                      refine step_app_el2 rfl _ _ rfl Tryz.underlying22 hi hz hz1 hz2 rfl (by omega) (World.heap ((z.alloc (.cells #[.int .u32 fn, .int .i64 fl, .string fa, .string fb] 86)).drew)).size 0 q (.slice none 0 0) _ [] (fcells (r.take q)) (fcells (r.take q)) q rfl rfl (.inl ⟨rfl, rfl, _, rfl⟩) (Reads.later HR1.out HBA.out) (one_fcells _) (by omega) (by simp) (by omega) (by omega) (Nat.le_refl _) ?_
                      intro ua uc w5 HX5 HG5
                      refine hK.out _ _ (HSB.out _ (HBA.out.trans (HG5.out.below.mono HBA.out.size))) (fun hHeld => ?_)
                      clear hK K
                      try simp only [Act.put, List.setIfInBounds_toArray, List.set_cons_zero, List.set_cons_succ]
                      have HB6 := Lib.hid (HBA.out.trans (HG5.out.below.mono HBA.out.size))
                      obtain ⟨B1, hB1⟩ : ∃ B, B = (World.heap ((z.alloc (.cells #[.int .u32 fn, .int .i64 fl, .string fa, .string fb] 86)).drew)).size := ⟨_, rfl⟩
                      have HX6 := HX5
                      have HZ6 := Lib.hid HG5.out.below.size
                      have HRF := Lib.hid (Reads.later HRF0.out HG5.out.below)
                      have HZB : Hid (z.heap.size ≤ (World.heap ((z.alloc (.cells #[.int .u32 fn, .int .i64 fl, .string fa, .string fb] 86)).drew)).size) := Lib.hid HBA.out.size
                      rw [← hB1] at HX6 HZ6 HZB
                      clear hB1 HX5 HG5 hal
                      refine wpAnyH_ready (rs := [10]) (by kernel_rfl) (by simp) ?_
                      refine AllReadyH.cons (by simp only [List.getElem?_toArray]; rfl) (fun K hK => ?_) AllReadyH.nil
                      refine step_app_el2 rfl _ _ rfl Tryz.underlying22 hi hz hz1 hz2 rfl (by omega) B1 q 1 (.slice ua q uc) _ (fcells (r.take q)) (fcells [⟨fn, fl, fa, fb⟩]) (fcells (r.take q ++ [⟨fn, fl, fa, fb⟩])) (q + 1) rfl rfl HX6.out HRF.out (one_fcells _) rfl (by rw [fcells_app]) (by omega) (by omega) HZ6.out ?_
                      intro ub uc2 w7 HX7 HG7
                      refine hK.out _ _ (HSB.out _ (HB6.out.trans (HG7.out.below.mono HZB.out))) (fun hHeld => ?_)
                      clear hK K
                      try simp only [Act.put, List.setIfInBounds_toArray, List.set_cons_zero, List.set_cons_succ]
                      refine wpAnyH_take (i := 11) (v := ?vq10) (by simp only [List.getElem?_toArray]; rfl) (by kernel_rfl) (by kernel_rfl) (by kernel_rfl) (by exact fun _ _ _ h => h) (Or.inl ⟨by rfl, ?yq10⟩) (by assumption) ?rq10
                      case yq10 => (intro w hSw; (try dsimp only at hSw); go_simp; try with_reducible rfl)
                      try simp only [Act.put, List.setIfInBounds_toArray, List.set_cons_zero, List.set_cons_succ]
                      refine wpAnyH_done (by kernel_rfl) ?_ _
                      have HB7 : Hid (Below z.heap.size z w7) := Lib.hid hHeld.2.2.2.2
                      have HR3 := Lib.hid (Reads.later HR2.out HB7.out)
                      have HZ7 : Hid (B1 ≤ w7.heap.size) := Lib.hid (Nat.le_trans HZ6.out HG7.out.below.size)
                      have HFE : Hid (fcells (r.take q ++ [⟨fn, fl, fa, fb⟩]) ++ fcells (r.drop q) = fcells (r.take q ++ ([⟨fn, fl, fa, fb⟩] ++ r.drop q))) := Lib.hid (by rw [← fcells_app, List.append_assoc])
                      clear hHeld HR1 HR2 HX6 HG7 HRF
                      go_wp2_with (at_builtin; go_loud (refine wp_app_el2 rfl _ _ rfl Tryz.underlying22 hi hz hz1 hz2 rfl (by omega) B1 (q + 1) pp (.slice ub (q + 1) uc2) _ (fcells (r.take q ++ [⟨fn, fl, fa, fb⟩])) (fcells (r.drop q)) (fcells (r.take q ++ ([⟨fn, fl, fa, fb⟩] ++ r.drop q))) (p + 1) rfl rfl HX7.out HR3.out (one_fcells _) hpq HFE.out (by omega) (by omega) HZ7.out ?_); intro uz uzc w9 HX9 HG9)
                      have HB9z := Lib.hid (HB7.out.trans (HG9.out.below.mono HZB.out))
                      have HB9o := Lib.hid (HBZ.out.trans (HB9z.out.mono HBZ.out.size))
                      have HB9 := Lib.hid (HB.out.trans (HB9o.out.mono HB.out.size))
                      have HO9 := Lib.hid (own_below HO.out HB9o.out)
                      have HU9 := Lib.hid (own_mono HX9.out (Nat.le_trans (Nat.le_trans HB.out.size HBZ.out.size) HZB.out))
                      have HPL2 : Hid (p + 1 = (r.take q ++ ([PF.mk fn fl fa fb] ++ r.drop q)).length) := Lib.hid (by have := HPL.out; simp only [List.length_append, List.length_take, List.length_drop, List.length_cons, List.length_nil]; omega)
                      clear s1 s2
                      go_roundw
                      case rel => exact ⟨i + 1, p + 1, uzc, uz, r.take q ++ ([PF.mk fn fl fa fb] ++ r.drop q), by omega, by go_num, rfl, by omega, HPL2, HU9, Lib.hid ⟨HPE.out, HSO.out⟩, HO9, HB9⟩
                      case measure => simp [intOf]; omega
                  case first =>
                    go_upto_region 28 with (fail)
                    show Code.wp _ _ _ _ _
                    go_loopw [14] (fun kv wz => ∃ q : Nat, q ≤ p ∧ kv = .int .i64 q ∧ Hid (∀ s, (h : s < r.length) → s < q → ltF r[s] ⟨fn, fl, fa, fb⟩) ∧ Hid (Below wo.heap.size wo wz)) (fun kv _ => p - (intOf kv).toNat)
                    case atStart => exact ⟨0, Nat.zero_le _, rfl, Lib.hid (fun s _ h => by omega), Below.refl _ _⟩
                    case round =>
                      obtain ⟨q, hqp, rfl, HLT, HBZ⟩ := hrel
                      obtain ⟨wd, hwd⟩ : ∃ wd, wd = wr.drew := ⟨_, rfl⟩
                      have HBD : Hid (Below wo.heap.size wo wd) := Lib.hid (by rw [hwd]; exact Below.drew HBZ.out)
                      have HWD := Lib.hid hwd
                      clear hwd HBZ
                      have hq0 : (0 : Int) ≤ (q : Int) := by omega
                      by_cases hq : q < p
                      · have hql : q < r.length := by rw [← HPL.out]; exact hq
                        have hqi : (q : Int) < (p : Int) := by omega
                        have d0 : decide ((q : Int) < (p : Int)) = true := decide_eq_true hqi
                        have d0n : decide (q < p) = true := decide_eq_true hq
                        obtain ⟨b2, off2, rfl, o0, o1, -, -⟩ := HOT.out wd HBD.out q hql
                        obtain ⟨b', off', he, l0, l1, -, -⟩ := HCF.out wd HBD.out
                        simp only [Option.some.injEq, Addr.mk.injEq, and_true] at he
                        obtain ⟨rfl, rfl⟩ := he
                        obtain ⟨g, hg⟩ : ∃ g, g = r[q] := ⟨_, rfl⟩
                        rw [← hg] at o0 o1
                        have HGQ := Lib.hid hg
                        clear hg
                        obtain ⟨gn, gl, ga, gb⟩ := g
                        simp only at o0 o1
                        have HGO : Hid (ltF ⟨gn, gl, ga, gb⟩ ⟨fn, fl, fa, fb⟩ → ∀ s, (h : s < r.length) → s < q + 1 → ltF r[s] ⟨fn, fl, fa, fb⟩) := Lib.hid fun h s hs hsq => by
                          by_cases e : s = q
                          · subst e; rw [← HGQ.out]; exact h
                          · exact HLT.out s hs (by omega)
                        have HST : Hid (¬ ltF ⟨gn, gl, ga, gb⟩ ⟨fn, fl, fa, fb⟩ → ∀ h : q < r.length, ¬ ltF r[q] ⟨fn, fl, fa, fb⟩) := Lib.hid fun h hs => by rw [← HGQ.out]; exact h
                        by_cases h1 : gl < fl
                        · have d1 : decide (gl < fl) = true := decide_eq_true h1
                          have HL2 := Lib.hid (HGO.out (.inl h1))
                          go_upto_region 28 with (fail)
                          refine still_allD (wd := wd) ?hm1 ?hB1 ?hwd1 ?h1
                          case hm1 => kernel_rfl
                          case hB1 => kernel_rfl
                          case hwd1 => exact HWD.out
                          repeat (first | ((with_reducible refine still_skipD ?hw ?hrest); case hw => rfl; simp only [Act.put, List.setIfInBounds_toArray, List.set_cons_zero, List.set_cons_succ]) | ((with_reducible refine wpStill_step (fun K hK => ?_)); go_simp; refine hK _ ?_; clear hK K))
                          try refine wpStill_nil ?_
                          go_wp2_with fail
                          go_roundw
                          case rel => exact ⟨q + 1, by omega, by go_num, HL2, HBD⟩
                          case measure => simp [intOf]; omega
                        · have d1 : decide (gl < fl) = false := decide_eq_false h1
                          by_cases h2 : gl = fl
                          · subst h2
                            by_cases h3 : gn < fn
                            · have h3i : (gn : Int) < (fn : Int) := by omega
                              have d3 : decide ((gn : Int) < (fn : Int)) = true := decide_eq_true h3i
                              have d3n : decide (gn < fn) = true := decide_eq_true h3
                              have HL2 := Lib.hid (HGO.out (.inr ⟨rfl, h3⟩))
                              go_upto_region 28 with (fail)
                              refine still_allD (wd := wd) ?hm2 ?hB2 ?hwd2 ?h2
                              case hm2 => kernel_rfl
                              case hB2 => kernel_rfl
                              case hwd2 => exact HWD.out
                              repeat (first | ((with_reducible refine still_skipD ?hw ?hrest); case hw => rfl; simp only [Act.put, List.setIfInBounds_toArray, List.set_cons_zero, List.set_cons_succ]) | ((with_reducible refine wpStill_step (fun K hK => ?_)); go_simp; refine hK _ ?_; clear hK K))
                              try refine wpStill_nil ?_
                              go_wp2_with fail
                              go_roundw
                              case rel => exact ⟨q + 1, by omega, by go_num, HL2, HBD⟩
                              case measure => simp [intOf]; omega
                            · have h3i : ¬ (gn : Int) < (fn : Int) := by omega
                              have d3 : decide ((gn : Int) < (fn : Int)) = false := decide_eq_false h3i
                              have d3n : decide (gn < fn) = false := decide_eq_false h3
                              have HGE := Lib.hid (HST.out (fun h => by simp only [ltF] at h; omega))
                              go_upto_region 28 with (fail)
                              refine still_allD (wd := wd) ?hm3 ?hB3 ?hwd3 ?h3
                              case hm3 => kernel_rfl
                              case hB3 => kernel_rfl
                              case hwd3 => exact HWD.out
                              repeat (first | ((with_reducible refine still_skipD ?hw ?hrest); case hw => rfl; simp only [Act.put, List.setIfInBounds_toArray, List.set_cons_zero, List.set_cons_succ]) | ((with_reducible refine wpStill_step (fun K hK => ?_)); go_simp; refine hK _ ?_; clear hK K))
                              try refine wpStill_nil ?_
                              go_wp2_with fail
                              go_meet
                              case rel => exact ⟨q, _, rfl, rfl, hqp, HLT, HGE, HBD⟩
                          · have d2 : (gl == fl) = false := by simpa using h2
                            have HGE := Lib.hid (HST.out (fun h => by simp only [ltF] at h; omega))
                            go_upto_region 28 with (fail)
                            refine still_allD (wd := wd) ?hm4 ?hB4 ?hwd4 ?h4
                            case hm4 => kernel_rfl
                            case hB4 => kernel_rfl
                            case hwd4 => exact HWD.out
                            repeat (first | ((with_reducible refine still_skipD ?hw ?hrest); case hw => rfl; simp only [Act.put, List.setIfInBounds_toArray, List.set_cons_zero, List.set_cons_succ]) | ((with_reducible refine wpStill_step (fun K hK => ?_)); go_simp; refine hK _ ?_; clear hK K))
                            try refine wpStill_nil ?_
                            go_wp2_with fail
                            go_meet
                            case rel => exact ⟨q, _, rfl, rfl, hqp, HLT, HGE, HBD⟩
                      · obtain rfl : q = p := by omega
                        have hqi : ¬ (q : Int) < (q : Int) := by omega
                        have d0 : decide ((q : Int) < (q : Int)) = false := decide_eq_false hqi
                        have d0n : decide (q < q) = false := decide_eq_false (by omega)
                        have HGE : Hid (∀ h : q < r.length, ¬ ltF r[q] ⟨fn, fl, fa, fb⟩) := Lib.hid fun h => absurd h (by rw [← HPL.out]; omega)
                        go_upto_region 28 with (fail)
                        refine still_allD (wd := wd) ?hm5 ?hB5 ?hwd5 ?h5
                        case hm5 => kernel_rfl
                        case hB5 => kernel_rfl
                        case hwd5 => exact HWD.out
                        repeat (first | ((with_reducible refine still_skipD ?hw ?hrest); case hw => rfl; simp only [Act.put, List.setIfInBounds_toArray, List.set_cons_zero, List.set_cons_succ]) | ((with_reducible refine wpStill_step (fun K hK => ?_)); go_simp; refine hK _ ?_; clear hK K))
                        try refine wpStill_nil ?_
                        go_wp2_with fail
                        go_meet
                        case rel => exact ⟨q, _, rfl, rfl, hqp, HLT, HGE, HBD⟩
                · obtain rfl : i = n2 := by omega
                  have e1 : R.take i = R := List.take_of_length_le (by rw [← HRL.out]; exact Nat.le_refl _)
                  rw [e1] at HPP
                  have HD : Hid (DoR l x.add x.rem r 0) := Lib.hid (.inl ⟨rfl, HCAN.out, by rw [← HRK.out]; exact HPP.out.1, HPP.out.2⟩)
                  clear e1
                  go_wp2_with fail
                  go_ret2
                  refine ⟨r, 0, a2, c2, by rw [← HPL.out]; rfl, HD, ?_, HWB.out _ HB.out⟩
                  rw [← HPL.out]
                  exact own_mono HOU.out HSW.out
end Go.Proofs.YtimfcinkjjaigaaGreatDoor

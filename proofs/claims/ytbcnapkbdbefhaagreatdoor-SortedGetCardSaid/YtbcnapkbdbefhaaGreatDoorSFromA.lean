/- Walk of sorted.All. The condition: bytes of a bounded length. | Walks of slices.BinarySearchFunc of entries, of sorted.from, Get and From. The condition: bytes of a bounded length. -/
import Derived.Test.YtbcnapkbdbefhaaGreatDoorSPutA
import Derived.Test.YtbcnapkbdbefhaaGreatDoorSWalk
namespace Go.Proofs.YtbcnapkbdbefhaaGreatDoor
open Go.RowKit
attribute [local go_sem] Oper.semAt_some

/-- what All answers of bytes -/
def AllIs (b : List UInt8) (X : List Ent) (er : Nat) : Prop := (er = 0 ∧ IsS b X) ∨ (er = 4 ∧ X = [] ∧ ∀ E, ¬ IsS b E)
theorem allIs_ex (b : List UInt8) : ∃ X er, AllIs b X er := by
  by_cases h : ∃ E, IsS b E
  · obtain ⟨E, h⟩ := h
    exact ⟨E, 0, .inl ⟨rfl, h⟩⟩
  · exact ⟨[], 4, .inr ⟨rfl, rfl, fun E hE => h ⟨E, hE⟩⟩⟩
theorem allIs_put {E : List Ent} (hs : ∀ x ∈ E, x.seq < 18446744073709551616) (h : errS E = 0) : AllIs (outS E) E 0 := .inl ⟨rfl, isS_put hs h⟩
theorem AllIs.of {b : List UInt8} {X E : List Ent} {er : Nat} (h : AllIs b X er) (hE : IsS b E) : X = E ∧ er = 0 := by
  rcases h with ⟨h1, h2⟩ | ⟨_, _, h3⟩
  · exact ⟨isS_one h2 hE, h1⟩
  · exact absurd hE (h3 E)
theorem AllIs.no {b : List UInt8} {X : List Ent} {er : Nat} (h : AllIs b X er) (hE : ∀ E, ¬ IsS b E) : X = [] ∧ er = 4 := by
  rcases h with ⟨_, h2⟩ | ⟨h1, h2, _⟩
  · exact absurd h2 (hE X)
  · exact ⟨h2, h1⟩
def RetAE (X : List Ent) (er : Nat) (w : World) (e : Ending) (w' : World) : Prop :=
  ∃ a n c, e = .returned (.tuple #[.slice a n c, .int .i64 er]) ∧ Hid (n = X.length) ∧ Hid (Own w' w.heap.size 34 4 (.slice a n c) n (pcells (X.map toPE))) ∧ Below w.heap.size w w'
set_option maxRecDepth 100000 in
theorem res_all {tmps : Array Value} {w : World} {c : Nat} {v u : Value} (hp : tmps[2]?.getD undef = .pointer (some ⟨c, 0, none⟩)) (hu : tmps[3]?.getD undef = u) (hX : Blk w c #[v] 29) :
    (results Tryz.f6 tmps).run Tryz.prog w = .ok (.tuple #[v, u]) w := by
  have c0 := hX.cellv 0 v rfl
  simp only [results, Tryz.results6]
  simp [go_sem, hp, hu, c0]
theorem fileS_no {b : List UInt8} (h : b.length < 12) (E : List Ent) (hE : IsS b E) : False := by
  have := fileS_len E
  rw [hE.2.2.2] at this
  omega
theorem isFile_of {b : List UInt8} {E : List Ent} (hE : IsS b E) : IsFile b (min (fget (b.drop (b.length - 4))).1 4096) E := by
  have h4 := fileS_last E
  rw [hE.2.2.2] at h4
  have hl := hE.2.2.1
  have h5 : (fget (b.drop (b.length - 4))).1 = E.length := by
    rw [h4]
    unfold fget
    rw [if_neg (by rw [four_len]; omega)]
    show fval ((four E.length).take 4) = _
    rw [List.take_of_length_le (by rw [four_len]; omega)]
    exact fval_four' _ (by omega)
  exact ⟨hE.1, hE.2.1, by rw [h5]; omega, hE.2.2.2⟩
/-- what stands between two rounds -/
def AllI (gL : Nat) (w : World) (pre : List (Value × List PE)) (W : World) : Prop :=
  ∃ la ln lc, Own W (gL + 5) 34 4 (.slice la ln lc) ln (pcells (catP pre)) ∧ Blk W gL #[.slice la ln lc] 29 ∧ Below w.heap.size w W ∧ gL + 5 ≤ W.heap.size
theorem AllI.bel {gL : Nat} {w : World} {pre : List (Value × List PE)} {W : World} (h : AllI gL w pre W) : Below w.heap.size w W := let ⟨_, _, _, _, _, h, _⟩ := h; h
theorem own_keptX {X : Nat → Prop} {w w' : World} {base : Nat} {e : TypeId} {sz : Nat} {v : Value} {n : Nat} {xs : List Value} (ho : Own w base e sz v n xs) (hX : ∀ k, base ≤ k → X k) (hk : KeptX X w w') : Own w' base e sz v n xs := by
  rcases ho with ho | ⟨h1, g, cap, cur, fr, h2, h3, h4, h5⟩
  · exact .inl ho
  · exact .inr ⟨h1, g, cap, cur, fr, h2, h3, by rw [hk.block g (Array.getElem?_eq_some_iff.1 h4).1 (hX g h3)]; exact h4, h5⟩
theorem AllI.kept {X : Nat → Prop} {gL : Nat} {w : World} {pre : List (Value × List PE)} {A B : World} (h : AllI gL w pre A) (hX : ∀ k, k = gL ∨ gL + 5 ≤ k → X k) (hX2 : ∀ k, k < w.heap.size → X k) (hk : KeptX X A B) : AllI gL w pre B := by
  obtain ⟨la, ln, lc, hO, hL, hB, hZ⟩ := h
  exact ⟨la, ln, lc, own_keptX hO (fun k hk => hX k (.inr hk)) hk, hk.blk (hX _ (.inl rfl)) hL, hB.trans (hk.below hX2 hB.size), Nat.le_trans hZ hk.size⟩
set_option maxRecDepth 100000 in
set_option maxHeartbeats 4000000 in
theorem sortedAll_any (w : World) (v : Value) (b : List UInt8) (X : List Ent) (er : Nat) (hv : Rd w v b) (hb : b.length ≤ 268435456) (hX : AllIs b X er) : Calls Tryz.prog 6 #[v] w (RetAE X er w) := by
  have HV := Lib.hid hv
  have HX := Lib.hid hX
  obtain ⟨va, vn, vc, rfl, hvn⟩ := rd_len hv
  have HVN := Lib.hid hvn
  rw [← hvn] at hb
  clear hv hX hvn
  obtain ⟨gL, hgL⟩ : ∃ g, g = w.heap.size := ⟨_, rfl⟩
  obtain ⟨w1, hw1⟩ : ∃ z, z = w.alloc (.cells #[.slice none 0 0] 29) := ⟨_, rfl⟩
  have HL1 : Hid (Blk w1 gL #[.slice none 0 0] 29) := Lib.hid (by rw [hw1]; exact Blk.new_at _ _ _ _ hgL)
  have HB1 : Hid (Below w.heap.size w w1) := Lib.hid (by rw [hw1]; exact (Below.refl _ _).alloc (Nat.le_refl _) _)
  have hs1 : w1.heap.size = gL + 1 := by rw [hw1, hgL]; simp
  have HGL := Lib.hid hgL
  have HW1 := Lib.hid hw1
  clear hw1 hgL
  refine calls_marks 9 Tryz.func6 rfl ?_
  simp only [Tryz.ntmps6, List.size_toArray, List.length_cons, List.length_nil, Nat.reduceAdd, Nat.reduceSub, Array.replicate_succ, Array.replicate_zero, List.push_toArray, List.append_toArray, List.nil_append, List.cons_append]
  go_upto_region 1 with (fail)
  rw [← HGL.out, ← HW1.out]
  have l0 : w1.cell? ⟨gL, 0, none⟩ = some (.slice none 0 0) := HL1.out.cellv 0 _ rfl
  have lf := HL1.out.free 0
  have HNIL : ∀ w', Blk w' gL #[.slice none 0 0] 29 → Below w.heap.size w w' → (∀ E, ¬ IsS b E) → Hid (RetAE X er w (.returned (.tuple #[.slice none 0 0, .int .i64 (4 : Nat)])) w') := fun w' hB hb hno => by
    obtain ⟨h1, h2⟩ := HX.out.no hno
    exact ⟨none, 0, 0, by rw [h2], by rw [h1]; rfl, by rw [h1]; exact own_none _ _ _ _, hb⟩
  have HNIL := Lib.hid HNIL
  by_cases h12 : vn < 12
  · go_wp2_with fail
    have hF := HNIL.out (w1.setCell ⟨gL, 0, none⟩ (.slice none 0 0)) (HL1.out.set 0 _) (HB1.out.setCell (p := ⟨gL, 0, none⟩) (by rw [HGL.out]; exact Nat.le_refl _) _) (fun E hE => fileS_no (by have := HVN.out; omega) E hE)
    refine retM_none rfl (res_all rfl rfl (HL1.out.set 0 (.slice none 0 0))) ?_
    exact hF.out
  obtain ⟨q, hq⟩ : ∃ q, q = vn - 4 := ⟨_, rfl⟩
  have hqi : (vn : Int) - 4 = (q : Int) := by omega
  have hwq : IntKind.i64.wrap (q : Int) = (q : Int) := IntWalk.i64_in _ (by omega)
  obtain ⟨ca, cc, hcut, hcr⟩ := cut_all HV.out q 4 (by have := HVN.out; omega)
  have hcut2 := fun w' => hcut w' .i64
  have HG4 : Hid (∀ w', Below w.heap.size w w' → Calls Tryz.prog 23 #[.slice ca 4 cc] w' (RetFour (b.drop q) w')) := fun w' hb => intsGetFour_any _ _ w' (hcr w' (HV.out.below hb))
  obtain ⟨mm, hmm⟩ : ∃ z, z = (fget (b.drop q)).1 := ⟨_, rfl⟩
  have hm32 : mm < 4294967296 := by
    rw [hmm]
    unfold fget
    split
    · decide
    · have h5 := fval_lt ((b.drop q).take 4)
      have h6 : 256 ^ ((b.drop q).take 4).length ≤ 256 ^ 4 := Nat.pow_le_pow_right (by omega) (by simp; omega)
      show fval ((b.drop q).take 4) < _
      omega
  have HRF : Hid (∀ w' e w'', RetFour (b.drop q) w' e w'' → ∃ z : Nat, e = .returned (.tuple #[.int .u32 mm, .int .i64 z]) ∧ w' = w'') := fun w' e w'' h => ⟨(fget (b.drop q)).2, by rw [hmm]; exact h.1, h.2⟩
  obtain ⟨m, hm⟩ : ∃ z, z = min mm 4096 := ⟨_, rfl⟩
  have hm4 : m ≤ 4096 := by omega
  have hmin : (if (4096 : Int) < (mm : Int) then (4096 : Int) else (mm : Int)) = (m : Int) := by split <;> omega
  have hwm : IntKind.i64.wrap (mm : Int) = (mm : Int) := IntWalk.i64_in _ (by omega)
  have HMF : Hid (∀ E, IsS b E → IsFile b m E) := fun E hE => by
    have := isFile_of hE
    rw [← HVN.out, ← hq, ← hmm, ← hm] at this
    exact this
  clear hq hcut hcr hmm hm
  go_upto_region 4 with ((go_at_call 23; refine (HG4.out _ HB1.out).mono ?_; rintro e wx hx; obtain ⟨zz, rfl, rfl⟩ := HRF.out _ _ _ hx; clear hx))
  clear hcut2 HG4 HRF hqi hwq
  go_wp2_with (go_at_call 24; refine (read_any _ _ m rfl).mono ?_; rintro e wx ⟨rfl, rfl⟩)
  obtain ⟨w4, hw4⟩ : ∃ z, z = (w1.alloc (Obj.cells #[Value.slice va vn vc] 22)).alloc (Obj.cells #[Value.int IntKind.i64 ↑m] 3) := ⟨_, rfl⟩
  have hsz4 : w4.heap.size = gL + 3 := by rw [hw4]; simp [hs1]
  have hb4 : Below w1.heap.size w1 w4 := by rw [hw4]; exact ((Below.refl _ _).alloc (Nat.le_refl _) _).alloc (by simp) _
  have HS4 : Hid (Blk w4 (gL + 1) #[Value.slice va vn vc] 22) := Lib.hid (by rw [hw4]; exact (Blk.new_at _ _ _ _ hs1.symm).alloc _)
  have HN4 : Hid (Blk w4 (gL + 2) #[Value.int IntKind.i64 ↑m] 3) := Lib.hid (by rw [hw4]; exact Blk.new_at _ _ _ _ (by simp [hs1]))
  have HL4 := Lib.hid (HL1.out.below hb4)
  have HB4 := Lib.hid (HB1.out.trans (hb4.mono HB1.out.size))
  have hgw : w.heap.size ≤ gL := Nat.le_of_eq HGL.out.symm
  obtain ⟨i0, hi, hz, hz1, hz2⟩ := info_parts info_ent
  rw [← hw4]
  clear hw4 hb4 HL1 HB1 hs1 HW1 hmin hwm l0 lf
  refine wpIn_wide (n := 9).1 ?_
  refine wp_range (α := Value × List PE) 9 (gf := 89) (lb := #[.pointer (some ⟨gL + 2, 0, none⟩), .pointer (some ⟨gL + 1, 0, none⟩)]) rfl (enters_of Tryz.func89 (by kernel_rfl) rfl)
    (fun x => #[x.1]) (fun _ => rfl) gL (by omega) (fun pre W => AllI gL w pre W) ?h0
    (fun s W q o hI ho hq => hI.kept (X := fun k => k ≠ q) (fun k hk => by omega) (fun k hk => by omega) (KeptX.put W q (fun h => h rfl) o)) (ReadOk) (fun s x W q o hI ho hq => ?hOo)
    (fun A B => KeptX (fun k => k ≠ gL + 1 ∧ k ≠ gL + 2) A B) (fun s A B hI hz => hI.kept (fun k hk => by omega) (fun k hk => by omega) hz) (fun A B k hz hq hk => hz.block k hk (by omega)) (ReadAll b m) ?hit ?a1 ?assign ?body ?done
  case assign =>
    intro q x W K hK
    gi_wp2
    exact hK
  case h0 =>
    intro o o'
    have hb : Below w4.heap.size w4 ((w4.alloc o).alloc o') := ((Below.refl _ w4).alloc (Nat.le_refl _) _).alloc (by simp) _
    exact ⟨none, 0, 0, own_none _ _ _ _, HL4.out.below hb, HB4.out.trans (hb.mono HB4.out.size), by simp [hsz4]⟩
  case hOo => exact ⟨rdE_cells hI.1 (let ⟨o', h1, h2⟩ := ho; put_cells h1 h2), hI.2⟩
  case hit =>
    intro q J W1 hJI hJZ hY hb hJ
    exact read1_any (9 - 1) q w4.heap.size (gL + 1) (gL + 2) gL b (.slice va vn vc) m J ⟨by omega, by omega, by omega, by omega, by omega⟩ (by have := HVN.out; omega) hm4 (fun s A h => HV.out.below (hJI s A h).bel) hJZ hY W1 va vc (by rw [HVN.out]) (HS4.out.below hb) (HN4.out.below hb) hJ
  case body =>
    rintro q pre x W hWs hI hOk
    obtain ⟨xv, xl⟩ := x
    obtain ⟨hx1, hx2, hx3, hx4⟩ := hOk
    simp only at hx1 hx2 hx3
    obtain ⟨la, ln, lc, hO, hL, hB, hZ⟩ := hI
    have hln : ln ≤ 4096 := by
      have := reads_of_own hO
      obtain ⟨_, _, _, h, _⟩ := this
      rw [pcells_length] at h
      omega
    have HXR := Lib.hid (rdE_reads hx1)
    obtain ⟨xa, xc, hxv, g1, g2, -⟩ := hx1
    obtain ⟨xn, hxn⟩ : ∃ z, z = xl.length := ⟨_, rfl⟩
    rw [← hxn] at hxv HXR hx3
    subst hxv
    have HO := Lib.hid hO
    have HL := Lib.hid hL
    have HB := Lib.hid hB
    have l0 : W.cell? ⟨gL, 0, none⟩ = some (.slice la ln lc) := hL.cellv 0 _ rfl
    clear hO hL hB g1 g2 hxn hx2 hx4
    dsimp only
    gi_upto_region 6 with (fail)
    refine region_round (by kernel_rfl) (by rintro ⟨_, _, h⟩; exact h) ?_
    go_wp2_with (at_builtin; go_loud (refine wp_app_el2 rfl _ _ rfl Tryz.underlying29 hi hz hz1 hz2 rfl (by omega) (gL + 5) ln xn (.slice la ln lc) (.slice xa xn xc) (pcells (catP pre)) (pcells xl) (pcells (catP (pre ++ [(.slice xa xn xc, xl)]))) (ln + xn) rfl rfl HO.out HXR.out (one_pcells xl) rfl (by rw [catP_snoc, pcells_app]) (by omega) (by omega) hZ ?_); intro ua uc w5 HO5 HG5; have hf5 := blk_under HL.out (by omega : gL < gL + 5) HG5.out.below; have c5 := hf5.cellv 0 (.slice la ln lc) rfl; have f5 := hf5.free 0; clear hf5)
    have hO := Only.set w5 gL 0 (.slice ua (ln + xn) uc)
    have hb5 : Below w.heap.size W w5 := HG5.out.below.mono (by omega)
    have hk5 : KeptX (fun k => k < gL + 5) W w5 := ⟨HG5.out.below.os, HG5.out.below.tape, HG5.out.below.output, HG5.out.below.size, fun k _ hk => HG5.out.below.block k hk⟩
    show _ ∧ _
    refine ⟨⟨ua, ln + xn, uc, own_other HO5.out hO (by omega), (blk_under HL.out (by omega : gL < gL + 5) HG5.out.below).set 0 _, (HB.out.trans hb5).setCell (p := ⟨gL, 0, none⟩) hgw _, Nat.le_trans (Nat.le_trans hZ hk5.size) hO.size⟩, ?_⟩
    exact (hk5.mono fun k h => by omega).trans (KeptX.set _ _ (fun h => h.2 rfl) _)
  case done =>
    intro xs W hS hI hD
    rw [hsz4] at hD
    have HSZ := Lib.hid hsz4
    obtain ⟨hS1, hS2, hS3⟩ := hS
    obtain ⟨la, ln, lc, hO, hL, hB, hZ⟩ := hI
    obtain ⟨L, hLx⟩ : ∃ z, z = catP xs := ⟨_, rfl⟩
    rw [← hLx] at hS1 hS2 hS3 hO
    have hln : ln = L.length := (rdE_of (reads_of_own hO)).1
    have hr := (rdE_of (reads_of_own hO)).2
    have l0 : W.cell? ⟨gL, 0, none⟩ = some (.slice la ln lc) := hL.cellv 0 _ rfl
    have HP := Lib.hid (sortedPut_any W _ L hr hS1 (by omega))
    have HO := Lib.hid hO
    have HL := Lib.hid hL
    have HB := Lib.hid hB
    have HD := Lib.hid hD
    have HS1 := Lib.hid hS1
    have HS3 := Lib.hid hS3
    have HLN := Lib.hid hln
    have hsq : ∀ x ∈ entsOf L, x.seq < 18446744073709551616 := fun x hx => by
      obtain ⟨y, hy, rfl⟩ := List.mem_map.1 hx
      exact HS1.out y hy
    have HSQ := Lib.hid hsq
    have hWs : gL + 5 ≤ W.heap.size := hZ
    clear hS1 hS2 hS3 hO hL hB hD hr hsz4 HS4 HN4 HL4 HB4 hln hLx hsq
    dsimp only
    go_upto_region 8 with (go_at_call 19; refine HP.out.mono ?_; rintro e w5 ⟨ra, rn, rc, rfl, HRN, HRO, bel5⟩)
    have HB5 := Lib.hid (HB.out.trans (bel5.mono HB.out.size))
    have HL5 := Lib.hid (HL.out.below bel5)
    have HO5 := Lib.hid (own_below HO.out bel5)
    have HD5 : Hid (w5.heap[gL + 3]? = some (.deferred (some []))) := Lib.hid ((bel5.block _ (by omega)).trans HD.out)
    have l5 : w5.cell? ⟨gL, 0, none⟩ = some (.slice la ln lc) := HL5.out.cellv 0 _ rfl
    have f5 := HL5.out.free 0
    have HPUTX : Hid (∀ v, KeptX (fun k => k ≠ gL + 3 ∧ k ≠ gL) w5 ((w5.setCell ⟨gL, 0, none⟩ v).putObj (gL + 3) (.deferred none))) := fun v =>
      (KeptX.set _ _ (fun h => h.2 rfl) _).trans (KeptX.put _ _ (fun h => h.1 rfl) _)
    have HEND : Hid (∀ v, v.oneCell' = true → Blk ((w5.setCell ⟨gL, 0, none⟩ v).putObj (gL + 3) (.deferred none)) gL #[v] 29 ∧ Below w.heap.size w ((w5.setCell ⟨gL, 0, none⟩ v).putObj (gL + 3) (.deferred none)) ∧ (w5.setCell ⟨gL, 0, none⟩ v).heap[gL + 3]? = some (.deferred (some []))) := fun v _ =>
      ⟨(KeptX.put (X := fun k => k ≠ gL + 3) _ _ (fun h => h rfl) _).blk (by omega) (HL5.out.set 0 v), HB5.out.trans ((HPUTX.out v).below (fun k hk => by omega) HB5.out.size),
        ((KeptX.set (X := fun k => k ≠ gL) w5 ⟨gL, 0, none⟩ (fun h => h rfl) v).block _ (Array.getElem?_eq_some_iff.1 HD5.out).1 (by omega)).trans HD5.out⟩
    clear bel5 l0 HP HO HL HB HD
    obtain ⟨ee, hee⟩ : ∃ z, z = errS (entsOf L) := ⟨_, rfl⟩
    rw [← hee]
    have HEE := Lib.hid hee
    clear hee
    by_cases he : ee = 0
    · subst he
      obtain ⟨dd, hdd⟩ : ∃ z, z = decide (outS (entsOf L) = b) := ⟨_, rfl⟩
      have hBE := bytesEqual_any w5 (.slice ra rn rc) (.slice va vn vc) (outS (entsOf L)) b (rd_of_own HRO.out).2 (HV.out.below HB5.out)
      rw [← hdd] at hBE
      have HBE := Lib.hid hBE
      have HDD := Lib.hid hdd
      clear hBE hdd
      cases dd
      · have hno : ∀ E, ¬ IsS b E := fun E hE => by
          have h1 := HS3.out E (HMF.out E hE)
          have h2 : outS (entsOf L) = b := by rw [outS_ok HEE.out.symm, h1]; exact hE.2.2.2
          have h3 := HDD.out
          rw [decide_eq_true h2] at h3
          cases h3
        have HNO := Lib.hid hno
        clear hno
        go_wp2_with (go_at_call 25; refine HBE.out.mono ?_; rintro e wx ⟨rfl, rfl⟩)
        obtain ⟨e1, e2, e3⟩ := HEND.out (.slice none 0 0) rfl
        refine retM_mark (D := gL + 3) (by simp only [HSZ.out]) e3 (res_all rfl rfl e1) ?_
        exact (HNIL.out _ e1 e2 HNO.out).out
      · have hyes : X = entsOf L ∧ er = 0 := by
          have h2 : outS (entsOf L) = b := of_decide_eq_true HDD.out.symm
          have h3 := isS_put HSQ.out HEE.out.symm
          rw [h2] at h3
          exact HX.out.of h3
        have HY := Lib.hid hyes
        clear hyes
        go_wp2_with (go_at_call 25; refine HBE.out.mono ?_; rintro e wx ⟨rfl, rfl⟩)
        obtain ⟨e1, e2, e3⟩ := HEND.out (.slice la ln lc) rfl
        refine retM_mark (D := gL + 3) (by simp only [HSZ.out]) e3 (res_all rfl rfl e1) ?_
        obtain ⟨y1, y2⟩ := HY.out
        refine ⟨la, ln, lc, by rw [y2]; rfl, by rw [y1, entsOf_length]; exact HLN.out, ?_, e2⟩
        rw [y1, toPE_entsOf]
        exact own_mono (own_keptX HO5.out (fun k hk => by omega) (HPUTX.out _)) (by omega)
    · have hen : ((ee : Int) == 0) = false := by simp; omega
      have hen2 : decide ((ee : Int) = 0) = false := by simp; omega
      have hno : ∀ E, ¬ IsS b E := fun E hE => by
        have h1 := HS3.out E (HMF.out E hE)
        refine he ?_
        rw [HEE.out, h1]
        exact errS_ok hE.1 hE.2.2.1
      have HNO := Lib.hid hno
      clear hno
      go_wp2_with fail
      obtain ⟨e1, e2, e3⟩ := HEND.out (.slice none 0 0) rfl
      refine retM_mark (D := gL + 3) (by simp only [HSZ.out]) e3 (res_all rfl rfl e1) ?_
      exact (HNIL.out _ e1 e2 HNO.out).out
end Go.Proofs.YtbcnapkbdbefhaaGreatDoor
namespace Go.Proofs.YtbcnapkbdbefhaaGreatDoor
open Go.RowKit

set_option maxRecDepth 100000 in
set_option maxHeartbeats 1000000 in
theorem from1_any (w : World) (mk : ByteArray) (ms : Nat) (mg : Bool) (xk : ByteArray) (xs : Nat) (xg : Bool) (xu : ByteArray) (n : Int) (hn : cmpM xk.data.toList xs xg mk.data.toList ms mg = n) :
    Calls Tryz.prog 93 #[.agg #[.string xk, .int .u64 xs, .bool xg, .string xu], .agg #[.string mk, .int .u64 ms, .bool mg]] w fun e w' => e = .returned (.int .i64 n) ∧ Below w.heap.size w w' := by
  obtain ⟨W, hW⟩ : ∃ W, W = (w.alloc (.cells #[.string xk, .int .u64 xs, .bool xg, .string xu] 34)).alloc (.cells #[.string mk, .int .u64 ms, .bool mg] 25) := ⟨_, rfl⟩
  have hX : Blk W w.heap.size #[.string xk, .int .u64 xs, .bool xg, .string xu] 34 := by rw [hW]; exact (Blk.new _ _ _).alloc _
  have hM : Blk W (w.heap.size + 1) #[.string mk, .int .u64 ms, .bool mg] 25 := by rw [hW]; exact Blk.new_at _ _ _ _ (by simp)
  have hbW : Below w.heap.size w W := by rw [hW]; exact ((Below.refl _ _).alloc (Nat.le_refl _) _).alloc (by simp) _
  have HW := Lib.hid hW
  have x0 := hX.cellv 0 (.string xk) rfl
  have x1 := hX.cellv 1 (.int .u64 xs) rfl
  have x2 := hX.cellv 2 (.bool xg) rfl
  have m0 := hM.cellv 0 (.string mk) rfl
  have m1 := hM.cellv 1 (.int .u64 ms) rfl
  have m2 := hM.cellv 2 (.bool mg) rfl
  have HC : Hid (Calls Tryz.prog 94 #[.agg #[.string xk, .int .u64 xs, .bool xg], .agg #[.string mk, .int .u64 ms, .bool mg]] W fun e w' => e = .returned (.int .i64 n) ∧ Below W.heap.size W w') := by
    subst hn; exact orderCmp_any _ _ _ _ _ _ W
  clear hW hX hM hn
  go_enter Tryz.func93, Tryz.ntmps93
  go_upto_region 1 with (fail)
  rw [← HW.out]
  go_wp2_with fail
  refine HC.out.mono ?_
  rintro e w2 ⟨rfl, bel2⟩
  have belf := hbW.trans (bel2.mono hbW.size)
  go_wp2
  go_ret
  exact ⟨rfl, belf⟩
set_option maxRecDepth 100000 in
set_option maxHeartbeats 2000000 in
theorem bsE_any (w : World) (v : Value) (l : List PE) (mk : ByteArray) (ms : Nat) (mg : Bool) (hv : RdE w v l) (hl : l.length ≤ 1000000) (hm : ∀ k, k < (entsOf l).length → okAt (entsOf l) k = true) :
    Calls Tryz.prog 92 #[v, .agg #[.string mk, .int .u64 ms, .bool mg], .func (.func 93) #[] #[]] w fun e w' =>
      ∃ ok : Bool, e = .returned (.tuple #[.int .i64 (seekAt mk.data.toList ms mg (entsOf l) : Nat), .bool ok]) ∧ Below w.heap.size w w' := by
  have HV := Lib.hid hv
  obtain ⟨va, vc, rfl, h1, h2, _⟩ := hv
  obtain ⟨vn, hvn⟩ : ∃ n, n = l.length := ⟨_, rfl⟩
  have HVN := Lib.hid hvn
  obtain ⟨q, hq⟩ : ∃ q, q = seekAt mk.data.toList ms mg (entsOf l) := ⟨_, rfl⟩
  have HQ := Lib.hid hq
  have hqn : q ≤ vn := by rw [hq, hvn, ← entsOf_length]; exact seekAt_le _ _ _ _
  have HIF : Hid (∀ i, i < vn → ((cmpM (atE (entsOf l) i).key (atE (entsOf l) i).seq (atE (entsOf l) i).gone mk.data.toList ms mg < 0) ↔ i < q)) := fun i hi => by
    rw [hq]; exact seek_iff hm _ _ _ i (by rw [entsOf_length]; omega)
  rw [← hvn] at h1 HV hl ⊢
  rw [← hq]
  obtain ⟨W, hW⟩ : ∃ W, W = w.alloc (.cells #[.string mk, .int .u64 ms, .bool mg] 25) := ⟨_, rfl⟩
  obtain ⟨gM, hgM⟩ : ∃ g, g = w.heap.size := ⟨_, rfl⟩
  have HM : Hid (Blk W gM #[.string mk, .int .u64 ms, .bool mg] 25) := Lib.hid (by rw [hW]; exact Blk.new_at _ _ _ _ hgM)
  have HBW : Hid (Below w.heap.size w W) := Lib.hid (by rw [hW]; exact (Below.refl _ _).alloc (Nat.le_refl _) _)
  have HW := Lib.hid hW
  have HGM := Lib.hid hgM
  clear hvn hq hW hgM hm
  go_enter Tryz.func92, Tryz.ntmps92
  go_upto_region 1 with (fail)
  rw [← HGM.out, ← HW.out]
  go_wp2_with fail
  try show Code.wp _ _ _ _ _
  go_loopw [9, 10] (fun i j wr => ∃ lo hi : Nat, i = .int .i64 lo ∧ j = .int .i64 hi ∧ lo ≤ q ∧ q ≤ hi ∧ hi ≤ vn ∧ Hid (Below W.heap.size W wr)) (fun i j _ => (intOf j).toNat - (intOf i).toNat)
  case atStart => exact ⟨0, vn, rfl, rfl, Nat.zero_le _, hqn, Nat.le_refl _, Below.refl _ _⟩
  case round =>
    obtain ⟨lo, hi, rfl, rfl, hlo, hhi, hin, HBR⟩ := hrel
    by_cases hlt : lo < hi
    · obtain ⟨mid, hmid⟩ : ∃ m, m = (lo + hi) / 2 := ⟨_, rfl⟩
      have hmi : ((lo : Int) + (hi : Int)) / 2 = (mid : Int) := by omega
      have hm1 : lo ≤ mid := by omega
      have hm2 : mid < hi := by omega
      have hmv : mid < vn := by omega
      have hwd : IntKind.i64.wrap (mid : Int) = (mid : Int) := IntWalk.i64_in _ (by omega)
      clear hmid
      have HBW1 := HBW.out.trans (HBR.out.mono HBW.out.size)
      have hr := HV.out.below HBW1
      have hae := entsOf_at l mid (by rw [← HVN.out]; omega)
      obtain ⟨a', c', hve, _, _, hcell⟩ := hr
      obtain ⟨b3, off3, hae2, c0, c1, c2, c3⟩ := hcell mid (by rw [← HVN.out]; omega)
      simp only [Value.slice.injEq] at hve
      obtain ⟨e1, el, ec⟩ := hve
      rw [hae2] at e1
      subst e1
      clear el ec hcell hae2
      obtain ⟨x, hx⟩ : ∃ x, x = l[mid]'(by rw [← HVN.out]; omega) := ⟨_, rfl⟩
      rw [← hx] at c0 c1 c2 c3 hae
      clear hx
      obtain ⟨xk, xs, xg, xu⟩ := x
      simp only at c0 c1 c2 c3
      obtain ⟨n, hn⟩ : ∃ n, n = cmpM xk.data.toList xs xg mk.data.toList ms mg := ⟨_, rfl⟩
      have HN := Lib.hid hn
      have HAE := Lib.hid hae
      have HFR : Hid (∀ w', Calls Tryz.prog 93 #[.agg #[.string xk, .int .u64 xs, .bool xg, .string xu], .agg #[.string mk, .int .u64 ms, .bool mg]] w' fun e w'' => e = .returned (.int .i64 n) ∧ Below w'.heap.size w' w'') := fun w' => by rw [hn]; exact from1_any w' mk ms mg xk xs xg xu _ rfl
      have HMR := HM.out.below HBR.out
      have m0 := HMR.cellv 0 (.string mk) rfl
      have m1 := HMR.cellv 1 (.int .u64 ms) rfl
      have m2 := HMR.cellv 2 (.bool mg) rfl
      have HSS : Hid (∀ w', Below wr.heap.size wr w' → Below wr.heap.size wr w' ∧ w'.cell? ⟨b3, off3 + mid * 4, none⟩ = some (.string xk) ∧ w'.cell? ⟨b3, off3 + mid * 4 + 1, none⟩ = some (.int .u64 xs) ∧ w'.cell? ⟨b3, off3 + mid * 4 + 2, none⟩ = some (.bool xg) ∧ w'.cell? ⟨b3, off3 + mid * 4 + 3, none⟩ = some (.string xu) ∧ w'.cell? ⟨gM, 0, none⟩ = some (.string mk) ∧ w'.cell? ⟨gM, 1, none⟩ = some (.int .u64 ms) ∧ w'.cell? ⟨gM, 2, none⟩ = some (.bool mg)) := fun w' hb =>
        ⟨hb, Below.keeps hb _ _ _ c0, Below.keeps hb _ _ _ c1, Below.keeps hb _ _ _ c2, Below.keeps hb _ _ _ c3, Below.keeps hb _ _ _ m0, Below.keeps hb _ _ _ m1, Below.keeps hb _ _ _ m2⟩
      have HBR1 := Lib.hid HBW1
      clear c0 c1 c2 c3 m0 m1 m2 hn hae HMR HBW1
      go_upto_region 5 with (fail)
      refine wp_region_held_drew (S := fun w' => Below wr.heap.size wr w' ∧ w'.cell? ⟨b3, off3 + mid * 4, none⟩ = some (.string xk) ∧ w'.cell? ⟨b3, off3 + mid * 4 + 1, none⟩ = some (.int .u64 xs) ∧ w'.cell? ⟨b3, off3 + mid * 4 + 2, none⟩ = some (.bool xg) ∧ w'.cell? ⟨b3, off3 + mid * 4 + 3, none⟩ = some (.string xu) ∧ w'.cell? ⟨gM, 0, none⟩ = some (.string mk) ∧ w'.cell? ⟨gM, 1, none⟩ = some (.int .u64 ms) ∧ w'.cell? ⟨gM, 2, none⟩ = some (.bool mg)) (by kernel_rfl) (HSS.out _ (Below.refl _ _).drew) (fun hHeld => ?_)
      refine wpAnyH_take (i := 0) (v := ?vq1) (by simp only [List.getElem?_toArray]; rfl) (by kernel_rfl) (by kernel_rfl) (by kernel_rfl) (by exact fun _ _ _ h => h) (Or.inl ⟨by rfl, ?yq1⟩) (by assumption) ?rq1
      case yq1 => (intro w hSw; (try dsimp only at hSw); go_simp; try with_reducible rfl)
      try simp only [Act.put, List.setIfInBounds_toArray, List.set_cons_zero, List.set_cons_succ]
      refine wpAnyH_take (i := 1) (v := ?vq2) (by simp only [List.getElem?_toArray]; rfl) (by kernel_rfl) (by kernel_rfl) (by kernel_rfl) (by exact fun _ _ _ h => h) (Or.inl ⟨by rfl, ?yq2⟩) (by assumption) ?rq2
      case yq2 => (intro w hSw; (try dsimp only at hSw); go_simp; try with_reducible rfl)
      try simp only [Act.put, List.setIfInBounds_toArray, List.set_cons_zero, List.set_cons_succ]
      refine wpAnyH_take (i := 2) (v := ?vq3) (by simp only [List.getElem?_toArray]; rfl) (by kernel_rfl) (by kernel_rfl) (by kernel_rfl) (by exact fun _ _ _ h => h) (Or.inl ⟨by rfl, ?yq3⟩) (by assumption) ?rq3
      case yq3 => (intro w hSw; (try dsimp only at hSw); go_simp; try with_reducible rfl)
      try simp only [Act.put, List.setIfInBounds_toArray, List.set_cons_zero, List.set_cons_succ]
      refine wpAnyH_take (i := 3) (v := ?vq4) (by simp only [List.getElem?_toArray]; rfl) (by kernel_rfl) (by kernel_rfl) (by kernel_rfl) (by exact fun _ _ _ h => h) (Or.inl ⟨by rfl, ?yq4⟩) (by assumption) ?rq4
      case yq4 => (intro w hSw; (try dsimp only at hSw); go_simp; try with_reducible rfl)
      try simp only [Act.put, List.setIfInBounds_toArray, List.set_cons_zero, List.set_cons_succ]
      refine wpAnyH_take (i := 4) (v := ?vq5) (by simp only [List.getElem?_toArray]; rfl) (by kernel_rfl) (by kernel_rfl) (by kernel_rfl) (by exact fun _ _ _ h => h) (Or.inl ⟨by rfl, ?yq5⟩) (by assumption) ?rq5
      case yq5 => (intro w hSw; (try dsimp only at hSw); go_simp; try with_reducible rfl)
      try simp only [Act.put, List.setIfInBounds_toArray, List.set_cons_zero, List.set_cons_succ]
      refine wpAnyH_take (i := 5) (v := ?vq6) (by simp only [List.getElem?_toArray]; rfl) (by kernel_rfl) (by kernel_rfl) (by kernel_rfl) (by exact fun _ _ _ h => h) (Or.inl ⟨by rfl, ?yq6⟩) (by assumption) ?rq6
      case yq6 => (intro w hSw; (try dsimp only at hSw); go_simp; try with_reducible rfl)
      try simp only [Act.put, List.setIfInBounds_toArray, List.set_cons_zero, List.set_cons_succ]
      refine wpAnyH_ready (rs := [6]) (by kernel_rfl) (by simp) ?_
      refine AllReadyH.cons (by simp only [List.getElem?_toArray]; rfl) (fun K hK => ?_) AllReadyH.nil
      go_simp
      refine (HFR.out _).mono ?_
      rintro e w5 ⟨rfl, bel5⟩
      have BC : Below wr.heap.size wr w5 := hHeld.1.trans (bel5.mono hHeld.1.size)
      refine hK.out _ _ (HSS.out _ BC) (fun hHeld => ?_)
      clear hK K bel5
      try simp only [Act.put, List.setIfInBounds_toArray, List.set_cons_zero, List.set_cons_succ]
      refine wpAnyH_take (i := 7) (v := ?vq7) (by simp only [List.getElem?_toArray]; rfl) (by kernel_rfl) (by kernel_rfl) (by kernel_rfl) (by exact fun _ _ _ h => h) (Or.inl ⟨by rfl, ?yq7⟩) (by assumption) ?rq7
      case yq7 => (intro w hSw; (try dsimp only at hSw); go_simp; try with_reducible rfl)
      try simp only [Act.put, List.setIfInBounds_toArray, List.set_cons_zero, List.set_cons_succ]
      refine wpAnyH_done (by kernel_rfl) ?_ _
      have HBF : Hid (Below W.heap.size W w5) := HBR.out.trans (BC.mono HBR.out.size)
      clear BC hHeld
      have hdir := HIF.out mid hmv
      rw [HAE.out] at hdir
      have hdir2 : n < 0 ↔ mid < q := by rw [HN.out]; exact hdir
      clear hdir
      by_cases hneg : n < 0
      · have hd : decide (n < 0) = true := by simp; omega
        have hqm : mid < q := hdir2.1 hneg
        clear hdir2
        go_wp2_with fail
        go_roundw
        case rel => exact ⟨mid + 1, hi, by go_num, rfl, by omega, hhi, hin, HBF⟩
        case measure => simp [intOf]; omega
      · have hd : decide (n < 0) = false := by simp; omega
        have hnn : 0 ≤ n := by omega
        have hqm : q ≤ mid := by
          rcases Nat.lt_or_ge mid q with h | h
          · exact absurd (hdir2.2 h) hneg
          · exact h
        clear hdir2
        go_wp2_with fail
        go_roundw
        case rel => exact ⟨lo, mid, rfl, rfl, hlo, hqm, by omega, HBF⟩
        case measure => simp [intOf]; omega
    · obtain rfl : lo = q := by omega
      obtain rfl : hi = lo := by omega
      by_cases hqv : hi < vn
      · have HBW1 := HBW.out.trans (HBR.out.mono HBW.out.size)
        have hr := HV.out.below HBW1
        have hae := entsOf_at l hi (by rw [← HVN.out]; omega)
        obtain ⟨a', c', hve, _, _, hcell⟩ := hr
        obtain ⟨b3, off3, hae2, c0, c1, c2, c3⟩ := hcell hi (by rw [← HVN.out]; omega)
        simp only [Value.slice.injEq] at hve
        obtain ⟨e1, el, ec⟩ := hve
        rw [hae2] at e1
        subst e1
        clear el ec hcell hae2
        obtain ⟨x, hx⟩ : ∃ x, x = l[hi]'(by rw [← HVN.out]; omega) := ⟨_, rfl⟩
        rw [← hx] at c0 c1 c2 c3 hae
        clear hx
        obtain ⟨xk, xs, xg, xu⟩ := x
        simp only at c0 c1 c2 c3
        obtain ⟨n, hn⟩ : ∃ n, n = cmpM xk.data.toList xs xg mk.data.toList ms mg := ⟨_, rfl⟩
        have HN := Lib.hid hn
        have HAE := Lib.hid hae
        have HFR : Hid (∀ w', Calls Tryz.prog 93 #[.agg #[.string xk, .int .u64 xs, .bool xg, .string xu], .agg #[.string mk, .int .u64 ms, .bool mg]] w' fun e w'' => e = .returned (.int .i64 n) ∧ Below w'.heap.size w' w'') := fun w' => by rw [hn]; exact from1_any w' mk ms mg xk xs xg xu _ rfl
        have HMR := HM.out.below HBR.out
        have m0 := HMR.cellv 0 (.string mk) rfl
        have m1 := HMR.cellv 1 (.int .u64 ms) rfl
        have m2 := HMR.cellv 2 (.bool mg) rfl
        have HSS : Hid (∀ w', Below wr.heap.size wr w' → Below wr.heap.size wr w' ∧ w'.cell? ⟨b3, off3 + hi * 4, none⟩ = some (.string xk) ∧ w'.cell? ⟨b3, off3 + hi * 4 + 1, none⟩ = some (.int .u64 xs) ∧ w'.cell? ⟨b3, off3 + hi * 4 + 2, none⟩ = some (.bool xg) ∧ w'.cell? ⟨b3, off3 + hi * 4 + 3, none⟩ = some (.string xu) ∧ w'.cell? ⟨gM, 0, none⟩ = some (.string mk) ∧ w'.cell? ⟨gM, 1, none⟩ = some (.int .u64 ms) ∧ w'.cell? ⟨gM, 2, none⟩ = some (.bool mg)) := fun w' hb =>
          ⟨hb, Below.keeps hb _ _ _ c0, Below.keeps hb _ _ _ c1, Below.keeps hb _ _ _ c2, Below.keeps hb _ _ _ c3, Below.keeps hb _ _ _ m0, Below.keeps hb _ _ _ m1, Below.keeps hb _ _ _ m2⟩
        have HBR1 := Lib.hid HBW1
        clear c0 c1 c2 c3 m0 m1 m2 hn hae HMR HBW1
        go_upto_region 8 with (fail)
        refine wp_region_held_drew (S := fun w' => Below wr.heap.size wr w' ∧ w'.cell? ⟨b3, off3 + hi * 4, none⟩ = some (.string xk) ∧ w'.cell? ⟨b3, off3 + hi * 4 + 1, none⟩ = some (.int .u64 xs) ∧ w'.cell? ⟨b3, off3 + hi * 4 + 2, none⟩ = some (.bool xg) ∧ w'.cell? ⟨b3, off3 + hi * 4 + 3, none⟩ = some (.string xu) ∧ w'.cell? ⟨gM, 0, none⟩ = some (.string mk) ∧ w'.cell? ⟨gM, 1, none⟩ = some (.int .u64 ms) ∧ w'.cell? ⟨gM, 2, none⟩ = some (.bool mg)) (by kernel_rfl) (HSS.out _ (Below.refl _ _).drew) (fun hHeld => ?_)
        refine wpAnyH_take (i := 0) (v := ?vq8) (by simp only [List.getElem?_toArray]; rfl) (by kernel_rfl) (by kernel_rfl) (by kernel_rfl) (by exact fun _ _ _ h => h) (Or.inl ⟨by rfl, ?yq8⟩) (by assumption) ?rq8
        case yq8 => (intro w hSw; (try dsimp only at hSw); go_simp; try with_reducible rfl)
        try simp only [Act.put, List.setIfInBounds_toArray, List.set_cons_zero, List.set_cons_succ]
        refine wpAnyH_take (i := 1) (v := ?vq9) (by simp only [List.getElem?_toArray]; rfl) (by kernel_rfl) (by kernel_rfl) (by kernel_rfl) (by exact fun _ _ _ h => h) (Or.inl ⟨by rfl, ?yq9⟩) (by assumption) ?rq9
        case yq9 => (intro w hSw; (try dsimp only at hSw); go_simp; try with_reducible rfl)
        try simp only [Act.put, List.setIfInBounds_toArray, List.set_cons_zero, List.set_cons_succ]
        refine wpAnyH_take (i := 2) (v := ?vq10) (by simp only [List.getElem?_toArray]; rfl) (by kernel_rfl) (by kernel_rfl) (by kernel_rfl) (by exact fun _ _ _ h => h) (Or.inl ⟨by rfl, ?yq10⟩) (by assumption) ?rq10
        case yq10 => (intro w hSw; (try dsimp only at hSw); go_simp; try with_reducible rfl)
        try simp only [Act.put, List.setIfInBounds_toArray, List.set_cons_zero, List.set_cons_succ]
        refine wpAnyH_take (i := 3) (v := ?vq11) (by simp only [List.getElem?_toArray]; rfl) (by kernel_rfl) (by kernel_rfl) (by kernel_rfl) (by exact fun _ _ _ h => h) (Or.inl ⟨by rfl, ?yq11⟩) (by assumption) ?rq11
        case yq11 => (intro w hSw; (try dsimp only at hSw); go_simp; try with_reducible rfl)
        try simp only [Act.put, List.setIfInBounds_toArray, List.set_cons_zero, List.set_cons_succ]
        refine wpAnyH_take (i := 4) (v := ?vq12) (by simp only [List.getElem?_toArray]; rfl) (by kernel_rfl) (by kernel_rfl) (by kernel_rfl) (by exact fun _ _ _ h => h) (Or.inl ⟨by rfl, ?yq12⟩) (by assumption) ?rq12
        case yq12 => (intro w hSw; (try dsimp only at hSw); go_simp; try with_reducible rfl)
        try simp only [Act.put, List.setIfInBounds_toArray, List.set_cons_zero, List.set_cons_succ]
        refine wpAnyH_take (i := 5) (v := ?vq13) (by simp only [List.getElem?_toArray]; rfl) (by kernel_rfl) (by kernel_rfl) (by kernel_rfl) (by exact fun _ _ _ h => h) (Or.inl ⟨by rfl, ?yq13⟩) (by assumption) ?rq13
        case yq13 => (intro w hSw; (try dsimp only at hSw); go_simp; try with_reducible rfl)
        try simp only [Act.put, List.setIfInBounds_toArray, List.set_cons_zero, List.set_cons_succ]
        refine wpAnyH_take (i := 6) (v := ?vq14) (by simp only [List.getElem?_toArray]; rfl) (by kernel_rfl) (by kernel_rfl) (by kernel_rfl) (by exact fun _ _ _ h => h) (Or.inl ⟨by rfl, ?yq14⟩) (by assumption) ?rq14
        case yq14 => (intro w hSw; (try dsimp only at hSw); go_simp; try with_reducible rfl)
        try simp only [Act.put, List.setIfInBounds_toArray, List.set_cons_zero, List.set_cons_succ]
        refine wpAnyH_take (i := 7) (v := ?vq15) (by simp only [List.getElem?_toArray]; rfl) (by kernel_rfl) (by kernel_rfl) (by kernel_rfl) (by exact fun _ _ _ h => h) (Or.inl ⟨by rfl, ?yq15⟩) (by assumption) ?rq15
        case yq15 => (intro w hSw; (try dsimp only at hSw); go_simp; try with_reducible rfl)
        try simp only [Act.put, List.setIfInBounds_toArray, List.set_cons_zero, List.set_cons_succ]
        refine wpAnyH_take (i := 8) (v := ?vq16) (by simp only [List.getElem?_toArray]; rfl) (by kernel_rfl) (by kernel_rfl) (by kernel_rfl) (by exact fun _ _ _ h => h) (Or.inl ⟨by rfl, ?yq16⟩) (by assumption) ?rq16
        case yq16 => (intro w hSw; (try dsimp only at hSw); go_simp; try with_reducible rfl)
        try simp only [Act.put, List.setIfInBounds_toArray, List.set_cons_zero, List.set_cons_succ]
        refine wpAnyH_take (i := 9) (v := ?vq17) (by simp only [List.getElem?_toArray]; rfl) (by kernel_rfl) (by kernel_rfl) (by kernel_rfl) (by exact fun _ _ _ h => h) (Or.inl ⟨by rfl, ?yq17⟩) (by assumption) ?rq17
        case yq17 => (intro w hSw; (try dsimp only at hSw); go_simp; try with_reducible rfl)
        try simp only [Act.put, List.setIfInBounds_toArray, List.set_cons_zero, List.set_cons_succ]
        refine wpAnyH_take (i := 10) (v := ?vq18) (by simp only [List.getElem?_toArray]; rfl) (by kernel_rfl) (by kernel_rfl) (by kernel_rfl) (by exact fun _ _ _ h => h) (Or.inl ⟨by rfl, ?yq18⟩) (by assumption) ?rq18
        case yq18 => (intro w hSw; (try dsimp only at hSw); go_simp; try with_reducible rfl)
        try simp only [Act.put, List.setIfInBounds_toArray, List.set_cons_zero, List.set_cons_succ]
        refine wpAnyH_ready (rs := [11]) (by kernel_rfl) (by simp) ?_
        refine AllReadyH.cons (by simp only [List.getElem?_toArray]; rfl) (fun K hK => ?_) AllReadyH.nil
        go_simp
        refine (HFR.out _).mono ?_
        rintro e w5 ⟨rfl, bel5⟩
        have BC : Below wr.heap.size wr w5 := hHeld.1.trans (bel5.mono hHeld.1.size)
        refine hK.out _ _ (HSS.out _ BC) (fun hHeld => ?_)
        clear hK K bel5
        try simp only [Act.put, List.setIfInBounds_toArray, List.set_cons_zero, List.set_cons_succ]
        refine wpAnyH_take (i := 12) (v := ?vq19) (by simp only [List.getElem?_toArray]; rfl) (by kernel_rfl) (by kernel_rfl) (by kernel_rfl) (by exact fun _ _ _ h => h) (Or.inl ⟨by rfl, ?yq19⟩) (by assumption) ?rq19
        case yq19 => (intro w hSw; (try dsimp only at hSw); go_simp; try with_reducible rfl)
        try simp only [Act.put, List.setIfInBounds_toArray, List.set_cons_zero, List.set_cons_succ]
        refine wpAnyH_take (i := 13) (v := ?vq20) (by simp only [List.getElem?_toArray]; rfl) (by kernel_rfl) (by kernel_rfl) (by kernel_rfl) (by exact fun _ _ _ h => h) (Or.inl ⟨by rfl, ?yq20⟩) (by assumption) ?rq20
        case yq20 => (intro w hSw; (try dsimp only at hSw); go_simp; try with_reducible rfl)
        try simp only [Act.put, List.setIfInBounds_toArray, List.set_cons_zero, List.set_cons_succ]
        refine wpAnyH_take (i := 14) (v := ?vq21) (by simp only [List.getElem?_toArray]; rfl) (by kernel_rfl) (by kernel_rfl) (by kernel_rfl) (by exact fun _ _ _ h => h) (Or.inl ⟨by rfl, ?yq21⟩) (by assumption) ?rq21
        case yq21 => (intro w hSw; (try dsimp only at hSw); go_simp; try with_reducible rfl)
        try simp only [Act.put, List.setIfInBounds_toArray, List.set_cons_zero, List.set_cons_succ]
        refine wpAnyH_take (i := 15) (v := ?vq22) (by simp only [List.getElem?_toArray]; rfl) (by kernel_rfl) (by kernel_rfl) (by kernel_rfl) (by exact fun _ _ _ h => h) (Or.inl ⟨by rfl, ?yq22⟩) (by assumption) ?rq22
        case yq22 => (intro w hSw; (try dsimp only at hSw); go_simp; try with_reducible rfl)
        try simp only [Act.put, List.setIfInBounds_toArray, List.set_cons_zero, List.set_cons_succ]
        refine wpAnyH_done (by kernel_rfl) ?_ _
        have HBF : Hid (Below w.heap.size w w5) := HBR1.out.trans (BC.mono HBR1.out.size)
        clear BC hHeld
        go_wp2_with fail
        go_ret2
        exact ⟨_, rfl, HBF.out⟩
      · have hd2 : decide ((hi : Int) < (vn : Int)) = false := by simp; omega
        have hd3 : decide (hi < vn) = false := by simp; omega
        have HBF : Hid (Below w.heap.size w wr) := HBW.out.trans (HBR.out.mono HBW.out.size)
        go_upto_region 8 with (fail)
        go_quiet (fail)
        go_wp2_with fail
        go_ret2
        exact ⟨_, rfl, HBF.out.trans ((drewN_below wr _).mono HBF.out.size)⟩
-- FROM
theorem AllIs.rises {b : List UInt8} {X : List Ent} {er : Nat} (h : AllIs b X er) : ∀ k, k < X.length → okAt X k = true := by
  rcases h with ⟨_, h2⟩ | ⟨_, rfl, _⟩
  · exact ((mayS_iff X).1 h2.1).2
  · intro k hk; simp at hk
theorem AllIs.small {b : List UInt8} {X : List Ent} {er : Nat} (h : AllIs b X er) : X.length ≤ 4096 ∧ (∀ x ∈ X, x.seq < 18446744073709551616) ∧ (er = 0 ∨ er = 4) := by
  rcases h with ⟨h1, h2⟩ | ⟨h1, rfl, _⟩
  · exact ⟨h2.2.2.1, h2.2.1, .inl h1⟩
  · exact ⟨by simp, by simp, .inr h1⟩
def RetFr (Y : List Ent) (er : Nat) (w : World) (e : Ending) (w' : World) : Prop :=
  ∃ a n c, e = .returned (.tuple #[.slice a n c, .int .i64 er]) ∧ Hid (n = Y.length) ∧ Hid (RdE w' (.slice a n c) (Y.map toPE)) ∧ Below w.heap.size w w'
set_option maxRecDepth 100000 in
set_option maxHeartbeats 2000000 in
theorem from_any (w : World) (v : Value) (b : List UInt8) (X : List Ent) (er : Nat) (mk : ByteArray) (ms : Nat) (mg : Bool) (hv : Rd w v b) (hb : b.length ≤ 268435456) (hX : AllIs b X er) :
    Calls Tryz.prog 26 #[v, .agg #[.string mk, .int .u64 ms, .bool mg]] w (RetFr (X.drop (seekAt mk.data.toList ms mg X)) er w) := by
  obtain ⟨W, hW⟩ : ∃ W, W = w.alloc (.cells #[.string mk, .int .u64 ms, .bool mg] 25) := ⟨_, rfl⟩
  have hM : Blk W w.heap.size #[.string mk, .int .u64 ms, .bool mg] 25 := by rw [hW]; exact Blk.new _ _ _
  have hbW : Below w.heap.size w W := by rw [hW]; exact (Below.refl _ _).alloc (Nat.le_refl _) _
  have HA := Lib.hid (sortedAll_any W v b X er (hv.below hbW) hb hX)
  have HR := Lib.hid hX.rises
  have hsm := hX.small.1
  have HW := Lib.hid hW
  have HM := Lib.hid hM
  have HBW := Lib.hid hbW
  obtain ⟨q, hq⟩ : ∃ q, q = seekAt mk.data.toList ms mg X := ⟨_, rfl⟩
  have hqn : q ≤ X.length := by rw [hq]; exact seekAt_le _ _ _ _
  have HQ := Lib.hid hq
  rw [← hq]
  obtain ⟨xn, hxn⟩ : ∃ z, z = X.length := ⟨_, rfl⟩
  have HXN := Lib.hid hxn
  rw [← hxn] at hsm hqn
  clear hW hM hbW hv hX hq hxn
  go_enter Tryz.func26, Tryz.ntmps26
  go_upto_region 1 with (fail)
  rw [← HW.out]
  go_upto_region 2 with (go_at_call 6; refine HA.out.mono ?_; rintro e w2 ⟨la, n, lc, rfl, HN, HO, bel2⟩)
  have HB2 := Lib.hid (HBW.out.trans (bel2.mono HBW.out.size))
  have hM2 := HM.out.below bel2
  have m0 := hM2.cellv 0 (.string mk) rfl
  have m1 := hM2.cellv 1 (.int .u64 ms) rfl
  have m2 := hM2.cellv 2 (.bool mg) rfl
  have hr2 := (rdE_of (reads_of_own HO.out)).2
  have hnx : n = xn := HN.out.trans HXN.out.symm
  subst hnx
  have hbs := bsE_any w2 _ (X.map toPE) mk ms mg hr2 (by rw [List.length_map, ← HXN.out]; omega) (by rw [entsOf_toPE]; exact HR.out)
  rw [entsOf_toPE, ← HQ.out] at hbs
  have HBS := Lib.hid hbs
  have HR2 := Lib.hid hr2
  clear hbs hM2 bel2 HO HN HA hr2
  go_wp2_with (go_at_call 92; refine HBS.out.mono ?_; rintro e w3 ⟨ok, rfl, bel3⟩; obtain ⟨ca, cc, hcut, hcr⟩ := cutE_rest (HR2.out.below bel3) q (n - q) (by rw [List.length_map, ← HXN.out]; omega); have hcut2 := fun w' => hcut w' .i64)
  have HB3 := HB2.out.trans (bel3.mono HB2.out.size)
  go_ret2
  refine ⟨ca, n - q, cc, rfl, by rw [List.length_drop, ← HXN.out]; rfl, by rw [List.map_drop]; exact hcr, HB3⟩
/-- an entry as a value -/
def entV (x : Ent) : Value := .agg #[.string (bs x.key), .int .u64 x.seq, .bool x.gone, .string (bs x.val)]
set_option maxRecDepth 100000 in
theorem res_get {tmps : Array Value} {w : World} {c : Nat} {k u : ByteArray} {s : Nat} {b : Bool} {v1 v2 : Value} (hp : tmps[6]?.getD undef = .pointer (some ⟨c, 0, none⟩)) (h1 : tmps[7]?.getD undef = v1) (h2 : tmps[8]?.getD undef = v2) (hX : Blk w c #[.string k, .int .u64 s, .bool b, .string u] 34) :
    (results Tryz.f7 tmps).run Tryz.prog w = .ok (.tuple #[.agg #[.string k, .int .u64 s, .bool b, .string u], v1, v2]) w := by
  have c0 := hX.cellv 0 (.string k) rfl
  have c1 := hX.cellv 1 (.int .u64 s) rfl
  have c2 := hX.cellv 2 (.bool b) rfl
  have c3 := hX.cellv 3 (.string u) rfl
  simp only [results, Tryz.results7]
  simp [go_sem, hp, h1, h2, c0, c1, c2, c3]
/-- the first one, if its key is so -/
def headK (k : List UInt8) : List Ent → Option Ent
  | [] => none
  | x :: _ => if x.key = k then some x else none
theorem getS_head (k : List UInt8) (s : Nat) (E : List Ent) : getS k s E = headK k (E.drop (seekAt k s true E)) := by
  unfold getS headK
  cases E.drop (seekAt k s true E) <;> rfl
def RetGE (o : Option Ent) (er : Nat) (w : World) (e : Ending) (w' : World) : Prop :=
  e = .returned (.tuple #[entV (o.getD Ent.none), .bool o.isSome, .int .i64 er]) ∧ Below w.heap.size w w'
set_option maxRecDepth 100000 in
set_option maxHeartbeats 2000000 in
theorem sortedGet_any (w : World) (v : Value) (b : List UInt8) (X : List Ent) (er : Nat) (k : ByteArray) (s : Nat) (hv : Rd w v b) (hb : b.length ≤ 268435456) (hX : AllIs b X er) :
    Calls Tryz.prog 7 #[v, .string k, .int .u64 s] w (RetGE (getS k.data.toList s X) er w) := by
  obtain ⟨W, hW⟩ : ∃ W, W = w.alloc (.cells #[.string ⟨#[]⟩, .int .u64 0, .bool false, .string ⟨#[]⟩] 34) := ⟨_, rfl⟩
  obtain ⟨g, hg⟩ : ∃ g, g = w.heap.size := ⟨_, rfl⟩
  have hE : Blk W g #[.string ⟨#[]⟩, .int .u64 0, .bool false, .string ⟨#[]⟩] 34 := by rw [hW]; exact Blk.new_at _ _ _ _ hg
  have hbW : Below w.heap.size w W := by rw [hW]; exact (Below.refl _ _).alloc (Nat.le_refl _) _
  have HA := Lib.hid (from_any W v b X er k s true (hv.below hbW) hb hX)
  have HW := Lib.hid hW
  have HE := Lib.hid hE
  have HBW := Lib.hid hbW
  have HG := Lib.hid hg
  have hgw : w.heap.size ≤ g := Nat.le_of_eq hg.symm
  clear hW hE hbW hv hX hg
  go_enter Tryz.func7, Tryz.ntmps7
  go_upto_region 1 with (fail)
  rw [← HG.out, ← HW.out]
  go_upto_region 2 with (go_at_call 26; refine HA.out.mono ?_; rintro e w2 ⟨la, n, lc, rfl, HN, HR, bel2⟩)
  have HB2 := Lib.hid (HBW.out.trans (bel2.mono HBW.out.size))
  have HE2 := Lib.hid (HE.out.below bel2)
  have y0 := HE2.out.cellv 0 (.string ⟨#[]⟩) rfl
  have y1 := HE2.out.cellv 1 (.int .u64 0) rfl
  have y2 := HE2.out.cellv 2 (.bool false) rfl
  have y3 := HE2.out.cellv 3 (.string ⟨#[]⟩) rfl
  have f0 := HE2.out.free 0
  have f1 := HE2.out.free 1
  have f2 := HE2.out.free 2
  have f3 := HE2.out.free 3
  clear bel2
  obtain ⟨Y, hY⟩ : ∃ Y, Y = X.drop (seekAt k.data.toList s true X) := ⟨_, rfl⟩
  have HGS : Hid (getS k.data.toList s X = headK k.data.toList Y) := by show _ = _; rw [hY]; exact getS_head _ _ _
  rw [← hY] at HN HR
  clear hY HA
  cases Y with
  | nil =>
    have hn0 : n = 0 := HN.out
    subst hn0
    go_wp2_with fail
    have hF := ((((HE2.out.set 0 (.string ⟨#[]⟩)).set 1 (.int .u64 0)).set 2 (.bool false)).set 3 (.string ⟨#[]⟩))
    have hB := (((HB2.out.setCell (p := ⟨g, 0, none⟩) hgw (.string ⟨#[]⟩)).setCell (p := ⟨g, 1, none⟩) hgw (.int .u64 0)).setCell (p := ⟨g, 2, none⟩) hgw (.bool false)).setCell (p := ⟨g, 3, none⟩) hgw (.string ⟨#[]⟩)
    refine bodyPost_ret (res_get rfl rfl rfl hF) rfl ?_
    exact ⟨by rw [HGS.out]; rfl, hB⟩
  | cons x Y =>
    obtain ⟨m, hm⟩ : ∃ m, m = Y.length := ⟨_, rfl⟩
    have hn0 : n = m + 1 := by rw [HN.out, hm]; rfl
    clear hm HN
    subst hn0
    obtain ⟨a', c', hve, _, _, hcell⟩ := HR.out
    obtain ⟨b3, off3, hae2, c0, c1, c2, c3⟩ := hcell 0 (by simp)
    simp only [Value.slice.injEq] at hve
    obtain ⟨e1, el, ec⟩ := hve
    rw [hae2] at e1
    subst e1
    clear el ec hcell hae2
    simp only [List.map_cons, List.getElem_cons_zero, Nat.zero_mul, Nat.add_zero, toPE] at c0 c1 c2 c3
    obtain ⟨xk, xs, xg, xu⟩ := x
    simp only at c0 c1 c2 c3
    obtain ⟨kk, hkk⟩ : ∃ z, z = bs xk := ⟨_, rfl⟩
    obtain ⟨uu, huu⟩ : ∃ z, z = bs xu := ⟨_, rfl⟩
    rw [← hkk] at c0
    rw [← huu] at c3
    by_cases hke : kk = k
    · have HX : Hid (getS k.data.toList s X = some ⟨xk, xs, xg, xu⟩) := by
        show _ = _
        rw [HGS.out]
        exact if_pos (by rw [← hke, hkk, bs_data])
      have HKU := Lib.hid (And.intro hkk huu)
      clear hkk huu
      subst hke
      go_wp2_with fail
      have hF := ((((HE2.out.set 0 (.string kk)).set 1 (.int .u64 xs)).set 2 (.bool xg)).set 3 (.string uu))
      have hB := (((HB2.out.setCell (p := ⟨g, 0, none⟩) hgw (.string kk)).setCell (p := ⟨g, 1, none⟩) hgw (.int .u64 xs)).setCell (p := ⟨g, 2, none⟩) hgw (.bool xg)).setCell (p := ⟨g, 3, none⟩) hgw (.string uu)
      refine bodyPost_ret (res_get rfl rfl rfl hF) rfl ?_
      exact ⟨by rw [HX.out]; simp only [Option.getD_some, entV, Option.isSome_some, ← HKU.out.1, ← HKU.out.2]; rfl, hB⟩
    · have HX : Hid (getS k.data.toList s X = none) := by
        show _ = _
        rw [HGS.out]
        exact if_neg (fun h => hke (by rw [hkk]; have h : xk = k.data.toList := h; rw [h, bs_of]))
      have hkl : ¬ kk.toList = k.toList := fun h => hke (ba_ext h)
      have hkb : (kk.toList == k.toList) = false := by simp [hkl]
      clear hkk huu
      go_wp2_with fail
      have hF := ((((HE2.out.set 0 (.string ⟨#[]⟩)).set 1 (.int .u64 0)).set 2 (.bool false)).set 3 (.string ⟨#[]⟩))
      have hB := (((HB2.out.setCell (p := ⟨g, 0, none⟩) hgw (.string ⟨#[]⟩)).setCell (p := ⟨g, 1, none⟩) hgw (.int .u64 0)).setCell (p := ⟨g, 2, none⟩) hgw (.bool false)).setCell (p := ⟨g, 3, none⟩) hgw (.string ⟨#[]⟩)
      refine bodyPost_ret (res_get rfl rfl rfl hF) rfl ?_
      exact ⟨by rw [HX.out]; rfl, hB⟩
set_option maxRecDepth 100000 in
theorem cloneNil_any (w : World) (c : Nat) : Calls Tryz.prog 27 #[.slice none 0 c] w fun e w' => e = .returned (.slice none 0 0) ∧ w' = w := by
  have hnn := Lib.run_eql_slice_nil (P := Tryz.prog) w 29 34 none 0 c 0 0 Tryz.underlying29
  go_enter Tryz.func27, Tryz.ntmps27
  go_wp2_with fail
  go_ret
  exact ⟨rfl, rfl⟩
/-- how many are told -/
def mostN (most : Int) (n : Nat) : Nat := (max 0 (min most (n : Int))).toNat
theorem mostN_le (most : Int) (n : Nat) : mostN most n ≤ n := by unfold mostN; omega
set_option maxRecDepth 100000 in
set_option maxHeartbeats 2000000 in
theorem sortedFrom_any (w : World) (v : Value) (b : List UInt8) (X : List Ent) (er : Nat) (mk : ByteArray) (ms : Nat) (mg : Bool) (most : Int) (hv : Rd w v b) (hb : b.length ≤ 268435456) (hX : AllIs b X er) (hm1 : -9223372036854775808 ≤ most) (hm2 : most ≤ 9223372036854775807) :
    Calls Tryz.prog 8 #[v, .agg #[.string mk, .int .u64 ms, .bool mg], .int .i64 most] w (RetAE ((X.drop (seekAt mk.data.toList ms mg X)).take (mostN most (X.drop (seekAt mk.data.toList ms mg X)).length)) er w) := by
  obtain ⟨W, hW⟩ : ∃ W, W = w.alloc (.cells #[.string mk, .int .u64 ms, .bool mg] 25) := ⟨_, rfl⟩
  have hM : Blk W w.heap.size #[.string mk, .int .u64 ms, .bool mg] 25 := by rw [hW]; exact Blk.new _ _ _
  have hbW : Below w.heap.size w W := by rw [hW]; exact (Below.refl _ _).alloc (Nat.le_refl _) _
  have HA := Lib.hid (from_any W v b X er mk ms mg (hv.below hbW) hb hX)
  have hsm := hX.small.1
  have HW := Lib.hid hW
  have HBW := Lib.hid hbW
  have m0 := hM.cellv 0 (.string mk) rfl
  have m1 := hM.cellv 1 (.int .u64 ms) rfl
  have m2 := hM.cellv 2 (.bool mg) rfl
  obtain ⟨Y, hY⟩ : ∃ Y, Y = X.drop (seekAt mk.data.toList ms mg X) := ⟨_, rfl⟩
  have hYl : Y.length ≤ 4096 := by rw [hY, List.length_drop]; omega
  rw [← hY] at HA ⊢
  obtain ⟨nn, hnn⟩ : ∃ z, z = mostN most Y.length := ⟨_, rfl⟩
  have HNY : Hid (nn ≤ Y.length) := Lib.hid (by rw [hnn]; exact mostN_le _ _)
  have HNN := Lib.hid hnn
  have HYL := Lib.hid hYl
  rw [← hnn]
  clear hW hM hbW hv hX hY hsm hnn hYl
  go_enter Tryz.func8, Tryz.ntmps8
  go_upto_region 1 with (fail)
  rw [← HW.out]
  go_upto_region 2 with (go_at_call 26; refine HA.out.mono ?_; rintro e w2 ⟨la, n, lc, rfl, HN, HR, bel2⟩)
  have HB2 := Lib.hid (HBW.out.trans (bel2.mono HBW.out.size))
  clear bel2 m0 m1 m2 HA
  have hnY := HNY.out
  have hnn2 : (nn : Int) = max 0 (min most (n : Int)) := by rw [HNN.out, HN.out]; unfold mostN; omega
  have hYl := HYL.out
  have hYn : n ≤ 4096 := by rw [HN.out]; exact hYl
  have hnn3 : nn ≤ n := by rw [HN.out]; exact hnY
  obtain ⟨mi, hmi⟩ : ∃ z : Int, z = min most (n : Int) := ⟨_, rfl⟩
  have h1 : (if (n : Int) < most then (n : Int) else most) = mi := by rw [hmi]; split <;> omega
  have h2 : (if mi < 0 then 0 else mi) = (nn : Int) := by rw [hnn2, ← hmi]; split <;> omega
  have h3 : (if 0 < mi then mi else 0) = (nn : Int) := by rw [hnn2, ← hmi]; split <;> omega
  obtain ⟨ca, cc, hcut, hcr⟩ := cutE_to HR.out nn (by rw [List.length_map]; exact hnY)
  have hcut2 := fun w' => hcut w' .i64
  rw [← List.map_take] at hcr
  have hle : ((Y.take nn).map toPE).length = nn := by rw [List.length_map, List.length_take]; omega
  have hrr := rdE_reads hcr
  rw [hle] at hrr
  have HRR := Lib.hid hrr
  have HLE : Hid (nn = (Y.take nn).length) := by show _ = _; rw [List.length_take]; omega
  clear hle hrr
  clear hnn2 hmi hnY hYl hcut hcr
  cases ca with
  | none =>
    have hn0 : nn = 0 := by have := (reads_cells HRR.out).1 rfl; omega
    have HCN : Hid (∀ w', Calls Tryz.prog 27 #[.slice none nn cc] w' fun e w'' => e = .returned (.slice none 0 0) ∧ w'' = w') := fun w' => by rw [hn0]; exact cloneNil_any w' cc
    have HN0 := Lib.hid hn0
    clear hn0
    go_wp2_with (go_at_call 27; refine (HCN.out _).mono ?_; rintro e w3 ⟨rfl, rfl⟩)
    go_ret2
    exact ⟨none, 0, 0, rfl, HN0.out.symm.trans HLE.out, by rw [HN0.out, List.take_zero]; exact own_none _ _ _ _, HB2.out⟩
  | some ad =>
    have HCL := Lib.hid (cloneE_any w2 ad nn cc ((Y.take nn).map toPE) HRR.out (by omega))
    go_wp2_with (go_at_call 27; refine HCL.out.mono ?_; rintro e w3 ⟨b4, c4, rfl, HO4, bel4⟩)
    have HB4 := HB2.out.trans (bel4.mono HB2.out.size)
    go_ret2
    exact ⟨b4, nn, c4, rfl, HLE.out, own_mono HO4.out HB2.out.size, HB4⟩
end Go.Proofs.YtbcnapkbdbefhaaGreatDoor

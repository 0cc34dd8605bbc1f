/- Walk of law04.sorted. The condition: a slice of at most 2^20 marks. -/
import Derived.Test.YtafgioidneohhaaSort1
import Derived.Deep.RegionHeld3
import Derived.StillTailTactics
import Derived.Deep.Cut
namespace Go.Proofs.Ytafgioidneohhaa
open Go.RowKit

theorem step_app_el4 {ops : Array Oper} {o : Oper} {a : Act} {w : World} {K : Act → World → Prop} {Q : Exit → Act → World → Prop} {E : Prop} (hgd : o.guard = none) (s x : Operand) {t e : TypeId} {i : TypeInfo} {z : Value} {sz by_ : Nat}
    (ho : o.op = .call { callee := .builtin .append, args := #[s, x], argTypes := #[t, t] }) (ht : Try.prog.underlying t = some (.slice e)) (hi : Try.prog.info? e = some i) (hz : i.zero = some z) (hs : i.size = sz) (hb : i.bytes = by_) (hzs : z.cells.size = sz) (hsz : 0 < sz)
    (base n m : Nat) (v v2 : Value) (xs ys zs : List Value) (r : Nat) (hs' : a.eval s = v) (hx : a.eval x = v2) (hown : Own w base e sz v n xs) (hrd : Reads w sz v2 m ys) (h1 : ∀ u ∈ ys, u.oneCell' = true)
    (hr : n + m = r) (hzz : xs ++ ys = zs) (hlen : r * by_ ≤ 140737488355328) (hnm : r ≤ 9223372036854775807) (hbase : base ≤ w.heap.size)
    (h : ∀ b c w', Hid (Own w' base e sz (.slice b r c) r zs) → Hid (Grew w w' base v (.slice b r c)) → K (a.put o.dst (.slice b r c)) w') : if Region.wanted o (yielded ops a.tmps) = true then Oper.wp Try.prog o a w K Q else E := by
  subst hr hzz
  have hw : Region.wanted o (yielded ops a.tmps) = true := by simp [Region.wanted, hgd]
  rw [if_pos hw]
  obtain ⟨v', w', hr, h2, h3, h4, h5⟩ := run_app2 (P := Try.prog) w base t o.type e i z sz by_ ht hi hz hs hb hzs hsz v n xs hown v2 m ys hrd h1 hlen hnm hbase
  unfold Oper.wp execOp
  simp only [ho, resolve, invoke, builtin, Sem.run_bind, Sem.run_pure, Result.andThen_ok, List.map_toArray, List.map_cons, List.map_nil, hs', hx, hr]
  obtain ⟨b, c, rfl⟩ := (reads_of_own h2).slice
  exact h b c w' h2 (grew_of h4 h3 h5)
theorem still_tail4 {P : Program} {id : Nat} {Q : Exit → Act → World → Prop} {a : Act} {w wd : World} {l : List Oper} (n : Nat) (hm : P.follows .mixedOrders = true) (hB : Region.lexTailB .any l.toArray n = true) (hwd : wd = w.drew)
    (h : wpStill P l.toArray wd (fun a' => wpList P l.toArray Q (l.drop n) a' wd) (l.take n) a) : (Code.region id l.toArray true).wp P Q a w := by
  subst hwd
  exact wp_region_still_tail n hm hB h
theorem still_skip4 {P : Program} {ops : Array Oper} {w : World} {Q : Act → Prop} {a : Act} {o : Oper} {rest : List Oper} (hw : Region.wanted o (yielded ops a.tmps) = false) (h : wpStill P ops w Q rest (a.put o.dst undef)) : wpStill P ops w Q (o :: rest) a :=
  wpStill_step fun K hK => by rw [if_neg (by rw [hw]; decide)]; exact hK _ h
set_option maxRecDepth 100000 in
set_option maxHeartbeats 8000000 in
theorem sorted_any (w : World) (v : Value) (l : List MkB) (hv : RdM w v l) (hl : l.length ≤ 1000000) :
    Calls Try.prog 18 #[v] w fun e w' => ∃ a n c, e = .returned (.slice a n c) ∧ Hid (n = l.length) ∧ Hid (RdM w' (.slice a n c) (sortM l)) ∧ Below w.heap.size w w' := by
  have HV := Lib.hid hv
  obtain ⟨va, vc, rfl, h1, h2, h3⟩ := hv
  clear h3
  obtain ⟨vn, hvn⟩ : ∃ n, n = l.length := ⟨_, rfl⟩
  have HVN := Lib.hid hvn
  rw [← hvn] at h1 HV hl ⊢
  clear hvn
  obtain ⟨i0, hi0, hz, hz1, hz2⟩ := info_parts info_mk
  go_enter Try.func18, Try.ntmps18
  go_wp2_with fail
  try show Code.wp _ _ _ _ _
  go_loopw [3, 4, 5] (fun ov iv _ wr => ∃ i : Nat, i ≤ vn ∧ iv = .int .i64 i ∧ (∃ oa oc, ov = .slice oa i oc ∧ Hid (RdM wr (.slice oa i oc) (sortM (l.take i)))) ∧ Hid (Below w.heap.size w wr)) (fun _ iv _ _ => vn - (intOf iv).toNat)
  case atStart => exact ⟨0, Nat.zero_le _, rfl, ⟨none, 0, rfl, ⟨none, 0, rfl, Nat.le_refl _, by decide, fun j hj => absurd hj (by simp [sortM])⟩⟩, Below.refl _ _⟩
  case round =>
    obtain ⟨i, hi, rfl, ⟨oa, oc, rfl, HOR⟩, HB⟩ := hrel
    by_cases hlt : i < vn
    · have hil : i < l.length := by rw [← HVN.out]; exact hlt
      have HTK := Lib.hid (sortM_take l i hil)
      have HSL : Hid ((sortM (l.take i)).length = i) := by show _ = _; rw [sortM_length, List.length_take]; omega
      obtain ⟨a', c', hve, _, _, hcell⟩ := HV.out
      obtain ⟨b3, off3, hae, z0, z1, z2⟩ := hcell i hil
      simp only [Value.slice.injEq] at hve
      obtain ⟨e1, el, ec⟩ := hve
      rw [hae] at e1
      subst e1
      clear el ec hcell hae z0 z1 z2
      obtain ⟨x, hx⟩ : ∃ x, x = l[i] := ⟨_, rfl⟩
      have HXC : Hid (∀ w', Below w.heap.size w w' → w'.cell? ⟨b3, off3 + i * 3, none⟩ = some (.string x.k) ∧ w'.cell? ⟨b3, off3 + i * 3 + 1, none⟩ = some (.int .u64 x.s) ∧ w'.cell? ⟨b3, off3 + i * 3 + 2, none⟩ = some (.bool x.g)) := by
        intro w' hb
        obtain ⟨a', c', hve, _, _, hcell⟩ := HV.out.below hb
        obtain ⟨b4, off4, hae, c0, c1, c2⟩ := hcell i hil
        simp only [Value.slice.injEq] at hve
        obtain ⟨e1, _, _⟩ := hve
        rw [hae] at e1
        cases e1
        rw [hx]
        exact ⟨c0, c1, c2⟩
      rw [← hx] at HTK
      clear hx hil
      obtain ⟨q, hq⟩ : ∃ q, q = insAt x (sortM (l.take i)) := ⟨_, rfl⟩
      have HQ := Lib.hid hq
      have hqi : q ≤ i := by
        have h0 := insAt_le x (sortM (l.take i))
        rw [HSL.out, ← hq] at h0
        exact h0
      clear hq
      obtain ⟨xk, xs, xg⟩ := x
      simp only at HXC
      go_wp2_with fail
      try show Code.wp _ _ _ _ _
      go_loopw [5] (fun kv wz => ∃ k : Nat, k ≤ q ∧ kv = .int .i64 k ∧ Hid (Below wr.heap.size wr wz)) (fun kv _ => i - (intOf kv).toNat)
      case atStart => exact ⟨0, Nat.zero_le _, rfl, Below.refl _ _⟩
      case round =>
        obtain ⟨k, hk, rfl, HR2⟩ := hrel
        obtain ⟨wz, hwz⟩ := the_world HR2.out
        subst hwz
        have HBZ := Lib.hid (HB.out.trans (HR2.out.mono HB.out.size))
        obtain ⟨wd, hwd⟩ : ∃ wd, wd = wz.drew := ⟨_, rfl⟩
        have HWD := Lib.hid hwd
        have hbd : Below wz.heap.size wz wd := by rw [hwd]; exact (Below.refl _ _).drew
        have HRD := Lib.hid (HR2.out.trans (hbd.mono HR2.out.size))
        have HBDD := Lib.hid (HBZ.out.trans (hbd.mono HBZ.out.size))
        clear hwd hbd
        by_cases hki : k < i
        · have hkS : k < (sortM (l.take i)).length := by rw [HSL.out]; exact hki
          obtain ⟨a2, c2, hve, _, _, hcell⟩ := HOR.out.below HRD.out
          obtain ⟨b4, off4, hae, d0, d1, d2⟩ := hcell k hkS
          simp only [Value.slice.injEq] at hve
          obtain ⟨e1, el, ec⟩ := hve
          rw [hae] at e1
          subst e1
          clear el ec hcell hae
          obtain ⟨y, hy⟩ : ∃ y, y = (sortM (l.take i))[k] := ⟨_, rfl⟩
          rw [← hy] at d0 d1 d2
          obtain ⟨n, hn⟩ : ∃ n, n = cmpK (MkB.m ⟨xk, xs, xg⟩) y.m := ⟨_, rfl⟩
          have hdir : (k < q ∧ n ≥ 0) ∨ (k = q ∧ n < 0) := by
            by_cases hkq : k < q
            · refine .inl ⟨hkq, ?_⟩
              rw [hn, hy]
              exact insAt_lt _ _ k (by rw [← HQ.out]; exact hkq) hkS
            · have e : k = q := by omega
              refine .inr ⟨e, ?_⟩
              have h := insAt_at ⟨xk, xs, xg⟩ (sortM (l.take i)) (by rw [← HQ.out, ← e]; exact hkS)
              simp only [← HQ.out, ← e] at h
              rw [hn, hy]; exact h
          have HC : Hid (Calls Try.prog 19 #[.agg #[.string xk, .int .u64 xs, .bool xg], .agg #[.string y.k, .int .u64 y.s, .bool y.g]] wd fun e w' => e = .returned (.int .i64 n) ∧ Below wd.heap.size wd w') := by
            rw [hn]; exact orderCmp_any _ _ _ _ _ _ wd
          clear hn hy hkS
          obtain ⟨yk, ys, yg⟩ := y
          simp only at d0 d1 d2 HC
          obtain ⟨c0, c1, c2'⟩ := HXC.out wd HBDD.out
          go_wp2_with fail
          refine still_tail4 (wd := wd) 13 ?hm ?hB ?hwd ?h
          case hm => kernel_rfl
          case hB => kernel_rfl
          case hwd => exact HWD.out
          simp only [List.take_succ_cons, List.take_zero, List.drop_succ_cons, List.drop_zero]
          repeat (first | ((with_reducible refine still_skip4 ?hw ?hrest); case hw => rfl; simp only [Act.put, List.setIfInBounds_toArray, List.set_cons_zero, List.set_cons_succ]) | ((with_reducible refine wpStill_step (fun K hK => ?_)); go_simp; refine hK _ ?_; clear hK K))
          try refine wpStill_nil ?_
          go_wp2_with fail
          refine HC.out.mono ?_
          rintro e w9 ⟨rfl, bel9⟩
          have HR9 := Lib.hid (HRD.out.trans (bel9.mono HRD.out.size))
          have HB9 := Lib.hid (HBDD.out.trans (bel9.mono HBDD.out.size))
          clear c0 c1 c2' d0 d1 d2 bel9 HC HWD HRD HBDD HR2 HBZ
          rcases hdir with ⟨hd1, hd2⟩ | ⟨hd1, hd2⟩
          · have g1 : decide (n ≥ 0) = true := by simp; omega
            have g2 : decide (0 ≤ n) = true := by simp; omega
            go_wp2_with fail
            go_roundw
            case rel => exact ⟨k + 1, by omega, by go_num, HR9⟩
            case measure => simp [intOf]; omega
          · have g1 : decide (n ≥ 0) = false := by simp; omega
            have g2 : decide (0 ≤ n) = false := by simp; omega
            subst hd1
            go_upto_region 8 with (fail)
            clear g1 g2 hd2 hk
            -- the row with the mark in it
            obtain ⟨u1, t1, hc1, hr1⟩ := cutM_to (HOR.out.below HR9.out) k (by rw [HSL.out]; exact hqi)
            obtain ⟨r, hr⟩ : ∃ r, r = i - k := ⟨_, rfl⟩
            have hrq : r + k = i := by omega
            clear hr
            obtain ⟨u2, t2, hc2, hr2⟩ := cutM_rest (HOR.out.below HR9.out) k r (by rw [HSL.out]; exact hrq)
            have s1 := fun w' => hc1 w' .i64
            have s2 := fun w' => hc2 w' .i64
            have R1 := Lib.hid hr1
            have R2 := Lib.hid hr2
            have HSX : Hid (∀ w', Below w9.heap.size w9 w' → w'.cell? ⟨b3, off3 + i * 3, none⟩ = some (.string xk) ∧ w'.cell? ⟨b3, off3 + i * 3 + 1, none⟩ = some (.int .u64 xs) ∧ w'.cell? ⟨b3, off3 + i * 3 + 2, none⟩ = some (.bool xg) ∧ Below w9.heap.size w9 w') := fun w' h =>
              let ⟨a, b, c⟩ := HXC.out w' (HB9.out.trans (h.mono HB9.out.size))
              ⟨a, b, c, h⟩
            have hzz : Below w9.heap.size w9 w9 := Below.refl _ _
            have HINS : Hid (sortM (l.take (i + 1)) = (((sortM (l.take i)).take k ++ [⟨xk, xs, xg⟩]) ++ (sortM (l.take i)).drop k)) := by
              show _ = _
              rw [HTK.out, insM, ← HQ.out]
            have hil : i < vn := hlt
            clear hc1 hc2 hr1 hr2
            go_wp2_with fail
            go_region_held3 (fun w' => w'.cell? ⟨b3, off3 + i * 3, none⟩ = some (.string xk) ∧ w'.cell? ⟨b3, off3 + i * 3 + 1, none⟩ = some (.int .u64 xs) ∧ w'.cell? ⟨b3, off3 + i * 3 + 2, none⟩ = some (.bool xg) ∧ Below w9.heap.size w9 w')
              ((go_split_ands; refine HSX.out _ ?_; first | assumption | exact Below.drew hzz | exact Below.alloc (by assumption) (Below.size (by assumption)) _ | exact Below.trans (by assumption) (Grew.below HG.out) | exact Below.trans (by assumption) ((Grew.below HG.out).mono (Below.size (by assumption)))))
              ((first
                | (refine step_app_el4 rfl _ _ rfl Try.underlying38 hi0 hz hz1 hz2 rfl (by omega) w9.heap.size 0 k (.slice none 0 0) (.slice u1 k t1) [] (mcells ((sortM (l.take i)).take k)) (mcells ((sortM (l.take i)).take k)) k rfl rfl (own_none _ _ _ _) (rdM_readsN (R1.out.below (by go_split_ands; assumption))) (one_mcells _) (Nat.zero_add _) rfl (by omega) (by omega) (Below.size (w := w9) (by go_split_ands; assumption)) ?_; intro a1 c1 w7 H1 HG)
                | (refine step_app_el4 rfl _ _ rfl Try.underlying38 hi0 hz hz1 hz2 rfl (by omega) w9.heap.size k 1 (.slice a1 k c1) _ (mcells ((sortM (l.take i)).take k)) (mcell ⟨xk, xs, xg⟩) (mcells ((sortM (l.take i)).take k ++ [⟨xk, xs, xg⟩])) (k + 1) rfl rfl (by first | exact H1.out | exact own_below H1.out (((Below.refl _ _).drew).alloc (Nat.le_refl _) _) | exact own_below H1.out ((Below.refl _ _).alloc (Nat.le_refl _) _)) (by first | exact reads_mk _ ⟨xk, xs, xg⟩ _ | exact reads_of_own (HG.out.keep _ _ _ _ _ _ (own_new _ #[.string xk, .int .u64 (xs : Int), .bool xg] _ 1 3 rfl (by unfold maxLen; omega)) (fun j hj => ⟨(own_lt (own_new _ #[.string xk, .int .u64 (xs : Int), .bool xg] _ 1 3 rfl (by unfold maxLen; omega)) (by omega) j hj).2, by simp [Value.ownBlock]⟩))) (one_mcells [⟨xk, xs, xg⟩]) rfl (by rw [mcells_app]; simp [mcells]) (by omega) (by omega) (Below.size (w := w9) (by go_split_ands; assumption)) ?_; intro a2 c2 w8 H2 HG)
                | (refine step_app_el4 rfl _ _ rfl Try.underlying38 hi0 hz hz1 hz2 rfl (by omega) w9.heap.size (k + 1) r (.slice a2 (k + 1) c2) (.slice u2 r t2) (mcells ((sortM (l.take i)).take k ++ [⟨xk, xs, xg⟩])) (mcells ((sortM (l.take i)).drop k)) (mcells (((sortM (l.take i)).take k ++ [⟨xk, xs, xg⟩]) ++ (sortM (l.take i)).drop k)) (i + 1) rfl rfl H2.out (rdM_readsN (R2.out.below (by go_split_ands; assumption))) (one_mcells _) (by omega) (mcells_app _ _).symm (by omega) (by omega) (Below.size (w := w9) (by go_split_ands; assumption)) ?_; intro a3 c3 w9 H3 HG)))
            all_goals
              rename_i hH
              have hbf := HB9.out.trans (hH.2.2.2.mono HB9.out.size)
              have hrf := (rdM_of (reads_of_own H3.out)).2
              rw [← HINS.out] at hrf
              have HBF := Lib.hid hbf
              have HRF := Lib.hid hrf
              clear hH H1 H2 H3 HG hbf hrf HSX R1 R2 s1 s2
              go_wp2_with fail
              go_roundw
              case rel => exact ⟨i + 1, by omega, by go_num, ⟨a3, c3, rfl, HRF⟩, HBF⟩
              case measure => simp [intOf]; omega
        · have hkq : k = q := by omega
          have e : q = i := by omega
          subst hkq
          have HQE := Lib.hid e
          clear e
          have hd1 : decide ((k : Int) < (i : Int)) = false := by simp; omega
          go_wp2_with fail
          refine still_tail4 (wd := wd) 13 ?hm ?hB ?hwd ?h
          case hm => kernel_rfl
          case hB => kernel_rfl
          case hwd => exact HWD.out
          simp only [List.take_succ_cons, List.take_zero, List.drop_succ_cons, List.drop_zero]
          repeat (first | ((with_reducible refine still_skip4 ?hw ?hrest); case hw => rfl; simp only [Act.put, List.setIfInBounds_toArray, List.set_cons_zero, List.set_cons_succ]) | ((with_reducible refine wpStill_step (fun K hK => ?_)); go_simp; refine hK _ ?_; clear hK K))
          try refine wpStill_nil ?_
          go_upto_region 8 with (fail)
          clear hd1 hk HWD HR2 HBZ
          -- the row with the mark in it
          obtain ⟨u1, t1, hc1, hr1⟩ := cutM_to (HOR.out.below HRD.out) k (by rw [HSL.out]; exact hqi)
          obtain ⟨r, hr⟩ : ∃ r, r = i - k := ⟨_, rfl⟩
          have hrq : r + k = i := by omega
          clear hr
          obtain ⟨u2, t2, hc2, hr2⟩ := cutM_rest (HOR.out.below HRD.out) k r (by rw [HSL.out]; exact hrq)
          have s1 := fun w' => hc1 w' .i64
          have s2 := fun w' => hc2 w' .i64
          have R1 := Lib.hid hr1
          have R2 := Lib.hid hr2
          have HSX : Hid (∀ w', Below wd.heap.size wd w' → w'.cell? ⟨b3, off3 + i * 3, none⟩ = some (.string xk) ∧ w'.cell? ⟨b3, off3 + i * 3 + 1, none⟩ = some (.int .u64 xs) ∧ w'.cell? ⟨b3, off3 + i * 3 + 2, none⟩ = some (.bool xg) ∧ Below wd.heap.size wd w') := fun w' h =>
            let ⟨a, b, c⟩ := HXC.out w' (HBDD.out.trans (h.mono HBDD.out.size))
            ⟨a, b, c, h⟩
          have hzz : Below wd.heap.size wd wd := Below.refl _ _
          have HINS : Hid (sortM (l.take (i + 1)) = (((sortM (l.take i)).take k ++ [⟨xk, xs, xg⟩]) ++ (sortM (l.take i)).drop k)) := by
            show _ = _
            rw [HTK.out, insM, ← HQ.out]
          have hil : i < vn := hlt
          clear hc1 hc2 hr1 hr2
          go_wp2_with fail
          go_region_held3 (fun w' => w'.cell? ⟨b3, off3 + i * 3, none⟩ = some (.string xk) ∧ w'.cell? ⟨b3, off3 + i * 3 + 1, none⟩ = some (.int .u64 xs) ∧ w'.cell? ⟨b3, off3 + i * 3 + 2, none⟩ = some (.bool xg) ∧ Below wd.heap.size wd w')
            ((go_split_ands; refine HSX.out _ ?_; first | assumption | exact Below.drew hzz | exact Below.alloc (by assumption) (Below.size (by assumption)) _ | exact Below.trans (by assumption) (Grew.below HG.out) | exact Below.trans (by assumption) ((Grew.below HG.out).mono (Below.size (by assumption)))))
            ((first
              | (refine step_app_el4 rfl _ _ rfl Try.underlying38 hi0 hz hz1 hz2 rfl (by omega) wd.heap.size 0 k (.slice none 0 0) (.slice u1 k t1) [] (mcells ((sortM (l.take i)).take k)) (mcells ((sortM (l.take i)).take k)) k rfl rfl (own_none _ _ _ _) (rdM_readsN (R1.out.below (by go_split_ands; assumption))) (one_mcells _) (Nat.zero_add _) rfl (by omega) (by omega) (Below.size (w := wd) (by go_split_ands; assumption)) ?_; intro a1 c1 w7 H1 HG)
              | (refine step_app_el4 rfl _ _ rfl Try.underlying38 hi0 hz hz1 hz2 rfl (by omega) wd.heap.size k 1 (.slice a1 k c1) _ (mcells ((sortM (l.take i)).take k)) (mcell ⟨xk, xs, xg⟩) (mcells ((sortM (l.take i)).take k ++ [⟨xk, xs, xg⟩])) (k + 1) rfl rfl (by first | exact H1.out | exact own_below H1.out (((Below.refl _ _).drew).alloc (Nat.le_refl _) _) | exact own_below H1.out ((Below.refl _ _).alloc (Nat.le_refl _) _)) (by first | exact reads_mk _ ⟨xk, xs, xg⟩ _ | exact reads_of_own (HG.out.keep _ _ _ _ _ _ (own_new _ #[.string xk, .int .u64 (xs : Int), .bool xg] _ 1 3 rfl (by unfold maxLen; omega)) (fun j hj => ⟨(own_lt (own_new _ #[.string xk, .int .u64 (xs : Int), .bool xg] _ 1 3 rfl (by unfold maxLen; omega)) (by omega) j hj).2, by simp [Value.ownBlock]⟩))) (one_mcells [⟨xk, xs, xg⟩]) rfl (by rw [mcells_app]; simp [mcells]) (by omega) (by omega) (Below.size (w := wd) (by go_split_ands; assumption)) ?_; intro a2 c2 w8 H2 HG)
              | (refine step_app_el4 rfl _ _ rfl Try.underlying38 hi0 hz hz1 hz2 rfl (by omega) wd.heap.size (k + 1) r (.slice a2 (k + 1) c2) (.slice u2 r t2) (mcells ((sortM (l.take i)).take k ++ [⟨xk, xs, xg⟩])) (mcells ((sortM (l.take i)).drop k)) (mcells (((sortM (l.take i)).take k ++ [⟨xk, xs, xg⟩]) ++ (sortM (l.take i)).drop k)) (i + 1) rfl rfl H2.out (rdM_readsN (R2.out.below (by go_split_ands; assumption))) (one_mcells _) (by omega) (mcells_app _ _).symm (by omega) (by omega) (Below.size (w := wd) (by go_split_ands; assumption)) ?_; intro a3 c3 w9 H3 HG)))
          all_goals
            rename_i hH
            have hbf := HBDD.out.trans (hH.2.2.2.mono HBDD.out.size)
            have hrf := (rdM_of (reads_of_own H3.out)).2
            rw [← HINS.out] at hrf
            have HBF := Lib.hid hbf
            have HRF := Lib.hid hrf
            clear hH H1 H2 H3 HG hbf hrf HSX R1 R2 s1 s2
            go_wp2_with fail
            go_roundw
            case rel => exact ⟨i + 1, by omega, by go_num, ⟨a3, c3, rfl, HRF⟩, HBF⟩
            case measure => simp [intOf]; omega
    · obtain rfl : i = vn := by omega
      have e : l.take i = l := List.take_of_length_le (by rw [← HVN.out]; exact Nat.le_refl _)
      rw [e] at HOR
      go_wp2_with fail
      go_ret
      exact ⟨oa, i, oc, rfl, rfl, HOR, HB.out⟩
end Go.Proofs.Ytafgioidneohhaa

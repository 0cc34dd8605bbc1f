/- Walks of package blocks: Get. The condition: bytes of at most 2^28. -/
import Derived.Test.YtbcnapkbdbefhaaBlkQ
namespace Go.Proofs.Ytbcnapkbdbefhaa
open Go.RowKit

theorem i64_or_small (a b : Nat) (ha : a < 65536) (hb : b < 65536) : bits .or .i64 (a : Int) (b : Int) = ((a ||| b : Nat) : Int) := by
  have hx : a ||| b < 2 ^ 16 := Nat.or_lt_two_pow (by omega) (by omega)
  show IntKind.i64.wrap ((BitVec.ofInt 64 (a : Int) ||| BitVec.ofInt 64 (b : Int)).toNat : Int) = _
  rw [BitVec.toNat_or, ofInt_u64 a (by omega), ofInt_u64 b (by omega)]
  exact IntWalk.i64_in _ (by omega)
theorem step_app_b9 {ops : Array Oper} {o : Oper} {a : Act} {w : World} {K : Act → World → Prop} {Q : Exit → Act → World → Prop} {E : Prop} (hgd : o.guard = none) (s x : Operand) {t e : TypeId} {i : TypeInfo} {z : Value} {sz by_ : Nat}
    (ho : o.op = .call { callee := .builtin .append, args := #[s, x], argTypes := #[t, t] }) (ht : Try.prog.underlying t = some (.slice e)) (hi : Try.prog.info? e = some i) (hz : i.zero = some z) (hs : i.size = sz) (hb : i.bytes = by_) (hzs : z.cells.size = sz) (hsz : 0 < sz)
    (base n m : Nat) (v v2 : Value) (xs ys zs : List Value) (r : Nat) (hs' : a.eval s = v) (hx : a.eval x = v2) (hown : Own w base e sz v n xs) (hrd : Reads w sz v2 m ys) (h1 : ∀ u ∈ ys, u.oneCell' = true)
    (hr : n + m = r) (hzz : xs ++ ys = zs) (hlen : r * by_ ≤ 140737488355328) (hnm : r ≤ 9223372036854775807) (hbase : base ≤ w.heap.size)
    (h : ∀ b c w', Hid (Own w' base e sz (.slice b r c) r zs) → Hid (Grew w w' base v (.slice b r c)) → K (a.put o.dst (.slice b r c)) w') : if Region.wanted o (yielded ops a.tmps) = true then Oper.wp Try.prog o a w K Q else E := by
  subst hr hzz
  have hw : Region.wanted o (yielded ops a.tmps) = true := by simp [Region.wanted, hgd]
  rw [if_pos hw]
  obtain ⟨v', w', hr, h2, h3, h4, h5⟩ := run_app2 (P := Try.prog) w base t o.type e i z sz by_ ht hi hz hs hb hzs hsz v n xs hown v2 m ys hrd h1 hlen hnm hbase
  unfold Oper.wp execOp
  simp only [ho, resolve, invoke, builtin, Sem.run_bind, Sem.run_pure, Result.andThen_ok, List.map_toArray, List.map_cons, List.map_nil, hs', hx, hr]
  obtain ⟨b, c, rfl⟩ := (reads_of_own h2).slice
  exact h b c w' h2 (grew_of h4 h3 h5)
set_option maxRecDepth 100000 in
theorem info_ent : (Try.prog.info? 37).map (fun i => (i.zero, i.size, i.bytes)) = some (some (.agg #[.string ⟨#[]⟩, .int .u64 0, .bool false, .string ⟨#[]⟩]), 4, 48) := by kernel_rfl
theorem reads_ent (w : World) (x : PE) (ty : TypeId) : Reads (w.alloc (.cells #[.string x.k, .int .u64 x.s, .bool x.g, .string x.u] ty)) 4 (.slice (some ⟨w.heap.size, 0, none⟩) 1 1) 1 (pcell x) :=
  reads_new w _ ty 1 4 rfl (by unfold maxLen; omega)
theorem rd_take {w : World} {a : Addr} {n c : Nat} {l : List UInt8} (h : Rd w (.slice (some a) n c) l) (k : Nat) (hk : k ≤ n) : Rd w (.slice (some a) k k) (l.take k) := by
  obtain ⟨a', cap, e, h1, h2, h3⟩ := h
  simp only [Value.slice.injEq] at e
  obtain ⟨rfl, rfl, rfl⟩ := e
  have hl : (l.take k).length = k := by rw [List.length_take]; omega
  refine ⟨_, k, by rw [hl], by rw [hl]; exact Nat.le_refl _, by omega, fun j hj => ?_⟩
  obtain ⟨b, off, e, hc⟩ := h3 j (by omega)
  exact ⟨b, off, e, by rw [hc]; simp⟩
/-- what Get answers -/
def RetGetB (b : List UInt8) (w : World) (e : Ending) (w' : World) : Prop :=
  Below w.heap.size w w' ∧ ((∃ E, mayL E = true ∧ (∀ x ∈ E, x.seq < 18446744073709551616) ∧ blkPut E = b ∧ ∃ a n c, e = .returned (.tuple #[.slice a n c, .int .i64 0]) ∧ Hid (n = E.length) ∧ Hid (Own w' w.heap.size 37 4 (.slice a n c) n (pcells (E.map toPE)))) ∨
    ((∀ E, mayL E = true → (∀ x ∈ E, x.seq < 18446744073709551616) → blkPut E ≠ b) ∧ e = .returned (.tuple #[.slice none 0 0, .int .i64 4])))
def lenV : Value → Nat
  | .slice _ n _ => n
  | _ => 0
set_option maxRecDepth 100000 in
set_option maxHeartbeats 4000000 in
theorem blocksGet_any (w : World) (v : Value) (b : List UInt8) (hv : Rd w v b) (hl : b.length ≤ 268435456) : Calls Try.prog 22 #[v] w (RetGetB b w) := by
  have HV := Lib.hid hv
  obtain ⟨va, vn, vc, rfl, hvn⟩ := rd_len hv
  have HVN := Lib.hid hvn
  rw [← hvn] at hl
  clear hvn hv
  by_cases hs : vn < 2
  · have HF : Hid (∀ E, mayL E = true → (∀ x ∈ E, x.seq < 18446744073709551616) → blkPut E ≠ b) := fun E hm _ hb => by have := (blk_cut hm hb).1; have := HVN.out; omega
    go_enter Try.func22, Try.ntmps22
    go_wp2
    go_ret2
    exact ⟨Below.refl _ _, .inr ⟨HF.out, rfl⟩⟩
  obtain ⟨en, hen⟩ : ∃ n, n = vn - 2 := ⟨_, rfl⟩
  have he1 : ((vn : Int) - 2) = (en : Int) := by omega
  obtain ⟨a', c', e1, hvc, _, hcell⟩ := HV.out
  obtain ⟨bb, off, hae, d0⟩ := hcell en (by have := HVN.out; omega)
  obtain ⟨b2, off2, hae2, d1⟩ := hcell (en + 1) (by have := HVN.out; omega)
  simp only [Value.slice.injEq] at e1
  obtain ⟨e1, el, ec⟩ := e1
  rw [hae] at hae2
  cases hae2
  rw [hae] at e1
  subst e1
  rw [← el, ← ec] at hvc
  clear el ec hcell hae
  obtain ⟨X, hX⟩ : ∃ X, X = (b[en]'(by have := HVN.out; omega)).toNat := ⟨_, rfl⟩
  obtain ⟨Y, hY⟩ : ∃ X, X = (b[en + 1]'(by have := HVN.out; omega)).toNat := ⟨_, rfl⟩
  rw [← hX] at d0
  rw [← hY] at d1
  have hX256 : X < 256 := by rw [hX]; exact UInt8.toNat_lt _
  have hY256 : Y < 256 := by rw [hY]; exact UInt8.toNat_lt _
  have hnum : numB b = X * 256 + Y := by
    unfold numB
    rw [show b.length - 2 = en from by have := HVN.out; omega, show b.length - 1 = en + 1 from by have := HVN.out; omega, getD_at _ _ (by have := HVN.out; omega), getD_at _ _ (by have := HVN.out; omega), hX, hY]
  clear hX hY
  have HEN := Lib.hid hen
  clear hen
  have hor : bits BinOp.or IntKind.i64 ((X : Int) * 256) (Y : Int) = ((X * 256 + Y : Nat) : Int) := by
    rw [show (X : Int) * 256 = ((X * 256 : Nat) : Int) from by omega, i64_or_small _ _ (by omega) (by omega), show X * 256 ||| Y = X * 256 + Y from or_low X Y 8 hY256]
  obtain ⟨num, hnu⟩ : ∃ n, n = X * 256 + Y := ⟨_, rfl⟩
  rw [← hnu] at hnum hor
  have hnl : num < 65536 := by omega
  have HNUM := Lib.hid hnum
  clear hnum
  have hb1 : ((en : Int) + 1) < (vn : Int) := by omega
  have hb0 : ((en : Int)) < (vn : Int) := by omega
  go_enter Try.func22, Try.ntmps22
  go_upto_region 4 with (fail)
  go_quiet (fail)
  rw [show ((X : Int) * 256 + (Y : Int)) = (num : Int) from by omega]
  clear hnu hX256 hY256
  have hdw := drewN_below w nq
  obtain ⟨W, hW⟩ : ∃ W, W = w.drewN nq := ⟨_, rfl⟩
  rw [← hW] at hdw ⊢
  clear hW d0 d1 hor
  by_cases hneg : en < 2 * num
  · have hd : decide ((en : Int) - 2 * (num : Int) < 0) = true := by simp; omega
    have HF : Hid (∀ E, mayL E = true → (∀ x ∈ E, x.seq < 18446744073709551616) → blkPut E ≠ b) := fun E hm _ hb => by have := (blk_cut hm hb).2.1; have := HVN.out; have := HNUM.out; have := HEN.out; omega
    go_wp2
    go_ret2
    exact ⟨hdw, .inr ⟨HF.out, rfl⟩⟩
  obtain ⟨rn, hrn⟩ : ∃ n, n = en - 2 * num := ⟨_, rfl⟩
  have hrr : (en : Int) - 2 * (num : Int) = (rn : Int) := by omega
  rw [hrr]
  have HRN := Lib.hid hrn
  have hrv : rn ≤ vn := by omega
  clear hrr hneg hrn
  obtain ⟨r0, hr0⟩ : ∃ r, r = b.take rn := ⟨_, rfl⟩
  have hr0l : r0.length = rn := by rw [hr0, List.length_take]; have := HVN.out; omega
  have HR0 : Hid (Rd w (.slice (some ⟨bb, off, none⟩) rn rn) r0) := by rw [hr0]; exact rd_take HV.out rn hrv
  have HRL : Hid (r0.length ≤ 268435456) := by show _ ≤ _; omega
  have HRE : Hid (∀ E, mayL E = true → (∀ x ∈ E, x.seq < 18446744073709551616) → blkPut E = b → r0 = bodyN E E.length) := fun E hm _ hb => by
    have := (blk_cut hm hb).2.2
    rw [HNUM.out] at this
    rw [← this, hr0]
    congr 1
    have := HVN.out; have := HEN.out; have := HRN.out; omega
  have hrc : rn ≤ vc := by omega
  clear hr0 hr0l hrv HRN HEN HNUM hnl hb1 hb0
  go_upto_region 8 with (fail)
  obtain ⟨W1, hW1⟩ : ∃ x, x = W.alloc (.cells #[.slice (some ⟨bb, off, none⟩) rn rn, .bool false] 93) := ⟨_, rfl⟩
  have hRd : Rdb W1 W.heap.size (.slice (some ⟨bb, off, none⟩) rn rn) false := by rw [hW1]; exact Blk.new _ _ _
  have hb1 : Below w.heap.size w W1 := by rw [hW1]; exact hdw.alloc hdw.size _
  have hgb : W.heap.size < W1.heap.size := by rw [hW1]; simp
  have hgw := hdw.size
  rw [← hW1]
  obtain ⟨g, hg⟩ : ∃ g, g = W.heap.size := ⟨_, rfl⟩
  rw [← hg] at hRd hgb hgw ⊢
  have HRD := Lib.hid hRd
  have HB1 := Lib.hid hb1
  clear hW1 hg hRd hb1 hrc hdw he1
  obtain ⟨base, hba⟩ : ∃ x, x = W1.heap.size := ⟨_, rfl⟩
  rw [← hba] at hgb
  have HBA := Lib.hid hba
  clear hba
  obtain ⟨i0, hi0, hz, hz1, hz2⟩ := info_parts info_ent
  go_wp2_with fail
  show Code.wp _ _ _ _ _
  go_loopw [2, 6] (fun lv sv wr => ∃ i : Nat, i ≤ 65 ∧ (∃ la lc, lv = .slice la i lc ∧ Hid (Own wr base 37 4 (.slice la i lc) i (pcells ((pst r0 i).1.map toPE)))) ∧ (∃ K : ByteArray, sv = .string K ∧ Hid (K = bs (pst r0 i).2.1)) ∧
      (∃ ra rn rc, Hid (Rdb wr g (.slice ra rn rc) (pst r0 i).2.2.2) ∧ Hid (Rd w (.slice ra rn rc) (pst r0 i).2.2.1)) ∧ Hid (Below w.heap.size w wr) ∧ Hid (base ≤ wr.heap.size) ∧ Hid (∀ j, j < i → (pst r0 j).2.2.1 ≠ []) ∧ Hid (Apart wr lv (.slice none 0 0)))
      (fun lv _ _ => 65 - lenV lv)
  case atStart => exact ⟨0, by omega, ⟨none, 0, rfl, own_none _ _ _ _⟩, ⟨_, rfl, rfl⟩, ⟨_, _, _, HRD, HR0⟩, HB1, by rw [HBA.out]; exact Nat.le_refl _, fun j hj => by omega, Apart.none _ _⟩
  case round =>
    obtain ⟨i, hi, ⟨la, lc, rfl, HO⟩, ⟨K, rfl, HK⟩, ⟨ra, rn, rc, HR, HRV⟩, HB, HS, HI, HAP⟩ := hrel
    have hbd := pst_bounds r0 i
    obtain ⟨L, s, r, bad, hp⟩ : ∃ L s r bad, pst r0 i = (L, s, r, bad) := ⟨_, _, _, _, rfl⟩
    rw [hp] at HO HK HR HRV hbd
    have HP := Lib.hid hp
    have hrn : rn = r.length := by obtain ⟨_, _, e, _⟩ := HRV.out; simp only [Value.slice.injEq] at e; exact e.2.1
    have HRN := Lib.hid hrn
    have HBD := Lib.hid hbd
    have hKs : K.size = s.length := by rw [HK.out, bs_size]
    have hrl := HRL.out
    have hKl : K.size ≤ 268435456 := by rw [hKs]; simp only at hbd; omega
    have hrrl : rn ≤ 268435456 := by rw [hrn]; simp only at hbd; omega
    clear hp hbd hKs hrl hrn
    have g0 := Blk.cellv HR.out 0 (.slice ra rn rc) rfl
    have g1 := Blk.cellv HR.out 1 (.bool bad) rfl
    by_cases hgo : 0 < rn ∧ bad = false ∧ i ≤ 64
    · obtain ⟨hg1, rfl, hg3⟩ := hgo
      have hd1 : decide ((0 : Int) < (rn : Int)) = true := by simp; omega
      have hd2 : decide ((i : Int) ≤ 64) = true := by simp; omega
      have hen := entryB_any w wr g _ K r false HR.out HRV.out HB.out hgw (by omega) (by rw [← HRN.out]; omega)
      rw [HK.out, bs_data] at hen
      obtain ⟨y, hy⟩ : ∃ y, y = toPE (rdE s r false).1 := ⟨_, rfl⟩
      have hye : entVals (rdE s r false).1 = #[.string y.k, .int .u64 y.s, .bool y.g, .string y.u] := by rw [hy]; rfl
      rw [hye, ← HK.out] at hen
      have HEN := Lib.hid hen
      have HY := Lib.hid hy
      clear hen hy hye
      obtain ⟨yk, ys, yg, yu⟩ := y
      go_wp2_with fail
      refine HEN.out.mono ?_
      rintro e w2 ⟨v2, rfl, R2, V2, B2, O2⟩
      obtain ⟨ra2, rn2, rc2, rfl, hrn2⟩ := rd_len V2.out
      clear g0 g1 hrn2 HEN HR HRV
      have HO2 := Lib.hid (own_other HO.out O2.out hgb)
      have HA2 := Lib.hid (HAP.out.later O2.out.size)
      have hs2 : base ≤ w2.heap.size := Nat.le_trans HS.out O2.out.size
      have hbw2 : w.heap.size ≤ w2.heap.size := B2.out.size
      have HHS2 := Lib.hid hs2
      have HHB2 := Lib.hid hbw2
      clear hs2 hbw2 O2 HO HAP HB HS
      go_upto_region 11 with (fail)
      obtain ⟨w3, hw3⟩ : ∃ x, x = w2.alloc (.cells #[.string yk, .int .u64 ys, .bool yg, .string yu] 37) := ⟨_, rfl⟩
      have hY3 : Blk w3 w2.heap.size #[.string yk, .int .u64 ys, .bool yg, .string yu] 37 := by rw [hw3]; exact Blk.new _ _ _
      have hb23 : Below w2.heap.size w2 w3 := by rw [hw3]; exact (Below.refl _ _).alloc (Nat.le_refl _) _
      have hlt3 : w2.heap.size < w3.heap.size := hY3.lt
      rw [← hw3]
      obtain ⟨cY, hcY⟩ : ∃ x, x = w2.heap.size := ⟨_, rfl⟩
      have hAY : Away w3 cY (.slice la i lc) := fun j hj => by
        simp only [Value.ownBlock, Option.some.injEq] at hj
        subst hj
        exact ⟨by omega, fun e => by have := (HA2.out _ e).1; omega⟩
      have HAY := Lib.hid hAY
      have HO3 := Lib.hid (own_below HO2.out hb23)
      have HR3 := Lib.hid (Blk.below R2.out hb23)
      have hB3 : Below w.heap.size w w3 := B2.out.trans (hb23.mono HHB2.out)
      have hS3 : base ≤ w3.heap.size := Nat.le_trans HHS2.out hb23.size
      have HB3 := Lib.hid hB3
      have HS3 := Lib.hid hS3
      rw [← hcY] at hY3 ⊢
      have HY3 := Lib.hid hY3
      have HAL : Hid (∀ o, Below w3.heap.size w3 (w3.drew.alloc o)) := fun o => (Below.refl _ _).drew.alloc (Nat.le_refl _) _
      have HDR : Hid (Below w3.heap.size w3 w3.drew) := (Below.refl _ _).drew
      have HSS : Hid (∀ w', Blk w' cY #[.string yk, .int .u64 ys, .bool yg, .string yu] 37 → w'.cell? ⟨cY, 0, none⟩ = some (.string yk) ∧ w'.cell? ⟨cY, 1, none⟩ = some (.int .u64 ys) ∧ w'.cell? ⟨cY, 2, none⟩ = some (.bool yg) ∧ w'.cell? ⟨cY, 3, none⟩ = some (.string yu)) :=
        fun w' h => ⟨h.cellv 0 _ rfl, h.cellv 1 _ rfl, h.cellv 2 _ rfl, h.cellv 3 _ rfl⟩
      obtain ⟨y0, y1, y2, y3⟩ := HSS.out w3 HY3.out
      clear hY3 hb23 hlt3 hAY hB3 hS3 hcY hw3 HO2 HA2 R2 B2 HHS2 HHB2
      go_region_held3 (fun w' => w'.cell? ⟨cY, 0, none⟩ = some (.string yk) ∧ w'.cell? ⟨cY, 1, none⟩ = some (.int .u64 ys) ∧ w'.cell? ⟨cY, 2, none⟩ = some (.bool yg) ∧ w'.cell? ⟨cY, 3, none⟩ = some (.string yu))
        ((go_split_ands; refine HSS.out _ ?_; first | exact HG.out.blk (HY3.out.below (HAL.out _)) (HAY.out.later (HAL.out _).size) | exact HY3.out.below HDR.out | exact HY3.out.below (HAL.out _)))
        ((refine step_app_b9 rfl _ _ rfl Try.underlying22 hi0 hz hz1 hz2 rfl (by omega) base i 1 (.slice la i lc) _ (pcells (L.map toPE)) (pcell ⟨yk, ys, yg, yu⟩) (pcells (L.map toPE ++ [⟨yk, ys, yg, yu⟩])) (i + 1) rfl rfl (own_below HO3.out (HAL.out _)) (reads_ent _ ⟨yk, ys, yg, yu⟩ _) (one_pcells [⟨yk, ys, yg, yu⟩]) rfl (by rw [pcells_app]; simp [pcells]) (by omega) (by omega) (by have := HS3.out; simp; omega) ?_; intro ua uc w4 HU HG))
      have hb4 := HG.out.below
      have HRF : Hid (Rdb w4 g (.slice ra2 rn2 rc2) (rdE s r false).2.2) := blk_under (HR3.out.below (HAL.out _)) hgb hb4
      have HBF : Hid (Below w.heap.size w w4) := (HB3.out.trans ((HAL.out _).mono HB3.out.size)).trans (hb4.mono (Nat.le_trans hgw (Nat.le_of_lt hgb)))
      have HSF : Hid (base ≤ w4.heap.size) := Nat.le_trans (Nat.le_trans HS3.out (HAL.out _).size) hb4.size
      have HAF : Hid (Apart w4 (.slice ua (i + 1) uc) (.slice none 0 0)) := fun j hj => ⟨(own_lt HU.out (Nat.succ_pos _) j hj).2, by simp [Value.ownBlock]⟩
      have HP1 : Hid (pst r0 (i + 1) = (L ++ [(rdE s r false).1], (rdE s r false).1.key, (rdE s r false).2.1, (rdE s r false).2.2)) := by show _ = _; rw [pst, HP.out]
      have HIF : Hid (∀ j, j < i + 1 → (pst r0 j).2.2.1 ≠ []) := fun j hj => by
        by_cases e : j = i
        · subst e; rw [HP.out]; simp only; intro e2; have := HRN.out; rw [e2] at this; simp at this; omega
        · exact HI.out j (by omega)
      clear hb4 HG HAY HO3 HR3 HB3 HS3 HY3 HAL HDR HSS y0 y1 y2 y3 hd1 hd2
      go_wp2_with fail
      refine ⟨⟨i + 1, by omega, ⟨ua, uc, rfl, by rw [HP1.out, List.map_append, List.map_cons, List.map_nil, ← HY.out]; exact HU⟩, ⟨yk, rfl, by rw [HP1.out]; show yk = _; have := HY.out; simp only [toPE, PE.mk.injEq] at this; exact this.1⟩, ⟨ra2, rn2, rc2, by rw [HP1.out]; exact HRF, by rw [HP1.out]; exact V2⟩, HBF, HSF, HIF, HAF⟩, by simp [lenV]; omega⟩
    · have HEND : Hid (r = [] ∨ bad = true ∨ 64 < i) := by
        by_cases h1 : r = []
        · exact .inl h1
        · by_cases h2 : bad = true
          · exact .inr (.inl h2)
          · refine .inr (.inr ?_)
            have : 0 < rn := by rw [HRN.out]; exact List.length_pos_iff.2 h1
            by_cases h3 : i ≤ 64
            · exact absurd ⟨this, by simpa using h2, h3⟩ hgo
            · omega
      have HPUT : Hid (∀ w', Below w.heap.size w w' → RdE w' (.slice la i lc) (L.map toPE) → Calls Try.prog 32 #[.slice la i lc] w' (RetPut L w')) := fun w' _ hr => by
        have := blocksPut_any w' _ (L.map toPE) hr (fun x hx => by
          obtain ⟨y, hy, rfl⟩ := List.mem_map.1 hx
          exact ((HBD.out).2 y hy).2.2)
        rw [entsOf_toPE] at this
        exact this
      have HFAIL : Hid (∀ E, mayL E = true → (∀ x ∈ E, x.seq < 18446744073709551616) → blkPut E = b → L = E ∧ bad = false) := fun E hm hsq hb => by
        have := get_end hm hsq (HRE.out E hm hsq hb) HI.out (by rw [HP.out]; exact HEND.out)
        rw [HP.out] at this
        exact this
      have HLI : Hid (L.length = i) := by have := pst_length r0 i; rw [HP.out] at this; exact this
      have HRDE := Lib.hid (rdE_of (reads_of_own HO.out)).2
      cases bad
      · have hways : rn = 0 ∨ (0 < rn ∧ 64 < i) := by
          by_cases h1 : rn = 0
          · exact .inl h1
          · refine .inr ⟨by omega, ?_⟩
            by_cases h3 : i ≤ 64
            · exact absurd ⟨by omega, rfl, h3⟩ hgo
            · omega
        have HFAIL2 : Hid (∀ E, mayL E = true → (∀ x ∈ E, x.seq < 18446744073709551616) → blkPut E = b → L = E) := fun E h1 h2 h3 => (HFAIL.out E h1 h2 h3).1
        have HSQ : Hid (∀ x ∈ L, x.seq < 18446744073709551616) := fun x hx => (HBD.out.2 x hx).2.2
        clear hgo HEND HRE HP HI HRV HRN HR0 HRL HFAIL
        rcases hways with hw | ⟨hw, hw2⟩
        case' inl =>
          have hd1 : decide ((0 : Int) < (rn : Int)) = false := by simp; omega
        case' inr =>
          have hd1 : decide ((0 : Int) < (rn : Int)) = true := by simp; omega
          have hd2 : decide ((i : Int) ≤ 64) = false := by simp; omega
        all_goals
          go_upto_region 12 with (fail)
          try clear hd2
          clear hd1 g0 g1
          go_wp2_with fail
          refine (HPUT.out wr HB.out HRDE.out).mono ?_
          rintro e w5 ⟨bel5, hput⟩
          have hb5 := HB.out.trans (bel5.mono HB.out.size)
          have HB5 := Lib.hid hb5
          have g1 := Blk.cellv (Blk.below HR.out bel5) 1 (.bool false) rfl
          have HO5 := Lib.hid (own_below HO.out bel5)
          have HVB := Lib.hid (HV.out.below hb5)
          clear bel5 hb5
          rcases hput with ⟨hm, pa, pn, pc, rfl, HPN, HPO⟩ | ⟨hm, rfl⟩
          · have HPR := Lib.hid (rd_of_own HPO.out).2
            have HMM := Lib.hid hm
            have heq := bytesEqual_any w5 _ _ (blkPut L) b HPR.out HVB.out
            cases hc : decide (blkPut L = b)
            · rw [hc] at heq
              have HEQ := Lib.hid heq
              have hne : blkPut L ≠ b := by simpa using hc
              have HF : Hid (∀ E, mayL E = true → (∀ x ∈ E, x.seq < 18446744073709551616) → blkPut E ≠ b) := fun E h1 h2 h3 => hne (by rw [HFAIL2.out E h1 h2 h3]; exact h3)
              clear heq hne hc hm HPO HPN
              go_upto_region 13 with (fail)
              go_wp2_with fail
              refine HEQ.out.mono ?_
              rintro e w6 ⟨rfl, rfl⟩
              go_wp2
              go_ret2
              exact ⟨HB5.out, .inr ⟨HF.out, rfl⟩⟩
            · rw [hc] at heq
              have HEQ := Lib.hid heq
              have heb : blkPut L = b := by simpa using hc
              have HEB := Lib.hid heb
              clear heq heb hc hm HPO HPN
              go_upto_region 13 with (fail)
              go_wp2_with fail
              refine HEQ.out.mono ?_
              rintro e w6 ⟨rfl, rfl⟩
              go_wp2
              go_ret2
              exact ⟨HB5.out, .inl ⟨L, HMM.out, HSQ.out, HEB.out, la, i, lc, rfl, HLI.out.symm, own_mono HO5.out (Nat.le_trans hgw (Nat.le_of_lt hgb))⟩⟩
          · have HF : Hid (∀ E, mayL E = true → (∀ x ∈ E, x.seq < 18446744073709551616) → blkPut E ≠ b) := fun E h1 h2 h3 => by
              rw [HFAIL2.out E h1 h2 h3, h1] at hm; cases hm
            clear hm
            go_upto_region 13 with (fail)
            go_wp2
            go_ret2
            exact ⟨HB5.out, .inr ⟨HF.out, rfl⟩⟩
      · have HF : Hid (∀ E, mayL E = true → (∀ x ∈ E, x.seq < 18446744073709551616) → blkPut E ≠ b) := fun E h1 h2 h3 => by
          have := (HFAIL.out E h1 h2 h3).2; cases this
        clear hgo HEND HRE HP HI HRV HRN HR0 HRL HFAIL
        rcases Nat.eq_zero_or_pos rn with hw | hw
        case' inl =>
          have hd1 : decide ((0 : Int) < (rn : Int)) = false := by simp; omega
        case' inr =>
          have hd1 : decide ((0 : Int) < (rn : Int)) = true := by simp; omega
        all_goals
          go_upto_region 12 with (fail)
          try clear hd2
          clear hd1 g0 g1
          go_wp2_with fail
          refine (HPUT.out wr HB.out HRDE.out).mono ?_
          rintro e w5 ⟨bel5, hput⟩
          have hb5 := HB.out.trans (bel5.mono HB.out.size)
          have HB5 := Lib.hid hb5
          have g1 := Blk.cellv (Blk.below HR.out bel5) 1 (.bool true) rfl
          have HO5 := Lib.hid (own_below HO.out bel5)
          have HVB := Lib.hid (HV.out.below hb5)
          clear bel5 hb5
          rcases hput with ⟨hm, pa, pn, pc, rfl, HPN, HPO⟩ | ⟨hm, rfl⟩
          all_goals
            clear hm
            go_upto_region 13 with (fail)
            go_wp2
            go_ret2
            exact ⟨HB5.out, .inr ⟨HF.out, rfl⟩⟩
end Go.Proofs.Ytbcnapkbdbefhaa

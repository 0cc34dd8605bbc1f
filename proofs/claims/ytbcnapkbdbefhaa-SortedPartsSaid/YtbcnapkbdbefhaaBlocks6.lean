/- Walks of package blocks: Put's closure. The condition: a slice of entries, keys and values that are not too long. -/
import Derived.Test.YtbcnapkbdbefhaaBlocks5
import Derived.Deep.Cut
namespace Go.Proofs.Ytbcnapkbdbefhaa
open Go.RowKit

theorem extract_drop (s : ByteArray) (n : Nat) : (s.extract n s.size).data.toList = s.data.toList.drop n := by
  rw [ByteArray.data_extract, Array.toList_extract, List.extract_eq_take_drop]
  exact List.take_of_length_le (by rw [List.length_drop, Array.length_toList]; exact Nat.le_refl _)
theorem eput_pos (x : Ent) : 1 ≤ (eput x).length := by
  unfold eput
  simp only [List.length_append, List.length_cons]
  omega
set_option maxRecDepth 100000 in
set_option maxHeartbeats 4000000 in
theorem putStep_any (w0 w : World) (base cP cB cL : Nat) (v : Value) (l : List PE) (k : Nat) (x : PE) (P : List Nat) (B : List UInt8) (pa : Option Addr) (np pc : Nat) (ba : Option Addr) (nb bc : Nat) (h : PutSt w0 base cP cB cL v P B w pa np pc ba nb bc)
    (hvs : PutVs w0 base cP cB cL) (hv : RdE w0 v l) (hk : k < l.length) (hx : x = l[k]) (hlen : l.length ≤ 1048576) (hall : ∀ x ∈ l, x.k.size ≤ 1048576 ∧ x.u.size ≤ 1048576 ∧ x.s < 18446744073709551616) (hbody : B.length ≤ 1073741824) (hpl : P.length ≤ 1048576) :
    Calls Try.prog 60 #[.int .i64 k, x.agg, .pointer (some ⟨cP, 0, none⟩), .pointer (some ⟨cB, 0, none⟩), .pointer (some ⟨cL, 0, none⟩)] w fun e w' =>
      e = .returned (.tuple #[]) ∧ ∃ pa np pc ba nb bc, PutSt w0 base cP cB cL v (P ++ (if k % 4 = 0 then [B.length] else [])) (B ++ encAt (entsOf l) k) w' pa np pc ba nb bc := by
  have HE : Hid (atE (entsOf l) k = x.ent) := by show _ = _; rw [entsOf_at l k hk, hx]
  obtain ⟨xk, xs, xg, xu⟩ := x
  have HALL := Lib.hid hall
  have hxm : (⟨xk, xs, xg, xu⟩ : PE) ∈ l := by rw [hx]; exact List.getElem_mem hk
  obtain ⟨hxk, hxu, hxs⟩ := hall _ hxm
  simp only at hxk hxu hxs
  clear hx hall
  simp only [PE.agg]
  obtain ⟨i0, hi, hz, hz1, hz2⟩ := info_parts info_i64
  have hal : Below w.heap.size w (w.alloc (.cells #[.string xk, .int .u64 xs, .bool xg, .string xu] 37)) := (Below.refl _ _).alloc (Nat.le_refl _) _
  obtain ⟨W, hW⟩ : ∃ W, W = w.alloc (.cells #[.string xk, .int .u64 xs, .bool xg, .string xu] 37) := ⟨_, rfl⟩
  have hX : Blk W w.heap.size #[.string xk, .int .u64 xs, .bool xg, .string xu] 37 := by rw [hW]; exact Blk.new _ _ _
  rw [← hW] at hal
  have HW := Lib.hid hW
  have hs := h.later hal
  have hwx := hX.lt
  have hap : Away W w.heap.size (.slice pa np pc) := fun j hj => by
    simp only [Value.ownBlock, Option.some.injEq] at hj
    subst hj
    exact ⟨hwx, fun e => by have := (h.pb _ e).1; omega⟩
  have hab : Away W w.heap.size (.slice ba nb bc) := fun j hj => by
    simp only [Value.ownBlock, Option.some.injEq] at hj
    subst hj
    exact ⟨hwx, fun e => by have := (h.bp _ e).1; omega⟩
  have hcx : w0.heap.size ≤ w.heap.size ∧ w.heap.size ≠ cP ∧ w.heap.size ≠ cB ∧ w.heap.size ≠ cL := by
    have := h.sz; have := hvs.p1; have := hvs.b1; have := hvs.l1
    exact ⟨h.bel.size, by omega, by omega, by omega⟩
  have HCX := Lib.hid hcx
  have HVS := Lib.hid hvs
  have hnb := (rd_of_own h.ob).1
  have hnp : np = P.length := by have := reads_of_own h.op; obtain ⟨_, _, _, e, _⟩ := this; rw [i64s_length] at e; omega
  have HX := Lib.hid hX
  have HS := Lib.hid hs
  have HAP := Lib.hid hap
  have HAB := Lib.hid hab
  clear h hs hX hap hab hcx hvs hW hal
  have p0 := HS.out.p.cellv 0 (.slice pa np pc) rfl
  have b0 := HS.out.b.cellv 0 (.slice ba nb bc) rfl
  rw [← hnb] at hbody ⊢
  rw [← hnp] at hpl
  have HNB := Lib.hid hnb
  have HNP := Lib.hid hnp
  clear hnb hnp
  by_cases hk4 : k % 4 = 0
  · have hm : ((k : Int) % 4 == 0) = true := by simp; omega
    go_enter Try.func60, Try.ntmps60
    go_upto_region 1 with (fail)
    rw [← HW.out]
    go_upto_region 3 with (fail)
    have hal2 : ∀ o, Below W.heap.size W (W.alloc o) := fun o => (Below.refl _ _).alloc (Nat.le_refl _) _
    have HAL := Lib.hid hal2
    have HSZ := Lib.hid (Nat.le_trans HS.out.sz (HAL.out (.cells #[] 0)).size)
    clear hal2
    go_upto_region 5 with (at_builtin; go_loud (refine wp_app_el2 rfl _ _ rfl Try.underlying75 hi hz hz1 hz2 rfl (by omega) base np 1 (.slice pa np pc) _ (i64s P) [.int .i64 nb] (i64s (P ++ [nb])) (np + 1) rfl rfl (own_below HS.out.op (HAL.out _)) (reads_one W _ _) (by simp [Value.oneCell']) rfl (by rw [i64s_app]; rfl) (by omega) (by omega) (Nat.le_trans HS.out.sz (by simp)) ?_); intro ua uc w3 HX2 HG2; have hG := HG2.out.alloc HS.out.sz; have hPB := blk_under HS.out.p HVS.out.p1 hG.below; have p1 := hPB.cellv 0 (.slice pa np pc) rfl; have pf := hPB.free 0)
    have HN : Hid (0 = alikeAt (entsOf l) k) := by show _ = _; rw [alikeAt, if_pos hk4]
    have HS5 := Lib.hid (HS.out.grewP HVS.out HX2.out (Nat.succ_pos _) hG)
    have B5 : Below W.heap.size W W := Below.refl _ _
    have hO := Only.set w3 cP 0 (.slice ua (np + 1) uc)
    have HX5 : Hid (Blk (w3.setCell ⟨cP, 0, none⟩ (.slice ua (np + 1) uc)) w.heap.size #[.string xk, .int .u64 xs, .bool xg, .string xu] 37) := (hG.blk HX.out HAP.out).only hO HCX.out.2.1
    have HAP5 : Hid (Away (w3.setCell ⟨cP, 0, none⟩ (.slice ua (np + 1) uc)) w.heap.size (.slice ua (np + 1) uc)) := (hG.apart _ HAP.out).later hO.size
    have HAB5 : Hid (Away (w3.setCell ⟨cP, 0, none⟩ (.slice ua (np + 1) uc)) w.heap.size (.slice ba nb bc)) := HAB.out.later (Nat.le_trans hG.below.size hO.size)
    have hbW : Below w.heap.size W W := Below.refl _ _
    generalize w3.setCell ⟨cP, 0, none⟩ (.slice ua (np + 1) uc) = w5 at HS5 HX5 HAP5 HAB5 ⊢
    have x0 := HX5.out.cellv 0 (.string xk) rfl
    have xf := HX5.out.free 0
    clear hO hG hPB p1 pf p0 b0 HX2 HG2
    go_upto_region 6 with (fail)
    have HZK : Hid ((xk).data.toList = xk.data.toList.drop (alikeAt (entsOf l) k)) := by show _ = _; rw [← HN.out]; exact (List.drop_zero).symm
    have HZS : Hid ((xk).size ≤ 1048576) := by show _ ≤ _; rw [← size_data, HZK.out, List.length_drop, size_data]; omega
    have hs6 := HS5.out.setX HCX.out.1 HCX.out.2.1 HCX.out.2.2.1 HCX.out.2.2.2 HAP5.out HAB5.out 0 (.string (xk))
    have hx6 : Blk (w5.setCell ⟨w.heap.size, 0, none⟩ (.string (xk))) w.heap.size #[.string (xk), .int .u64 xs, .bool xg, .string xu] 37 := HX5.out.set 0 (.string (xk))
    obtain ⟨zk, hzk⟩ : ∃ z, z = (xk) := ⟨_, rfl⟩
    have HZK2 : Hid (zk.data.toList = xk.data.toList.drop (alikeAt (entsOf l) k)) := by show _ = _; rw [hzk]; exact HZK.out
    rw [← hzk] at HZS hs6 hx6 ⊢
    generalize w5.setCell ⟨w.heap.size, 0, none⟩ (.string zk) = w6 at hs6 hx6 ⊢
    have HS6 := Lib.hid hs6
    have HKX : Hid (∀ w', Below w6.heap.size w6 w' → w'.cell? ⟨w.heap.size, 0, none⟩ = some (.string zk) ∧ w'.cell? ⟨w.heap.size, 1, none⟩ = some (.int .u64 xs) ∧ w'.cell? ⟨w.heap.size, 2, none⟩ = some (.bool xg) ∧ w'.cell? ⟨w.heap.size, 3, none⟩ = some (.string xu)) := fun w' hb =>
      ⟨(hx6.below hb).cellv 0 _ rfl, (hx6.below hb).cellv 1 _ rfl, (hx6.below hb).cellv 2 _ rfl, (hx6.below hb).cellv 3 _ rfl⟩
    have HKB : Hid (∀ w', Below w6.heap.size w6 w' → w'.cell? ⟨cB, 0, none⟩ = some (.slice ba nb bc) ∧ w'.frozen? ⟨cB, 0, none⟩ = false ∧ Rd w' (.slice ba nb bc) B) := fun w' hb =>
      ⟨(HS6.out.b.below hb).cellv 0 _ rfl, (HS6.out.b.below hb).free 0, (rd_of_own (own_below HS6.out.ob hb)).2⟩
    have hwn : IntKind.u64.wrap (0 : Int) = (0 : Int) := by decide
    have h66 : Below w6.heap.size w6 w6.drew := (Below.refl _ _).drew
    obtain ⟨z0, z1, z2, z3⟩ := HKX.out w6.drew h66
    obtain ⟨b0, _, _⟩ := HKB.out w6.drew h66
    clear hs6 hx6 HS5 HX5 HAP5 HAB5 x0 xf hzk
    go_region_with ((first
      | (go_at_call 20; refine (put_my' _ _ B 0 (HKB.out _ h66).2.2 (by omega) (by rw [← HNB.out]; omega)).mono ?_; rintro e w7 ⟨qa, qn, qc, rfl, HQN, HQ, bel7⟩; have h67 : Below w6.heap.size w6 w7 := h66.trans bel7; obtain ⟨z0, z1, z2, z3⟩ := HKX.out w7 h67)
      | (go_at_call 62; go_loud (refine (orderPut_my _ _ (B ++ vint 0) zk xu xs xg (rd_of_own HQ.out).2 (by rw [List.length_append, ← HNB.out]; have := vint_le 0; omega) (by have := HZS.out; omega) (by omega) hxs).mono ?_; rintro e w8 ⟨ra, rn, rc, rfl, HRN, HR, bel8⟩; obtain ⟨b8, f8, _⟩ := HKB.out w8 (h67.trans (bel8.mono h67.size))))))
    all_goals
      go_wp2_with fail
      go_end0
      have hb68 : Below w6.heap.size w6 w8 := h67.trans (bel8.mono h67.size)
      have hrn : 0 < rn := by rw [HRN.out, List.length_append]; have := eput_pos ⟨zk.data.toList, xs, xg, xu.data.toList⟩; omega
      have hf := HS6.out.newB HVS.out (own_mono HR.out h67.size) hrn hb68
      have eB : (B ++ vint 0) ++ eput ⟨zk.data.toList, xs, xg, xu.data.toList⟩ = B ++ encAt (entsOf l) k := by
        rw [encAt, HE.out, ← HN.out, List.append_assoc]
        have := HZK2.out
        rw [← HN.out] at this
        rw [this]; rfl
      rw [eB] at hf
      exact ⟨rfl, _, _, _, ra, rn, rc, by first | exact hf | (rw [if_pos hk4]; exact hf)⟩
  · have hm : ((k : Int) % 4 == 0) = false := by simp; omega
    have hbd : Below W.heap.size W W.drew := (Below.refl _ _).drew
    obtain ⟨wd, hwd⟩ : ∃ wd, wd = W.drew := ⟨_, rfl⟩
    rw [← hwd] at hbd
    have HWD := Lib.hid hwd
    clear hwd p0 b0
    have hsd := HS.out.later hbd
    obtain ⟨j, hj⟩ : ∃ j, j = k - 1 := ⟨_, rfl⟩
    have hk0 : k ≠ 0 := by intro e; subst e; simp at hk4
    have hkj : ((k : Int) - 1) = (j : Int) := by omega
    have hjl : j < l.length := by omega
    have hwj : IntKind.i64.wrap (j : Int) = (j : Int) := IntWalk.i64_in _ (by omega)
    have HAJ := Lib.hid (entsOf_at l j hjl)
    have HJ := Lib.hid hj
    obtain ⟨a', c', hve, _, _, hcell⟩ := hv.below hsd.bel
    obtain ⟨b3, off3, hae, y0, y1, y2, _⟩ := hcell j hjl
    subst hve
    subst hae
    clear hcell hj y1 y2
    obtain ⟨y, hy⟩ : ∃ y, y = l[j] := ⟨_, rfl⟩
    rw [← hy] at y0 HAJ
    have hym : y ∈ l := by rw [hy]; exact List.getElem_mem hjl
    have hyk := (HALL.out y hym).1
    clear hy hym
    obtain ⟨yk, ys, yg, yu⟩ := y
    simp only at y0 hyk
    have l0 := hsd.l.cellv 0 (.slice (some ⟨b3, off3, none⟩) l.length c') rfl
    have hXd := HX.out.below hbd
    have x0 := hXd.cellv 0 (.string xk) rfl
    have HSD := Lib.hid hsd
    have HXD := Lib.hid hXd
    have HBD := Lib.hid hbd
    clear hsd hXd hbd
    have hjb : ((j : Nat) : Int) < ((l.length : Nat) : Int) := by omega
    go_enter Try.func60, Try.ntmps60
    go_upto_region 1 with (fail)
    rw [← HW.out]
    go_upto_region 4 with (fail)
    refine still_tail (wd := wd) 10 ?hm ?hB ?hwd ?h
    case hm => kernel_rfl
    case hB => kernel_rfl
    case hwd => exact HWD.out
    simp only [List.take_succ_cons, List.take_zero, List.drop_succ_cons, List.drop_zero]
    repeat (first | ((with_reducible refine still_skip ?hw ?hrest); case hw => rfl; simp only [Act.put, List.setIfInBounds_toArray, List.set_cons_zero, List.set_cons_succ]) | ((with_reducible refine wpStill_step (fun K hK => ?_)); go_simp; refine hK _ ?_; clear hK K))
    try refine wpStill_nil ?_
    go_wp2_with fail
    refine (alike_any wd yk xk (by omega)).mono ?_
    rintro e w5 ⟨rfl, bel5⟩
    have hn1 := alikeL_le2 yk.data.toList xk.data.toList
    rw [size_data] at hn1
    obtain ⟨n, hn⟩ : ∃ n, n = alikeL yk.data.toList xk.data.toList := ⟨_, rfl⟩
    rw [← hn] at hn1
    have HN : Hid (n = alikeAt (entsOf l) k) := by
      show _ = _
      rw [hn, alikeAt, if_neg hk4, ← HJ.out, HAJ.out, HE.out]; rfl
    rw [← hn]
    clear hn
    have B5 := HBD.out.trans (bel5.mono HBD.out.size)
    have HS5 := Lib.hid (HSD.out.later bel5)
    have HX5 := Lib.hid (HXD.out.below bel5)
    have HAP5 := Lib.hid (HAP.out.later B5.size)
    have HAB5 := Lib.hid (HAB.out.later B5.size)
    have x0 := HX5.out.cellv 0 (.string xk) rfl
    have xf := HX5.out.free 0
    clear y0 l0 bel5 B5 HSD HXD
    go_upto_region 5 with (fail)
    go_upto_region 6 with (fail)
    have HZK : Hid ((xk.extract n xk.size).data.toList = xk.data.toList.drop (alikeAt (entsOf l) k)) := by show _ = _; rw [← HN.out]; exact extract_drop xk _
    have HZS : Hid ((xk.extract n xk.size).size ≤ 1048576) := by show _ ≤ _; rw [← size_data, HZK.out, List.length_drop, size_data]; omega
    have hs6 := HS5.out.setX HCX.out.1 HCX.out.2.1 HCX.out.2.2.1 HCX.out.2.2.2 HAP5.out HAB5.out 0 (.string (xk.extract n xk.size))
    have hx6 : Blk (w5.setCell ⟨w.heap.size, 0, none⟩ (.string (xk.extract n xk.size))) w.heap.size #[.string (xk.extract n xk.size), .int .u64 xs, .bool xg, .string xu] 37 := HX5.out.set 0 (.string (xk.extract n xk.size))
    obtain ⟨zk, hzk⟩ : ∃ z, z = (xk.extract n xk.size) := ⟨_, rfl⟩
    have HZK2 : Hid (zk.data.toList = xk.data.toList.drop (alikeAt (entsOf l) k)) := by show _ = _; rw [hzk]; exact HZK.out
    rw [← hzk] at HZS hs6 hx6 ⊢
    generalize w5.setCell ⟨w.heap.size, 0, none⟩ (.string zk) = w6 at hs6 hx6 ⊢
    have HS6 := Lib.hid hs6
    have HKX : Hid (∀ w', Below w6.heap.size w6 w' → w'.cell? ⟨w.heap.size, 0, none⟩ = some (.string zk) ∧ w'.cell? ⟨w.heap.size, 1, none⟩ = some (.int .u64 xs) ∧ w'.cell? ⟨w.heap.size, 2, none⟩ = some (.bool xg) ∧ w'.cell? ⟨w.heap.size, 3, none⟩ = some (.string xu)) := fun w' hb =>
      ⟨(hx6.below hb).cellv 0 _ rfl, (hx6.below hb).cellv 1 _ rfl, (hx6.below hb).cellv 2 _ rfl, (hx6.below hb).cellv 3 _ rfl⟩
    have HKB : Hid (∀ w', Below w6.heap.size w6 w' → w'.cell? ⟨cB, 0, none⟩ = some (.slice ba nb bc) ∧ w'.frozen? ⟨cB, 0, none⟩ = false ∧ Rd w' (.slice ba nb bc) B) := fun w' hb =>
      ⟨(HS6.out.b.below hb).cellv 0 _ rfl, (HS6.out.b.below hb).free 0, (rd_of_own (own_below HS6.out.ob hb)).2⟩
    have hwn : IntKind.u64.wrap (n : Int) = (n : Int) := by exact wrap_u64_in n (by omega)
    have h66 : Below w6.heap.size w6 w6.drew := (Below.refl _ _).drew
    obtain ⟨z0, z1, z2, z3⟩ := HKX.out w6.drew h66
    obtain ⟨b0, _, _⟩ := HKB.out w6.drew h66
    clear hs6 hx6 HS5 HX5 HAP5 HAB5 x0 xf hzk
    go_region_with ((first
      | (go_at_call 20; refine (put_my' _ _ B n (HKB.out _ h66).2.2 (by omega) (by rw [← HNB.out]; omega)).mono ?_; rintro e w7 ⟨qa, qn, qc, rfl, HQN, HQ, bel7⟩; have h67 : Below w6.heap.size w6 w7 := h66.trans bel7; obtain ⟨z0, z1, z2, z3⟩ := HKX.out w7 h67)
      | (go_at_call 62; go_loud (refine (orderPut_my _ _ (B ++ vint n) zk xu xs xg (rd_of_own HQ.out).2 (by rw [List.length_append, ← HNB.out]; have := vint_le n; omega) (by have := HZS.out; omega) (by omega) hxs).mono ?_; rintro e w8 ⟨ra, rn, rc, rfl, HRN, HR, bel8⟩; obtain ⟨b8, f8, _⟩ := HKB.out w8 (h67.trans (bel8.mono h67.size))))))
    all_goals
      go_wp2_with fail
      go_end0
      have hb68 : Below w6.heap.size w6 w8 := h67.trans (bel8.mono h67.size)
      have hrn : 0 < rn := by rw [HRN.out, List.length_append]; have := eput_pos ⟨zk.data.toList, xs, xg, xu.data.toList⟩; omega
      have hf := HS6.out.newB HVS.out (own_mono HR.out h67.size) hrn hb68
      have eB : (B ++ vint n) ++ eput ⟨zk.data.toList, xs, xg, xu.data.toList⟩ = B ++ encAt (entsOf l) k := by
        rw [encAt, HE.out, ← HN.out, List.append_assoc]
        have := HZK2.out
        rw [← HN.out] at this
        rw [this]; rfl
      rw [eB] at hf
      exact ⟨rfl, _, _, _, ra, rn, rc, by first | exact hf | (rw [if_neg hk4, List.append_nil]; exact hf)⟩
end Go.Proofs.Ytbcnapkbdbefhaa

/- Walks of law09.may and law09.alive. The condition: bytes and texts of less than 2^28. -/
import Derived.Test.YtnfamahfaghejaaBlooms3
import Derived.Test.YtnfamahfaghejaaTexts
import Derived.Test.YtnfamahfaghejaaAlive1
namespace Go.Proofs.Ytnfamahfaghejaa
open Go.RowKit

set_option maxRecDepth 100000 in
set_option maxHeartbeats 400000 in
theorem may9_any (w : World) (v : Value) (b : List UInt8) (key : ByteArray) (r : Bool) (hr : mayB b key.data.toList = r) (hkey : key.size ≤ 268435456) (hb : b.length ≤ 268435456) (hv : Rd w v b) :
    Calls Try.prog 18 #[v, .string key] w fun e w' => e = .returned (.bool r) ∧ Below w.heap.size w w' := by
  subst hr
  obtain ⟨x, hx⟩ : ∃ x, x = bloomMay b key.data.toList := ⟨_, rfl⟩
  have HM := Lib.hid (may_any key v b w hkey hb hv)
  unfold RetMay at HM
  have HX : Hid (mayB b key.data.toList = (x.1 && decide (x.2 = 0))) := by show _ = _; rw [hx]; rfl
  rw [← hx] at HM
  clear hx
  obtain ⟨x1, x2⟩ := x
  simp only at HM HX
  go_enter Try.func18, Try.ntmps18
  go_wp2_with fail
  refine HM.out.mono ?_
  rintro e w1 ⟨rfl, bel⟩
  cases x1
  · go_wp2
    go_ret
    exact ⟨ret_bool (by rw [HX.out]; simp), bel⟩
  · go_wp2
    go_ret
    exact ⟨ret_bool (by rw [HX.out, Bool.eq_iff_iff]; simp), bel⟩

theorem may_lit (w : World) (v : Value) (b : List UInt8) (key : ByteArray) (r : Bool) (n : Int) (hr : bloomMay b key.data.toList = (r, n.toNat)) (hn : n = n.toNat) (hkey : key.size ≤ 268435456) (hb : b.length ≤ 268435456) (hv : Rd w v b) :
    Calls Try.prog 37 #[v, .string key] w fun e w' => e = .returned (.tuple #[.bool r, .int .i64 n]) ∧ Below w.heap.size w w' := by
  refine (may_any key v b w hkey hb hv).mono ?_
  rintro e w' ⟨rfl, hbel⟩
  rw [hr, hn]
  exact ⟨by simp, hbel⟩
theorem rdT_lit (w : World) (cs : Array Value) (l : List ByteArray) (t : TypeId) (n : Nat) (h : cs.toList = txs l) (hn : n = l.length) (hl : l.length ≤ maxLen) : RdT (w.alloc (.cells cs t)) (.slice (some ⟨w.heap.size, 0, none⟩) n n) l := by
  subst hn
  have hs : cs.size = l.length * 1 := by rw [← Array.length_toList, h, txs_length, Nat.mul_one]
  have := reads_new w cs t l.length 1 hs hl
  rw [h] at this
  exact (rdT_of this).2
theorem put_var9 (w : World) (v : Value) (l : List ByteArray) (m : Nat) (hm : bloomN l.length + 1 = m) (hv : RdT w v l) (hl : l.length ≤ 1048576) (hs : ∀ s ∈ l, s.size ≤ 1099511627776) :
    Calls Try.prog 17 #[v] w fun e w' => ∃ a c, e = .returned (.slice a m c) ∧ Hid (Own w' w.heap.size 5 1 (.slice a m c) m (u8s (bloomPut (l.map fun s => s.data.toList)))) ∧ Below w.heap.size w w' := by
  refine (bloomsPut_any w v l hv hl hs).mono ?_
  rintro e w' ⟨a, n, c, rfl, h1, h2, h3⟩
  have e : n = m := by rw [h1.out, bloomPut_length, List.length_map, hm]
  subst e
  exact ⟨a, c, rfl, h2, h3⟩
theorem small_texts (l : List ByteArray) (h : l.all (fun s => decide (s.size ≤ 9)) = true) : ∀ s ∈ l, s.size ≤ 1099511627776 := fun s hs => by
  have := List.all_eq_true.1 h s hs
  simp only [decide_eq_true_eq] at this
  omega
theorem rdT_nil (w : World) : RdT w (.slice none 0 0) [] := ⟨none, 0, rfl, by simp, by omega, fun j hj => absurd hj (by simp)⟩
theorem mayB_full (key : List UInt8) : mayB [255, 255, 255, 255, 255, 255, 255, 255, 6] key = true := by
  rw [mayB_eq (n := 8) (by omega) rfl rfl, mayAll_iff]
  intro i hi
  have := placeN_lt key (8 * 8) i (by omega)
  generalize placeN key (8 * 8) i = p at this
  have h : ∀ p : Fin 64, bitAt [255, 255, 255, 255, 255, 255, 255, 255, 6] p.val = true := by decide
  exact h ⟨p, this⟩
theorem mayB_none : bloomMay (bloomPut []) [97] = (false, 0) := by
  have e : bloomPut [] = List.replicate 8 0 ++ [6] := by simp [bloomPut, putKeys, bloomN]
  rw [e]
  unfold bloomMay
  rw [if_neg (by simp)]
  have h := mayAll_zeros [97] 8 (by omega) 6
  have e2 : (List.replicate 8 (0 : UInt8) ++ [6]).length - 1 = 8 := by simp
  rw [e2, h]
theorem may8 (key : List UInt8) : bloomMay (List.replicate 8 0) key = (false, 4) := if_pos (.inl (by simp))
theorem may9 (key : List UInt8) : bloomMay (List.replicate 9 0) key = (false, 4) := if_pos (.inr (by simp))
theorem rd_zeros (w : World) (n m : Nat) (h : m = n) (hn : n ≤ 1099511627776) : Rd (w.alloc (.cells (u8s (List.replicate n 0)).toArray 5)) (.slice (some ⟨w.heap.size, 0, none⟩) m m) (List.replicate n 0) := by
  subst h
  have := reads_new w (u8s (List.replicate m 0)).toArray 5 m 1 (by simp [u8s]) (by unfold maxLen; omega)
  exact (rd_of_own (own_new w (u8s (List.replicate m 0)).toArray 5 m 1 (by simp [u8s]) (by unfold maxLen; omega))).2
set_option maxRecDepth 100000 in
set_option maxHeartbeats 4000000 in
theorem alive09_any (w : World) : Calls Try.prog 15 #[] w (RetTrue w) := by
  obtain ⟨i0, hi, hz, hz1, hz2⟩ := info_parts info_u8
  have hmk8 := fun (w : World) => run_make (P := Try.prog) w 25 5 i0 (.int .u8 0) Try.underlying25 hi hz .i64 .i64 8 8 (by omega) (by omega) (by rw [hz2]; omega) (by omega)
  have hmk9 := fun (w : World) => run_make (P := Try.prog) w 25 5 i0 (.int .u8 0) Try.underlying25 hi hz .i64 .i64 9 9 (by omega) (by omega) (by rw [hz2]; omega) (by omega)
  have e8 : madeCells (Value.int IntKind.u8 0).cells ((8 : Int).toNat * i0.size) = (u8s (List.replicate 8 0)).toArray := by rw [hz1]; exact madeZeros 8
  have e9 : madeCells (Value.int IntKind.u8 0).cells ((9 : Int).toNat * i0.size) = (u8s (List.replicate 9 0)).toArray := by rw [hz1]; exact madeZeros 9
  rw [e8] at hmk8
  rw [e9] at hmk9
  clear e8 e9 hi hz hz1 hz2
  go_enter Try.func15, Try.ntmps15
  go_upto_region 2 with (fail)
  have HT := rdT_lit w #[.string ⟨#[49]⟩, .string ⟨#[50]⟩, .string ⟨#[51]⟩, .string ⟨#[52]⟩, .string ⟨#[53]⟩, .string ⟨#[54]⟩, .string ⟨#[55]⟩] [⟨#[49]⟩, ⟨#[50]⟩, ⟨#[51]⟩, ⟨#[52]⟩, ⟨#[53]⟩, ⟨#[54]⟩, ⟨#[55]⟩] 9 7 rfl rfl (by simp [maxLen])
  have hb : Below w.heap.size w (w.alloc (.cells #[.string ⟨#[49]⟩, .string ⟨#[50]⟩, .string ⟨#[51]⟩, .string ⟨#[52]⟩, .string ⟨#[53]⟩, .string ⟨#[54]⟩, .string ⟨#[55]⟩] 9)) := (Below.refl _ _).alloc (Nat.le_refl _) _
  generalize w.alloc (.cells #[.string ⟨#[49]⟩, .string ⟨#[50]⟩, .string ⟨#[51]⟩, .string ⟨#[52]⟩, .string ⟨#[53]⟩, .string ⟨#[54]⟩, .string ⟨#[55]⟩] 9) = w1 at HT hb ⊢
  go_wp2_with fail
  refine (may_lit _ _ (List.replicate 8 0) ⟨#[97]⟩ false 4 (may8 _) rfl (by decide) (by simp) (rd_zeros w1 8 8 rfl (by decide))).mono ?_
  rintro e w2 ⟨rfl, bel2⟩
  replace bel2 : Below w1.heap.size w1 w2 := Below.trans ((Below.refl _ _).alloc (Nat.le_refl _) _) (bel2.mono (by simp))
  replace HT := HT.below bel2
  replace hb := Below.trans hb (bel2.mono hb.size)
  clear bel2 hmk8
  go_upto_region 3 with (fail)
  go_wp2_with fail
  refine (may_lit _ _ (List.replicate 9 0) ⟨#[97]⟩ false 4 (may9 _) rfl (by decide) (by simp) (rd_zeros w2 9 9 rfl (by decide))).mono ?_
  rintro e w3 ⟨rfl, bel3⟩
  replace bel3 : Below w2.heap.size w2 w3 := Below.trans ((Below.refl _ _).alloc (Nat.le_refl _) _) (bel3.mono (by simp))
  replace HT := HT.below bel3
  replace hb := Below.trans hb (bel3.mono hb.size)
  clear bel3 hmk9
  go_upto_region 4 with (fail)
  go_wp2_with fail
  refine (put_var9 w3 _ [] 9 (by simp [bloomN]) (rdT_nil _) (by simp) (by simp)).mono ?_
  rintro e w4 ⟨ya, yc, rfl, HY, bel4⟩
  replace HT := HT.below bel4
  replace hb := Below.trans hb (bel4.mono hb.size)
  go_wp2_with fail
  refine (may_lit w4 _ (bloomPut []) ⟨#[97]⟩ false 0 mayB_none rfl (by decide) (by rw [bloomPut_length]; simp [bloomN]) (rd_of_own HY.out).2).mono ?_
  rintro e w5 ⟨rfl, bel5⟩
  replace HT := HT.below bel5
  replace hb := Below.trans hb (bel5.mono hb.size)
  clear bel4 bel5 HY
  go_upto_region 5 with (fail)
  go_wp2_with fail
  refine (put_var9 w5 _ [] 9 (by simp [bloomN]) (rdT_nil _) (by simp) (by simp)).mono ?_
  rintro e w6 ⟨za, zc, rfl, HZ, bel6⟩
  replace HT := HT.below bel6
  replace hb := Below.trans hb (bel6.mono hb.size)
  clear bel6 HZ
  go_wp2_with fail
  refine (put_var9 w6 _ _ 10 (by simp [bloomN]) HT (by simp) (small_texts _ (by decide))).mono ?_
  rintro e w7 ⟨za, zc, rfl, HZ, bel7⟩
  replace HT := HT.below bel7
  replace hb := Below.trans hb (bel7.mono hb.size)
  clear bel7 HZ
  have H8 := rdT_lit w7 #[.string ⟨#[56]⟩] [⟨#[56]⟩] 9 1 rfl rfl (by simp [maxLen])
  have hb8 : Below w7.heap.size w7 (w7.alloc (.cells #[.string ⟨#[56]⟩] 9)) := (Below.refl _ _).alloc (Nat.le_refl _) _
  go_wp2_with (at_builtin; go_loud (refine wp_app_txt_grow rfl _ _ rfl 7 1 7 _ _ _ _ _ rfl rfl rfl (HT.below hb8) rfl H8 rfl (by omega) (by omega) ?_); intro ua uc w8 HU bel8)
  replace hb8 := Below.trans hb8 (bel8.mono hb8.size)
  replace HT := HT.below hb8
  replace hb := Below.trans hb (hb8.mono hb.size)
  refine (put_var9 w8 _ _ 11 (by simp [bloomN]) (rdT_of (reads_of_own HU.out)).2 (by simp) (small_texts _ (by decide))).mono ?_
  rintro e w9 ⟨za, zc, rfl, HZ, bel9⟩
  replace HT := HT.below bel9
  replace hb := Below.trans hb (bel9.mono hb.size)
  clear bel9 HZ HU H8 hb8 bel8
  have H8 := rdT_lit w9 #[.string ⟨#[56]⟩, .string ⟨#[57]⟩] [⟨#[56]⟩, ⟨#[57]⟩] 9 2 rfl rfl (by simp [maxLen])
  have hb8 : Below w9.heap.size w9 (w9.alloc (.cells #[.string ⟨#[56]⟩, .string ⟨#[57]⟩] 9)) := (Below.refl _ _).alloc (Nat.le_refl _) _
  go_wp2_with (at_builtin; go_loud (refine wp_app_txt_grow rfl _ _ rfl 7 2 7 _ _ _ _ _ rfl rfl rfl (HT.below hb8) rfl H8 rfl (by omega) (by omega) ?_); intro ub ud w10 HU bel8)
  replace hb8 := Below.trans hb8 (bel8.mono hb8.size)
  replace hb := Below.trans hb (hb8.mono hb.size)
  refine (put_var9 w10 _ _ 13 (by simp [bloomN]) (rdT_of (reads_of_own HU.out)).2 (by simp) (small_texts _ (by decide))).mono ?_
  rintro e w11 ⟨za, zc, rfl, HZ, bel11⟩
  replace hb := Below.trans hb (bel11.mono hb.size)
  clear bel11 HZ HU H8 hb8 bel8 HT
  have H8 := rdT_lit w11 #[.string ⟨#[97]⟩, .string ⟨#[98]⟩] [⟨#[97]⟩, ⟨#[98]⟩] 9 2 rfl rfl (by simp [maxLen])
  have hb8 : Below w11.heap.size w11 (w11.alloc (.cells #[.string ⟨#[97]⟩, .string ⟨#[98]⟩] 9)) := (Below.refl _ _).alloc (Nat.le_refl _) _
  go_wp2_with fail
  refine (put_var9 _ _ _ 9 (by simp [bloomN]) H8 (by simp) (small_texts _ (by decide))).mono ?_
  rintro e w12 ⟨za, zc, rfl, HZ, bel12⟩
  replace hb8 := Below.trans hb8 (bel12.mono hb8.size)
  replace hb := Below.trans hb (hb8.mono hb.size)
  clear H8 hb8 bel12
  go_wp2_with fail
  refine (may9_any w12 _ _ ⟨#[97]⟩ true (mayB_put (by simp)) (by decide) (by rw [bloomPut_length]; simp [bloomN]) (rd_of_own HZ.out).2).mono ?_
  rintro e w13 ⟨rfl, bel13⟩
  replace hb := Below.trans hb (bel13.mono hb.size)
  clear bel13 HZ
  go_wp2_with fail
  refine (may9_any _ _ _ ⟨#[97]⟩ true (mayB_full _) (by decide) (by simp) (rd_lit w13 [255, 255, 255, 255, 255, 255, 255, 255, 6] _ _ 9 (by simp [u8s]) rfl (by decide))).mono ?_
  rintro e w14 ⟨rfl, bel14⟩
  replace bel14 := Below.trans ((Below.refl w13.heap.size w13).alloc (Nat.le_refl _) _) (bel14.mono (by simp))
  replace hb := Below.trans hb (bel14.mono hb.size)
  go_wp2
  go_ret
  exact ⟨rfl, hb⟩
end Go.Proofs.Ytnfamahfaghejaa

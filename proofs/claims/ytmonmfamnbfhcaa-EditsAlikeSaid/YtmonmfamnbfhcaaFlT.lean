/- law01.TwinFiles; append as a step of a region; two edits one behind the other, plain. The conditions: lists of 100000 elements at most. -/
import Derived.Test.YtmonmfamnbfhcaaFlR
import Derived.Deep.Cut
namespace Go.Proofs.Ytmonmfamnbfhcaa
open Go.RowKit
theorem step_app_el2 {ops : Array Oper} {o : Oper} {a : Act} {w : World} {K : Act → World → Prop} {Q : Exit → Act → World → Prop} {E : Prop} (hgd : o.guard = none) (s x : Operand) {t e : TypeId} {i : TypeInfo} {z : Value} {sz by_ : Nat}
    (ho : o.op = .call { callee := .builtin .append, args := #[s, x], argTypes := #[t, t] }) (ht : Try.prog.underlying t = some (.slice e)) (hi : Try.prog.info? e = some i) (hz : i.zero = some z) (hs : i.size = sz) (hb : i.bytes = by_) (hzs : z.cells.size = sz) (hsz : 0 < sz)
    (base n m : Nat) (v v2 : Value) (xs ys zs : List Value) (r : Nat) (hs' : a.eval s = v) (hx : a.eval x = v2) (hown : Own w base e sz v n xs) (hrd : Reads w sz v2 m ys) (h1 : ∀ u ∈ ys, u.oneCell' = true)
    (hr : n + m = r) (hzz : xs ++ ys = zs) (hlen : r * by_ ≤ 140737488355328) (hnm : r ≤ 9223372036854775807) (hbase : base ≤ w.heap.size)
    (h : ∀ b c w', Hid (Own w' base e sz (.slice b r c) r zs) → Hid (Grew w w' base v (.slice b r c)) → K (a.put o.dst (.slice b r c)) w') : if Region.wanted o (yielded ops a.tmps) = true then Oper.wp Try.prog o a w K Q else E := by
  subst hr hzz
  have hw : Region.wanted o (yielded ops a.tmps) = true := by simp [Region.wanted, hgd]
  rw [if_pos hw]
  obtain ⟨v', w', hr, h2, h3, h4, h5⟩ := run_app2 (P := Try.prog) w base t o.type e i z sz by_ ht hi hz hs hb hzs hsz v n xs hown v2 m ys hrd h1 hlen hnm hbase
  unfold Oper.wp execOp
  simp only [ho, resolve, invoke, builtin, Sem.run_bind, Sem.run_pure, Result.andThen_ok, List.map_toArray, List.map_cons, List.map_nil, hs', hx, hr]
  obtain ⟨b, c, rfl⟩ := (reads_of_own h2).slice
  exact h b c w' h2 (grew_of h4 h3 h5)

theorem own_fore {w : World} {base : Nat} {e : TypeId} {sz n c : Nat} {a : Option Addr} {xs : List Value} (h : Own w base e sz (.slice a n c) n xs) (hn : 0 < n) (k : Nat) (hk : k ≤ n) : Own w base e sz (.slice a k c) k (xs.take (k * sz)) := by
  obtain ⟨g, rfl⟩ : ∃ g, a = some ⟨g, 0, none⟩ := by
    rcases h with ⟨e, _⟩ | ⟨_, g, cap, cur, fr, e2, _⟩
    · omega
    · simp only [Value.slice.injEq] at e2
      exact ⟨g, e2.1⟩
  exact own_front h hn k hk
set_option maxRecDepth 100000 in
set_option maxHeartbeats 1000000 in
theorem twinF_any (w : World) (v : Value) (l : List PF) (hv : RdF w v l) (hl : l.length ≤ 100000) :
    Calls Try.prog 21 #[v] w fun e w' => ∃ a n c, e = .returned (.slice a n c) ∧ Hid (n = l.length) ∧ Hid (Own w' w.heap.size 33 4 (.slice a n c) n (fcells l)) ∧ Below w.heap.size w w' := by
  obtain ⟨la, n, lc, rfl, HN, hlc, hlm⟩ := rdF_sl hv
  have HV : Hid (∀ w', Below w.heap.size w w' → RdF w' (.slice la n lc) l) := Lib.hid fun w' hb => hv.below hb
  obtain ⟨i0, hi, hz, hz1, hz2⟩ := info_parts info_file
  have hn : n ≤ 100000 := by rw [HN.out]; exact hl
  have hmk := run_make (P := Try.prog) w 22 33 i0 _ Try.underlying22 hi hz .i64 .i64 0 ((n : Int) + 1) (by omega) (by omega) (by rw [hz2]; omega) (by omega)
  rw [hz1, show ((n : Int) + 1).toNat = n + 1 from by omega, show (0 : Int).toNat = 0 from rfl] at hmk
  obtain ⟨C, hC⟩ : ∃ C, C = madeCells (Value.agg #[.int .u32 0, .int .i64 0, .string .empty, .string .empty]).cells ((n + 1) * 4) := ⟨_, rfl⟩
  have hCs : C.size = (n + 1) * 4 := by rw [hC, size_madeCells]
  rw [← hC] at hmk
  have HO0 : Hid (Own (w.alloc (.cells C 33)) w.heap.size 33 4 (.slice (some ⟨w.heap.size, 0, none⟩) 0 (n + 1)) 0 []) := Lib.hid (own_of (World.ownsRow_made w C (e := 33) (size := 4) (base := w.heap.size) (n + 1) (Nat.le_refl _) (by unfold maxLen; omega) hCs))
  have HB0 : Hid (Below w.heap.size w (w.alloc (.cells C 33))) := Lib.hid (alloc_bel _ _)
  clear hC hCs hv hl
  go_enter Try.func21, Try.ntmps21
  go_upto_region 3 with (fail)
  clear hmk
  go_loopw [3, 4] (fun t i wr => ∃ (k c : Nat) (a : Option Addr), k ≤ n ∧ i = .int .i64 k ∧ t = .slice a k c ∧ Hid (Own wr w.heap.size 33 4 (.slice a k c) k (fcells (l.take k))) ∧ Below w.heap.size w wr) (fun _ i _ => n - (intOf i).toNat)
  case atStart => exact ⟨0, n + 1, _, Nat.zero_le _, rfl, rfl, HO0, HB0.out⟩
  case round =>
    obtain ⟨k, c, a, hk, rfl, rfl, hO, bel⟩ := hrel
    have HB := Lib.hid bel
    clear bel
    by_cases hlt : k < n
    · have hkl : k < l.length := by rw [← HN.out]; exact hlt
      obtain ⟨b, off, hsl, p0, p1, p2, p3⟩ := rdF_at (HV.out wr HB.out) k hkl
      subst hsl
      have HTK := Lib.hid (List.take_succ_eq_append_getElem hkl)
      obtain ⟨f, hf⟩ : ∃ f, f = l[k] := ⟨_, rfl⟩
      rw [← hf] at p0 p1 p2 p3 HTK
      clear hf
      have HO2 := Lib.hid (own_below hO.out (alloc_bel wr (.cells #[.int .u32 f.n, .int .i64 f.lv, .string f.a, .string f.b] 33)))
      have HB3 := Lib.hid (HB.out.trans ((alloc_bel wr (.cells #[.int .u32 f.n, .int .i64 f.lv, .string f.a, .string f.b] 33)).mono HB.out.size))
      have HRF := Lib.hid (reads_file wr f 33)
      go_wp2_with (at_builtin; go_loud (refine wp_app_el2 rfl _ _ rfl Try.underlying22 hi hz hz1 hz2 rfl (by omega) w.heap.size k 1 (.slice a k c) _ (fcells (l.take k)) (fcells [f]) (fcells (l.take (k + 1))) (k + 1) rfl rfl HO2.out HRF.out (one_fcells _) rfl (by rw [HTK.out, fcells_app]) (by omega) (by omega) HB3.out.size ?_); intro ua uc w3 HX3 HG3)
      go_roundw
      case rel => exact ⟨k + 1, uc, ua, by omega, by go_num, rfl, HX3, HB3.out.trans HG3.out.below⟩
      case measure => simp [intOf]; omega
    · have hkn : l.take k = l := List.take_of_length_le (by rw [← HN.out]; omega)
      rw [hkn] at hO
      obtain ⟨ko, hko⟩ : ∃ x, x = k := ⟨_, rfl⟩
      have hkn2 : k = n := by omega
      subst hkn2
      clear hkn hko
      have HO2 := Lib.hid (own_below hO.out (alloc_bel wr (.cells #[.int .u32 0, .int .i64 0, .string ⟨#[115, 112, 97, 114, 101]⟩, .string ⟨#[]⟩] 33)))
      have HB3 := Lib.hid (HB.out.trans ((alloc_bel wr (.cells #[.int .u32 0, .int .i64 0, .string ⟨#[115, 112, 97, 114, 101]⟩, .string ⟨#[]⟩] 33)).mono HB.out.size))
      have HRF := Lib.hid (reads_file wr ⟨0, 0, ⟨#[115, 112, 97, 114, 101]⟩, ⟨#[]⟩⟩ 33)
      go_upto_region 6 with (fail)
      go_wp2_with (at_builtin; go_loud (refine wp_app_el2 rfl _ _ rfl Try.underlying22 hi hz hz1 hz2 rfl (by omega) w.heap.size k 1 (.slice a k c) _ (fcells l) (fcells [⟨0, 0, ⟨#[115, 112, 97, 114, 101]⟩, ⟨#[]⟩⟩]) (fcells (l ++ [⟨0, 0, ⟨#[115, 112, 97, 114, 101]⟩, ⟨#[]⟩⟩])) (k + 1) rfl rfl HO2.out HRF.out (one_fcells _) rfl (by rw [fcells_app]) (by omega) (by omega) HB3.out.size ?_); intro ua uc w3 HX3 HG3; have hkc : k ≤ uc := Nat.le_of_succ_le (own_clip HX3.out).1)
      go_ret
      refine ⟨ua, k, uc, rfl, HN, Lib.hid ?_, HB3.out.trans HG3.out.below⟩
      have := own_fore HX3.out (Nat.succ_pos k) k (by omega)
      rw [fcells_take _ _ (by rw [List.length_append, ← HN.out]; exact Nat.le_add_right _ _), HN.out, List.take_left] at this
      rwa [← HN.out] at this
end Go.Proofs.Ytmonmfamnbfhcaa

/- Walks of the reference's Fine, Rises, and of its test whether entries may be a block. The condition: keys as long as a machine bears. -/
import Derived.Test.YtbcnapkbdbefhaaGreatDoorBlkP
import Derived.Test.YtbcnapkbdbefhaaGreatDoorBlocksA
import Derived.Test.YtbcnapkbdbefhaaGreatDoorOrder3
import Derived.Test.YtbcnapkbdbefhaaGreatDoorListsA
import Derived.Deep.RegionHeld3
namespace Go.Proofs.YtbcnapkbdbefhaaGreatDoor
open Go.RowKit

theorem retB {a b : Bool} (h : a = b) : Ending.returned (Value.bool a) = .returned (.bool b) := by rw [h]
set_option maxRecDepth 100000 in
set_option maxHeartbeats 2000000 in
theorem refFine_any (w : World) (k u : ByteArray) (s : Nat) (g : Bool) :
    Calls Tryz.prog 144 #[.agg #[.string k, .int .u64 s, .bool g, .string u]] w (RetB (fitE (entOf k s g u)) w) := by
  obtain ⟨W, hW⟩ : ∃ W, W = w.alloc (.cells #[.string k, .int .u64 s, .bool g, .string u] 34) := ⟨_, rfl⟩
  have hx : Blk W w.heap.size #[.string k, .int .u64 s, .bool g, .string u] 34 := by rw [hW]; exact Blk.new _ _ _
  have hb : Below w.heap.size w W := by rw [hW]; exact (Below.refl _ _).alloc (Nat.le_refl _) _
  have HB := Lib.hid hb
  have x0 := hx.cellv 0 (.string k) rfl
  have x2 := hx.cellv 2 (.bool g) rfl
  have x3 := hx.cellv 3 (.string u) rfl
  have HW := Lib.hid hW
  clear hW hx hb
  have HF : Hid (fitE (entOf k s g u) = (checkK k.data.toList && (decide (u.size ≤ 256) && (!g || u.data.toList.isEmpty)))) := Lib.hid (by
    simp only [fitE, entOf, size_data])
  obtain ⟨b, hb⟩ : ∃ b, b = checkK k.data.toList := ⟨_, rfl⟩
  have HC : Hid (∀ w', Calls Tryz.prog 168 #[.string k] w' fun e w'' => e = .returned (.bool b) ∧ w' = w'') := Lib.hid fun w' => by rw [hb]; exact refCheck_any k w'
  rw [← hb] at HF
  clear hb
  go_enter Tryz.func144, Tryz.ntmps144
  go_wp2_with fail
  rw [← HW.out]
  have x0 := x0
  go_wp2_with fail
  refine (HC.out _).mono ?_
  rintro e w' ⟨rfl, rfl⟩
  cases b with
  | false =>
    go_wp2_with fail
    go_ret
    exact ⟨retB (by rw [HF.out]; rfl), HB.out⟩
  | true =>
    by_cases h1 : u.size ≤ 256
    · have h1d : decide ((u.size : Int) ≤ 256) = true := by simp; omega
      have h1e : (u.size : Int) ≤ 256 := by omega
      cases g with
      | false =>
        go_wp2_with fail
        go_ret
        exact ⟨retB (by rw [HF.out]; simp; omega), HB.out⟩
      | true =>
        go_wp2_with fail
        go_ret
        exact ⟨retB (by rw [HF.out, Lib.toList_data, decide_eq_true h1]; rfl), HB.out⟩
    · have h1d : decide ((u.size : Int) ≤ 256) = false := by simp; omega
      have h1e : ¬ (u.size : Int) ≤ 256 := by omega
      go_wp2_with fail
      go_ret
      exact ⟨retB (by rw [HF.out]; simp; omega), HB.out⟩
/-- entries that rise, told one by one -/
def upL (E : List Ent) : Bool := decide (∀ k, k < E.length → k = 0 ∨ cmpE (atE E (k - 1)) (atE E k) < 0)
def fitsL (E : List Ent) : Bool := decide (∀ k, k < E.length → fitE (atE E k) = true)
theorem mayL_parts (E : List Ent) : mayL E = (decide (0 < E.length ∧ E.length ≤ 64) && (fitsL E && upL E)) := by
  rw [Bool.eq_iff_iff, mayL_iff]
  simp only [fitsL, upL, Bool.and_eq_true, decide_eq_true_eq, okAt, Bool.or_eq_true, beq_iff_eq]
  refine and_congr_right fun _ => ?_
  constructor
  · intro h
    exact ⟨fun k hk => (h k hk).1, fun k hk => (h k hk).2⟩
  · intro h k hk
    exact ⟨h.1 k hk, h.2 k hk⟩
set_option maxRecDepth 100000 in
set_option maxHeartbeats 4000000 in
theorem refRises_any (w : World) (v : Value) (l : List PE) (hv : RdE w v l) (hks : ∀ x ∈ l, x.k.size ≤ 9223372036854775807) :
    Calls Tryz.prog 145 #[v] w (RetB (upL (entsOf l)) w) := by
  have HV0 := Lib.hid hv
  have HKS := Lib.hid hks
  obtain ⟨va, vc, rfl, h1, h2, h3⟩ := hv
  clear h3 hks
  obtain ⟨vn, hvn⟩ : ∃ n, n = l.length := ⟨_, rfl⟩
  have HVN := Lib.hid hvn
  rw [← hvn] at h1 HV0 ⊢
  clear hvn
  have HU : Hid (upL (entsOf l) = decide (∀ k, k < vn → k = 0 ∨ cmpE (atE (entsOf l) (k - 1)) (atE (entsOf l) k) < 0)) := Lib.hid (by unfold upL; rw [entsOf_length, ← HVN.out])
  go_enter Tryz.func145, Tryz.ntmps145
  go_wp2_with fail
  try show Code.wp _ _ _ _ _
  go_loopw [3] (fun i wr => ∃ k : Nat, 1 ≤ k ∧ k ≤ vn + 1 ∧ i = .int .i64 k ∧ Hid (∀ j, j < k → j < vn → j = 0 ∨ cmpE (atE (entsOf l) (j - 1)) (atE (entsOf l) j) < 0) ∧ Hid (Below w.heap.size w wr)) (fun i _ => vn + 1 - (intOf i).toNat)
  case atStart => exact ⟨1, by omega, by omega, rfl, Lib.hid (fun j hj _ => .inl (by omega)), Below.refl _ _⟩
  case round =>
    obtain ⟨k, hk1, hk, rfl, HRK, HBR⟩ := hrel
    by_cases hlt : k < vn
    · obtain ⟨j, hj⟩ : ∃ j, j = k - 1 := ⟨_, rfl⟩
      have hkl : k < l.length := by rw [← HVN.out]; exact hlt
      have hjl : j < l.length := by omega
      have HJ := Lib.hid hj
      have hkj : ((k : Int) - 1) = (j : Int) := by omega
      have hwj : IntKind.i64.wrap (j : Int) = (j : Int) := IntWalk.i64_in _ (by omega)
      have hwj2 : IntKind.i64.wrap ((k : Int) - 1) = (j : Int) := by rw [IntWalk.i64_in _ (by omega)]; omega
      have hj0 : (0 : Int) ≤ (j : Int) := by omega
      have hjn : (j : Int) < (vn : Int) := by omega
      have hk0 : (0 : Int) ≤ (k : Int) := by omega
      have hkn : (k : Int) < (vn : Int) := by omega
      have HAK := Lib.hid (entsOf_at l k hkl)
      have HAJ := Lib.hid (entsOf_at l j hjl)
      have hxs := HKS.out _ (List.getElem_mem hkl)
      have hys := HKS.out _ (List.getElem_mem hjl)
      obtain ⟨b, off, hab⟩ : ∃ b off, va = some ⟨b, off, none⟩ := by
        obtain ⟨a', c', hve, _, _, hcell⟩ := HV0.out
        obtain ⟨b, off, hae, _⟩ := hcell k hkl
        simp only [Value.slice.injEq] at hve
        exact ⟨b, off, by rw [hve.1, hae]⟩
      subst hab
      have HC0 : Hid (∀ (m : Nat) (hm : m < l.length) (w' : World), Below w.heap.size w w' → w'.cell? ⟨b, off + m * 4, none⟩ = some (.string l[m].k) ∧ w'.cell? ⟨b, off + m * 4 + 1, none⟩ = some (.int .u64 l[m].s) ∧ w'.cell? ⟨b, off + m * 4 + 2, none⟩ = some (.bool l[m].g)) := Lib.hid fun m hm w' hb => by
        obtain ⟨a', c', hve, _, _, hcell⟩ := HV0.out.below hb
        obtain ⟨b', off', hae, c0, c1, c2, _⟩ := hcell m hm
        simp only [Value.slice.injEq] at hve
        rw [hae] at hve
        simp only [Option.some.injEq, Addr.mk.injEq, and_true] at hve
        obtain ⟨⟨rfl, rfl⟩, _⟩ := hve
        exact ⟨c0, c1, c2⟩
      have HCK := Lib.hid (HC0.out k hkl)
      have HCJ := Lib.hid (HC0.out j hjl)
      obtain ⟨x, hx⟩ : ∃ x, x = l[k] := ⟨_, rfl⟩
      obtain ⟨y, hy⟩ : ∃ y, y = l[j] := ⟨_, rfl⟩
      rw [← hx] at HCK hxs HAK
      rw [← hy] at HCJ hys HAJ
      clear hx hy hj hjl HC0
      obtain ⟨xk, xs, xg, xu⟩ := x
      obtain ⟨yk, ys, yg, yu⟩ := y
      simp only at HCK HCJ hxs hys
      obtain ⟨n, hn⟩ : ∃ n, n = cmpM yk.data.toList ys yg xk.data.toList xs xg := ⟨_, rfl⟩
      have HN := Lib.hid hn
      have HCM : Hid (∀ wd, Calls Tryz.prog 99 #[.agg #[.string yk, .int .u64 ys, .bool yg], .agg #[.string xk, .int .u64 xs, .bool xg]] wd fun e w' => e = .returned (.int .i64 n) ∧ Below wd.heap.size wd w') := Lib.hid fun wd => by
        rw [hn]; exact refCmp_any _ _ _ _ _ _ wd hys hxs
      have HE : Hid (cmpE (atE (entsOf l) (k - 1)) (atE (entsOf l) k) = n) := Lib.hid (by rw [← HJ.out, HAJ.out, HAK.out, HN.out]; rfl)
      clear hn hxs hys
      have HS : Hid (∀ w', Below w.heap.size w w' → (w'.cell? ⟨b, off + k * 4, none⟩ = some (.string xk) ∧ w'.cell? ⟨b, off + k * 4 + 1, none⟩ = some (.int .u64 xs) ∧ w'.cell? ⟨b, off + k * 4 + 2, none⟩ = some (.bool xg) ∧ w'.cell? ⟨b, off + j * 4, none⟩ = some (.string yk) ∧ w'.cell? ⟨b, off + j * 4 + 1, none⟩ = some (.int .u64 ys) ∧ w'.cell? ⟨b, off + j * 4 + 2, none⟩ = some (.bool yg) ∧ Below w.heap.size w w')) := Lib.hid fun w' hb =>
        ⟨(HCK.out w' hb).1, (HCK.out w' hb).2.1, (HCK.out w' hb).2.2, (HCJ.out w' hb).1, (HCJ.out w' hb).2.1, (HCJ.out w' hb).2.2, hb⟩
      have hBR := HBR.out
      go_upto_region 4 with (fail)
      go_region_held3 (fun w' => w'.cell? ⟨b, off + k * 4, none⟩ = some (.string xk) ∧ w'.cell? ⟨b, off + k * 4 + 1, none⟩ = some (.int .u64 xs) ∧ w'.cell? ⟨b, off + k * 4 + 2, none⟩ = some (.bool xg) ∧ w'.cell? ⟨b, off + j * 4, none⟩ = some (.string yk) ∧ w'.cell? ⟨b, off + j * 4 + 1, none⟩ = some (.int .u64 ys) ∧ w'.cell? ⟨b, off + j * 4 + 2, none⟩ = some (.bool yg) ∧ Below w.heap.size w w')
        ((go_split_ands; refine HS.out _ ?_; first | assumption | exact Below.drew hBR | exact Below.trans (by assumption) (bel9.mono (Below.size (by assumption)))))
        ((go_at_call 99; refine (HCM.out _).mono ?_; rintro e w9 ⟨rfl, bel9⟩))
      have B9 : Hid (Below w.heap.size w w9) := Lib.hid (by go_split_ands; assumption)
      clear hBR
      by_cases hneg : n < 0
      · have hn2 : decide (n ≥ 0) = false := by simp; omega
        have hn3 : decide (0 ≤ n) = false := by simp; omega
        have HRN : Hid (∀ j, j < k + 1 → j < vn → j = 0 ∨ cmpE (atE (entsOf l) (j - 1)) (atE (entsOf l) j) < 0) := Lib.hid fun i hi hv => by
          by_cases e : i = k
          · subst e; right; rw [HE.out]; exact hneg
          · exact HRK.out i (by omega) hv
        go_wp2_with fail
        go_roundw
        case rel => exact ⟨k + 1, by omega, by omega, by go_num, HRN, B9⟩
        case measure => simp [intOf]; omega
      · have hn2 : decide (n ≥ 0) = true := by simp; omega
        have hn3 : decide (0 ≤ n) = true := by simp; omega
        have HF : Hid (upL (entsOf l) = false) := Lib.hid (by
          rw [HU.out]
          refine decide_eq_false fun h => ?_
          rcases h k hlt with e | e
          · omega
          · rw [HE.out] at e; omega)
        go_wp2_with fail
        go_ret
        exact ⟨retB HF.out.symm, B9.out⟩
    · have HF : Hid (upL (entsOf l) = true) := Lib.hid (by
        rw [HU.out]
        exact decide_eq_true fun i hi => HRK.out i (by omega) hi)
      go_wp2_with fail
      go_ret
      exact ⟨retB HF.out.symm, HBR.out⟩
set_option maxRecDepth 100000 in
set_option maxHeartbeats 4000000 in
theorem refMay_any (w : World) (v : Value) (l : List PE) (hv : RdE w v l) (hks : ∀ x ∈ l, x.k.size ≤ 9223372036854775807) :
    Calls Tryz.prog 146 #[v] w (RetB (mayL (entsOf l)) w) := by
  have HV0 := Lib.hid hv
  have HRI : Hid (∀ w', Below w.heap.size w w' → Calls Tryz.prog 145 #[v] w' (RetB (upL (entsOf l)) w')) := Lib.hid fun w' hb => refRises_any w' v l (hv.below hb) hks
  obtain ⟨va, vc, rfl, h1, h2, h3⟩ := hv
  clear h3 hks
  obtain ⟨vn, hvn⟩ : ∃ n, n = l.length := ⟨_, rfl⟩
  have HVN := Lib.hid hvn
  rw [← hvn] at h1 HV0 HRI ⊢
  clear hvn
  have HM : Hid (mayL (entsOf l) = (decide (0 < vn ∧ vn ≤ 64) && (fitsL (entsOf l) && upL (entsOf l)))) := Lib.hid (by rw [mayL_parts, entsOf_length, ← HVN.out])
  have HFI : Hid (fitsL (entsOf l) = decide (∀ k, k < vn → fitE (atE (entsOf l) k) = true)) := Lib.hid (by unfold fitsL; rw [entsOf_length, ← HVN.out])
  by_cases hr : 0 < vn ∧ vn ≤ 64
  · obtain ⟨hr1, hr2⟩ := hr
    have d1 : decide ((vn : Int) < 1) = false := by simp; omega
    have d2 : decide (64 < (vn : Int)) = false := by simp; omega
    have d3 : decide ((vn : Int) > 64) = false := by simp; omega
    replace HM : Hid (mayL (entsOf l) = (fitsL (entsOf l) && upL (entsOf l))) := Lib.hid (by rw [HM.out]; simp [hr1, hr2])
    go_enter Tryz.func146, Tryz.ntmps146
    go_wp2_with fail
    try show Code.wp _ _ _ _ _
    go_loopw [3] (fun i wr => ∃ k : Nat, k ≤ vn ∧ i = .int .i64 k ∧ Hid (∀ j, j < k → fitE (atE (entsOf l) j) = true) ∧ Hid (Below w.heap.size w wr)) (fun i _ => vn - (intOf i).toNat)
    case atStart => exact ⟨0, by omega, rfl, Lib.hid (fun j hj => by omega), Below.refl _ _⟩
    case round =>
      obtain ⟨k, hk, rfl, HRK, HBR⟩ := hrel
      by_cases hlt : k < vn
      · have hkl : k < l.length := by rw [← HVN.out]; exact hlt
        have HAK := Lib.hid (entsOf_at l k hkl)
        obtain ⟨b, off, hab, c0, c1, c2, c3⟩ : ∃ b off, va = some ⟨b, off, none⟩ ∧ wr.cell? ⟨b, off + k * 4, none⟩ = some (.string l[k].k) ∧ wr.cell? ⟨b, off + k * 4 + 1, none⟩ = some (.int .u64 l[k].s) ∧ wr.cell? ⟨b, off + k * 4 + 2, none⟩ = some (.bool l[k].g) ∧ wr.cell? ⟨b, off + k * 4 + 3, none⟩ = some (.string l[k].u) := by
          obtain ⟨a', c', hve, _, _, hcell⟩ := HV0.out.below HBR.out
          obtain ⟨b, off, hae, hh⟩ := hcell k hkl
          simp only [Value.slice.injEq] at hve
          exact ⟨b, off, by rw [hve.1, hae], hh⟩
        subst hab
        obtain ⟨x, hx⟩ : ∃ x, x = l[k] := ⟨_, rfl⟩
        rw [← hx] at c0 c1 c2 c3 HAK
        clear hx
        obtain ⟨xk, xs, xg, xu⟩ := x
        simp only at c0 c1 c2 c3
        obtain ⟨f, hf⟩ : ∃ f, f = fitE (entOf xk xs xg xu) := ⟨_, rfl⟩
        have HFN : Hid (fitE (atE (entsOf l) k) = f) := Lib.hid (by rw [HAK.out, hf]; rfl)
        have HCF : Hid (∀ wd, Calls Tryz.prog 144 #[.agg #[.string xk, .int .u64 xs, .bool xg, .string xu]] wd (RetB f wd)) := Lib.hid fun wd => by rw [hf]; exact refFine_any wd _ _ _ _
        clear hf
        go_wp2_with fail
        refine (HCF.out _).mono ?_
        rintro e w9 ⟨rfl, bel9⟩
        have B9 := Lib.hid (HBR.out.trans (bel9.mono HBR.out.size))
        clear c0 c1 c2 c3 bel9
        cases f with
        | true =>
          have HRN : Hid (∀ j, j < k + 1 → fitE (atE (entsOf l) j) = true) := Lib.hid fun i hi => by
            by_cases e : i = k
            · subst e; exact HFN.out
            · exact HRK.out i (by omega)
          go_wp2_with fail
          go_roundw
          case rel => exact ⟨k + 1, by omega, by go_num, HRN, B9⟩
          case measure => simp [intOf]; omega
        | false =>
          have HF : Hid (mayL (entsOf l) = false) := Lib.hid (by
            rw [HM.out, HFI.out, decide_eq_false (fun h => by have := h k hlt; rw [HFN.out] at this; cases this)]; rfl)
          go_wp2_with fail
          go_ret
          exact ⟨retB HF.out.symm, B9.out⟩
      · obtain rfl : k = vn := by omega
        have HF : Hid (mayL (entsOf l) = upL (entsOf l)) := Lib.hid (by
          rw [HM.out, HFI.out, decide_eq_true HRK.out]; rfl)
        have HR2 := Lib.hid (HRI.out wr HBR.out)
        go_wp2_with fail
        refine HR2.out.mono ?_
        rintro e w9 ⟨rfl, bel9⟩
        have B9 := Lib.hid (HBR.out.trans (bel9.mono HBR.out.size))
        go_wp2_with fail
        go_ret
        exact ⟨retB HF.out.symm, B9.out⟩
  · have HF : Hid (mayL (entsOf l) = false) := Lib.hid (by rw [HM.out, decide_eq_false hr]; rfl)
    by_cases hz : vn = 0
    · subst hz
      go_enter Tryz.func146, Tryz.ntmps146
      go_wp2_with fail
      go_ret
      exact ⟨retB HF.out.symm, Below.refl _ _⟩
    · have d1 : decide ((vn : Int) < 1) = false := by simp; omega
      have d2 : decide (64 < (vn : Int)) = true := by simp; omega
      have d3 : decide ((vn : Int) > 64) = true := by simp; omega
      go_enter Tryz.func146, Tryz.ntmps146
      go_wp2_with fail
      go_ret
      exact ⟨retB HF.out.symm, Below.refl _ _⟩
end Go.Proofs.YtbcnapkbdbefhaaGreatDoor

/- Walk of edits.twice: have two files one number? The condition: a slice that reads as files. -/
import Derived.Test.YtmonmfamnbfhcaaFl5
import Derived.Maps.OwnSet
namespace Go.Proofs.Ytmonmfamnbfhcaa
open Go.RowKit Go.Maps

theorem lawU : Keyed Try.prog 24 := int_keyed Try.underlying24
theorem zeroI (w : World) : (zeroValue 3).run Try.prog w = .ok (.int .i64 0) w := by kernel_rfl
/-- what the map tells behind so many files -/
def Seen {H : Type} (ns : List Nat) (D : DataW H) : Prop :=
  Tidy D ∧ (∀ j : Nat, has D (.int .u32 j) = decide (j ∈ ns)) ∧ (ns.Nodup → size D = ns.length) ∧ (¬ ns.Nodup → size D < ns.length)
theorem Seen.start {H : Type} : Seen (H := H) [] (.map []) :=
  ⟨tidy_empty, fun j => by simp [has_eq], fun _ => rfl, fun h => absurd List.nodup_nil h⟩
theorem keyU (j : Nat) : WideAt.IsKeyLit (.int .u32 (j : Int)) := trivial
theorem Seen.step {H : Type} {ns : List Nat} {D : DataW H} (h : Seen ns D) (j : Nat) (d : DataW H) : Seen (ns ++ [j]) (D.put (.int .u32 j) d) := by
  obtain ⟨t, hh, h1, h2⟩ := h
  have hk := keyU j
  refine ⟨t.put hk d, fun i => ?_, fun hn => ?_, fun hn => ?_⟩
  · by_cases e : i = j
    · subst e
      rw [has_put_same t.isMap hk]; simp
    · rw [has_put_other (by simpa using fun h : (i : Int) = j => e (by omega)), hh i]
      simp [e]
  · rw [List.nodup_append] at hn
    have hj : j ∉ ns := fun h => hn.2.2 j h j (by simp) rfl
    rw [size_put t, hh j]
    simp [hj, h1 hn.1]
  · rw [size_put t, hh j]
    by_cases hj : j ∈ ns
    · simp only [hj, decide_true, if_true, List.length_append, List.length_cons, List.length_nil]
      by_cases hd : ns.Nodup
      · have := h1 hd; omega
      · have := h2 hd; omega
    · have hd : ¬ ns.Nodup := fun hd => hn (by
        rw [List.nodup_append]
        exact ⟨hd, by simp, fun a ha b hb => by simp at hb; subst hb; exact fun e => hj (e ▸ ha)⟩)
      have := h2 hd
      simp only [hj, decide_false, Bool.false_eq_true, if_false, List.length_append, List.length_cons, List.length_nil]
      omega
theorem Seen.less {H : Type} {ns : List Nat} {D : DataW H} (h : Seen ns D) : decide (size D < ns.length) = !decide ns.Nodup := by
  by_cases hd : ns.Nodup
  · have := h.2.2.1 hd
    simp [hd, this]
  · have := h.2.2.2 hd
    simp [hd, this]

set_option maxRecDepth 100000 in
set_option maxHeartbeats 2000000 in
theorem twice_any (w : World) (v : Value) (l : List PF) (hv : RdF w v l) (hl : l.length ≤ 1000000) (hlo : ∀ f ∈ l, f.ok) :
    Calls Try.prog 42 #[v] w fun e w' => e = .returned (.bool (!decide (nums l).Nodup)) ∧ Below w.heap.size w w' := by
  have HV := Lib.hid hv
  have HLO := Lib.hid hlo
  obtain ⟨a, cap, rfl, h1, h2, h3⟩ := hv
  clear h3 hlo
  obtain ⟨n, hn⟩ : ∃ n, n = l.length := ⟨_, rfl⟩
  have HN := Lib.hid hn
  rw [← hn] at h1 HV hl ⊢
  clear hn
  have hmm := @run_makeMap Try.prog
  go_enter Try.func42, Try.ntmps42
  go_wp2
  go_loopw [9] (fun i wr => ∃ k : Nat, k ≤ n ∧ i = .int .i64 k ∧ (∃ D : DataW Unit, wr.ownsMap Try.prog 24 (plainElem Try.prog 3) w.heap.size k D ∧ Hid (Seen (nums (l.take k)) D)) ∧ Below w.heap.size w wr)
    (fun i _ => n - (intOf i).toNat)
  case atStart => exact ⟨0, Nat.zero_le _, rfl, ⟨_, World.ownsMap_made _ _ _ _, Lib.hid Seen.start⟩, alloc_bel _ _⟩
  case round =>
    obtain ⟨k, hk, rfl, ⟨D, hown, hseen⟩, bel⟩ := hrel
    have HB := Lib.hid bel
    clear bel
    by_cases hlt : k < n
    · have hkl : k < l.length := by rw [← HN.out]; exact hlt
      obtain ⟨a', c', he, _, _, hc⟩ := HV.out.below HB.out
      simp only [Value.slice.injEq] at he
      obtain ⟨rfl, hnl, rfl⟩ := he
      clear hnl
      obtain ⟨b, off, rfl, c0, c1, c2, c3⟩ := hc k hkl
      have hxo := HLO.out _ (List.getElem_mem hkl)
      have hst := fun d => Seen.step hseen.out l[k].n (d : DataW Unit)
      have e1 : nums (l.take k) ++ [l[k].n] = nums (l.take (k + 1)) := by rw [List.take_succ_eq_append_getElem hkl, nums_app]; rfl
      rw [e1] at hst
      have HST := Lib.hid hst
      obtain ⟨x, hx⟩ : ∃ x, x = l[k] := ⟨_, rfl⟩
      rw [← hx] at c0 c1 c2 c3 hxo HST
      clear hx hc e1 hst
      obtain ⟨xn, xl, xa, xb⟩ := x
      simp only at c0 c1 c2 c3 HST
      have hkey : keyOf Try.prog 24 (.int .u32 xn) = some (.int .u32 xn) := keyOf_int_mk Try.underlying24 (by have := hxo.1; simp only at this; simp only [Lit.wf, IntKind.min, IntKind.max, IntKind.signed, IntKind.bits]; simp; omega)
      clear hxo
      go_wp2_with (first
        | (at_lookup; refine wpList_lookup_own_int _ rfl _ _ 89 rfl 24 3 .i64 lawU Try.underlying89 Try.underlying3 (zeroI _) w.heap.size k _ rfl (hown.alloc _) _ _ rfl hkey ?_; intro c hat hwc)
        | (at_mapUpdate; refine wpList_mapUpdate_own _ rfl _ _ _ 89 rfl 24 3 lawU Try.underlying89 _ w.heap.size k _ rfl (hown.alloc _) (by unfold maxLen; omega) _ _ _ rfl rfl hkey _ [] (plainElem_int Try.underlying3 (wrap64_wf _)) ?_; intro w1 hown1 hgrow1)
        | go_in)
      go_roundw
      case rel =>
        refine ⟨k + 1, by omega, by go_num, ⟨_, hown1, Lib.hid (HST.out _)⟩, ?_⟩
        have b1 := Below.trans HB.out ((alloc_bel wr (.cells #[.int .u32 xn, .int .i64 xl, .string xa, .string xb] 33)).mono HB.out.size)
        exact b1.grown hgrow1 b1.size (fun j hj => by cases hj; exact Nat.le_refl _)
      case measure => simp [intOf]; omega
    · have hkn : k = n := by omega
      subst hkn
      have e : l.take k = l := List.take_of_length_le (by rw [← HN.out]; exact Nat.le_refl _)
      rw [e] at hseen
      have hls := hseen.out.less
      have e2 : (nums l).length = k := by rw [nums, List.length_map]; exact HN.out.symm
      rw [e2] at hls
      have HLS := Lib.hid hls
      clear hls e2 e hseen
      have hlen := fun (ty : TypeId) => hown.len Try.underlying89 ty
      go_wp2
      go_ret
      exact ⟨by rw [← HLS.out]; rfl, HB.out⟩
end Go.Proofs.Ytmonmfamnbfhcaa

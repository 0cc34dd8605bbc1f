/- Slices of entries that are cut: v[k:], v[:k], v[lo:hi:hi]. The condition: the bounds lie within the slice. -/
import Derived.Test.YtbcnapkbdbefhaaGreatDoorBlkV
namespace Go.Proofs.YtbcnapkbdbefhaaGreatDoor
open Go.RowKit

theorem pcells_drop (l : List PE) (k : Nat) (hk : k ≤ l.length) : (pcells l).drop (k * 4) = pcells (l.drop k) := flatM_drop pcell 4 (fun _ => rfl) l k hk
theorem toPE_of (x : PE) : toPE x.ent = x := by
  obtain ⟨k, s, g, u⟩ := x
  simp [toPE, PE.ent, entOf, bs]
theorem toPE_entsOf (l : List PE) : (entsOf l).map toPE = l := by
  unfold entsOf
  rw [List.map_map]
  conv => rhs; rw [← List.map_id l]
  exact List.map_congr_left fun x _ => toPE_of x
theorem rdE_reads {w : World} {v : Value} {l : List PE} (h : RdE w v l) : Reads w 4 v l.length (pcells l) := by
  obtain ⟨a, cap, rfl, h1, h2, h3⟩ := h
  refine ⟨a, cap, rfl, pcells_length l, h1, h2, fun i hi => ?_⟩
  have hil : i < l.length * 4 := by rw [← pcells_length]; exact hi
  have hj : i / 4 < l.length := by omega
  obtain ⟨b, off, e, c0, c1, c2, c3⟩ := h3 (i / 4) hj
  refine ⟨b, off, e, ?_⟩
  have hg := flatM_get pcell 4 (fun _ => rfl) l (i / 4) (i % 4) hj (by omega)
  rw [show i / 4 * 4 + i % 4 = i from by omega] at hg
  rw [← List.getElem?_eq_getElem hi]
  show _ = (l.flatMap pcell)[i]?
  rw [hg]
  have h4 : i % 4 = 0 ∨ i % 4 = 1 ∨ i % 4 = 2 ∨ i % 4 = 3 := by omega
  rcases h4 with h | h | h | h <;> rw [h] <;> simp only [pcell, List.getElem?_cons_zero, List.getElem?_cons_succ]
  · rw [show off + i = off + i / 4 * 4 from by omega]; exact c0
  · rw [show off + i = off + i / 4 * 4 + 1 from by omega]; exact c1
  · rw [show off + i = off + i / 4 * 4 + 2 from by omega]; exact c2
  · rw [show off + i = off + i / 4 * 4 + 3 from by omega]; exact c3
/-- v[k:] -/
theorem cutE_rest {w : World} {v : Value} {l : List PE} (h : RdE w v l) (k n : Nat) (hk : n + k = l.length) :
    ∃ a c, (∀ (w' : World) (kl : IntKind), (Instr.slice 29 v (some (.int kl k)) none none).run Tryz.prog w' = .ok (.slice a n c) w') ∧ RdE w (.slice a n c) (l.drop k) := by
  obtain ⟨i0, hi0, hz, hz1, hz2⟩ := info_parts info_ent
  obtain ⟨a, c, _, _, h3, h4⟩ := reads_cut Tryz.underlying29 hi0 hz1 (by omega) (rdE_reads h) k l.length (by omega) (Nat.le_refl _)
  have e : l.length - k = n := by omega
  rw [e] at h3 h4
  refine ⟨a, c, h3 rfl, ?_⟩
  have h5 : (pcells l).take (l.length * 4) = pcells l := List.take_of_length_le (by rw [pcells_length]; exact Nat.le_refl _)
  rw [h5, pcells_drop _ _ (by omega)] at h4
  exact (rdE_of h4).2
/-- v[:k] -/
theorem cutE_to {w : World} {v : Value} {l : List PE} (h : RdE w v l) (k : Nat) (hk : k ≤ l.length) :
    ∃ a c, (∀ (w' : World) (kh : IntKind), (Instr.slice 29 v none (some (.int kh k)) none).run Tryz.prog w' = .ok (.slice a k c) w') ∧ RdE w (.slice a k c) (l.take k) := by
  obtain ⟨i0, hi0, hz, hz1, hz2⟩ := info_parts info_ent
  obtain ⟨a, c, _, h2, _, h4⟩ := reads_cut Tryz.underlying29 hi0 hz1 (by omega) (rdE_reads h) 0 k (Nat.zero_le _) hk
  have h2 := h2 rfl
  rw [Nat.sub_zero] at h2 h4
  refine ⟨a, c, h2, ?_⟩
  have h5 : ((pcells l).take (k * 4)).drop (0 * 4) = pcells (l.take k) := by rw [Nat.zero_mul, List.drop_zero]; exact flatM_take pcell 4 (fun _ => rfl) l k hk
  rw [h5] at h4
  exact (rdE_of h4).2
set_option maxRecDepth 100000 in
/-- v[lo:hi:hi] -/
theorem cutE_win {w : World} {v : Value} {l : List PE} (h : RdE w v l) (lo m : Nat) (h2 : lo + m ≤ l.length) :
    ∃ a c, (∀ (w' : World), (Instr.slice 29 v (some (.int .i64 lo)) (some (.int .i64 ((lo : Int) + (m : Int)))) (some (.int .i64 ((lo : Int) + (m : Int))))).run Tryz.prog w' = .ok (.slice a m c) w') ∧ ∀ W, RdE W v l → RdE W (.slice a m c) ((l.drop lo).take m) := by
  obtain ⟨a0, c0, rfl, hc, hm, hr⟩ := h
  have hlen : ((l.drop lo).take m).length = m := by simp; omega
  obtain ⟨i0, hi0, hz, hz1, hz2⟩ := info_parts info_ent
  have hel : Tryz.prog.elem 29 = 34 := by simp [Program.elem, Tryz.underlying29]
  have hso : ∀ w' : World, (sizeOf (Tryz.prog.elem 29)).run Tryz.prog w' = .ok 4 w' := fun w' => by rw [hel]; simp [sizeOf, typeInfo, hi0, hz1]
  refine ⟨if m = 0 then a0 else a0.map (·.add (lo * 4)), m, fun w' => ?_, fun W hW => ?_⟩
  · have e1 : ((lo : Int) + (m : Int)) = ((lo + m : Nat) : Int) := by omega
    have e2 : lo + m - lo = m := by omega
    have e3 : (lo + m = lo) = (m = 0) := by simp
    obtain ⟨hj, hhj⟩ : ∃ k : Nat, k = lo + m := ⟨_, rfl⟩
    rw [← hhj] at e1 e2 e3
    rw [e1, run_slice_lhm w' 29 a0 l.length c0 (by kernel_rfl) .i64 .i64 .i64 lo hj hj (by omega) (by omega) (by omega) (by omega), hso]
    simp only [Result.andThen_ok, sliced, Int.toNat_natCast, e2, e3]
  · obtain ⟨a1, c1, e, _, _, hr'⟩ := hW
    simp only [Value.slice.injEq, true_and] at e
    obtain ⟨rfl, rfl⟩ := e
    refine ⟨_, _, by rw [hlen], by rw [hlen]; exact Nat.le_refl _, by omega, fun j hj => ?_⟩
    rw [hlen] at hj
    obtain ⟨b, off, rfl, k0, k1, k2, k3⟩ := hr' (lo + j) (by omega)
    have hx : ((l.drop lo).take m)[j]'(by rw [hlen]; exact hj) = l[lo + j] := by simp
    refine ⟨b, off + lo * 4, ?_, ?_⟩
    · rw [if_neg (by omega)]
      by_cases h0 : lo * 4 = 0
      · simp [Addr.add, h0]
      · simp [Addr.add, h0]
    · rw [hx]
      have e4 : off + lo * 4 + j * 4 = off + (lo + j) * 4 := by omega
      rw [e4]
      exact ⟨k0, k1, k2, k3⟩
/-- entries that were laid one by one -/
theorem rdE_new (w : World) (l : List PE) (cs : Array Value) (t : TypeId) (n : Nat) (hn : n = l.length) (hc : cs.toList = pcells l) (hm : l.length ≤ 1000) : RdE (w.alloc (.cells cs t)) (.slice (some ⟨w.heap.size, 0, none⟩) n n) l := by
  subst hn
  have hs : cs.size = l.length * 4 := by rw [← Array.length_toList, hc, pcells_length]
  have := reads_new w cs t l.length 4 hs (by unfold maxLen; omega)
  rw [hc] at this
  exact (rdE_of this).2
theorem empty_dec (u : ByteArray) : u.toList.isEmpty = decide (u = ⟨#[]⟩) := by
  rw [Lib.toList_data]
  obtain ⟨⟨d⟩⟩ := u
  cases d <;> simp
set_option maxRecDepth 100000 in
set_option maxHeartbeats 1000000 in
theorem cloneE_any (w : World) (ad : Addr) (n c : Nat) (l : List PE) (hv : Reads w 4 (.slice (some ad) n c) n (pcells l)) (hl : n ≤ 1000000) :
    Calls Tryz.prog 27 #[.slice (some ad) n c] w fun e w' => ∃ b c', e = .returned (.slice b n c') ∧ Hid (Own w' w.heap.size 34 4 (.slice b n c') n (pcells l)) ∧ Below w.heap.size w w' := by
  have HV := Lib.hid hv
  clear hv
  have hnn := Lib.run_eql_slice_nil (P := Tryz.prog) w 29 34 (some ad) n c 0 0 Tryz.underlying29
  obtain ⟨i0, hi0, hz, hz1, hz2⟩ := info_parts info_ent
  have HG : Hid (∀ o, Below w.heap.size w (w.alloc o)) := fun o => (Below.refl _ _).alloc (Nat.le_refl _) _
  go_enter Tryz.func27, Tryz.ntmps27
  go_wp2_with (at_builtin; go_loud (refine wp_app_el2 rfl _ _ rfl Tryz.underlying29 hi0 hz hz1 hz2 rfl (by omega) w.heap.size 0 n _ _ [] (pcells l) (pcells l) n rfl rfl (.inl ⟨rfl, rfl, _, rfl⟩) (Reads.later HV.out (HG.out _)) (one_pcells l) (by omega) (by simp) (by omega) (by omega) (by simp) ?_); intro b cc w' HO HGR)
  have hb := HGR.out.below
  have hbb := (HG.out _).trans hb
  go_ret
  exact ⟨b, cc, rfl, HO, hbb⟩
end Go.Proofs.YtbcnapkbdbefhaaGreatDoor

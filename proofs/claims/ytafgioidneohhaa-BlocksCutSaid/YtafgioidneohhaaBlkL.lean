/- What the laws of blocks share. No condition. -/
import Derived.Test.YtafgioidneohhaaAliveB
import Derived.Test.YtafgioidneohhaaSameE
namespace Go.Proofs.Ytafgioidneohhaa
open Go.RowKit

theorem toPE_of (x : PE) : toPE x.ent = x := by
  obtain ⟨k, s, g, u⟩ := x
  simp [toPE, PE.ent, entOf, bs]
theorem toPE_entsOf (l : List PE) : (entsOf l).map toPE = l := by
  unfold entsOf
  rw [List.map_map]
  conv => rhs; rw [← List.map_id l]
  exact List.map_congr_left fun x _ => toPE_of x
theorem seqs_of {l : List PE} (h : ∀ x ∈ l, x.ok) : (∀ x ∈ l, x.s < 18446744073709551616) ∧ Seqs (entsOf l) := by
  refine ⟨fun x hx => (h x hx).2.1, fun y hy => ?_⟩
  obtain ⟨x, hx, rfl⟩ := List.mem_map.1 hy
  exact (h x hx).2.1
theorem rdE_reads {w : World} {v : Value} {l : List PE} (h : RdE w v l) : Reads w 4 v l.length (pcells l) := by
  obtain ⟨a, cap, rfl, h1, h2, h3⟩ := h
  refine ⟨a, cap, rfl, pcells_length l, h1, h2, fun i hi => ?_⟩
  have hil : i < l.length * 4 := by rw [← pcells_length]; exact hi
  have hj : i / 4 < l.length := by omega
  obtain ⟨b, off, e, c0, c1, c2, c3⟩ := h3 (i / 4) hj
  refine ⟨b, off, e, ?_⟩
  have hg := flatM_get pcell 4 (fun _ => rfl) l (i / 4) (i % 4) hj (by omega)
  rw [show i / 4 * 4 + i % 4 = i from by omega] at hg
  rw [← List.getElem?_eq_getElem hi]
  show _ = (l.flatMap pcell)[i]?
  rw [hg]
  have h4 : i % 4 = 0 ∨ i % 4 = 1 ∨ i % 4 = 2 ∨ i % 4 = 3 := by omega
  rcases h4 with h | h | h | h <;> rw [h] <;> simp only [pcell, List.getElem?_cons_zero, List.getElem?_cons_succ]
  · rw [show off + i = off + i / 4 * 4 from by omega]; exact c0
  · rw [show off + i = off + i / 4 * 4 + 1 from by omega]; exact c1
  · rw [show off + i = off + i / 4 * 4 + 2 from by omega]; exact c2
  · rw [show off + i = off + i / 4 * 4 + 3 from by omega]; exact c3
/-- v[k:] -/
theorem cutE_rest {w : World} {v : Value} {l : List PE} (h : RdE w v l) (k n : Nat) (hk : n + k = l.length) :
    ∃ a c, (∀ (w' : World) (kl : IntKind), (Instr.slice 43 v (some (.int kl k)) none none).run Try.prog w' = .ok (.slice a n c) w') ∧ RdE w (.slice a n c) (l.drop k) := by
  obtain ⟨i0, hi0, hz, hz1, hz2⟩ := info_parts info_ent
  obtain ⟨a, c, _, _, h3, h4⟩ := reads_cut Try.underlying43 hi0 hz1 (by omega) (rdE_reads h) k l.length (by omega) (Nat.le_refl _)
  have e : l.length - k = n := by omega
  rw [e] at h3 h4
  refine ⟨a, c, h3 rfl, ?_⟩
  have h5 : (pcells l).take (l.length * 4) = pcells l := List.take_of_length_le (by rw [pcells_length]; exact Nat.le_refl _)
  rw [h5, pcells_drop _ _ (by omega)] at h4
  exact (rdE_of h4).2
/-- v[:k] -/
theorem cutE_to {w : World} {v : Value} {l : List PE} (h : RdE w v l) (k : Nat) (hk : k ≤ l.length) :
    ∃ a c, (∀ (w' : World) (kh : IntKind), (Instr.slice 43 v none (some (.int kh k)) none).run Try.prog w' = .ok (.slice a k c) w') ∧ RdE w (.slice a k c) (l.take k) := by
  obtain ⟨i0, hi0, hz, hz1, hz2⟩ := info_parts info_ent
  obtain ⟨a, c, _, h2, _, h4⟩ := reads_cut Try.underlying43 hi0 hz1 (by omega) (rdE_reads h) 0 k (Nat.zero_le _) hk
  have h2 := h2 rfl
  rw [Nat.sub_zero] at h2 h4
  refine ⟨a, c, h2, ?_⟩
  have h5 : ((pcells l).take (k * 4)).drop (0 * 4) = pcells (l.take k) := by rw [Nat.zero_mul, List.drop_zero]; exact flatM_take pcell 4 (fun _ => rfl) l k hk
  rw [h5] at h4
  exact (rdE_of h4).2
theorem blk_small {E : List Ent} (hm : mayL E = true) : (blkPut E).length ≤ 40000 := by
  obtain ⟨h1, h2⟩ := (mayL_iff E).1 hm
  have := body_small E h2 E.length (Nat.le_refl _)
  rw [blkPut_length]
  omega
def mkOf (x : Ent) : Mk := ⟨x.key, x.seq, x.gone⟩
theorem rise_from {E : List Ent} (hm : mayL E = true) (m : Mk) (q : Nat) (hq : 0 ≤ cmpK (mkOf (atE E q)) m) (i : Nat) (h1 : q ≤ i) (h2 : i < E.length) : 0 ≤ cmpK (mkOf (atE E i)) m := by
  induction i with
  | zero => obtain rfl : q = 0 := by omega
            exact hq
  | succ i ih =>
    by_cases e : q = i + 1
    · rw [← e]; exact hq
    · have hi := ih (by omega) (by omega)
      have hok := ((mayL_iff E).1 hm).2 (i + 1) h2
      unfold okAt at hok
      simp only [Bool.and_eq_true, Bool.or_eq_true, beq_iff_eq, decide_eq_true_eq, Nat.add_sub_cancel] at hok
      have hlt : cmpK (mkOf (atE E i)) (mkOf (atE E (i + 1))) < 0 := by
        rcases hok.2 with h | h
        · omega
        · exact h
      by_cases hn : cmpK (mkOf (atE E (i + 1))) m < 0
      · have := cmpK_tr (mkOf (atE E i)) (mkOf (atE E (i + 1))) m (by omega) (by omega)
        have h0 := this.2.1 (by omega)
        omega
      · omega
theorem seek_all {E : List Ent} (hm : mayL E = true) (k : List UInt8) (s : Nat) (g : Bool) (i : Nat) (hi : i < E.length) : (cmpM (atE E i).key (atE E i).seq (atE E i).gone k s g < 0) ↔ i < seekAt k s g E := by
  constructor
  · intro h
    by_cases hq : i < seekAt k s g E
    · exact hq
    · have h1 := seekAt_at k s g E (by omega)
      have := rise_from hm ⟨k, s, g⟩ (seekAt k s g E) h1 i (by omega) hi
      have h2 : cmpK (mkOf (atE E i)) ⟨k, s, g⟩ < 0 := h
      omega
  · exact seekAt_lt k s g E i
end Go.Proofs.Ytafgioidneohhaa

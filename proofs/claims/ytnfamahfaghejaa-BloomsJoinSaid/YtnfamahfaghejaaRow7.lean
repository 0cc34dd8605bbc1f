/- How a law's arguments are opened, more kinds: lists of entries, of marks. No condition. -/
import Derived.Test.YtnfamahfaghejaaRow6
import Derived.Test.YtnfamahfaghejaaEnts
import Derived.Test.YtnfamahfaghejaaMarks
namespace Go.Proofs.Ytnfamahfaghejaa
open Go.ChangeShapes Go.WideShapes Go.ChangeAt Go.RowKit Go.Deep

section
variable {H : Type} {enc : TypeId × Value → H} {W : World} {base : Nat} {v : Value} {d : DataW H} {p : List MemPlace}

set_option maxRecDepth 100000 in
theorem bytesOf_entry : Try.prog.bytesOf 42 = 48 := by kernel_rfl
set_option maxRecDepth 100000 in
/-- a []api.Entry -/
theorem open_entries {ts : List TypeId} {ds : List (DataW H)} {j : Nat} (hz : (DataW.weightsEach Try.prog ts ds).all (· ≤ reachBytes) = true) (ht : ts[j]? = some 54) (hd : ds[j]? = some d)
    (hval : Value.okWide Try.prog W .any base 54 v) (h : DataW.Trod enc Try.prog W 0 (fun _ => true) true 54 v d p) : ∃ l : List PE, RdE W v l ∧ (l.length ≤ 2932031007402 ∧ ∀ x ∈ l, x.ok) := by
  obtain ⟨a0, len0, cap0, rfl⟩ := okWide_slice Try.underlying54 hval
  obtain ⟨n0, n1, m0, m1, m2, f1, f2, f3, f4, f5, f6, f7⟩ := entry_facts
  obtain ⟨fuel, hf⟩ := h
  rcases open_slice Try.underlying54 hf with ⟨hcs, _⟩ | ⟨x, l, c, m, n, D, Pl, hcs, _, hl, hm, hmm, hx, hcell⟩
  · simp [Value.cells] at hcs
    obtain ⟨rfl, rfl, rfl⟩ := hcs
    exact ⟨[], ⟨none, 0, rfl, by simp, by omega, fun j hj => absurd hj (by simp)⟩, by simp, by simp⟩
  · simp [Value.cells] at hcs
    obtain ⟨rfl, rfl, rfl⟩ := hcs
    simp only [if_true] at hmm
    subst hmm
    rw [cells_entry] at hcell
    have hd' : d = .slice ((List.range len0).map D) ((List.range (m - len0)).map fun j => D (len0 + j)) := congrArg Prod.fst hx
    have hb := sized_slice hz ht (by rw [hd, hd']) Try.underlying54
    rw [bytesOf_entry] at hb
    simp only [List.length_map, List.length_range, reachBytes] at hb
    have e1 : ∀ a : ByteArray, a.data.toList.length = a.size := fun a => by rw [Array.length_toList]; rfl
    have each : ∀ i, i < len0 → ∃ y : PE, W.cell? (x.add (i * 4 + 0)) = some (.string y.k) ∧ W.cell? (x.add (i * 4 + 1)) = some (.int .u64 y.s) ∧ W.cell? (x.add (i * 4 + 2)) = some (.bool y.g) ∧ W.cell? (x.add (i * 4 + 3)) = some (.string y.u) ∧ y.ok := by
      intro i hi
      obtain ⟨cs', hcc, htr⟩ := hcell i (by omega)
      obtain ⟨_, hcl, hat⟩ := World.cells?_some hcc
      match cs', hcl with
      | [c0, c1, c2, c3], _ =>
        obtain ⟨k, s, g, u, rfl, rfl, rfl, rfl, hs, hy⟩ := trod_entry f1 f2 f3 f4 f5 f6 f7 Try.underlying9 Try.underlying38 Try.underlying4 (by kernel_rfl) (by kernel_rfl) (by kernel_rfl) (by kernel_rfl) htr
        simp only at hy
        have hmem : D i ∈ (List.range len0).map D := List.mem_map.2 ⟨i, List.mem_range.2 hi, rfl⟩
        have hw : ∀ q ∈ (D i).weights Try.prog 42, q ≤ reachBytes := fun q hq => by
          have := List.all_eq_true.1 hz _ (DataW.weights_mem_each ht hd q (by
            rw [hd']
            simp only [DataW.weights, Try.underlying54, List.mem_cons, List.mem_append]
            exact .inr (.inl (weightsAll_mem hmem _ hq))))
          exact of_decide_eq_true this
        have b1 := hw k.data.toList.length (by rw [hy]; simp [DataW.weights, DataW.weightsEach, f1, f4, f2.1, f3.1])
        have b2 := hw u.data.toList.length (by rw [hy]; simp [DataW.weights, DataW.weightsEach, f1, f4, f2.1, f3.1])
        rw [e1] at b1 b2
        refine ⟨⟨k, s, g, u⟩, ?_, ?_, ?_, ?_, b1, hs, b2⟩
        · have := hat (i := 0) (by omega); rw [Go.Deep.add_add] at this; exact this
        · have := hat (i := 1) (by omega); rw [Go.Deep.add_add] at this; exact this
        · have := hat (i := 2) (by omega); rw [Go.Deep.add_add] at this; exact this
        · have := hat (i := 3) (by omega); rw [Go.Deep.add_add] at this; exact this
    obtain ⟨ls, hls, hat⟩ := list_of_each each
    refine ⟨ls, ⟨some x, m, by rw [hls], by rw [hls]; exact hl, by unfold maxLen at hm; omega, fun j hj => ?_⟩, by rw [hls]; omega, fun s hs => ?_⟩
    · obtain ⟨c0, c1, c2, c3, _⟩ := hat j hj
      obtain ⟨b, off, spot⟩ := x
      have hspot : spot = none := by
        have hc0 := (hat 0 (by omega)).1
        simpa [Addr.add] using World.cell?_spot hc0
      subst hspot
      have e : ∀ q : Nat, (⟨b, off, none⟩ : Addr).add q = ⟨b, off + q, none⟩ := fun q => by
        unfold Addr.add; split <;> simp_all
      rw [e] at c0 c1 c2 c3
      exact ⟨b, off, rfl, c0, by rw [Nat.add_assoc]; exact c1, by rw [Nat.add_assoc]; exact c2, by rw [Nat.add_assoc]; exact c3⟩
    · obtain ⟨i, hi, rfl⟩ := List.mem_iff_getElem.1 hs
      exact (hat i hi).2.2.2.2
end
end Go.Proofs.Ytnfamahfaghejaa

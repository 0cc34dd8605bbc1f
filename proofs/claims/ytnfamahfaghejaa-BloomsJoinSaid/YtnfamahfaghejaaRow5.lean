/- How a law's arguments are opened, more kinds: lists of numbers and of texts. No condition. -/
import Derived.Test.YtnfamahfaghejaaRow4
import Derived.Test.YtnfamahfaghejaaLists
namespace Go.Proofs.Ytnfamahfaghejaa
open Go.ChangeShapes Go.WideShapes Go.ChangeAt Go.RowKit

section
variable {H : Type} {enc : TypeId × Value → H} {W : World} {base : Nat} {v : Value} {d : DataW H} {p : List MemPlace}

theorem weightsAll_mem {P : Program} {e : TypeId} {x : DataW H} : ∀ {l : List (DataW H)}, x ∈ l → ∀ n ∈ x.weights P e, n ∈ DataW.weightsAll P e l
  | y :: l, hx, n, hn => by
    simp only [DataW.weightsAll, List.mem_append]
    rcases List.mem_cons.1 hx with rfl | hx
    · exact .inl hn
    · exact .inr (weightsAll_mem hx n hn)
set_option maxRecDepth 100000 in
theorem bytesOf_str : Try.prog.bytesOf 9 = 16 := by kernel_rfl
set_option maxRecDepth 100000 in
/-- a []string -/
theorem open_texts {ts : List TypeId} {ds : List (DataW H)} {j : Nat} (hz : (DataW.weightsEach Try.prog ts ds).all (· ≤ reachBytes) = true) (ht : ts[j]? = some 22) (hd : ds[j]? = some d)
    (hval : Value.okWide Try.prog W .any base 22 v) (h : DataW.Trod enc Try.prog W 0 (fun _ => true) true 22 v d p) : ∃ l : List ByteArray, RdT W v l ∧ (l.length ≤ 8796093022202 ∧ ∀ s ∈ l, s.size ≤ 140737488351232) := by
  obtain ⟨a0, len0, cap0, rfl⟩ := okWide_slice Try.underlying22 hval
  obtain ⟨fuel, hf⟩ := h
  rcases open_strings Try.underlying22 Try.underlying9 (by kernel_rfl) hf with ⟨hcs, _⟩ | ⟨x, l, c, ss, hcs, _, hl, hm, hz0, hx, hcell, _⟩
  · simp [Value.cells] at hcs
    obtain ⟨rfl, rfl, rfl⟩ := hcs
    exact ⟨[], ⟨none, 0, rfl, by simp, by omega, fun j hj => absurd hj (by simp)⟩, by simp, by simp⟩
  · simp [Value.cells] at hcs
    obtain ⟨rfl, rfl, rfl⟩ := hcs
    simp only [if_true] at hz0
    have hd' : d = .slice (strs (ss.take len0)) (strs (ss.drop len0)) := congrArg Prod.fst hx
    have hlen : (ss.take len0).length = len0 := by simp; omega
    have hb := sized_slice hz ht (by rw [hd, hd']) Try.underlying22
    rw [bytesOf_str] at hb
    simp only [strs, List.length_map, List.length_take, List.length_drop, reachBytes] at hb
    refine ⟨ss.take len0, ⟨some x, cap0, by rw [hlen], by rw [hlen]; exact hl, by unfold maxLen at hm; omega, fun j hj => ?_⟩, by rw [hlen]; omega, fun s hs => ?_⟩
    · rw [hlen] at hj
      have hc := hcell j (by omega)
      obtain ⟨b, off, spot⟩ := x
      have hspot : spot = none := by
        have hc0 := hcell 0 (by omega)
        simpa [Addr.add] using World.cell?_spot hc0
      subst hspot
      refine ⟨b, off, rfl, ?_⟩
      have e : (⟨b, off, none⟩ : Addr).add j = ⟨b, off + j, none⟩ := by
        unfold Addr.add; split <;> simp_all
      rw [e] at hc
      rw [hc]
      have hjz : j < ss.length := by omega
      simp [List.getD_eq_getElem?_getD, hjz]
    · have hmem : (DataW.lit (.string s.data.toList) : DataW H) ∈ (strs (ss.take len0) : List (DataW H)) := by
        simp only [strs, List.mem_map]
        exact ⟨s, hs, rfl⟩
      have hw := List.all_eq_true.1 hz _ (DataW.weights_mem_each ht hd s.data.toList.length (by
        rw [hd']
        simp only [DataW.weights, Try.underlying22, List.mem_cons, List.mem_append]
        exact .inr (.inl (weightsAll_mem hmem _ (by simp [DataW.weights])))))
      have e : s.data.toList.length = s.size := by rw [Array.length_toList]; rfl
      rw [e] at hw
      exact of_decide_eq_true hw
end
end Go.Proofs.Ytnfamahfaghejaa

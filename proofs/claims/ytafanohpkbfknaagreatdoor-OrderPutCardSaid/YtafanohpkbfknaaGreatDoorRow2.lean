/- How a law's arguments are opened, more kinds: arrays of bytes and of numbers; lists of numbers and of texts. No condition. -/
import Derived.Test.YtafanohpkbfknaaGreatDoorRow
import Derived.SliceStrings
namespace Go.Proofs.YtafanohpkbfknaaGreatDoor
open Go.ChangeShapes Go.WideShapes Go.ChangeAt Go.RowKit

section
variable {H : Type} {enc : TypeId × Value → H} {W : World} {base : Nat} {v : Value} {d : DataW H} {p : List MemPlace}

set_option maxRecDepth 100000 in
theorem open_arr_ints {P : Program} {n : Nat} {t e : TypeId} {k : IntKind} (ht : P.underlying t = some (.array n e)) (he : P.underlying e = some (.int k)) (hc1 : P.cellsOf e = 1) (hcn : P.cellsOf t = n)
    (hval : Value.okWide P W .any base t v) (h : DataW.Trod enc P W 0 (fun _ => true) true t v d p) :
    ∃ zs : List Int, v = .agg (zs.map (Value.int k)).toArray ∧ zs.length = n ∧ ∀ z ∈ zs, (Lit.int k z).wf = true := by
  have hv : ∃ cs : Array Value, v = .agg cs ∧ cs.size = n := by
    simp only [Value.okWide, ht] at hval
    obtain ⟨cs, h1, h2, _⟩ := hval
    exact ⟨cs, h1, by rw [h2, hcn]⟩
  obtain ⟨cs, rfl, hsz⟩ := hv
  obtain ⟨fuel, hf⟩ := h
  obtain ⟨xs, m, _, _, _, hlen, hel⟩ := DataW.trod_array ht hf
  rw [hc1] at hel
  have key : ∀ i (hi : i < n), ∃ z, cs.toList[i]? = some (.int k z) ∧ (Lit.int k z).wf = true := by
    intro i hi
    have h1 := hel i hi
    rw [List.getElem?_eq_getElem (by omega)] at h1
    obtain ⟨z, e1, _, w1⟩ := DataW.trod_int he h1
    refine ⟨z, ?_, w1⟩
    have hcl : i < cs.toList.length := by simpa [hsz] using hi
    have e2 : ((Value.agg cs).cells.toList.drop (i * 1)).take 1 = [cs.toList[i]] := by
      simp only [Value.cells, Nat.mul_one]
      rw [List.drop_eq_getElem_cons hcl]; rfl
    rw [e2] at e1
    rw [List.getElem?_eq_getElem hcl]
    simpa using e1
  have key2 : ∀ (l : List Value), (∀ i (hi : i < l.length), ∃ z, l[i]? = some (.int k z) ∧ (Lit.int k z).wf = true) → ∃ zs : List Int, l = zs.map (Value.int k) ∧ ∀ z ∈ zs, (Lit.int k z).wf = true := by
    intro l
    induction l with
    | nil => intro _; exact ⟨[], rfl, by simp⟩
    | cons a t ih =>
      intro hl
      obtain ⟨z, hz, wz⟩ := hl 0 (by simp)
      obtain ⟨zs, rfl, hzs⟩ := ih (fun i hi => hl (i + 1) (by simpa using hi))
      simp only [List.getElem?_cons_zero, Option.some.injEq] at hz
      subst hz
      refine ⟨z :: zs, rfl, fun y hy => ?_⟩
      rcases List.mem_cons.1 hy with rfl | hy
      · exact wz
      · exact hzs y hy
  obtain ⟨zs, hzs, hw⟩ := key2 cs.toList (fun i hi => key i (by simpa [hsz] using hi))
  refine ⟨zs, ?_, ?_, hw⟩
  · rw [← hzs]
  · have := congrArg List.length hzs
    simp [hsz] at this
    omega
theorem ints_u8 (zs : List Int) (h : ∀ z ∈ zs, (Lit.int .u8 z).wf = true) : ∃ l : List UInt8, zs.map (Value.int .u8) = u8s l ∧ l.length = zs.length := by
  refine ⟨zs.map fun z => UInt8.ofNat z.toNat, ?_, by simp⟩
  simp only [u8s, List.map_map]
  refine List.map_congr_left fun z hz => ?_
  have hb : 0 ≤ z ∧ z ≤ 255 := by simpa [Lit.wf, IntKind.min, IntKind.max, IntKind.signed, IntKind.bits] using h z hz
  simp
  omega
end
end Go.Proofs.YtafanohpkbfknaaGreatDoor

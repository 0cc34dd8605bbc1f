/- How a law's arguments are opened, more kinds: lists of numbers and of texts. No condition. | How a law's arguments are opened, more kinds: lists of records. No condition. | How a law's arguments are opened, more kinds: lists of entries, of marks. No condition. -/
import Derived.Test.YtafgioidneohhaaRow4
import Derived.Test.YtafgioidneohhaaLists
import Derived.Test.YtafgioidneohhaaRecs
import Derived.Deep.Slices
import Derived.Test.YtafgioidneohhaaEnts
import Derived.Test.YtafgioidneohhaaMarks
namespace Go.Proofs.Ytafgioidneohhaa
open Go.ChangeShapes Go.WideShapes Go.ChangeAt Go.RowKit

section
variable {H : Type} {enc : TypeId × Value → H} {W : World} {base : Nat} {v : Value} {d : DataW H} {p : List MemPlace}

theorem weightsAll_mem {P : Program} {e : TypeId} {x : DataW H} : ∀ {l : List (DataW H)}, x ∈ l → ∀ n ∈ x.weights P e, n ∈ DataW.weightsAll P e l
  | y :: l, hx, n, hn => by
    simp only [DataW.weightsAll, List.mem_append]
    rcases List.mem_cons.1 hx with rfl | hx
    · exact .inl hn
    · exact .inr (weightsAll_mem hx n hn)
set_option maxRecDepth 100000 in
theorem bytesOf_str : Try.prog.bytesOf 9 = 16 := by kernel_rfl
end
end Go.Proofs.Ytafgioidneohhaa
namespace Go.Proofs.Ytafgioidneohhaa
open Go.ChangeShapes Go.WideShapes Go.ChangeAt Go.RowKit Go.Deep

section
variable {H : Type} {enc : TypeId × Value → H} {W : World} {base : Nat} {v : Value} {d : DataW H} {p : List MemPlace}

set_option maxRecDepth 100000 in
theorem bytes_of_trod {b0 fuel : Nat} {held : Bool} (h : DataW.trod enc Try.prog W b0 (fun _ => true) held fuel 22 [v] = some (d, p)) (hw : ∀ n ∈ d.weights Try.prog 22, n ≤ reachBytes) :
    ∃ l : List UInt8, Rd W v l ∧ l.length ≤ 140737488351232 := by
  rcases open_ints Try.underlying22 Try.underlying5 (by kernel_rfl) h with ⟨hcs, _⟩ | ⟨x, len0, cap0, zs, hcs, _, hl, hm, hz0, hx, hcell, hwz⟩
  · simp at hcs
    subst hcs
    exact ⟨[], ⟨none, 0, rfl, by simp, by omega, fun j hj => absurd hj (by simp)⟩, Nat.zero_le _⟩
  · simp at hcs
    subst hcs
    simp only [if_true] at hz0
    have hlen : ((zs.take len0).map fun n => UInt8.ofNat n.toNat).length = len0 := by simp; omega
    have hb : len0 ≤ 140737488351232 := by
      have hd' : d = .slice (lits .u8 (zs.take len0)) (lits .u8 (zs.drop len0)) := congrArg Prod.fst hx
      have := hw _ (by rw [hd']; simp only [DataW.weights, Try.underlying22]; exact List.mem_cons_self)
      rw [bytesOf_u8] at this
      simp only [lits, List.length_map, List.length_take, List.length_drop, reachBytes] at this
      omega
    refine ⟨(zs.take len0).map fun n => UInt8.ofNat n.toNat, ⟨some x, cap0, by rw [hlen], by rw [hlen]; exact hl, by unfold maxLen at hm; omega, fun j hj => ?_⟩, by rw [hlen]; exact hb⟩
    rw [hlen] at hj
    have hc := hcell j (by omega)
    obtain ⟨b, off, spot⟩ := x
    have hspot : spot = none := by
      have hc0 := hcell 0 (by omega)
      simpa [Addr.add] using World.cell?_spot hc0
    subst hspot
    refine ⟨b, off, rfl, ?_⟩
    have e : (⟨b, off, none⟩ : Addr).add j = ⟨b, off + j, none⟩ := by
      unfold Addr.add; split <;> simp_all
    rw [e] at hc
    rw [hc]
    have hjz : j < zs.length := by omega
    have hw := hwz zs[j] (List.getElem_mem hjz)
    have hbd : 0 ≤ zs[j] ∧ zs[j] ≤ 255 := by simpa [Lit.wf, IntKind.min, IntKind.max, IntKind.signed, IntKind.bits] using hw
    simp only [List.getElem_map, List.getElem_take, List.getD_eq_getElem?_getD, List.getElem?_eq_getElem hjz, Option.getD_some, UInt8.toNat_ofNat']
    congr 2
    omega
theorem list_of_each {α : Type} {n : Nat} {p : Nat → α → Prop} (h : ∀ i, i < n → ∃ x, p i x) : ∃ l : List α, l.length = n ∧ ∀ i, (hi : i < l.length) → p i l[i] := by
  induction n with
  | zero => exact ⟨[], rfl, fun i hi => absurd hi (by simp)⟩
  | succ n ih =>
    obtain ⟨l, h1, h2⟩ := ih fun i hi => h i (by omega)
    obtain ⟨x, hx⟩ := h n (by omega)
    refine ⟨l ++ [x], by simp [h1], fun i hi => ?_⟩
    simp only [List.length_append, List.length_cons, List.length_nil] at hi
    by_cases e : i < l.length
    · rw [List.getElem_append_left e]; exact h2 i e
    · have : i = l.length := by omega
      subst this
      simp only [List.getElem_append_right (Nat.le_refl _), Nat.sub_self, List.getElem_cons_zero]
      rw [h1]; exact hx
set_option maxRecDepth 100000 in
/-- a [][]byte -/
theorem open_records {ts : List TypeId} {ds : List (DataW H)} {j : Nat} (hz : (DataW.weightsEach Try.prog ts ds).all (· ≤ reachBytes) = true) (ht : ts[j]? = some 102) (hd : ds[j]? = some d)
    (hval : Value.okWide Try.prog W .any base 102 v) (h : DataW.Trod enc Try.prog W 0 (fun _ => true) true 102 v d p) : ∃ l : List (List UInt8), RdR W v l ∧ ∀ x ∈ l, x.length ≤ 140737488351232 := by
  obtain ⟨a0, len0, cap0, rfl⟩ := okWide_slice Try.underlying102 hval
  obtain ⟨fuel, hf⟩ := h
  rcases open_slice1 Try.underlying102 (by kernel_rfl) hf with ⟨hcs, _⟩ | ⟨x, l, c, m, n, V, D, Pl, hcs, _, hl, hm, hmm, hx, hcell⟩
  · simp [Value.cells] at hcs
    obtain ⟨rfl, rfl, rfl⟩ := hcs
    exact ⟨[], ⟨none, 0, rfl, by simp, by omega, fun j hj => absurd hj (by simp)⟩, by simp⟩
  · simp [Value.cells] at hcs
    obtain ⟨rfl, rfl, rfl⟩ := hcs
    simp only [if_true] at hmm
    subst hmm
    have hd' : d = .slice ((List.range len0).map D) ((List.range (m - len0)).map fun j => D (len0 + j)) := congrArg Prod.fst hx
    have each : ∀ i, i < len0 → ∃ y : List UInt8, W.cell? (x.add i) = some (V i) ∧ Rd W (V i) y ∧ y.length ≤ 140737488351232 := by
      intro i hi
      obtain ⟨c1, c2⟩ := hcell i (by omega)
      have hmem : D i ∈ (List.range len0).map D := List.mem_map.2 ⟨i, List.mem_range.2 hi, rfl⟩
      obtain ⟨y, y1, y2⟩ := bytes_of_trod c2 (fun n hn => by
        have := List.all_eq_true.1 hz _ (DataW.weights_mem_each ht hd n (by
          rw [hd']
          simp only [DataW.weights, Try.underlying102, List.mem_cons, List.mem_append]
          exact .inr (.inl (weightsAll_mem hmem _ hn))))
        exact of_decide_eq_true this)
      exact ⟨y, c1, y1, y2⟩
    obtain ⟨ls, hls, hat⟩ := list_of_each each
    refine ⟨ls, ⟨some x, m, by rw [hls], by rw [hls]; exact hl, by unfold maxLen at hm; omega, fun j hj => ?_⟩, fun s hs => ?_⟩
    · obtain ⟨c1, c2, _⟩ := hat j hj
      obtain ⟨b, off, spot⟩ := x
      have hspot : spot = none := by
        have hc0 := (hat 0 (by omega)).1
        simpa [Addr.add] using World.cell?_spot hc0
      subst hspot
      have e : (⟨b, off, none⟩ : Addr).add j = ⟨b, off + j, none⟩ := by
        unfold Addr.add; split <;> simp_all
      rw [e] at c1
      exact ⟨b, off, V j, rfl, c1, c2⟩
    · obtain ⟨i, hi, rfl⟩ := List.mem_iff_getElem.1 hs
      exact (hat i hi).2.2
end
end Go.Proofs.Ytafgioidneohhaa
namespace Go.Proofs.Ytafgioidneohhaa
open Go.ChangeShapes Go.WideShapes Go.ChangeAt Go.RowKit Go.Deep

section
variable {H : Type} {enc : TypeId × Value → H} {W : World} {base : Nat} {v : Value} {d : DataW H} {p : List MemPlace}

set_option maxRecDepth 100000 in
theorem bytesOf_entry : Try.prog.bytesOf 30 = 48 := by kernel_rfl
set_option maxRecDepth 100000 in
/-- a []api.Entry -/
theorem open_entries {ts : List TypeId} {ds : List (DataW H)} {j : Nat} (hz : (DataW.weightsEach Try.prog ts ds).all (· ≤ reachBytes) = true) (ht : ts[j]? = some 43) (hd : ds[j]? = some d)
    (hval : Value.okWide Try.prog W .any base 43 v) (h : DataW.Trod enc Try.prog W 0 (fun _ => true) true 43 v d p) : ∃ l : List PE, RdE W v l ∧ (l.length ≤ 2932031007402 ∧ ∀ x ∈ l, x.ok) := by
  obtain ⟨a0, len0, cap0, rfl⟩ := okWide_slice Try.underlying43 hval
  obtain ⟨n0, n1, m0, m1, m2, f1, f2, f3, f4, f5, f6, f7⟩ := entry_facts
  obtain ⟨fuel, hf⟩ := h
  rcases open_slice Try.underlying43 hf with ⟨hcs, _⟩ | ⟨x, l, c, m, n, D, Pl, hcs, _, hl, hm, hmm, hx, hcell⟩
  · simp [Value.cells] at hcs
    obtain ⟨rfl, rfl, rfl⟩ := hcs
    exact ⟨[], ⟨none, 0, rfl, by simp, by omega, fun j hj => absurd hj (by simp)⟩, by simp, by simp⟩
  · simp [Value.cells] at hcs
    obtain ⟨rfl, rfl, rfl⟩ := hcs
    simp only [if_true] at hmm
    subst hmm
    rw [cells_entry] at hcell
    have hd' : d = .slice ((List.range len0).map D) ((List.range (m - len0)).map fun j => D (len0 + j)) := congrArg Prod.fst hx
    have hb := sized_slice hz ht (by rw [hd, hd']) Try.underlying43
    rw [bytesOf_entry] at hb
    simp only [List.length_map, List.length_range, reachBytes] at hb
    have e1 : ∀ a : ByteArray, a.data.toList.length = a.size := fun a => by rw [Array.length_toList]; rfl
    have each : ∀ i, i < len0 → ∃ y : PE, W.cell? (x.add (i * 4 + 0)) = some (.string y.k) ∧ W.cell? (x.add (i * 4 + 1)) = some (.int .u64 y.s) ∧ W.cell? (x.add (i * 4 + 2)) = some (.bool y.g) ∧ W.cell? (x.add (i * 4 + 3)) = some (.string y.u) ∧ y.ok := by
      intro i hi
      obtain ⟨cs', hcc, htr⟩ := hcell i (by omega)
      obtain ⟨_, hcl, hat⟩ := World.cells?_some hcc
      match cs', hcl with
      | [c0, c1, c2, c3], _ =>
        obtain ⟨k, s, g, u, rfl, rfl, rfl, rfl, hs, hy⟩ := trod_entry f1 f2 f3 f4 f5 f6 f7 Try.underlying9 Try.underlying26 Try.underlying4 (by kernel_rfl) (by kernel_rfl) (by kernel_rfl) (by kernel_rfl) htr
        simp only at hy
        have hmem : D i ∈ (List.range len0).map D := List.mem_map.2 ⟨i, List.mem_range.2 hi, rfl⟩
        have hw : ∀ q ∈ (D i).weights Try.prog 30, q ≤ reachBytes := fun q hq => by
          have := List.all_eq_true.1 hz _ (DataW.weights_mem_each ht hd q (by
            rw [hd']
            simp only [DataW.weights, Try.underlying43, List.mem_cons, List.mem_append]
            exact .inr (.inl (weightsAll_mem hmem _ hq))))
          exact of_decide_eq_true this
        have b1 := hw k.data.toList.length (by rw [hy]; simp [DataW.weights, DataW.weightsEach, f1, f4, f2.1, f3.1])
        have b2 := hw u.data.toList.length (by rw [hy]; simp [DataW.weights, DataW.weightsEach, f1, f4, f2.1, f3.1])
        rw [e1] at b1 b2
        refine ⟨⟨k, s, g, u⟩, ?_, ?_, ?_, ?_, b1, hs, b2⟩
        · have := hat (i := 0) (by omega); rw [Go.Deep.add_add] at this; exact this
        · have := hat (i := 1) (by omega); rw [Go.Deep.add_add] at this; exact this
        · have := hat (i := 2) (by omega); rw [Go.Deep.add_add] at this; exact this
        · have := hat (i := 3) (by omega); rw [Go.Deep.add_add] at this; exact this
    obtain ⟨ls, hls, hat⟩ := list_of_each each
    refine ⟨ls, ⟨some x, m, by rw [hls], by rw [hls]; exact hl, by unfold maxLen at hm; omega, fun j hj => ?_⟩, by rw [hls]; omega, fun s hs => ?_⟩
    · obtain ⟨c0, c1, c2, c3, _⟩ := hat j hj
      obtain ⟨b, off, spot⟩ := x
      have hspot : spot = none := by
        have hc0 := (hat 0 (by omega)).1
        simpa [Addr.add] using World.cell?_spot hc0
      subst hspot
      have e : ∀ q : Nat, (⟨b, off, none⟩ : Addr).add q = ⟨b, off + q, none⟩ := fun q => by
        unfold Addr.add; split <;> simp_all
      rw [e] at c0 c1 c2 c3
      exact ⟨b, off, rfl, c0, by rw [Nat.add_assoc]; exact c1, by rw [Nat.add_assoc]; exact c2, by rw [Nat.add_assoc]; exact c3⟩
    · obtain ⟨i, hi, rfl⟩ := List.mem_iff_getElem.1 hs
      exact (hat i hi).2.2.2.2
end
end Go.Proofs.Ytafgioidneohhaa

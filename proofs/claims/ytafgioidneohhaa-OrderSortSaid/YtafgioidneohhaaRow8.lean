/- How a law's arguments are opened, more kinds: lists of marks, of pairs of texts. No condition. -/
import Derived.Test.YtafgioidneohhaaRow7
namespace Go.Proofs.Ytafgioidneohhaa
open Go.ChangeShapes Go.WideShapes Go.ChangeAt Go.RowKit Go.Deep

/-- a slice that reads as pairs of texts -/
def RdP (w : World) (v : Value) (l : List (ByteArray × ByteArray)) : Prop :=
  ∃ a cap, v = .slice a l.length cap ∧ l.length ≤ cap ∧ cap ≤ 9223372036854775807 ∧
    ∀ j, (h : j < l.length) → ∃ b off, a = some ⟨b, off, none⟩ ∧ w.cell? ⟨b, off + j * 2, none⟩ = some (.string l[j].1) ∧ w.cell? ⟨b, off + j * 2 + 1, none⟩ = some (.string l[j].2)
theorem RdP.below {w w' : World} {v : Value} {l : List (ByteArray × ByteArray)} (h : RdP w v l) (hb : Below w.heap.size w w') : RdP w' v l := by
  obtain ⟨a, cap, h1, h2, h3, h4⟩ := h
  refine ⟨a, cap, h1, h2, h3, fun j hj => ?_⟩
  obtain ⟨b, off, e, c0, c1⟩ := h4 j hj
  exact ⟨b, off, e, Below.keeps hb _ _ _ c0, Below.keeps hb _ _ _ c1⟩
section
variable {H : Type} {enc : TypeId × Value → H} {W : World} {base : Nat} {v : Value} {d : DataW H} {p : List MemPlace}

theorem trod_mark {P : Program} {tm ts tn tb : TypeId} {m0 m1 m2 : Field} {fuel : Nat} {c0 c1 c2 : Value} {x : DataW H × List MemPlace}
    (hm : P.underlying tm = some (.struct #[m0, m1, m2]))
    (hm0 : m0.type = ts ∧ m0.offset = 0) (hm1 : m1.type = tn ∧ m1.offset = 1) (hm2 : m2.type = tb ∧ m2.offset = 2)
    (hs : P.underlying ts = some .string) (hn : P.underlying tn = some (.int .u64)) (hb : P.underlying tb = some .bool) (cs : P.cellsOf ts = 1) (cn : P.cellsOf tn = 1) (cb : P.cellsOf tb = 1)
    (h : DataW.trod enc P W 0 (fun _ => true) true fuel tm [c0, c1, c2] = some x) :
    ∃ (k : ByteArray) (s : Nat) (g : Bool), c0 = .string k ∧ c1 = .int .u64 s ∧ c2 = .bool g ∧ s < 18446744073709551616 ∧
      x.1 = .agg [.lit (.string k.data.toList), .lit (.int .u64 s), .lit (.bool g)] := by
  obtain ⟨ys, m, _, hy, _, hl2, hg2⟩ := DataW.trod_struct hm h
  match ys, hl2 with
  | [z0, z1, z2], _ =>
    have q0 := hg2 0 m0 rfl
    have q1 := hg2 1 m1 rfl
    have q2 := hg2 2 m2 rfl
    rw [hm0.1, hm0.2, cs] at q0
    rw [hm1.1, hm1.2, cn] at q1
    rw [hm2.1, hm2.2, cb] at q2
    simp only [List.drop_zero, List.take_succ_cons, List.take_zero, List.drop_succ_cons, List.getElem?_cons_zero, List.getElem?_cons_succ] at q0 q1 q2
    obtain ⟨k, e0, r0, _⟩ := DataW.trod_string hs q0
    obtain ⟨s, e1, r1, w1⟩ := DataW.trod_int hn q1
    obtain ⟨g, e2, r2⟩ := DataW.trod_bool hb q2
    simp only [List.cons.injEq, and_true] at e0 e1 e2
    have hbd : 0 ≤ s ∧ s ≤ 18446744073709551615 := by simpa [Lit.wf, IntKind.min, IntKind.max, IntKind.signed, IntKind.bits] using w1
    obtain ⟨sn, rfl⟩ := Int.eq_ofNat_of_zero_le hbd.1
    refine ⟨k, sn, g, e0, e1, e2, by omega, ?_⟩
    rw [hy]
    simp [r0, r1, r2]
set_option maxRecDepth 100000 in
theorem bytesOf_mark : Try.prog.bytesOf 28 = 32 := by kernel_rfl
set_option maxRecDepth 100000 in
theorem mark_facts : ∃ m0 m1 m2 : Field, Try.prog.underlying 28 = some (.struct #[m0, m1, m2]) ∧
    (m0.type = 9 ∧ m0.offset = 0) ∧ (m1.type = 26 ∧ m1.offset = 1) ∧ (m2.type = 4 ∧ m2.offset = 2) := by
  refine ⟨_, _, _, Try.underlying28, ⟨rfl, rfl⟩, ⟨rfl, rfl⟩, ⟨rfl, rfl⟩⟩
set_option maxRecDepth 100000 in
/-- a []api.Mark -/
theorem open_marks {ts : List TypeId} {ds : List (DataW H)} {j : Nat} (hz : (DataW.weightsEach Try.prog ts ds).all (· ≤ reachBytes) = true) (ht : ts[j]? = some 38) (hd : ds[j]? = some d)
    (hval : Value.okWide Try.prog W .any base 38 v) (h : DataW.Trod enc Try.prog W 0 (fun _ => true) true 38 v d p) : ∃ l : List MkB, RdM W v l ∧ (l.length ≤ 4398046511104 ∧ ∀ x ∈ l, x.k.size ≤ 140737488351232 ∧ x.s < 18446744073709551616) := by
  obtain ⟨a0, len0, cap0, rfl⟩ := okWide_slice Try.underlying38 hval
  obtain ⟨m0, m1, m2, f4, f5, f6, f7⟩ := mark_facts
  obtain ⟨fuel, hf⟩ := h
  rcases open_slice Try.underlying38 hf with ⟨hcs, _⟩ | ⟨x, l, c, m, n, D, Pl, hcs, _, hl, hm, hmm, hx, hcell⟩
  · simp [Value.cells] at hcs
    obtain ⟨rfl, rfl, rfl⟩ := hcs
    exact ⟨[], ⟨none, 0, rfl, by simp, by omega, fun j hj => absurd hj (by simp)⟩, by simp, by simp⟩
  · simp [Value.cells] at hcs
    obtain ⟨rfl, rfl, rfl⟩ := hcs
    simp only [if_true] at hmm
    subst hmm
    rw [cells_mark] at hcell
    have hd' : d = .slice ((List.range len0).map D) ((List.range (m - len0)).map fun j => D (len0 + j)) := congrArg Prod.fst hx
    have hb := sized_slice hz ht (by rw [hd, hd']) Try.underlying38
    rw [bytesOf_mark] at hb
    simp only [List.length_map, List.length_range, reachBytes] at hb
    have e1 : ∀ a : ByteArray, a.data.toList.length = a.size := fun a => by rw [Array.length_toList]; rfl
    have each : ∀ i, i < len0 → ∃ y : MkB, W.cell? (x.add (i * 3 + 0)) = some (.string y.k) ∧ W.cell? (x.add (i * 3 + 1)) = some (.int .u64 y.s) ∧ W.cell? (x.add (i * 3 + 2)) = some (.bool y.g) ∧ y.k.size ≤ 140737488351232 ∧ y.s < 18446744073709551616 := by
      intro i hi
      obtain ⟨cs', hcc, htr⟩ := hcell i (by omega)
      obtain ⟨_, hcl, hat⟩ := World.cells?_some hcc
      match cs', hcl with
      | [c0, c1, c2], _ =>
        obtain ⟨k, s, g, rfl, rfl, rfl, hs, hy⟩ := trod_mark f4 f5 f6 f7 Try.underlying9 Try.underlying26 Try.underlying4 (by kernel_rfl) (by kernel_rfl) (by kernel_rfl) htr
        simp only at hy
        have hmem : D i ∈ (List.range len0).map D := List.mem_map.2 ⟨i, List.mem_range.2 hi, rfl⟩
        have hw : ∀ q ∈ (D i).weights Try.prog 28, q ≤ reachBytes := fun q hq => by
          have := List.all_eq_true.1 hz _ (DataW.weights_mem_each ht hd q (by
            rw [hd']
            simp only [DataW.weights, Try.underlying38, List.mem_cons, List.mem_append]
            exact .inr (.inl (weightsAll_mem hmem _ hq))))
          exact of_decide_eq_true this
        have b1 := hw k.data.toList.length (by rw [hy]; simp [DataW.weights, DataW.weightsEach, f4])
        rw [e1] at b1
        refine ⟨⟨k, s, g⟩, ?_, ?_, ?_, b1, hs⟩
        · have := hat (i := 0) (by omega); rw [Go.Deep.add_add] at this; exact this
        · have := hat (i := 1) (by omega); rw [Go.Deep.add_add] at this; exact this
        · have := hat (i := 2) (by omega); rw [Go.Deep.add_add] at this; exact this
    obtain ⟨ls, hls, hat⟩ := list_of_each each
    refine ⟨ls, ⟨some x, m, by rw [hls], by rw [hls]; exact hl, by unfold maxLen at hm; omega, fun j hj => ?_⟩, by rw [hls]; omega, fun s hs => ?_⟩
    · obtain ⟨c0, c1, c2, _⟩ := hat j hj
      obtain ⟨b, off, spot⟩ := x
      have hspot : spot = none := by
        have hc0 := (hat 0 (by omega)).1
        simpa [Addr.add] using World.cell?_spot hc0
      subst hspot
      have e : ∀ q : Nat, (⟨b, off, none⟩ : Addr).add q = ⟨b, off + q, none⟩ := fun q => by
        unfold Addr.add; split <;> simp_all
      rw [e] at c0 c1 c2
      exact ⟨b, off, rfl, c0, by rw [Nat.add_assoc]; exact c1, by rw [Nat.add_assoc]; exact c2⟩
    · obtain ⟨i, hi, rfl⟩ := List.mem_iff_getElem.1 hs
      exact (hat i hi).2.2.2
end
end Go.Proofs.Ytafgioidneohhaa

/- Slices of files and of numbers of 32 bits, and how a law's arguments of these kinds are opened. No condition. -/
import Derived.Test.YtimfcinkjjaigaaGreatDoorEdP
import Derived.Test.YtimfcinkjjaigaaGreatDoorReads
import Derived.Test.YtimfcinkjjaigaaGreatDoorRowA
import Derived.Deep.Slices
namespace Go.Proofs.YtimfcinkjjaigaaGreatDoor
open Go.ChangeShapes Go.WideShapes Go.ChangeAt Go.RowKit Go.Deep

def PF.cells (x : PF) : List Value := [.int .u32 x.n, .int .i64 x.lv, .string x.a, .string x.b]
def fcells (l : List PF) : List Value := l.flatMap PF.cells
def ucells (l : List Nat) : List Value := l.map fun (n : Nat) => Value.int .u32 n
/-- a slice that reads as files -/
def RdF (w : World) (v : Value) (l : List PF) : Prop :=
  ∃ a cap, v = .slice a l.length cap ∧ l.length ≤ cap ∧ cap ≤ 9223372036854775807 ∧
    ∀ j, (h : j < l.length) → ∃ b off, a = some ⟨b, off, none⟩ ∧ w.cell? ⟨b, off + j * 4, none⟩ = some (.int .u32 l[j].n) ∧ w.cell? ⟨b, off + j * 4 + 1, none⟩ = some (.int .i64 l[j].lv) ∧
      w.cell? ⟨b, off + j * 4 + 2, none⟩ = some (.string l[j].a) ∧ w.cell? ⟨b, off + j * 4 + 3, none⟩ = some (.string l[j].b)
/-- a slice that reads as numbers of 32 bits -/
def RdU (w : World) (v : Value) (l : List Nat) : Prop :=
  ∃ a cap, v = .slice a l.length cap ∧ l.length ≤ cap ∧ cap ≤ 9223372036854775807 ∧
    ∀ j, (h : j < l.length) → ∃ b off, a = some ⟨b, off, none⟩ ∧ w.cell? ⟨b, off + j, none⟩ = some (.int .u32 l[j])
theorem RdF.below {w w' : World} {v : Value} {l : List PF} (h : RdF w v l) (hb : Below w.heap.size w w') : RdF w' v l := by
  obtain ⟨a, cap, h1, h2, h3, h4⟩ := h
  refine ⟨a, cap, h1, h2, h3, fun j hj => ?_⟩
  obtain ⟨b, off, e, c0, c1, c2, c3⟩ := h4 j hj
  exact ⟨b, off, e, Below.keeps hb _ _ _ c0, Below.keeps hb _ _ _ c1, Below.keeps hb _ _ _ c2, Below.keeps hb _ _ _ c3⟩
theorem RdU.below {w w' : World} {v : Value} {l : List Nat} (h : RdU w v l) (hb : Below w.heap.size w w') : RdU w' v l := by
  obtain ⟨a, cap, h1, h2, h3, h4⟩ := h
  refine ⟨a, cap, h1, h2, h3, fun j hj => ?_⟩
  obtain ⟨b, off, e, c0⟩ := h4 j hj
  exact ⟨b, off, e, Below.keeps hb _ _ _ c0⟩
theorem RdF.nil (w : World) : RdF w (.slice none 0 0) [] := ⟨none, 0, rfl, by simp, by omega, fun j hj => absurd hj (by simp)⟩
theorem RdU.nil (w : World) : RdU w (.slice none 0 0) [] := ⟨none, 0, rfl, by simp, by omega, fun j hj => absurd hj (by simp)⟩
theorem fcells_length (l : List PF) : (fcells l).length = l.length * 4 := flatM_length PF.cells 4 (fun _ => rfl) l
theorem fcells_app (l m : List PF) : fcells (l ++ m) = fcells l ++ fcells m := by simp [fcells]
theorem ucells_length (l : List Nat) : (ucells l).length = l.length := by simp [ucells]
theorem ucells_app (l m : List Nat) : ucells (l ++ m) = ucells l ++ ucells m := by simp [ucells]
theorem one_fcells (l : List PF) : ∀ u ∈ fcells l, u.oneCell' = true := by
  intro u hu
  obtain ⟨x, _, hx⟩ := List.mem_flatMap.1 hu
  simp only [PF.cells, List.mem_cons, List.not_mem_nil, or_false] at hx
  rcases hx with rfl | rfl | rfl | rfl <;> rfl
theorem one_ucells (l : List Nat) : ∀ u ∈ ucells l, u.oneCell' = true := by
  intro u hu
  obtain ⟨x, _, rfl⟩ := List.mem_map.1 hu
  rfl
theorem rdF_reads {w : World} {v : Value} {l : List PF} (h : RdF w v l) : Reads w 4 v l.length (fcells l) := by
  obtain ⟨a, cap, rfl, h1, h2, h3⟩ := h
  refine ⟨a, cap, rfl, fcells_length l, h1, h2, fun i hi => ?_⟩
  have hil : i < l.length * 4 := by rw [← fcells_length]; exact hi
  have hj : i / 4 < l.length := by omega
  obtain ⟨b, off, e, c0, c1, c2, c3⟩ := h3 (i / 4) hj
  refine ⟨b, off, e, ?_⟩
  have hg := flatM_get PF.cells 4 (fun _ => rfl) l (i / 4) (i % 4) hj (by omega)
  rw [show i / 4 * 4 + i % 4 = i from by omega] at hg
  rw [← List.getElem?_eq_getElem hi]
  show _ = (l.flatMap PF.cells)[i]?
  rw [hg]
  have h4 : i % 4 = 0 ∨ i % 4 = 1 ∨ i % 4 = 2 ∨ i % 4 = 3 := by omega
  rcases h4 with h | h | h | h <;> rw [h] <;> simp only [PF.cells, List.getElem?_cons_zero, List.getElem?_cons_succ]
  · rw [show off + i = off + i / 4 * 4 from by omega]; exact c0
  · rw [show off + i = off + i / 4 * 4 + 1 from by omega]; exact c1
  · rw [show off + i = off + i / 4 * 4 + 2 from by omega]; exact c2
  · rw [show off + i = off + i / 4 * 4 + 3 from by omega]; exact c3
theorem rdF_of {w : World} {v : Value} {n : Nat} {l : List PF} (h : Reads w 4 v n (fcells l)) : n = l.length ∧ RdF w v l := by
  obtain ⟨a, cap, rfl, hl, hc, hm, hr⟩ := h
  rw [fcells_length] at hl
  have hn : n = l.length := by omega
  subst hn
  refine ⟨rfl, a, cap, rfl, hc, hm, fun j hj => ?_⟩
  have hg := fun i (hi : i < 4) => flatM_get PF.cells 4 (fun _ => rfl) l j i hj hi
  have key : ∀ i, i < 4 → ∃ b off, a = some ⟨b, off, none⟩ ∧ w.cell? ⟨b, off + (j * 4 + i), none⟩ = (l[j].cells)[i]? := fun i hi => by
    have hlt : j * 4 + i < (fcells l).length := by rw [fcells_length]; omega
    obtain ⟨b, off, e, c⟩ := hr (j * 4 + i) hlt
    exact ⟨b, off, e, by rw [c, ← hg i hi]; exact (List.getElem?_eq_getElem hlt).symm⟩
  obtain ⟨b, off, e, c0⟩ := key 0 (by omega)
  obtain ⟨b1, off1, e1, c1⟩ := key 1 (by omega)
  obtain ⟨b2, off2, e2, c2⟩ := key 2 (by omega)
  obtain ⟨b3, off3, e3, c3⟩ := key 3 (by omega)
  rw [e] at e1 e2 e3
  cases e1; cases e2; cases e3
  exact ⟨b, off, e, c0, by rw [Nat.add_assoc]; exact c1, by rw [Nat.add_assoc]; exact c2, by rw [Nat.add_assoc]; exact c3⟩
theorem rdU_of {w : World} {v : Value} {n : Nat} {l : List Nat} (h : Reads w 1 v n (ucells l)) : n = l.length ∧ RdU w v l := by
  obtain ⟨a, cap, rfl, hl, hc, hm, hr⟩ := h
  rw [ucells_length, Nat.mul_one] at hl
  subst hl
  refine ⟨rfl, a, cap, rfl, hc, hm, fun j hj => ?_⟩
  obtain ⟨b, off, e, hc⟩ := hr j (by rw [ucells_length]; exact hj)
  exact ⟨b, off, e, by rw [hc]; simp [ucells]⟩
theorem rdU_reads {w : World} {v : Value} {l : List Nat} (h : RdU w v l) : Reads w 1 v l.length (ucells l) := by
  obtain ⟨a, cap, rfl, h1, h2, h3⟩ := h
  refine ⟨a, cap, rfl, by simp [ucells], h1, h2, fun j hj => ?_⟩
  obtain ⟨b, off, e, hc⟩ := h3 j (by simpa [ucells] using hj)
  exact ⟨b, off, e, by rw [hc]; simp [ucells]⟩
theorem fcells_take (l : List PF) (k : Nat) (hk : k ≤ l.length) : (fcells l).take (k * 4) = fcells (l.take k) := flatM_take PF.cells 4 (fun _ => rfl) l k hk
theorem fcells_drop (l : List PF) (k : Nat) (hk : k ≤ l.length) : (fcells l).drop (k * 4) = fcells (l.drop k) := flatM_drop PF.cells 4 (fun _ => rfl) l k hk
set_option maxRecDepth 100000 in
theorem info_file : (Tryz.prog.info? 86).map (fun i => (i.zero, i.size, i.bytes)) = some (some (.agg #[.int .u32 0, .int .i64 0, .string .empty, .string .empty]), 4, 48) := by kernel_rfl
set_option maxRecDepth 100000 in
theorem info_u32 : (Tryz.prog.info? 24).map (fun i => (i.zero, i.size, i.bytes)) = some (some (.int .u32 0), 1, 4) := by kernel_rfl

section
variable {H : Type} {enc : TypeId × Value → H} {W : World} {base : Nat} {v : Value} {d : DataW H} {p : List MemPlace}
theorem weightsAllF {P : Program} {e : TypeId} {x : DataW H} : ∀ {l : List (DataW H)}, x ∈ l → ∀ n ∈ x.weights P e, n ∈ DataW.weightsAll P e l
  | y :: l, hx, n, hn => by
    simp only [DataW.weightsAll, List.mem_append]
    rcases List.mem_cons.1 hx with rfl | hx
    · exact .inl hn
    · exact .inr (weightsAllF hx n hn)
theorem list_each {α : Type} {n : Nat} {p : Nat → α → Prop} (h : ∀ i, i < n → ∃ x, p i x) : ∃ l : List α, l.length = n ∧ ∀ i, (hi : i < l.length) → p i l[i] := by
  induction n with
  | zero => exact ⟨[], rfl, fun i hi => absurd hi (by simp)⟩
  | succ n ih =>
    obtain ⟨l, h1, h2⟩ := ih fun i hi => h i (by omega)
    obtain ⟨x, hx⟩ := h n (by omega)
    refine ⟨l ++ [x], by simp [h1], fun i hi => ?_⟩
    simp only [List.length_append, List.length_cons, List.length_nil] at hi
    by_cases e : i < l.length
    · rw [List.getElem_append_left e]; exact h2 i e
    · have : i = l.length := by omega
      subst this
      simp only [List.getElem_append_right (Nat.le_refl _), Nat.sub_self, List.getElem_cons_zero]
      rw [h1]; exact hx
/-- a file's four cells, read -/
theorem trod_file {P : Program} {te ts tn ti : TypeId} {n0 n1 n2 n3 : Field} {fuel : Nat} {c0 c1 c2 c3 : Value} {x : DataW H × List MemPlace}
    (he : P.underlying te = some (.struct #[n0, n1, n2, n3])) (hn0 : n0.type = tn ∧ n0.offset = 0) (hn1 : n1.type = ti ∧ n1.offset = 1) (hn2 : n2.type = ts ∧ n2.offset = 2) (hn3 : n3.type = ts ∧ n3.offset = 3)
    (hs : P.underlying ts = some .string) (hn : P.underlying tn = some (.int .u32)) (hi : P.underlying ti = some (.int .i64)) (cs : P.cellsOf ts = 1) (cn : P.cellsOf tn = 1) (ci : P.cellsOf ti = 1)
    (h : DataW.trod enc P W 0 (fun _ => true) true fuel te [c0, c1, c2, c3] = some x) :
    ∃ y : PF, c0 = .int .u32 y.n ∧ c1 = .int .i64 y.lv ∧ c2 = .string y.a ∧ c3 = .string y.b ∧ y.n < 4294967296 ∧ (-9223372036854775808 ≤ y.lv ∧ y.lv ≤ 9223372036854775807) ∧
      x.1 = .agg [.lit (.int .u32 y.n), .lit (.int .i64 y.lv), .lit (.string y.a.data.toList), .lit (.string y.b.data.toList)] := by
  obtain ⟨xs, n, _, hx, _, hl, hg⟩ := DataW.trod_struct he h
  match xs, hl with
  | [y0, y1, y2, y3], _ =>
    have h0 := hg 0 n0 rfl
    have h1 := hg 1 n1 rfl
    have h2 := hg 2 n2 rfl
    have h3 := hg 3 n3 rfl
    rw [hn0.1, hn0.2, cn] at h0
    rw [hn1.1, hn1.2, ci] at h1
    rw [hn2.1, hn2.2, cs] at h2
    rw [hn3.1, hn3.2, cs] at h3
    simp only [List.drop_zero, List.take_succ_cons, List.take_zero, List.drop_succ_cons, List.getElem?_cons_zero, List.getElem?_cons_succ] at h0 h1 h2 h3
    obtain ⟨s, e0, r0, w0⟩ := DataW.trod_int hn h0
    obtain ⟨z, e1, r1, w1⟩ := DataW.trod_int hi h1
    obtain ⟨a, e2, r2, _⟩ := DataW.trod_string hs h2
    obtain ⟨b, e3, r3, _⟩ := DataW.trod_string hs h3
    simp only [List.cons.injEq, and_true] at e0 e1 e2 e3
    have hbd : 0 ≤ s ∧ s ≤ 4294967295 := by simpa [Lit.wf, IntKind.min, IntKind.max, IntKind.signed, IntKind.bits] using w0
    have hbz : -9223372036854775808 ≤ z ∧ z ≤ 9223372036854775807 := by simpa [Lit.wf, IntKind.min, IntKind.max, IntKind.signed, IntKind.bits] using w1
    obtain ⟨sn, rfl⟩ := Int.eq_ofNat_of_zero_le hbd.1
    refine ⟨⟨sn, z, a, b⟩, e0, e1, e2, e3, by show sn < _; omega, hbz, ?_⟩
    rw [hx]
    simp [r0, r1, r2, r3]
set_option maxRecDepth 100000 in
theorem file_facts : ∃ n0 n1 n2 n3 : Field, Tryz.prog.underlying 86 = some (.struct #[n0, n1, n2, n3]) ∧ (n0.type = 24 ∧ n0.offset = 0) ∧ (n1.type = 3 ∧ n1.offset = 1) ∧ (n2.type = 9 ∧ n2.offset = 2) ∧ (n3.type = 9 ∧ n3.offset = 3) :=
  ⟨_, _, _, _, Tryz.underlying86, ⟨rfl, rfl⟩, ⟨rfl, rfl⟩, ⟨rfl, rfl⟩, ⟨rfl, rfl⟩⟩
set_option maxRecDepth 100000 in
theorem cells_file : Tryz.prog.cellsOf 86 = 4 := by kernel_rfl
set_option maxRecDepth 100000 in
theorem bytesOf_file : Tryz.prog.bytesOf 86 = 48 := by kernel_rfl
set_option maxRecDepth 100000 in
theorem bytesOf_u32 : Tryz.prog.bytesOf 24 = 4 := by kernel_rfl

set_option maxRecDepth 100000 in
set_option maxHeartbeats 1000000 in
theorem files_of_trod {fuel : Nat} (h : DataW.trod enc Tryz.prog W 0 (fun _ => true) true fuel 22 [v] = some (d, p)) (hw : ∀ n ∈ d.weights Tryz.prog 22, n ≤ reachBytes) :
    ∃ l : List PF, RdF W v l ∧ l.length ≤ 2932031007402 ∧ ∀ x ∈ l, x.ok := by
  obtain ⟨n0, n1, n2, n3, f1, f2, f3, f4, f5⟩ := file_facts
  rcases open_slice Tryz.underlying22 h with ⟨hcs, _⟩ | ⟨x, len0, cap0, m, n, D, Pl, hcs, _, hl, hm, hmm, hx, hcell⟩
  · simp at hcs
    subst hcs
    exact ⟨[], RdF.nil _, by simp, by simp⟩
  · simp at hcs
    subst hcs
    simp only [if_true] at hmm
    subst hmm
    rw [cells_file] at hcell
    have hd' : d = .slice ((List.range len0).map D) ((List.range (m - len0)).map fun j => D (len0 + j)) := congrArg Prod.fst hx
    have hb : len0 ≤ 2932031007402 := by
      have := hw _ (by rw [hd']; simp only [DataW.weights, Tryz.underlying22]; exact List.mem_cons_self)
      rw [bytesOf_file] at this
      simp only [List.length_map, List.length_range, reachBytes] at this
      omega
    have e1 : ∀ a : ByteArray, a.data.toList.length = a.size := fun a => by rw [Array.length_toList]; rfl
    have each : ∀ i, i < len0 → ∃ y : PF, W.cell? (x.add (i * 4 + 0)) = some (.int .u32 y.n) ∧ W.cell? (x.add (i * 4 + 1)) = some (.int .i64 y.lv) ∧ W.cell? (x.add (i * 4 + 2)) = some (.string y.a) ∧ W.cell? (x.add (i * 4 + 3)) = some (.string y.b) ∧ y.ok := by
      intro i hi
      obtain ⟨cs', hcc, htr⟩ := hcell i (by omega)
      obtain ⟨_, hcl, hat⟩ := World.cells?_some hcc
      match cs', hcl with
      | [c0, c1, c2, c3], _ =>
        obtain ⟨y, rfl, rfl, rfl, rfl, hs, hz, hy⟩ := trod_file f1 f2 f3 f4 f5 Tryz.underlying9 Tryz.underlying24 Tryz.underlying3 (by kernel_rfl) (by kernel_rfl) (by kernel_rfl) htr
        simp only at hy
        have hmem : D i ∈ (List.range len0).map D := List.mem_map.2 ⟨i, List.mem_range.2 hi, rfl⟩
        have hw : ∀ q ∈ (D i).weights Tryz.prog 86, q ≤ reachBytes := fun q hq => hw _ (by
            rw [hd']
            simp only [DataW.weights, Tryz.underlying22, List.mem_cons, List.mem_append]
            exact .inr (.inl (weightsAllF hmem _ hq)))
        have b1 := hw y.a.data.toList.length (by rw [hy]; simp [DataW.weights, DataW.weightsEach, f1])
        have b2 := hw y.b.data.toList.length (by rw [hy]; simp [DataW.weights, DataW.weightsEach, f1])
        rw [e1] at b1 b2
        refine ⟨y, ?_, ?_, ?_, ?_, hs, hz, b1, b2⟩
        · have := hat (i := 0) (by omega); rw [Go.Deep.add_add] at this; exact this
        · have := hat (i := 1) (by omega); rw [Go.Deep.add_add] at this; exact this
        · have := hat (i := 2) (by omega); rw [Go.Deep.add_add] at this; exact this
        · have := hat (i := 3) (by omega); rw [Go.Deep.add_add] at this; exact this
    obtain ⟨ls, hls, hat⟩ := list_each each
    refine ⟨ls, ⟨some x, m, by rw [hls], by rw [hls]; exact hl, by unfold maxLen at hm; omega, fun j hj => ?_⟩, by rw [hls]; exact hb, fun s hs => ?_⟩
    · obtain ⟨c0, c1, c2, c3, _⟩ := hat j hj
      obtain ⟨b, off, spot⟩ := x
      have hspot : spot = none := by
        have hc0 := (hat 0 (by omega)).1
        simpa [Addr.add] using World.cell?_spot hc0
      subst hspot
      have e : ∀ q : Nat, (⟨b, off, none⟩ : Addr).add q = ⟨b, off + q, none⟩ := fun q => by
        unfold Addr.add; split <;> simp_all
      rw [e] at c0 c1 c2 c3
      exact ⟨b, off, rfl, c0, by rw [Nat.add_assoc]; exact c1, by rw [Nat.add_assoc]; exact c2, by rw [Nat.add_assoc]; exact c3⟩
    · obtain ⟨i, hi, rfl⟩ := List.mem_iff_getElem.1 hs
      exact (hat i hi).2.2.2.2

set_option maxRecDepth 100000 in
theorem ids_of_trod {fuel : Nat} (h : DataW.trod enc Tryz.prog W 0 (fun _ => true) true fuel 23 [v] = some (d, p)) (hw : ∀ n ∈ d.weights Tryz.prog 23, n ≤ reachBytes) :
    ∃ l : List Nat, RdU W v l ∧ l.length ≤ 35184372088808 ∧ ∀ x ∈ l, x < 4294967296 := by
  rcases open_ints Tryz.underlying23 Tryz.underlying24 (by kernel_rfl) h with ⟨hcs, _⟩ | ⟨x, len0, cap0, zs, hcs, _, hl, hm, hz0, hx, hcell, hwz⟩
  · simp at hcs
    subst hcs
    exact ⟨[], RdU.nil _, Nat.zero_le _, by simp⟩
  · simp at hcs
    subst hcs
    simp only [if_true] at hz0
    have hlen : ((zs.take len0).map Int.toNat).length = len0 := by simp; omega
    have hb : len0 ≤ 35184372088808 := by
      have hd' : d = .slice (lits .u32 (zs.take len0)) (lits .u32 (zs.drop len0)) := congrArg Prod.fst hx
      have := hw _ (by rw [hd']; simp only [DataW.weights, Tryz.underlying23]; exact List.mem_cons_self)
      rw [bytesOf_u32] at this
      simp only [lits, List.length_map, List.length_take, List.length_drop, reachBytes] at this
      omega
    have hbd : ∀ z ∈ zs, 0 ≤ z ∧ z ≤ 4294967295 := fun z hz => by simpa [Lit.wf, IntKind.min, IntKind.max, IntKind.signed, IntKind.bits] using hwz z hz
    refine ⟨(zs.take len0).map Int.toNat, ⟨some x, cap0, by rw [hlen], by rw [hlen]; exact hl, by unfold maxLen at hm; omega, fun j hj => ?_⟩, by rw [hlen]; exact hb, fun y hy => ?_⟩
    · rw [hlen] at hj
      have hc := hcell j (by omega)
      obtain ⟨b, off, spot⟩ := x
      have hspot : spot = none := by
        have hc0 := hcell 0 (by omega)
        simpa [Addr.add] using World.cell?_spot hc0
      subst hspot
      refine ⟨b, off, rfl, ?_⟩
      have e : (⟨b, off, none⟩ : Addr).add j = ⟨b, off + j, none⟩ := by
        unfold Addr.add; split <;> simp_all
      rw [e] at hc
      rw [hc]
      have hjz : j < zs.length := by omega
      have hw := hbd zs[j] (List.getElem_mem hjz)
      simp only [List.getElem_map, List.getElem_take, List.getD_eq_getElem?_getD, List.getElem?_eq_getElem hjz, Option.getD_some]
      congr 2
      omega
    · obtain ⟨z, hz', rfl⟩ := List.mem_map.1 hy
      have := hbd z (List.mem_of_mem_take hz')
      omega

set_option maxRecDepth 100000 in
/-- a []api.File -/
theorem open_files {ts : List TypeId} {ds : List (DataW H)} {j : Nat} (hz : (DataW.weightsEach Tryz.prog ts ds).all (· ≤ reachBytes) = true) (ht : ts[j]? = some 22) (hd : ds[j]? = some d)
    (hval : Value.okWide Tryz.prog W .any base 22 v) (h : DataW.Trod enc Tryz.prog W 0 (fun _ => true) true 22 v d p) : ∃ l : List PF, RdF W v l ∧ l.length ≤ 2932031007402 ∧ ∀ x ∈ l, x.ok := by
  obtain ⟨a0, len0, cap0, rfl⟩ := okWide_slice Tryz.underlying22 hval
  obtain ⟨fuel, hf⟩ := h
  exact files_of_trod (v := .slice a0 len0 cap0) hf fun n hn => of_decide_eq_true (List.all_eq_true.1 hz _ (DataW.weights_mem_each ht hd n hn))

/-- an edit: its lists and numbers -/
structure PX where
  add : List PF
  rem : List Nat
  jo : Nat
  nx : Nat
  sq : Nat
def PX.ok (x : PX) : Prop := (x.add.length ≤ 2932031007402 ∧ ∀ f ∈ x.add, f.ok) ∧ (x.rem.length ≤ 35184372088808 ∧ ∀ k ∈ x.rem, k < 4294967296) ∧ x.jo < 4294967296 ∧ x.nx < 4294967296 ∧ x.sq < 18446744073709551616
/-- a value that reads as an edit -/
def RdX (w : World) (v : Value) (x : PX) : Prop := ∃ a r, v = .agg #[a, r, .int .u32 x.jo, .int .u32 x.nx, .int .u64 x.sq] ∧ RdF w a x.add ∧ RdU w r x.rem
theorem RdX.below {w w' : World} {v : Value} {x : PX} (h : RdX w v x) (hb : Below w.heap.size w w') : RdX w' v x := by
  obtain ⟨a, r, h1, h2, h3⟩ := h
  exact ⟨a, r, h1, h2.below hb, h3.below hb⟩
set_option maxRecDepth 100000 in
theorem edit_facts : ∃ n0 n1 n2 n3 n4 : Field, Tryz.prog.underlying 27 = some (.struct #[n0, n1, n2, n3, n4]) ∧ (n0.type = 22 ∧ n0.offset = 0) ∧ (n1.type = 23 ∧ n1.offset = 1) ∧ (n2.type = 24 ∧ n2.offset = 2) ∧ (n3.type = 24 ∧ n3.offset = 3) ∧ (n4.type = 25 ∧ n4.offset = 4) :=
  ⟨_, _, _, _, _, Tryz.underlying27, ⟨rfl, rfl⟩, ⟨rfl, rfl⟩, ⟨rfl, rfl⟩, ⟨rfl, rfl⟩, ⟨rfl, rfl⟩⟩
set_option maxRecDepth 100000 in
theorem cells_edit : Tryz.prog.cellsOf 27 = 5 := by kernel_rfl
set_option maxRecDepth 100000 in
set_option maxHeartbeats 1000000 in
/-- an api.Edit -/
theorem open_edit {ts : List TypeId} {ds : List (DataW H)} {j : Nat} (hz : (DataW.weightsEach Tryz.prog ts ds).all (· ≤ reachBytes) = true) (ht : ts[j]? = some 27) (hd : ds[j]? = some d)
    (hval : Value.okWide Tryz.prog W .any base 27 v) (h : DataW.Trod enc Tryz.prog W 0 (fun _ => true) true 27 v d p) : ∃ x : PX, RdX W v x ∧ x.ok := by
  obtain ⟨n0, n1, n2, n3, n4, f1, f2, f3, f4, f5, f6⟩ := edit_facts
  obtain ⟨cs, rfl, hsz⟩ := okWide_struct f1 hval
  obtain ⟨c0, c1, c2, c3, c4, rfl⟩ : ∃ c0 c1 c2 c3 c4, cs = #[c0, c1, c2, c3, c4] := by
    have hs5 := hsz.trans cells_edit
    match cs, hs5 with
    | ⟨[c0, c1, c2, c3, c4]⟩, _ => exact ⟨c0, c1, c2, c3, c4, rfl⟩
  obtain ⟨fuel, hf⟩ := h
  obtain ⟨xs, n, _, hx, _, hl, hg⟩ := DataW.trod_struct f1 hf
  match xs, hl with
  | [y0, y1, y2, y3, y4], _ =>
    have h0 := hg 0 n0 rfl
    have h1 := hg 1 n1 rfl
    have h2 := hg 2 n2 rfl
    have h3 := hg 3 n3 rfl
    have h4 := hg 4 n4 rfl
    rw [f2.1, f2.2, show Tryz.prog.cellsOf 22 = 1 from by kernel_rfl] at h0
    rw [f3.1, f3.2, show Tryz.prog.cellsOf 23 = 1 from by kernel_rfl] at h1
    rw [f4.1, f4.2, show Tryz.prog.cellsOf 24 = 1 from by kernel_rfl] at h2
    rw [f5.1, f5.2, show Tryz.prog.cellsOf 24 = 1 from by kernel_rfl] at h3
    rw [f6.1, f6.2, show Tryz.prog.cellsOf 25 = 1 from by kernel_rfl] at h4
    simp only [Value.cells, List.drop_zero, List.take_succ_cons, List.take_zero, List.drop_succ_cons, List.getElem?_cons_zero, List.getElem?_cons_succ] at h0 h1 h2 h3 h4
    obtain ⟨z2, e2, r2, w2⟩ := DataW.trod_int Tryz.underlying24 h2
    obtain ⟨z3, e3, r3, w3⟩ := DataW.trod_int Tryz.underlying24 h3
    obtain ⟨z4, e4, r4, w4⟩ := DataW.trod_int Tryz.underlying25 h4
    simp only [List.cons.injEq, and_true] at e2 e3 e4
    have b2 : 0 ≤ z2 ∧ z2 ≤ 4294967295 := by simpa [Lit.wf, IntKind.min, IntKind.max, IntKind.signed, IntKind.bits] using w2
    have b3 : 0 ≤ z3 ∧ z3 ≤ 4294967295 := by simpa [Lit.wf, IntKind.min, IntKind.max, IntKind.signed, IntKind.bits] using w3
    have b4 : 0 ≤ z4 ∧ z4 ≤ 18446744073709551615 := by simpa [Lit.wf, IntKind.min, IntKind.max, IntKind.signed, IntKind.bits] using w4
    obtain ⟨m2, rfl⟩ := Int.eq_ofNat_of_zero_le b2.1
    obtain ⟨m3, rfl⟩ := Int.eq_ofNat_of_zero_le b3.1
    obtain ⟨m4, rfl⟩ := Int.eq_ofNat_of_zero_le b4.1
    have hd' : d = .agg [y0.1, y1.1, y2.1, y3.1, y4.1] := by have := congrArg Prod.fst hx; simpa using this
    have hw : ∀ q ∈ d.weights Tryz.prog 27, q ≤ reachBytes := fun q hq => of_decide_eq_true (List.all_eq_true.1 hz _ (DataW.weights_mem_each ht hd q hq))
    obtain ⟨d0, p0⟩ := y0
    obtain ⟨d1, p1⟩ := y1
    obtain ⟨la, k1, k2, k3⟩ := files_of_trod h0 fun q hq => hw q (by
      rw [hd']; simp only [DataW.weights, f1, DataW.weightsEach, f2.1, List.map_cons, List.mem_append]; exact .inl hq)
    obtain ⟨lr, g1, g2, g3⟩ := ids_of_trod h1 fun q hq => hw q (by
      rw [hd']; simp only [DataW.weights, f1, DataW.weightsEach, f2.1, f3.1, List.map_cons, List.mem_append]; exact .inr (.inl hq))
    refine ⟨⟨la, lr, m2, m3, m4⟩, ⟨c0, c1, by rw [e2, e3, e4], k1, g1⟩, ⟨k2, k3⟩, ⟨g2, g3⟩, ?_, ?_, ?_⟩
    · show m2 < _; omega
    · show m3 < _; omega
    · show m4 < _; omega
end
end Go.Proofs.YtimfcinkjjaigaaGreatDoor

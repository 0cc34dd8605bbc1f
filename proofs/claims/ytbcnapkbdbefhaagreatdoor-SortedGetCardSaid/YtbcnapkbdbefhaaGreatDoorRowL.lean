/- The opener of a Look: a mark, and how many at most. No condition. -/
import Derived.Test.YtbcnapkbdbefhaaGreatDoorRowA
namespace Go.Proofs.YtbcnapkbdbefhaaGreatDoor
open Go.ChangeShapes Go.WideShapes Go.ChangeAt Go.RowKit

section
variable {H : Type} {enc : TypeId × Value → H} {W : World} {base : Nat} {v : Value} {d : DataW H} {p : List MemPlace}

/-- a look's four cells, read -/
theorem trod_look {P : Program} {te tm ts tn tb ti : TypeId} {n0 n1 m0 m1 m2 : Field} {fuel : Nat} {c0 c1 c2 c3 : Value} {x : DataW H × List MemPlace}
    (he : P.underlying te = some (.struct #[n0, n1])) (hn0 : n0.type = tm ∧ n0.offset = 0) (hn1 : n1.type = ti ∧ n1.offset = 3) (hm : P.underlying tm = some (.struct #[m0, m1, m2]))
    (hm0 : m0.type = ts ∧ m0.offset = 0) (hm1 : m1.type = tn ∧ m1.offset = 1) (hm2 : m2.type = tb ∧ m2.offset = 2)
    (hs : P.underlying ts = some .string) (hn : P.underlying tn = some (.int .u64)) (hb : P.underlying tb = some .bool) (hi : P.underlying ti = some (.int .i64)) (cm : P.cellsOf tm = 3) (cs : P.cellsOf ts = 1) (cn : P.cellsOf tn = 1) (cb : P.cellsOf tb = 1) (ci : P.cellsOf ti = 1)
    (h : DataW.trod enc P W 0 (fun _ => true) true fuel te [c0, c1, c2, c3] = some x) :
    ∃ (k : ByteArray) (s : Nat) (g : Bool) (u : Int), c0 = .string k ∧ c1 = .int .u64 s ∧ c2 = .bool g ∧ c3 = .int .i64 u ∧ s < 18446744073709551616 ∧ (-9223372036854775808 ≤ u ∧ u ≤ 9223372036854775807) ∧
      x.1 = .agg [.agg [.lit (.string k.data.toList), .lit (.int .u64 s), .lit (.bool g)], .lit (.int .i64 u)] := by
  obtain ⟨xs, n, _, hx, _, hl, hg⟩ := DataW.trod_struct he h
  match xs, hl with
  | [y0, y1], _ =>
    have h0 := hg 0 n0 rfl
    have h1 := hg 1 n1 rfl
    rw [hn0.1, hn0.2, cm] at h0
    rw [hn1.1, hn1.2, ci] at h1
    simp only [List.drop_zero, List.take_succ_cons, List.take_zero, List.drop_succ_cons, List.getElem?_cons_zero, List.getElem?_cons_succ] at h0 h1
    obtain ⟨ys, m, _, hy, _, hl2, hg2⟩ := DataW.trod_struct hm h0
    match ys, hl2 with
    | [z0, z1, z2], _ =>
      have q0 := hg2 0 m0 rfl
      have q1 := hg2 1 m1 rfl
      have q2 := hg2 2 m2 rfl
      rw [hm0.1, hm0.2, cs] at q0
      rw [hm1.1, hm1.2, cn] at q1
      rw [hm2.1, hm2.2, cb] at q2
      simp only [List.drop_zero, List.take_succ_cons, List.take_zero, List.drop_succ_cons, List.getElem?_cons_zero, List.getElem?_cons_succ] at q0 q1 q2
      obtain ⟨k, e0, r0, _⟩ := DataW.trod_string hs q0
      obtain ⟨s, e1, r1, w1⟩ := DataW.trod_int hn q1
      obtain ⟨g, e2, r2⟩ := DataW.trod_bool hb q2
      obtain ⟨u, e3, r3, w3⟩ := DataW.trod_int hi h1
      simp only [List.cons.injEq, and_true] at e0 e1 e2 e3
      have hbd : 0 ≤ s ∧ s ≤ 18446744073709551615 := by simpa [Lit.wf, IntKind.min, IntKind.max, IntKind.signed, IntKind.bits] using w1
      have hbu : -9223372036854775808 ≤ u ∧ u ≤ 9223372036854775807 := by simpa [Lit.wf, IntKind.min, IntKind.max, IntKind.signed, IntKind.bits] using w3
      obtain ⟨sn, rfl⟩ := Int.eq_ofNat_of_zero_le hbd.1
      refine ⟨k, sn, g, u, e0, e1, e2, e3, by omega, hbu, ?_⟩
      rw [hx, hy]
      simp [r0, r1, r2, r3]

set_option maxRecDepth 100000 in
theorem look_facts : ∃ n0 n1 m0 m1 m2 : Field, Tryz.prog.underlying 27 = some (.struct #[n0, n1]) ∧ (n0.type = 25 ∧ n0.offset = 0) ∧ (n1.type = 3 ∧ n1.offset = 3) ∧ Tryz.prog.underlying 25 = some (.struct #[m0, m1, m2]) ∧
    (m0.type = 9 ∧ m0.offset = 0) ∧ (m1.type = 23 ∧ m1.offset = 1) ∧ (m2.type = 4 ∧ m2.offset = 2) := by
  refine ⟨_, _, _, _, _, Tryz.underlying27, ⟨rfl, rfl⟩, ⟨rfl, rfl⟩, Tryz.underlying25, ⟨rfl, rfl⟩, ⟨rfl, rfl⟩, ⟨rfl, rfl⟩⟩
set_option maxRecDepth 100000 in
theorem cells_look : Tryz.prog.cellsOf 27 = 4 := by kernel_rfl
set_option maxRecDepth 100000 in
/-- a Look -/
theorem open_look {ts : List TypeId} {ds : List (DataW H)} {j : Nat} (hz : (DataW.weightsEach Tryz.prog ts ds).all (· ≤ reachBytes) = true) (ht : ts[j]? = some 27) (hd : ds[j]? = some d)
    (hval : Value.okWide Tryz.prog W .any base 27 v) (h : DataW.Trod enc Tryz.prog W 0 (fun _ => true) true 27 v d p) :
    ∃ (k : ByteArray) (s : Nat) (g : Bool) (u : Int), v = .agg #[.string k, .int .u64 s, .bool g, .int .i64 u] ∧ k.size ≤ 140737488351232 ∧ s < 18446744073709551616 ∧ (-9223372036854775808 ≤ u ∧ u ≤ 9223372036854775807) := by
  obtain ⟨n0, n1, m0, m1, m2, f1, f2, f3, f4, f5, f6, f7⟩ := look_facts
  obtain ⟨cs, rfl, hsz⟩ := okWide_struct f1 hval
  obtain ⟨c0, c1, c2, c3, rfl⟩ := Joins.array4 (hsz.trans cells_look)
  obtain ⟨fuel, hf⟩ := h
  obtain ⟨k, s, g, u, rfl, rfl, rfl, rfl, hs, hu, hx⟩ := trod_look f1 f2 f3 f4 f5 f6 f7 Tryz.underlying9 Tryz.underlying23 Tryz.underlying4 Tryz.underlying3 (by kernel_rfl) (by kernel_rfl) (by kernel_rfl) (by kernel_rfl) (by kernel_rfl) hf
  simp only at hx
  subst hx
  have e1 : ∀ a : ByteArray, a.data.toList.length = a.size := fun a => by rw [Array.length_toList]; rfl
  have b1 := List.all_eq_true.1 hz _ (DataW.weights_mem_each ht hd k.data.toList.length (by simp [DataW.weights, DataW.weightsEach, f1, f4, f2.1, f3.1]))
  rw [e1] at b1
  exact ⟨k, s, g, u, rfl, of_decide_eq_true b1, hs, hu⟩
end
end Go.Proofs.YtbcnapkbdbefhaaGreatDoor

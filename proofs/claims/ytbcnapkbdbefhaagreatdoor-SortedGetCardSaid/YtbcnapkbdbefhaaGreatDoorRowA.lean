/- How a law's arguments are opened: each reading becomes what the walks ask. No condition. | How a law's arguments are opened, more kinds: arrays of bytes and of numbers; lists of numbers and of texts. No condition. | How a law's arguments are opened, more kinds: entries; lists of numbers, of texts, of marks and of entries. No condition. | How a law's arguments are opened, more kinds: arrays of two bytes, of two numbers; lists of numbers and of texts. No condition. | How a law's arguments are opened, more kinds: lists of numbers and of texts. No condition. | How a law's arguments are opened, more kinds: lists of records. No condition. | How a law's arguments are opened, more kinds: lists of entries, of marks. No condition. -/
import Derived.Test.YtbcnapkbdbefhaaGreatDoorBase
import Derived.ProofKit
import Derived.OpenShut
import Derived.ShutString
import Derived.ChangeOld
import Derived.SizedLaws
import Derived.JoinedOf
import Derived.Lib.SmallJoins
import Derived.SliceStrings
import Derived.Deep.Slices
import Derived.Test.YtbcnapkbdbefhaaGreatDoorListsA
namespace Go.Proofs.YtbcnapkbdbefhaaGreatDoor
open Go.ChangeShapes Go.WideShapes Go.ChangeAt Go.RowKit

theorem row_own : ownKnob Tryz.prog.godebug = none := by kernel_rfl
theorem row_laidOut : laidOutB Tryz.prog = true := by kernel_rfl

/- the head's words: that the program is a cut, by its first word alone (the whole head is long) -/
set_option maxRecDepth 100000 in
theorem row_io : ∃ L, Tryz.prog.initOrder = String.ofList L ∧ behindMainWord (wordsSigns L) = "cut".toList :: (behindMainWord (wordsSigns L)).tail := ⟨_, rfl, by kernel_rfl⟩
theorem row_words : ∃ R, behindMainWord (wordsSigns Tryz.prog.initOrder.toList) = "cut".toList :: R := by
  obtain ⟨L, h, hw⟩ := row_io
  exact ⟨_, by rw [h, String.toList_ofList]; exact hw⟩
theorem make_key (P : Program) (R : List (List Char)) (h : behindMainWord (wordsSigns P.initOrder.toList) = "cut".toList :: R) : P.make = some .cut := by
  unfold Program.make
  rw [h]
  simp
theorem strip_key (R : List (List Char)) : stripLifts liftWords ("cut".toList :: R) = ([], "cut".toList :: R) := by
  simp [liftWords, stripLifts]
theorem mayEnter_key (P : Program) (R : List (List Char)) (h : behindMainWord (wordsSigns P.initOrder.toList) = "cut".toList :: R) (h1 : P.doorFits [] = true) (h2 : P.laysLater = false) (h3 : P.bearsReflect = false) : P.mayEnter = true := by
  unfold Program.mayEnter
  rw [h]
  simp only [strip_key, h1, h2, h3]
  simp
theorem lifts_key (P : Program) (R : List (List Char)) (h : behindMainWord (wordsSigns P.initOrder.toList) = "cut".toList :: R) : P.liftsFinal = false := by
  unfold Program.liftsFinal Program.headLifts
  rw [h, strip_key]
  simp
theorem row_mayEnter : Tryz.prog.mayEnter = true := by
  obtain ⟨R, h⟩ := row_words
  exact mayEnter_key _ R h (by kernel_rfl) (by kernel_rfl) (by kernel_rfl)
theorem row_make : Tryz.prog.make = some .cut := by
  obtain ⟨R, h⟩ := row_words
  exact make_key _ R h
theorem row_lifts : Tryz.prog.liftsFinal = false := by
  obtain ⟨R, h⟩ := row_words
  exact lifts_key _ R h

section
variable {H : Type} {enc : TypeId × Value → H} {W : World} {base : Nat} {v : Value} {d : DataW H} {p : List MemPlace}

theorem bytesOf_u8 : Tryz.prog.bytesOf 5 = 1 := by kernel_rfl

set_option maxRecDepth 100000 in
/-- a []byte -/
theorem open_bytes {ts : List TypeId} {ds : List (DataW H)} {j : Nat} (hz : (DataW.weightsEach Tryz.prog ts ds).all (· ≤ reachBytes) = true) (ht : ts[j]? = some 22) (hd : ds[j]? = some d)
    (hval : Value.okWide Tryz.prog W .any base 22 v) (h : DataW.Trod enc Tryz.prog W 0 (fun _ => true) true 22 v d p) : ∃ l, Rd W v l ∧ l.length ≤ 140737488351232 := by
  obtain ⟨a0, len0, cap0, rfl⟩ := okWide_slice Tryz.underlying22 hval
  obtain ⟨fuel, hf⟩ := h
  rcases open_ints Tryz.underlying22 Tryz.underlying5 (by kernel_rfl) hf with ⟨hcs, _⟩ | ⟨x, l, c, zs, hcs, _, hl, hm, hz0, hx, hcell, hwz⟩
  · simp [Value.cells] at hcs
    obtain ⟨rfl, rfl, rfl⟩ := hcs
    exact ⟨[], ⟨none, 0, rfl, by simp, by omega, fun j hj => absurd hj (by simp)⟩, Nat.zero_le _⟩
  · simp [Value.cells] at hcs
    obtain ⟨rfl, rfl, rfl⟩ := hcs
    simp only [if_true] at hz0
    have hlen : ((zs.take len0).map fun n => UInt8.ofNat n.toNat).length = len0 := by simp; omega
    have hb : len0 ≤ 140737488351232 := by
      have hd' : d = .slice (lits .u8 (zs.take len0)) (lits .u8 (zs.drop len0)) := congrArg Prod.fst hx
      have := sized_slice hz ht (by rw [hd, hd']) Tryz.underlying22
      rw [bytesOf_u8] at this
      simp only [lits, List.length_map, List.length_take, List.length_drop, reachBytes] at this
      omega
    refine ⟨(zs.take len0).map fun n => UInt8.ofNat n.toNat, ⟨some x, cap0, by rw [hlen], by rw [hlen]; exact hl, by unfold maxLen at hm; omega, fun j hj => ?_⟩, by rw [hlen]; exact hb⟩
    rw [hlen] at hj
    have hc := hcell j (by omega)
    obtain ⟨b, off, spot⟩ := x
    have hspot : spot = none := by
      have hc0 := hcell 0 (by omega)
      simpa [Addr.add] using World.cell?_spot hc0
    subst hspot
    refine ⟨b, off, rfl, ?_⟩
    have e : (⟨b, off, none⟩ : Addr).add j = ⟨b, off + j, none⟩ := by
      unfold Addr.add; split <;> simp_all
    rw [e] at hc
    rw [hc]
    have hjz : j < zs.length := by omega
    have hw := hwz zs[j] (List.getElem_mem hjz)
    have hbd : 0 ≤ zs[j] ∧ zs[j] ≤ 255 := by simpa [Lit.wf, IntKind.min, IntKind.max, IntKind.signed, IntKind.bits] using hw
    simp only [List.getElem_map, List.getElem_take, List.getD_eq_getElem?_getD, List.getElem?_eq_getElem hjz, Option.getD_some, UInt8.toNat_ofNat']
    congr 2
    omega

theorem cells_mark : Tryz.prog.cellsOf 25 = 3 := by kernel_rfl
set_option maxRecDepth 100000 in
/-- a Mark -/
theorem open_mark {ts : List TypeId} {ds : List (DataW H)} {j : Nat} (hz : (DataW.weightsEach Tryz.prog ts ds).all (· ≤ reachBytes) = true) (ht : ts[j]? = some 25) (hd : ds[j]? = some d)
    (hval : Value.okWide Tryz.prog W .any base 25 v) (h : DataW.Trod enc Tryz.prog W 0 (fun _ => true) true 25 v d p) :
    ∃ (k : ByteArray) (s : Nat) (g : Bool), v = .agg #[.string k, .int .u64 s, .bool g] ∧ k.size ≤ 140737488351232 ∧ s < 18446744073709551616 := by
  obtain ⟨v0, v1, v2, y0, y1, y2, n, rfl, rfl, rfl, h0, h1, h2⟩ := Joins.open_agg3 Tryz.underlying25 (by kernel_rfl) cells_mark hval h
  obtain ⟨k, e0, rfl, _⟩ := DataW.trod_string Tryz.underlying9 h0
  obtain ⟨s, e1, rfl, w1⟩ := DataW.trod_int Tryz.underlying23 h1
  obtain ⟨g, e2, rfl⟩ := DataW.trod_bool Tryz.underlying4 h2
  simp only [List.cons.injEq, and_true] at e0 e1 e2
  subst e0 e1 e2
  have hb : 0 ≤ s ∧ s ≤ 18446744073709551615 := by simpa [Lit.wf, IntKind.min, IntKind.max, IntKind.signed, IntKind.bits] using w1
  obtain ⟨m, rfl⟩ := Int.eq_ofNat_of_zero_le hb.1
  refine ⟨k, m, g, rfl, ?_, by omega⟩
  have := List.all_eq_true.1 hz _ (DataW.weights_mem_each ht hd k.data.toList.length (by simp [DataW.weights, DataW.weightsEach, Tryz.underlying25]))
  have e : k.data.toList.length = k.size := by rw [Array.length_toList]; rfl
  rw [e] at this
  exact of_decide_eq_true this
end
end Go.Proofs.YtbcnapkbdbefhaaGreatDoor
namespace Go.Proofs.YtbcnapkbdbefhaaGreatDoor
open Go.ChangeShapes Go.WideShapes Go.ChangeAt Go.RowKit

section
variable {H : Type} {enc : TypeId × Value → H} {W : World} {base : Nat} {v : Value} {d : DataW H} {p : List MemPlace}

set_option maxRecDepth 100000 in
theorem open_arr_ints {P : Program} {n : Nat} {t e : TypeId} {k : IntKind} (ht : P.underlying t = some (.array n e)) (he : P.underlying e = some (.int k)) (hc1 : P.cellsOf e = 1) (hcn : P.cellsOf t = n)
    (hval : Value.okWide P W .any base t v) (h : DataW.Trod enc P W 0 (fun _ => true) true t v d p) :
    ∃ zs : List Int, v = .agg (zs.map (Value.int k)).toArray ∧ zs.length = n ∧ ∀ z ∈ zs, (Lit.int k z).wf = true := by
  have hv : ∃ cs : Array Value, v = .agg cs ∧ cs.size = n := by
    simp only [Value.okWide, ht] at hval
    obtain ⟨cs, h1, h2, _⟩ := hval
    exact ⟨cs, h1, by rw [h2, hcn]⟩
  obtain ⟨cs, rfl, hsz⟩ := hv
  obtain ⟨fuel, hf⟩ := h
  obtain ⟨xs, m, _, _, _, hlen, hel⟩ := DataW.trod_array ht hf
  rw [hc1] at hel
  have key : ∀ i (hi : i < n), ∃ z, cs.toList[i]? = some (.int k z) ∧ (Lit.int k z).wf = true := by
    intro i hi
    have h1 := hel i hi
    rw [List.getElem?_eq_getElem (by omega)] at h1
    obtain ⟨z, e1, _, w1⟩ := DataW.trod_int he h1
    refine ⟨z, ?_, w1⟩
    have hcl : i < cs.toList.length := by simpa [hsz] using hi
    have e2 : ((Value.agg cs).cells.toList.drop (i * 1)).take 1 = [cs.toList[i]] := by
      simp only [Value.cells, Nat.mul_one]
      rw [List.drop_eq_getElem_cons hcl]; rfl
    rw [e2] at e1
    rw [List.getElem?_eq_getElem hcl]
    simpa using e1
  have key2 : ∀ (l : List Value), (∀ i (hi : i < l.length), ∃ z, l[i]? = some (.int k z) ∧ (Lit.int k z).wf = true) → ∃ zs : List Int, l = zs.map (Value.int k) ∧ ∀ z ∈ zs, (Lit.int k z).wf = true := by
    intro l
    induction l with
    | nil => intro _; exact ⟨[], rfl, by simp⟩
    | cons a t ih =>
      intro hl
      obtain ⟨z, hz, wz⟩ := hl 0 (by simp)
      obtain ⟨zs, rfl, hzs⟩ := ih (fun i hi => hl (i + 1) (by simpa using hi))
      simp only [List.getElem?_cons_zero, Option.some.injEq] at hz
      subst hz
      refine ⟨z :: zs, rfl, fun y hy => ?_⟩
      rcases List.mem_cons.1 hy with rfl | hy
      · exact wz
      · exact hzs y hy
  obtain ⟨zs, hzs, hw⟩ := key2 cs.toList (fun i hi => key i (by simpa [hsz] using hi))
  refine ⟨zs, ?_, ?_, hw⟩
  · rw [← hzs]
  · have := congrArg List.length hzs
    simp [hsz] at this
    omega
theorem ints_u8 (zs : List Int) (h : ∀ z ∈ zs, (Lit.int .u8 z).wf = true) : ∃ l : List UInt8, zs.map (Value.int .u8) = u8s l ∧ l.length = zs.length := by
  refine ⟨zs.map fun z => UInt8.ofNat z.toNat, ?_, by simp⟩
  simp only [u8s, List.map_map]
  refine List.map_congr_left fun z hz => ?_
  have hb : 0 ≤ z ∧ z ≤ 255 := by simpa [Lit.wf, IntKind.min, IntKind.max, IntKind.signed, IntKind.bits] using h z hz
  simp
  omega
end
end Go.Proofs.YtbcnapkbdbefhaaGreatDoor
namespace Go.Proofs.YtbcnapkbdbefhaaGreatDoor
open Go.ChangeShapes Go.WideShapes Go.ChangeAt Go.RowKit

section
variable {H : Type} {enc : TypeId × Value → H} {W : World} {base : Nat} {v : Value} {d : DataW H} {p : List MemPlace}

/-- an entry's four cells, read -/
theorem trod_entry {P : Program} {te tm ts tn tb : TypeId} {n0 n1 m0 m1 m2 : Field} {fuel : Nat} {c0 c1 c2 c3 : Value} {x : DataW H × List MemPlace}
    (he : P.underlying te = some (.struct #[n0, n1])) (hn0 : n0.type = tm ∧ n0.offset = 0) (hn1 : n1.type = ts ∧ n1.offset = 3) (hm : P.underlying tm = some (.struct #[m0, m1, m2]))
    (hm0 : m0.type = ts ∧ m0.offset = 0) (hm1 : m1.type = tn ∧ m1.offset = 1) (hm2 : m2.type = tb ∧ m2.offset = 2)
    (hs : P.underlying ts = some .string) (hn : P.underlying tn = some (.int .u64)) (hb : P.underlying tb = some .bool) (cm : P.cellsOf tm = 3) (cs : P.cellsOf ts = 1) (cn : P.cellsOf tn = 1) (cb : P.cellsOf tb = 1)
    (h : DataW.trod enc P W 0 (fun _ => true) true fuel te [c0, c1, c2, c3] = some x) :
    ∃ (k : ByteArray) (s : Nat) (g : Bool) (u : ByteArray), c0 = .string k ∧ c1 = .int .u64 s ∧ c2 = .bool g ∧ c3 = .string u ∧ s < 18446744073709551616 ∧
      x.1 = .agg [.agg [.lit (.string k.data.toList), .lit (.int .u64 s), .lit (.bool g)], .lit (.string u.data.toList)] := by
  obtain ⟨xs, n, _, hx, _, hl, hg⟩ := DataW.trod_struct he h
  match xs, hl with
  | [y0, y1], _ =>
    have h0 := hg 0 n0 rfl
    have h1 := hg 1 n1 rfl
    rw [hn0.1, hn0.2, cm] at h0
    rw [hn1.1, hn1.2, cs] at h1
    simp only [List.drop_zero, List.take_succ_cons, List.take_zero, List.drop_succ_cons, List.getElem?_cons_zero, List.getElem?_cons_succ] at h0 h1
    obtain ⟨ys, m, _, hy, _, hl2, hg2⟩ := DataW.trod_struct hm h0
    match ys, hl2 with
    | [z0, z1, z2], _ =>
      have q0 := hg2 0 m0 rfl
      have q1 := hg2 1 m1 rfl
      have q2 := hg2 2 m2 rfl
      rw [hm0.1, hm0.2, cs] at q0
      rw [hm1.1, hm1.2, cn] at q1
      rw [hm2.1, hm2.2, cb] at q2
      simp only [List.drop_zero, List.take_succ_cons, List.take_zero, List.drop_succ_cons, List.getElem?_cons_zero, List.getElem?_cons_succ] at q0 q1 q2
      obtain ⟨k, e0, r0, _⟩ := DataW.trod_string hs q0
      obtain ⟨s, e1, r1, w1⟩ := DataW.trod_int hn q1
      obtain ⟨g, e2, r2⟩ := DataW.trod_bool hb q2
      obtain ⟨u, e3, r3, _⟩ := DataW.trod_string hs h1
      simp only [List.cons.injEq, and_true] at e0 e1 e2 e3
      have hbd : 0 ≤ s ∧ s ≤ 18446744073709551615 := by simpa [Lit.wf, IntKind.min, IntKind.max, IntKind.signed, IntKind.bits] using w1
      obtain ⟨sn, rfl⟩ := Int.eq_ofNat_of_zero_le hbd.1
      refine ⟨k, sn, g, u, e0, e1, e2, e3, by omega, ?_⟩
      rw [hx, hy]
      simp [r0, r1, r2, r3]

set_option maxRecDepth 100000 in
theorem entry_facts : ∃ n0 n1 m0 m1 m2 : Field, Tryz.prog.underlying 34 = some (.struct #[n0, n1]) ∧ (n0.type = 25 ∧ n0.offset = 0) ∧ (n1.type = 9 ∧ n1.offset = 3) ∧ Tryz.prog.underlying 25 = some (.struct #[m0, m1, m2]) ∧
    (m0.type = 9 ∧ m0.offset = 0) ∧ (m1.type = 23 ∧ m1.offset = 1) ∧ (m2.type = 4 ∧ m2.offset = 2) := by
  refine ⟨_, _, _, _, _, Tryz.underlying34, ⟨rfl, rfl⟩, ⟨rfl, rfl⟩, Tryz.underlying25, ⟨rfl, rfl⟩, ⟨rfl, rfl⟩, ⟨rfl, rfl⟩⟩
set_option maxRecDepth 100000 in
theorem cells_entry : Tryz.prog.cellsOf 34 = 4 := by kernel_rfl
set_option maxRecDepth 100000 in
/-- an Entry -/
theorem open_entry {ts : List TypeId} {ds : List (DataW H)} {j : Nat} (hz : (DataW.weightsEach Tryz.prog ts ds).all (· ≤ reachBytes) = true) (ht : ts[j]? = some 34) (hd : ds[j]? = some d)
    (hval : Value.okWide Tryz.prog W .any base 34 v) (h : DataW.Trod enc Tryz.prog W 0 (fun _ => true) true 34 v d p) :
    ∃ (k : ByteArray) (s : Nat) (g : Bool) (u : ByteArray), v = .agg #[.string k, .int .u64 s, .bool g, .string u] ∧ k.size ≤ 140737488351232 ∧ s < 18446744073709551616 ∧ u.size ≤ 140737488351232 := by
  obtain ⟨n0, n1, m0, m1, m2, f1, f2, f3, f4, f5, f6, f7⟩ := entry_facts
  obtain ⟨cs, rfl, hsz⟩ := okWide_struct f1 hval
  obtain ⟨c0, c1, c2, c3, rfl⟩ := Joins.array4 (hsz.trans cells_entry)
  obtain ⟨fuel, hf⟩ := h
  obtain ⟨k, s, g, u, rfl, rfl, rfl, rfl, hs, hx⟩ := trod_entry f1 f2 f3 f4 f5 f6 f7 Tryz.underlying9 Tryz.underlying23 Tryz.underlying4 (by kernel_rfl) (by kernel_rfl) (by kernel_rfl) (by kernel_rfl) hf
  simp only at hx
  subst hx
  have e1 : ∀ a : ByteArray, a.data.toList.length = a.size := fun a => by rw [Array.length_toList]; rfl
  have b1 := List.all_eq_true.1 hz _ (DataW.weights_mem_each ht hd k.data.toList.length (by simp [DataW.weights, DataW.weightsEach, f1, f4, f2.1, f3.1]))
  have b2 := List.all_eq_true.1 hz _ (DataW.weights_mem_each ht hd u.data.toList.length (by simp [DataW.weights, DataW.weightsEach, f1, f4, f2.1, f3.1]))
  rw [e1] at b1 b2
  exact ⟨k, s, g, u, rfl, of_decide_eq_true b1, hs, of_decide_eq_true b2⟩
end
end Go.Proofs.YtbcnapkbdbefhaaGreatDoor
namespace Go.Proofs.YtbcnapkbdbefhaaGreatDoor
open Go.ChangeShapes Go.WideShapes Go.ChangeAt Go.RowKit

section
variable {H : Type} {enc : TypeId × Value → H} {W : World} {base : Nat} {v : Value} {d : DataW H} {p : List MemPlace}

theorem nat_wf {k : IntKind} {z : Int} (h : (Lit.int k z).wf = true) (hk : k = .u64 ∨ k = .u8 ∨ k = .u32) : ∃ n : Nat, z = n ∧ n < 18446744073709551616 ∧ (k = .u8 → n < 256) := by
  rcases hk with rfl | rfl | rfl
  all_goals
    have hb := h
    simp [Lit.wf, IntKind.min, IntKind.max, IntKind.signed, IntKind.bits] at hb
    obtain ⟨n, rfl⟩ := Int.eq_ofNat_of_zero_le hb.1
    refine ⟨n, rfl, by omega, fun e => ?_⟩
    first | omega | cases e
end
end Go.Proofs.YtbcnapkbdbefhaaGreatDoor
namespace Go.Proofs.YtbcnapkbdbefhaaGreatDoor
open Go.ChangeShapes Go.WideShapes Go.ChangeAt Go.RowKit

section
variable {H : Type} {enc : TypeId × Value → H} {W : World} {base : Nat} {v : Value} {d : DataW H} {p : List MemPlace}

theorem weightsAll_mem {P : Program} {e : TypeId} {x : DataW H} : ∀ {l : List (DataW H)}, x ∈ l → ∀ n ∈ x.weights P e, n ∈ DataW.weightsAll P e l
  | y :: l, hx, n, hn => by
    simp only [DataW.weightsAll, List.mem_append]
    rcases List.mem_cons.1 hx with rfl | hx
    · exact .inl hn
    · exact .inr (weightsAll_mem hx n hn)
set_option maxRecDepth 100000 in
theorem bytesOf_str : Tryz.prog.bytesOf 9 = 16 := by kernel_rfl
set_option maxRecDepth 100000 in
/-- a []string -/
theorem open_texts {ts : List TypeId} {ds : List (DataW H)} {j : Nat} (hz : (DataW.weightsEach Tryz.prog ts ds).all (· ≤ reachBytes) = true) (ht : ts[j]? = some 77) (hd : ds[j]? = some d)
    (hval : Value.okWide Tryz.prog W .any base 77 v) (h : DataW.Trod enc Tryz.prog W 0 (fun _ => true) true 77 v d p) : ∃ l : List ByteArray, RdT W v l ∧ (l.length ≤ 8796093022202 ∧ ∀ s ∈ l, s.size ≤ 140737488351232) := by
  obtain ⟨a0, len0, cap0, rfl⟩ := okWide_slice Tryz.underlying77 hval
  obtain ⟨fuel, hf⟩ := h
  rcases open_strings Tryz.underlying77 Tryz.underlying9 (by kernel_rfl) hf with ⟨hcs, _⟩ | ⟨x, l, c, ss, hcs, _, hl, hm, hz0, hx, hcell, _⟩
  · simp [Value.cells] at hcs
    obtain ⟨rfl, rfl, rfl⟩ := hcs
    exact ⟨[], ⟨none, 0, rfl, by simp, by omega, fun j hj => absurd hj (by simp)⟩, by simp, by simp⟩
  · simp [Value.cells] at hcs
    obtain ⟨rfl, rfl, rfl⟩ := hcs
    simp only [if_true] at hz0
    have hd' : d = .slice (strs (ss.take len0)) (strs (ss.drop len0)) := congrArg Prod.fst hx
    have hlen : (ss.take len0).length = len0 := by simp; omega
    have hb := sized_slice hz ht (by rw [hd, hd']) Tryz.underlying77
    rw [bytesOf_str] at hb
    simp only [strs, List.length_map, List.length_take, List.length_drop, reachBytes] at hb
    refine ⟨ss.take len0, ⟨some x, cap0, by rw [hlen], by rw [hlen]; exact hl, by unfold maxLen at hm; omega, fun j hj => ?_⟩, by rw [hlen]; omega, fun s hs => ?_⟩
    · rw [hlen] at hj
      have hc := hcell j (by omega)
      obtain ⟨b, off, spot⟩ := x
      have hspot : spot = none := by
        have hc0 := hcell 0 (by omega)
        simpa [Addr.add] using World.cell?_spot hc0
      subst hspot
      refine ⟨b, off, rfl, ?_⟩
      have e : (⟨b, off, none⟩ : Addr).add j = ⟨b, off + j, none⟩ := by
        unfold Addr.add; split <;> simp_all
      rw [e] at hc
      rw [hc]
      have hjz : j < ss.length := by omega
      simp [List.getD_eq_getElem?_getD, hjz]
    · have hmem : (DataW.lit (.string s.data.toList) : DataW H) ∈ (strs (ss.take len0) : List (DataW H)) := by
        simp only [strs, List.mem_map]
        exact ⟨s, hs, rfl⟩
      have hw := List.all_eq_true.1 hz _ (DataW.weights_mem_each ht hd s.data.toList.length (by
        rw [hd']
        simp only [DataW.weights, Tryz.underlying77, List.mem_cons, List.mem_append]
        exact .inr (.inl (weightsAll_mem hmem _ (by simp [DataW.weights])))))
      have e : s.data.toList.length = s.size := by rw [Array.length_toList]; rfl
      rw [e] at hw
      exact of_decide_eq_true hw
set_option maxRecDepth 100000 in
theorem bytesOf_u64 : Tryz.prog.bytesOf 23 = 8 := by kernel_rfl
set_option maxRecDepth 100000 in
/-- a []uint64 -/
theorem open_nums {ts : List TypeId} {ds : List (DataW H)} {j : Nat} (hz : (DataW.weightsEach Tryz.prog ts ds).all (· ≤ reachBytes) = true) (ht : ts[j]? = some 108) (hd : ds[j]? = some d)
    (hval : Value.okWide Tryz.prog W .any base 108 v) (h : DataW.Trod enc Tryz.prog W 0 (fun _ => true) true 108 v d p) : ∃ l : List Nat, RdN W v l ∧ (l.length ≤ 17592186044404 ∧ ∀ x ∈ l, x < 18446744073709551616) := by
  obtain ⟨a0, len0, cap0, rfl⟩ := okWide_slice Tryz.underlying108 hval
  obtain ⟨fuel, hf⟩ := h
  rcases open_ints Tryz.underlying108 Tryz.underlying23 (by kernel_rfl) hf with ⟨hcs, _⟩ | ⟨x, l, c, zs, hcs, _, hl, hm, hz0, hx, hcell, hwz⟩
  · simp [Value.cells] at hcs
    obtain ⟨rfl, rfl, rfl⟩ := hcs
    exact ⟨[], ⟨none, 0, rfl, by simp, by omega, fun j hj => absurd hj (by simp)⟩, by simp, by simp⟩
  · simp [Value.cells] at hcs
    obtain ⟨rfl, rfl, rfl⟩ := hcs
    simp only [if_true] at hz0
    have hlen : ((zs.take len0).map Int.toNat).length = len0 := by simp; omega
    have hd' : d = .slice (lits .u64 (zs.take len0)) (lits .u64 (zs.drop len0)) := congrArg Prod.fst hx
    have hb := sized_slice hz ht (by rw [hd, hd']) Tryz.underlying108
    rw [bytesOf_u64] at hb
    simp only [lits, List.length_map, List.length_take, List.length_drop, reachBytes] at hb
    have hbd : ∀ z ∈ zs, 0 ≤ z ∧ z ≤ 18446744073709551615 := fun z hz => by simpa [Lit.wf, IntKind.min, IntKind.max, IntKind.signed, IntKind.bits] using hwz z hz
    refine ⟨(zs.take len0).map Int.toNat, ⟨some x, cap0, by rw [hlen], by rw [hlen]; exact hl, by unfold maxLen at hm; omega, fun j hj => ?_⟩, by rw [hlen]; omega, fun y hy => ?_⟩
    · rw [hlen] at hj
      have hc := hcell j (by omega)
      obtain ⟨b, off, spot⟩ := x
      have hspot : spot = none := by
        have hc0 := hcell 0 (by omega)
        simpa [Addr.add] using World.cell?_spot hc0
      subst hspot
      refine ⟨b, off, rfl, ?_⟩
      have e : (⟨b, off, none⟩ : Addr).add j = ⟨b, off + j, none⟩ := by
        unfold Addr.add; split <;> simp_all
      rw [e] at hc
      rw [hc]
      have hjz : j < zs.length := by omega
      have hw := hbd zs[j] (List.getElem_mem hjz)
      simp only [List.getElem_map, List.getElem_take, List.getD_eq_getElem?_getD, List.getElem?_eq_getElem hjz, Option.getD_some]
      congr 2
      omega
    · obtain ⟨z, hz', rfl⟩ := List.mem_map.1 hy
      have := hbd z (List.mem_of_mem_take hz')
      omega
end
end Go.Proofs.YtbcnapkbdbefhaaGreatDoor
namespace Go.Proofs.YtbcnapkbdbefhaaGreatDoor
open Go.ChangeShapes Go.WideShapes Go.ChangeAt Go.RowKit Go.Deep

section
variable {H : Type} {enc : TypeId × Value → H} {W : World} {base : Nat} {v : Value} {d : DataW H} {p : List MemPlace}

set_option maxRecDepth 100000 in
theorem bytes_of_trod {b0 fuel : Nat} {held : Bool} (h : DataW.trod enc Tryz.prog W b0 (fun _ => true) held fuel 22 [v] = some (d, p)) (hw : ∀ n ∈ d.weights Tryz.prog 22, n ≤ reachBytes) :
    ∃ l : List UInt8, Rd W v l ∧ l.length ≤ 140737488351232 := by
  rcases open_ints Tryz.underlying22 Tryz.underlying5 (by kernel_rfl) h with ⟨hcs, _⟩ | ⟨x, len0, cap0, zs, hcs, _, hl, hm, hz0, hx, hcell, hwz⟩
  · simp at hcs
    subst hcs
    exact ⟨[], ⟨none, 0, rfl, by simp, by omega, fun j hj => absurd hj (by simp)⟩, Nat.zero_le _⟩
  · simp at hcs
    subst hcs
    simp only [if_true] at hz0
    have hlen : ((zs.take len0).map fun n => UInt8.ofNat n.toNat).length = len0 := by simp; omega
    have hb : len0 ≤ 140737488351232 := by
      have hd' : d = .slice (lits .u8 (zs.take len0)) (lits .u8 (zs.drop len0)) := congrArg Prod.fst hx
      have := hw _ (by rw [hd']; simp only [DataW.weights, Tryz.underlying22]; exact List.mem_cons_self)
      rw [bytesOf_u8] at this
      simp only [lits, List.length_map, List.length_take, List.length_drop, reachBytes] at this
      omega
    refine ⟨(zs.take len0).map fun n => UInt8.ofNat n.toNat, ⟨some x, cap0, by rw [hlen], by rw [hlen]; exact hl, by unfold maxLen at hm; omega, fun j hj => ?_⟩, by rw [hlen]; exact hb⟩
    rw [hlen] at hj
    have hc := hcell j (by omega)
    obtain ⟨b, off, spot⟩ := x
    have hspot : spot = none := by
      have hc0 := hcell 0 (by omega)
      simpa [Addr.add] using World.cell?_spot hc0
    subst hspot
    refine ⟨b, off, rfl, ?_⟩
    have e : (⟨b, off, none⟩ : Addr).add j = ⟨b, off + j, none⟩ := by
      unfold Addr.add; split <;> simp_all
    rw [e] at hc
    rw [hc]
    have hjz : j < zs.length := by omega
    have hw := hwz zs[j] (List.getElem_mem hjz)
    have hbd : 0 ≤ zs[j] ∧ zs[j] ≤ 255 := by simpa [Lit.wf, IntKind.min, IntKind.max, IntKind.signed, IntKind.bits] using hw
    simp only [List.getElem_map, List.getElem_take, List.getD_eq_getElem?_getD, List.getElem?_eq_getElem hjz, Option.getD_some, UInt8.toNat_ofNat']
    congr 2
    omega
theorem list_of_each {α : Type} {n : Nat} {p : Nat → α → Prop} (h : ∀ i, i < n → ∃ x, p i x) : ∃ l : List α, l.length = n ∧ ∀ i, (hi : i < l.length) → p i l[i] := by
  induction n with
  | zero => exact ⟨[], rfl, fun i hi => absurd hi (by simp)⟩
  | succ n ih =>
    obtain ⟨l, h1, h2⟩ := ih fun i hi => h i (by omega)
    obtain ⟨x, hx⟩ := h n (by omega)
    refine ⟨l ++ [x], by simp [h1], fun i hi => ?_⟩
    simp only [List.length_append, List.length_cons, List.length_nil] at hi
    by_cases e : i < l.length
    · rw [List.getElem_append_left e]; exact h2 i e
    · have : i = l.length := by omega
      subst this
      simp only [List.getElem_append_right (Nat.le_refl _), Nat.sub_self, List.getElem_cons_zero]
      rw [h1]; exact hx
set_option maxRecDepth 100000 in
/-- a [][]byte -/
theorem open_records {ts : List TypeId} {ds : List (DataW H)} {j : Nat} (hz : (DataW.weightsEach Tryz.prog ts ds).all (· ≤ reachBytes) = true) (ht : ts[j]? = some 209) (hd : ds[j]? = some d)
    (hval : Value.okWide Tryz.prog W .any base 209 v) (h : DataW.Trod enc Tryz.prog W 0 (fun _ => true) true 209 v d p) : ∃ l : List (List UInt8), RdR W v l ∧ ∀ x ∈ l, x.length ≤ 140737488351232 := by
  obtain ⟨a0, len0, cap0, rfl⟩ := okWide_slice Tryz.underlying209 hval
  obtain ⟨fuel, hf⟩ := h
  rcases open_slice1 Tryz.underlying209 (by kernel_rfl) hf with ⟨hcs, _⟩ | ⟨x, l, c, m, n, V, D, Pl, hcs, _, hl, hm, hmm, hx, hcell⟩
  · simp [Value.cells] at hcs
    obtain ⟨rfl, rfl, rfl⟩ := hcs
    exact ⟨[], ⟨none, 0, rfl, by simp, by omega, fun j hj => absurd hj (by simp)⟩, by simp⟩
  · simp [Value.cells] at hcs
    obtain ⟨rfl, rfl, rfl⟩ := hcs
    simp only [if_true] at hmm
    subst hmm
    have hd' : d = .slice ((List.range len0).map D) ((List.range (m - len0)).map fun j => D (len0 + j)) := congrArg Prod.fst hx
    have each : ∀ i, i < len0 → ∃ y : List UInt8, W.cell? (x.add i) = some (V i) ∧ Rd W (V i) y ∧ y.length ≤ 140737488351232 := by
      intro i hi
      obtain ⟨c1, c2⟩ := hcell i (by omega)
      have hmem : D i ∈ (List.range len0).map D := List.mem_map.2 ⟨i, List.mem_range.2 hi, rfl⟩
      obtain ⟨y, y1, y2⟩ := bytes_of_trod c2 (fun n hn => by
        have := List.all_eq_true.1 hz _ (DataW.weights_mem_each ht hd n (by
          rw [hd']
          simp only [DataW.weights, Tryz.underlying209, List.mem_cons, List.mem_append]
          exact .inr (.inl (weightsAll_mem hmem _ hn))))
        exact of_decide_eq_true this)
      exact ⟨y, c1, y1, y2⟩
    obtain ⟨ls, hls, hat⟩ := list_of_each each
    refine ⟨ls, ⟨some x, m, by rw [hls], by rw [hls]; exact hl, by unfold maxLen at hm; omega, fun j hj => ?_⟩, fun s hs => ?_⟩
    · obtain ⟨c1, c2, _⟩ := hat j hj
      obtain ⟨b, off, spot⟩ := x
      have hspot : spot = none := by
        have hc0 := (hat 0 (by omega)).1
        simpa [Addr.add] using World.cell?_spot hc0
      subst hspot
      have e : (⟨b, off, none⟩ : Addr).add j = ⟨b, off + j, none⟩ := by
        unfold Addr.add; split <;> simp_all
      rw [e] at c1
      exact ⟨b, off, V j, rfl, c1, c2⟩
    · obtain ⟨i, hi, rfl⟩ := List.mem_iff_getElem.1 hs
      exact (hat i hi).2.2
end
end Go.Proofs.YtbcnapkbdbefhaaGreatDoor
namespace Go.Proofs.YtbcnapkbdbefhaaGreatDoor
open Go.ChangeShapes Go.WideShapes Go.ChangeAt Go.RowKit Go.Deep

section
variable {H : Type} {enc : TypeId × Value → H} {W : World} {base : Nat} {v : Value} {d : DataW H} {p : List MemPlace}

set_option maxRecDepth 100000 in
theorem bytesOf_entry : Tryz.prog.bytesOf 34 = 48 := by kernel_rfl
set_option maxRecDepth 100000 in
/-- a []api.Entry -/
theorem open_entries {ts : List TypeId} {ds : List (DataW H)} {j : Nat} (hz : (DataW.weightsEach Tryz.prog ts ds).all (· ≤ reachBytes) = true) (ht : ts[j]? = some 29) (hd : ds[j]? = some d)
    (hval : Value.okWide Tryz.prog W .any base 29 v) (h : DataW.Trod enc Tryz.prog W 0 (fun _ => true) true 29 v d p) : ∃ l : List PE, RdE W v l ∧ (l.length ≤ 2932031007402 ∧ ∀ x ∈ l, x.ok) := by
  obtain ⟨a0, len0, cap0, rfl⟩ := okWide_slice Tryz.underlying29 hval
  obtain ⟨n0, n1, m0, m1, m2, f1, f2, f3, f4, f5, f6, f7⟩ := entry_facts
  obtain ⟨fuel, hf⟩ := h
  rcases open_slice Tryz.underlying29 hf with ⟨hcs, _⟩ | ⟨x, l, c, m, n, D, Pl, hcs, _, hl, hm, hmm, hx, hcell⟩
  · simp [Value.cells] at hcs
    obtain ⟨rfl, rfl, rfl⟩ := hcs
    exact ⟨[], ⟨none, 0, rfl, by simp, by omega, fun j hj => absurd hj (by simp)⟩, by simp, by simp⟩
  · simp [Value.cells] at hcs
    obtain ⟨rfl, rfl, rfl⟩ := hcs
    simp only [if_true] at hmm
    subst hmm
    rw [cells_entry] at hcell
    have hd' : d = .slice ((List.range len0).map D) ((List.range (m - len0)).map fun j => D (len0 + j)) := congrArg Prod.fst hx
    have hb := sized_slice hz ht (by rw [hd, hd']) Tryz.underlying29
    rw [bytesOf_entry] at hb
    simp only [List.length_map, List.length_range, reachBytes] at hb
    have e1 : ∀ a : ByteArray, a.data.toList.length = a.size := fun a => by rw [Array.length_toList]; rfl
    have each : ∀ i, i < len0 → ∃ y : PE, W.cell? (x.add (i * 4 + 0)) = some (.string y.k) ∧ W.cell? (x.add (i * 4 + 1)) = some (.int .u64 y.s) ∧ W.cell? (x.add (i * 4 + 2)) = some (.bool y.g) ∧ W.cell? (x.add (i * 4 + 3)) = some (.string y.u) ∧ y.ok := by
      intro i hi
      obtain ⟨cs', hcc, htr⟩ := hcell i (by omega)
      obtain ⟨_, hcl, hat⟩ := World.cells?_some hcc
      match cs', hcl with
      | [c0, c1, c2, c3], _ =>
        obtain ⟨k, s, g, u, rfl, rfl, rfl, rfl, hs, hy⟩ := trod_entry f1 f2 f3 f4 f5 f6 f7 Tryz.underlying9 Tryz.underlying23 Tryz.underlying4 (by kernel_rfl) (by kernel_rfl) (by kernel_rfl) (by kernel_rfl) htr
        simp only at hy
        have hmem : D i ∈ (List.range len0).map D := List.mem_map.2 ⟨i, List.mem_range.2 hi, rfl⟩
        have hw : ∀ q ∈ (D i).weights Tryz.prog 34, q ≤ reachBytes := fun q hq => by
          have := List.all_eq_true.1 hz _ (DataW.weights_mem_each ht hd q (by
            rw [hd']
            simp only [DataW.weights, Tryz.underlying29, List.mem_cons, List.mem_append]
            exact .inr (.inl (weightsAll_mem hmem _ hq))))
          exact of_decide_eq_true this
        have b1 := hw k.data.toList.length (by rw [hy]; simp [DataW.weights, DataW.weightsEach, f1, f4, f2.1, f3.1])
        have b2 := hw u.data.toList.length (by rw [hy]; simp [DataW.weights, DataW.weightsEach, f1, f4, f2.1, f3.1])
        rw [e1] at b1 b2
        refine ⟨⟨k, s, g, u⟩, ?_, ?_, ?_, ?_, b1, hs, b2⟩
        · have := hat (i := 0) (by omega); rw [Go.Deep.add_add] at this; exact this
        · have := hat (i := 1) (by omega); rw [Go.Deep.add_add] at this; exact this
        · have := hat (i := 2) (by omega); rw [Go.Deep.add_add] at this; exact this
        · have := hat (i := 3) (by omega); rw [Go.Deep.add_add] at this; exact this
    obtain ⟨ls, hls, hat⟩ := list_of_each each
    refine ⟨ls, ⟨some x, m, by rw [hls], by rw [hls]; exact hl, by unfold maxLen at hm; omega, fun j hj => ?_⟩, by rw [hls]; omega, fun s hs => ?_⟩
    · obtain ⟨c0, c1, c2, c3, _⟩ := hat j hj
      obtain ⟨b, off, spot⟩ := x
      have hspot : spot = none := by
        have hc0 := (hat 0 (by omega)).1
        simpa [Addr.add] using World.cell?_spot hc0
      subst hspot
      have e : ∀ q : Nat, (⟨b, off, none⟩ : Addr).add q = ⟨b, off + q, none⟩ := fun q => by
        unfold Addr.add; split <;> simp_all
      rw [e] at c0 c1 c2 c3
      exact ⟨b, off, rfl, c0, by rw [Nat.add_assoc]; exact c1, by rw [Nat.add_assoc]; exact c2, by rw [Nat.add_assoc]; exact c3⟩
    · obtain ⟨i, hi, rfl⟩ := List.mem_iff_getElem.1 hs
      exact (hat i hi).2.2.2.2
end
end Go.Proofs.YtbcnapkbdbefhaaGreatDoor

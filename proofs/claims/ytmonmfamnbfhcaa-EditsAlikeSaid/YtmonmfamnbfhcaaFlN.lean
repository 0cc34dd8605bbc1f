/- Walk of edits.Get. The condition: 50000 bytes at most. -/
import Derived.Test.YtmonmfamnbfhcaaFlM
import Derived.Laws.ResultCell
namespace Go.Proofs.Ytmonmfamnbfhcaa
open Go.RowKit

set_option maxRecDepth 100000 in
set_option maxHeartbeats 1000000 in
theorem bytesEqual_any (w : World) (v v2 : Value) (l m : List UInt8) (hv : Rd w v l) (hv2 : Rd w v2 m) :
    Calls Try.prog 40 #[v, v2] w fun e w' => e = .returned (.bool (decide (l = m))) ∧ w = w' := by
  have s1 := run_str hv
  have s2 := run_str hv2
  have hbl : ∀ l : List UInt8, (bs l).toList = l := fun l => by rw [Lib.toList_data, bs_data]
  have e1 := hbl l
  have e2 := hbl m
  clear hv hv2 hbl
  obtain ⟨a, ha⟩ : ∃ a, a = bs l := ⟨_, rfl⟩
  obtain ⟨b, hb⟩ : ∃ b, b = bs m := ⟨_, rfl⟩
  rw [← ha] at s1 e1
  rw [← hb] at s2 e2
  have HA := Lib.hid e1
  have HB := Lib.hid e2
  clear ha hb e1 e2
  go_enter Try.func40, Try.ntmps40
  go_wp2
  go_ret
  refine ⟨ret_bool ?_, rfl⟩
  rw [HA.out, HB.out]
  rw [Bool.eq_iff_iff]; simp

def PXread (x : PX) : Prop := (x.add.length ≤ 18446744073709551615 ∧ ∀ f ∈ x.add, PFread f) ∧ (x.rem.length ≤ 18446744073709551615 ∧ ∀ k ∈ x.rem, k ≤ 4294967295) ∧ x.jo ≤ 4294967295 ∧ x.nx ≤ 4294967295 ∧ x.sq ≤ 18446744073709551615
theorem pxread_of {x : PX} (h : x.add.all mayF = true) (hf : x.fit) : PXread x := by
  obtain ⟨f1, f2, f3, f4, f5, f6, f7⟩ := hf
  refine ⟨⟨by omega, fun f hfm => ?_⟩, ⟨by omega, fun k hk => by have := f4 k hk; omega⟩, by omega, by omega, by omega⟩
  obtain ⟨⟨p1, p2⟩, p3, p4⟩ := may_len (List.all_eq_true.1 h f hfm)
  exact ⟨f3 f hfm, ⟨p1, by omega⟩, by omega, by omega⟩
theorem step_edit {b b1 b2 b3 b4 b5 : Bool} {l l1 l2 l3 l4 l5 : List UInt8} {xs : List PF} {ks : List Nat} {j n s : Nat} (h1 : Step (manyP fput) (fun xs => xs.length ≤ 18446744073709551615 ∧ ∀ x ∈ xs, PFread x) b l xs b1 l1)
    (h2 : Step (manyP vint) (fun xs => xs.length ≤ 18446744073709551615 ∧ ∀ x ∈ xs, x ≤ 4294967295) b1 l1 ks b2 l2) (h3 : Step vint (fun n => n ≤ 4294967295) b2 l2 j b3 l3) (h4 : Step vint (fun n => n ≤ 4294967295) b3 l3 n b4 l4) (h5 : Step vint (fun n => n ≤ 18446744073709551615) b4 l4 s b5 l5) :
    Step ePut PXread b l ⟨xs, ks, j, n, s⟩ b5 l5 := by
  refine Step.map ((((h1.then h2).then h3).then h4).then h5) (PX.mk xs ks j n s) (fun hp => ?_) (fun y hy => ?_)
  · obtain ⟨⟨⟨⟨p1, p2⟩, p3⟩, p4⟩, p5⟩ := hp
    refine ⟨⟨p1, p2, p3, p4, p5⟩, ?_⟩
    show manyP fput xs ++ (manyP vint ks ++ (vint j ++ (vint n ++ vint s))) = manyP fput xs ++ manyP vint ks ++ vint j ++ vint n ++ vint s
    simp
  · obtain ⟨yx, yk, yj, yn, ys⟩ := y
    obtain ⟨p1, p2, p3, p4, p5⟩ := hy
    refine ⟨((((yx, yk), yj), yn), ys), ?_, ?_, fun e => ?_⟩
    · exact ⟨⟨⟨⟨p1, p2⟩, p3⟩, p4⟩, p5⟩
    · show manyP fput yx ++ manyP vint yk ++ vint yj ++ vint yn ++ vint ys = manyP fput yx ++ (manyP vint yk ++ (vint yj ++ (vint yn ++ vint ys)))
      simp
    simp only [Prod.mk.injEq] at e
    obtain ⟨⟨⟨⟨rfl, rfl⟩, rfl⟩, rfl⟩, rfl⟩ := e
    rfl
def PX.zero : PX := ⟨[], [], 0, 0, 0⟩
/-- what is told of the bytes b -/
def GetR (b : List UInt8) (x : PX) (q : Nat) : Prop :=
  (q = 0 ∧ x.add.all mayF = true ∧ x.fit ∧ ePut x = b ∨ q = 4 ∧ x = PX.zero) ∧ ∀ y : PX, y.add.all mayF = true → y.fit → ePut y = b → q = 0 ∧ x = y
theorem getR_bad {b l : List UInt8} {x : PX} (h : Step ePut PXread false b x true l) : GetR b PX.zero 4 := by
  refine ⟨.inr ⟨rfl, rfl⟩, fun y h1 h2 h3 => ?_⟩
  have := (h.2.1 y [] rfl (pxread_of h1 h2) (by rw [h3, List.append_nil])).2.1
  cases this
theorem getR_may {b l : List UInt8} {x : PX} {bad : Bool} (h : Step ePut PXread false b x bad l) (hm : x.add.all mayF = false) : GetR b PX.zero 4 := by
  refine ⟨.inr ⟨rfl, rfl⟩, fun y h1 h2 h3 => ?_⟩
  obtain ⟨rfl, _⟩ := h.2.1 y [] rfl (pxread_of h1 h2) (by rw [h3, List.append_nil])
  rw [h1] at hm; cases hm
theorem getR_ne {b l : List UInt8} {x : PX} {bad : Bool} (h : Step ePut PXread false b x bad l) (hm : ePut x ≠ b) : GetR b PX.zero 4 := by
  refine ⟨.inr ⟨rfl, rfl⟩, fun y h1 h2 h3 => ?_⟩
  obtain ⟨rfl, _⟩ := h.2.1 y [] rfl (pxread_of h1 h2) (by rw [h3, List.append_nil])
  exact absurd h3 hm
theorem getR_ok {b l : List UInt8} {x : PX} {bad : Bool} (h : Step ePut PXread false b x bad l) (hm : x.add.all mayF = true) (hf : x.fit) (he : ePut x = b) : GetR b x 0 := by
  refine ⟨.inl ⟨rfl, hm, hf, he⟩, fun y h1 h2 h3 => ?_⟩
  obtain ⟨rfl, _⟩ := h.2.1 y [] rfl (pxread_of h1 h2) (by rw [h3, List.append_nil])
  exact ⟨rfl, rfl⟩
/-- what edits.Get tells -/
def RetGetX (b : List UInt8) (w : World) (e : Ending) (w' : World) : Prop :=
  ∃ (x : PX) (q : Nat) (va vr : Value), e = .returned (.tuple #[.agg #[va, vr, .int .u32 x.jo, .int .u32 x.nx, .int .u64 x.sq], .int .i64 q]) ∧ Hid (GetR b x q) ∧ Hid (Own w' w.heap.size 33 4 va x.add.length (fcells x.add)) ∧
    Hid (Own w' w.heap.size 24 1 vr x.rem.length (ucells x.rem)) ∧ Below w.heap.size w w'
set_option maxRecDepth 100000 in
theorem info_edit_size : (Try.prog.info? 27).map (·.size) = some 5 := by kernel_rfl
theorem RdX.of_own {w : World} {b : Nat} {x : PX} {va vr : Value} (h1 : Own w b 33 4 va x.add.length (fcells x.add)) (h2 : Own w b 24 1 vr x.rem.length (ucells x.rem)) : RdX w (.agg #[va, vr, .int .u32 x.jo, .int .u32 x.nx, .int .u64 x.sq]) x :=
  ⟨va, vr, rfl, (rdF_of (reads_of_own h1)).2, (rdU_of (reads_of_own h2)).2⟩
set_option maxRecDepth 100000 in
theorem res_edit (tmps : Array Value) (w : World) (g : Nat) (cs : Array Value) (q : Nat) (hc : cs.size = 5) (hp : tmps.getD 2 undef = .pointer (some ⟨g, 0, none⟩)) (hq : tmps.getD 3 undef = .int .i64 q) (hb : Blk w g cs 27) :
    (results Try.f14 tmps).run Try.prog w = .ok (.tuple #[.agg cs, .int .i64 q]) w := by
  rw [results_cell_tmp (p := 2) (u := 3) (ty := 27) rfl, hp, hq]
  simp [asAddr, run_loadVar_row w g 27 27 cs (0, 0) _ hb Try.underlying27 rfl (by rw [hc]; exact info_edit_size), Result.andThen]
end Go.Proofs.Ytmonmfamnbfhcaa

/- Walks of law11.in and law01.SameEdit, EditSize, law11.great. The condition: slices that read as files, as numbers. -/
import Derived.Test.YtmonmfamnbfhcaaFl1
import Derived.Laws.StructEq
namespace Go.Proofs.Ytmonmfamnbfhcaa
open Go.RowKit

def eqF (x y : PF) : Bool := decide (x.n = y.n ∧ x.lv = y.lv ∧ x.a = y.a ∧ x.b = y.b)
theorem eqF_iff (x y : PF) : eqF x y = true ↔ x = y := by
  unfold eqF
  rw [decide_eq_true_eq]
  constructor
  · rintro ⟨h1, h2, h3, h4⟩; cases x; cases y; simp_all
  · rintro rfl; exact ⟨rfl, rfl, rfl, rfl⟩
set_option maxRecDepth 100000 in
theorem eql_file (w : World) (n1 n2 : Nat) (l1 l2 : Int) (a1 a2 b1 b2 : ByteArray) :
    (binOp .eql 33 (.agg #[.int .u32 n1, .int .i64 l1, .string a1, .string b1]) (.agg #[.int .u32 n2, .int .i64 l2, .string a2, .string b2])).run Try.prog w = .ok (.bool (eqF ⟨n1, l1, a1, b1⟩ ⟨n2, l2, a2, b2⟩)) w := by
  have u3 := Try.underlying3
  have u9 := Try.underlying9
  have u24 := Try.underlying24
  have hS : Try.prog.underlying 33 = some (.struct (Try.prog.fieldsOf 33)) := by kernel_rfl
  have hp : Try.prog.stoodInHeld 33 = false := by kernel_rfl
  rw [run_eql_struct, show (10000 : Nat) = 9999 + 1 from rfl, run_equalIn_agg w 9999 33 _ _ hS hp]
  simp only [Program.fieldsOf, Try.underlying33]
  go_simp
  unfold eqF
  have e1 : ((n1 : Int) = (n2 : Int)) = (n1 = n2) := propext Int.ofNat_inj
  have e2 : ∀ a b : ByteArray, (a.toList = b.toList) = (a = b) := fun a b => propext ⟨fun h => by
    rw [Lib.toList_data, Lib.toList_data] at h
    exact ByteArray.ext (Array.toList_inj.1 h), fun h => by rw [h]⟩
  simp only [e1, e2]
  by_cases h1 : n1 = n2 <;> by_cases h2 : l1 = l2 <;> by_cases h3 : a1 = a2 <;> by_cases h4 : b1 = b2 <;> simp [h1, h2, h3, h4]
theorem guard_file (w : World) (x y : Operand) (xs ys : Array Value) : (eqGuard .eql 33 x y (.agg xs) (.agg ys)).run Try.prog w = .ok () w :=
  run_eqGuard_agg w .eql _ x y xs ys (by kernel_rfl)
def inF (l : List PF) (f : PF) : Bool := l.any fun x => eqF x f
theorem inF_iff (l : List PF) (f : PF) : inF l f = true ↔ f ∈ l := by
  unfold inF
  rw [List.any_eq_true]
  constructor
  · rintro ⟨x, hx, e⟩; rw [(eqF_iff x f).1 e] at hx; exact hx
  · exact fun h => ⟨f, h, (eqF_iff f f).2 rfl⟩
theorem inF_take {l : List PF} {f : PF} (k : Nat) (h : k < l.length) : inF (l.take (k + 1)) f = (inF (l.take k) f || eqF l[k] f) := by
  unfold inF
  rw [List.take_succ_eq_append_getElem h, List.any_append]
  simp

theorem inF_mono {l : List PF} {f : PF} (k : Nat) (h : inF (l.take k) f = true) : inF l f = true := by
  rw [inF_iff] at h ⊢
  exact List.mem_of_mem_take h

set_option maxRecDepth 100000 in
set_option maxHeartbeats 2000000 in
theorem in_any (w : World) (v : Value) (l : List PF) (f : PF) (hv : RdF w v l) :
    Calls Try.prog 19 #[v, .agg #[.int .u32 f.n, .int .i64 f.lv, .string f.a, .string f.b]] w fun e w' => e = .returned (.bool (inF l f)) ∧ Below w.heap.size w w' := by
  have HV := Lib.hid hv
  obtain ⟨a, cap, rfl, h1, h2, h3⟩ := hv
  clear h3
  obtain ⟨n, hn⟩ : ∃ n, n = l.length := ⟨_, rfl⟩
  have HN := Lib.hid hn
  rw [← hn] at h1 HV ⊢
  clear hn
  obtain ⟨fn, fl, fa, fb⟩ := f
  simp only
  go_enter Try.func19, Try.ntmps19
  go_wp2
  obtain ⟨W, hW⟩ : ∃ W, W = w.alloc (.cells #[.int .u32 fn, .int .i64 fl, .string fa, .string fb] 33) := ⟨_, rfl⟩
  have hbl : Below w.heap.size w W := by rw [hW]; exact (Below.refl _ _).alloc (Nat.le_refl _) _
  have hb1 : Blk W w.heap.size #[.int .u32 fn, .int .i64 fl, .string fa, .string fb] 33 := by rw [hW]; exact Blk.new _ _ _
  rw [← hW]
  clear hW
  have HV1 := Lib.hid (HV.out.below hbl)
  have HBL := Lib.hid hbl
  have HB := Lib.hid hb1
  clear hb1 hbl HV
  go_loopw [5] (fun i wr => ∃ k : Nat, k ≤ n ∧ i = .int .i64 k ∧ inF (l.take k) ⟨fn, fl, fa, fb⟩ = false ∧ ∃ q, wr = W.drewN q) (fun i _ => n - (intOf i).toNat)
  case atStart => exact ⟨0, Nat.zero_le _, rfl, rfl, 0, rfl⟩
  case round =>
    obtain ⟨k, hk, rfl, hno, q, rfl⟩ := hrel
    by_cases hlt : k < n
    · obtain ⟨_, _, he, _, _, hc⟩ := HV1.out
      cases he
      obtain ⟨b, off, rfl, c0, c1, c2, c3⟩ := hc k (by rw [← HN.out]; exact hlt)
      have hst := inF_take (f := ⟨fn, fl, fa, fb⟩) k (by rw [← HN.out]; exact hlt)
      obtain ⟨x, hx⟩ : ∃ x, x = l[k]'(by rw [← HN.out]; exact hlt) := ⟨_, rfl⟩
      rw [← hx] at c0 c1 c2 c3 hst
      clear hx hc
      rw [hno, Bool.false_or] at hst
      have HST := Lib.hid hst
      clear hst
      have d0 : W.cell? ⟨w.heap.size, 0, none⟩ = some (.int .u32 fn) := HB.out.cell 0
      have d1 : W.cell? ⟨w.heap.size, 1, none⟩ = some (.int .i64 fl) := HB.out.cell 1
      have d2 : W.cell? ⟨w.heap.size, 2, none⟩ = some (.string fa) := HB.out.cell 2
      have d3 : W.cell? ⟨w.heap.size, 3, none⟩ = some (.string fb) := HB.out.cell 3
      obtain ⟨xn, xl, xa, xb⟩ := x
      simp only at c0 c1 c2 c3
      have he := fun (W : World) => eql_file W xn fn xl fl xa fa xb fb
      have hg := fun (W : World) (x y : Operand) (xs ys : Array Value) => guard_file W x y xs ys
      generalize eqF ⟨xn, xl, xa, xb⟩ ⟨fn, fl, fa, fb⟩ = B at HST he
      go_wp2
      go_quiet (fail)
      go_wp2
      · go_ret
        rename_i hB
        have := inF_mono (k + 1) (by rw [HST.out, hB])
        exact ⟨by rw [this]; rfl, Below.trans (Below.trans HBL.out ((drewN_below W q).mono HBL.out.size)) ((drewN_below (W.drewN q) _).mono HBL.out.size)⟩
      · go_round
        case rel => exact ⟨k + 1, by omega, by go_num, by rw [HST.out]; assumption, _, rfl⟩
        case measure => simp [intOf]; omega
    · have hkn : k = n := by omega
      subst hkn
      have e : l.take k = l := List.take_of_length_le (by rw [← HN.out]; exact Nat.le_refl _)
      rw [e] at hno
      go_wp2
      go_ret
      exact ⟨by rw [hno]; rfl, HBL.out.trans ((drewN_below _ _).mono HBL.out.size)⟩
end Go.Proofs.Ytmonmfamnbfhcaa

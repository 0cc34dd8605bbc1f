/- Walks of law11.in and law01.SameEdit, EditSize, law11.great. The condition: slices that read as files, as numbers. -/
import Derived.Test.YtimfcinkjjaigaaGreatDoorFl1
import Derived.Laws.StructEq
namespace Go.Proofs.YtimfcinkjjaigaaGreatDoor
open Go.RowKit

def eqF (x y : PF) : Bool := decide (x.n = y.n ∧ x.lv = y.lv ∧ x.a = y.a ∧ x.b = y.b)
theorem eqF_iff (x y : PF) : eqF x y = true ↔ x = y := by
  unfold eqF
  rw [decide_eq_true_eq]
  constructor
  · rintro ⟨h1, h2, h3, h4⟩; cases x; cases y; simp_all
  · rintro rfl; exact ⟨rfl, rfl, rfl, rfl⟩
set_option maxRecDepth 100000 in
theorem eql_file (w : World) (n1 n2 : Nat) (l1 l2 : Int) (a1 a2 b1 b2 : ByteArray) :
    (binOp .eql 86 (.agg #[.int .u32 n1, .int .i64 l1, .string a1, .string b1]) (.agg #[.int .u32 n2, .int .i64 l2, .string a2, .string b2])).run Tryz.prog w = .ok (.bool (eqF ⟨n1, l1, a1, b1⟩ ⟨n2, l2, a2, b2⟩)) w := by
  have u3 := Tryz.underlying3
  have u9 := Tryz.underlying9
  have u24 := Tryz.underlying24
  have hS : Tryz.prog.underlying 86 = some (.struct (Tryz.prog.fieldsOf 86)) := by kernel_rfl
  have hp : Tryz.prog.stoodInHeld 86 = false := by kernel_rfl
  rw [run_eql_struct, show (10000 : Nat) = 9999 + 1 from rfl, run_equalIn_agg w 9999 86 _ _ hS hp]
  simp only [Program.fieldsOf, Tryz.underlying86]
  go_simp
  unfold eqF
  have e1 : ((n1 : Int) = (n2 : Int)) = (n1 = n2) := propext Int.ofNat_inj
  have e2 : ∀ a b : ByteArray, (a.toList = b.toList) = (a = b) := fun a b => propext ⟨fun h => by
    rw [Lib.toList_data, Lib.toList_data] at h
    exact ByteArray.ext (Array.toList_inj.1 h), fun h => by rw [h]⟩
  simp only [e1, e2]
  by_cases h1 : n1 = n2 <;> by_cases h2 : l1 = l2 <;> by_cases h3 : a1 = a2 <;> by_cases h4 : b1 = b2 <;> simp [h1, h2, h3, h4]
theorem guard_file (w : World) (x y : Operand) (xs ys : Array Value) : (eqGuard .eql 86 x y (.agg xs) (.agg ys)).run Tryz.prog w = .ok () w :=
  run_eqGuard_agg w .eql _ x y xs ys (by kernel_rfl)
def inF (l : List PF) (f : PF) : Bool := l.any fun x => eqF x f
theorem inF_iff (l : List PF) (f : PF) : inF l f = true ↔ f ∈ l := by
  unfold inF
  rw [List.any_eq_true]
  constructor
  · rintro ⟨x, hx, e⟩; rw [(eqF_iff x f).1 e] at hx; exact hx
  · exact fun h => ⟨f, h, (eqF_iff f f).2 rfl⟩
theorem inF_take {l : List PF} {f : PF} (k : Nat) (h : k < l.length) : inF (l.take (k + 1)) f = (inF (l.take k) f || eqF l[k] f) := by
  unfold inF
  rw [List.take_succ_eq_append_getElem h, List.any_append]
  simp

theorem inF_mono {l : List PF} {f : PF} (k : Nat) (h : inF (l.take k) f = true) : inF l f = true := by
  rw [inF_iff] at h ⊢
  exact List.mem_of_mem_take h

end Go.Proofs.YtimfcinkjjaigaaGreatDoor

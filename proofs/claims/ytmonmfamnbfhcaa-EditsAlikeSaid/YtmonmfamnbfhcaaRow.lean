/- How a law's arguments are opened: each reading becomes what the walks ask. No condition. -/
import Derived.Test.YtmonmfamnbfhcaaBase
import Derived.ProofKit
import Derived.OpenShut
import Derived.ShutString
import Derived.ChangeOld
import Derived.SizedLaws
import Derived.JoinedOf
import Derived.Lib.SmallJoins
namespace Go.Proofs.Ytmonmfamnbfhcaa
open Go.ChangeShapes Go.WideShapes Go.ChangeAt Go.RowKit

theorem row_own : ownKnob Try.prog.godebug = none := by kernel_rfl
theorem row_laidOut : laidOutB Try.prog = true := by kernel_rfl

/- the head's words: that the program is a cut, by its first word alone (the whole head is long) -/
set_option maxRecDepth 100000 in
theorem row_io : ∃ L, Try.prog.initOrder = String.ofList L ∧ behindMainWord (wordsSigns L) = "cut".toList :: (behindMainWord (wordsSigns L)).tail := ⟨_, rfl, by kernel_rfl⟩
theorem row_words : ∃ R, behindMainWord (wordsSigns Try.prog.initOrder.toList) = "cut".toList :: R := by
  obtain ⟨L, h, hw⟩ := row_io
  exact ⟨_, by rw [h, String.toList_ofList]; exact hw⟩
theorem make_key (P : Program) (R : List (List Char)) (h : behindMainWord (wordsSigns P.initOrder.toList) = "cut".toList :: R) : P.make = some .cut := by
  unfold Program.make
  rw [h]
  simp
theorem strip_key (R : List (List Char)) : stripLifts liftWords ("cut".toList :: R) = ([], "cut".toList :: R) := by
  simp [liftWords, stripLifts]
theorem mayEnter_key (P : Program) (R : List (List Char)) (h : behindMainWord (wordsSigns P.initOrder.toList) = "cut".toList :: R) (h1 : P.doorFits [] = true) (h2 : P.laysLater = false) (h3 : P.bearsReflect = false) : P.mayEnter = true := by
  unfold Program.mayEnter
  rw [h]
  simp only [strip_key, h1, h2, h3]
  simp
theorem lifts_key (P : Program) (R : List (List Char)) (h : behindMainWord (wordsSigns P.initOrder.toList) = "cut".toList :: R) : P.liftsFinal = false := by
  unfold Program.liftsFinal Program.headLifts
  rw [h, strip_key]
  simp
theorem row_mayEnter : Try.prog.mayEnter = true := by
  obtain ⟨R, h⟩ := row_words
  exact mayEnter_key _ R h (by kernel_rfl) (by kernel_rfl) (by kernel_rfl)
theorem row_make : Try.prog.make = some .cut := by
  obtain ⟨R, h⟩ := row_words
  exact make_key _ R h
theorem row_lifts : Try.prog.liftsFinal = false := by
  obtain ⟨R, h⟩ := row_words
  exact lifts_key _ R h

section
variable {H : Type} {enc : TypeId × Value → H} {W : World} {base : Nat} {v : Value} {d : DataW H} {p : List MemPlace}

theorem bytesOf_u8 : Try.prog.bytesOf 5 = 1 := by kernel_rfl

set_option maxRecDepth 100000 in
/-- a []byte -/
theorem open_bytes {ts : List TypeId} {ds : List (DataW H)} {j : Nat} (hz : (DataW.weightsEach Try.prog ts ds).all (· ≤ reachBytes) = true) (ht : ts[j]? = some 28) (hd : ds[j]? = some d)
    (hval : Value.okWide Try.prog W .any base 28 v) (h : DataW.Trod enc Try.prog W 0 (fun _ => true) true 28 v d p) : ∃ l, Rd W v l ∧ l.length ≤ 140737488351232 := by
  obtain ⟨a0, len0, cap0, rfl⟩ := okWide_slice Try.underlying28 hval
  obtain ⟨fuel, hf⟩ := h
  rcases open_ints Try.underlying28 Try.underlying5 (by kernel_rfl) hf with ⟨hcs, _⟩ | ⟨x, l, c, zs, hcs, _, hl, hm, hz0, hx, hcell, hwz⟩
  · simp [Value.cells] at hcs
    obtain ⟨rfl, rfl, rfl⟩ := hcs
    exact ⟨[], ⟨none, 0, rfl, by simp, by omega, fun j hj => absurd hj (by simp)⟩, Nat.zero_le _⟩
  · simp [Value.cells] at hcs
    obtain ⟨rfl, rfl, rfl⟩ := hcs
    simp only [if_true] at hz0
    have hlen : ((zs.take len0).map fun n => UInt8.ofNat n.toNat).length = len0 := by simp; omega
    have hb : len0 ≤ 140737488351232 := by
      have hd' : d = .slice (lits .u8 (zs.take len0)) (lits .u8 (zs.drop len0)) := congrArg Prod.fst hx
      have := sized_slice hz ht (by rw [hd, hd']) Try.underlying28
      rw [bytesOf_u8] at this
      simp only [lits, List.length_map, List.length_take, List.length_drop, reachBytes] at this
      omega
    refine ⟨(zs.take len0).map fun n => UInt8.ofNat n.toNat, ⟨some x, cap0, by rw [hlen], by rw [hlen]; exact hl, by unfold maxLen at hm; omega, fun j hj => ?_⟩, by rw [hlen]; exact hb⟩
    rw [hlen] at hj
    have hc := hcell j (by omega)
    obtain ⟨b, off, spot⟩ := x
    have hspot : spot = none := by
      have hc0 := hcell 0 (by omega)
      simpa [Addr.add] using World.cell?_spot hc0
    subst hspot
    refine ⟨b, off, rfl, ?_⟩
    have e : (⟨b, off, none⟩ : Addr).add j = ⟨b, off + j, none⟩ := by
      unfold Addr.add; split <;> simp_all
    rw [e] at hc
    rw [hc]
    have hjz : j < zs.length := by omega
    have hw := hwz zs[j] (List.getElem_mem hjz)
    have hbd : 0 ≤ zs[j] ∧ zs[j] ≤ 255 := by simpa [Lit.wf, IntKind.min, IntKind.max, IntKind.signed, IntKind.bits] using hw
    simp only [List.getElem_map, List.getElem_take, List.getD_eq_getElem?_getD, List.getElem?_eq_getElem hjz, Option.getD_some, UInt8.toNat_ofNat']
    congr 2
    omega

end
end Go.Proofs.Ytmonmfamnbfhcaa

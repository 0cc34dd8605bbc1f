/- Answers of Get and From, as a law that parts entries asks them. The conditions as in the walks. -/
import Derived.Test.YtbcnapkbdbefhaaSGreat
import Derived.Test.YtbcnapkbdbefhaaAppR
import Derived.Test.YtbcnapkbdbefhaaSLook
namespace Go.Proofs.Ytbcnapkbdbefhaa
open Go.RowKit

theorem entsOf_take (l : List PE) (k : Nat) : entsOf (l.take k) = (entsOf l).take k := by unfold entsOf; rw [List.map_take]
theorem entsOf_drop (l : List PE) (k : Nat) : entsOf (l.drop k) = (entsOf l).drop k := by unfold entsOf; rw [List.map_drop]
/-- Get, of whatever is found -/
theorem sget_gen (w : World) (v : Value) (b : List UInt8) (E : List Ent) (er : Nat) (k : ByteArray) (s : Nat) (o : Option Ent) (tb : Bool) (wk : ByteArray) (ws : Nat) (wg : Bool) (wu : ByteArray) (hv : Rd w v b) (hb : b.length ≤ 268435456) (hX : AllIs b E er) (h : getS k.data.toList s E = o)
    (hc : entCs (o.getD Ent.none) = #[.string wk, .int .u64 ws, .bool wg, .string wu]) (ht : tb = o.isSome) :
    Calls Try.prog 16 #[v, .string k, .int .u64 s] w fun e w' => e = .returned (.tuple #[.agg #[.string wk, .int .u64 ws, .bool wg, .string wu], .bool tb, .int .i64 er]) ∧ Below w.heap.size w w' := by
  refine (sortedGet_any w v b E er k s hv hb hX).mono ?_
  rintro e w' ⟨rfl, h3⟩
  refine ⟨?_, h3⟩
  rw [h, ht]
  have h : entV (o.getD Ent.none) = .agg (entCs (o.getD Ent.none)) := rfl
  rw [h, hc]
/-- From, of all that there are -/
theorem sfrom_all (w : World) (v : Value) (b : List UInt8) (E : List Ent) (er : Nat) (mk : ByteArray) (ms : Nat) (mg : Bool) (most : Int) (hv : Rd w v b) (hb : b.length ≤ 268435456) (hX : AllIs b E er) (hl : (E.length : Int) ≤ most) (hm2 : most ≤ 9223372036854775807) :
    Calls Try.prog 17 #[v, .agg #[.string mk, .int .u64 ms, .bool mg], .int .i64 most] w (RetAE (E.filter (fromE mk.data.toList ms mg)) er w) := by
  have h := sortedFrom_any w v b E er mk ms mg most hv hb hX (by omega) hm2
  have e : (E.drop (seekAt mk.data.toList ms mg E)).take (mostN most (E.drop (seekAt mk.data.toList ms mg E)).length) = E.filter (fromE mk.data.toList ms mg) := by
    rw [from_seek hX.rises, List.take_of_length_le]
    unfold mostN
    have : (E.drop (seekAt mk.data.toList ms mg E)).length ≤ E.length := by rw [List.length_drop]; omega
    omega
  rw [e] at h
  exact h
end Go.Proofs.Ytbcnapkbdbefhaa

/- Plain facts of a look-up from the back, and v[lo:hi] of entries. The condition: the bounds lie within the slice. -/
import Derived.Test.YtbcnapkbdbefhaaSGreat
namespace Go.Proofs.Ytbcnapkbdbefhaa
open Go.RowKit

/-- the entry that is wanted, as far as the last ones tell -/
def wantD (E : List Ent) (k : List UInt8) (s : Nat) (j : Nat) : Option Ent := (E.drop j).find? (ofK k s)
/-- where those from a mark on begin, as far as the last ones tell -/
def fromD (E : List Ent) (k : List UInt8) (s : Nat) (g : Bool) (j : Nat) : Nat := j + seekAt k s g (E.drop j)
theorem wantD_step (E : List Ent) (k : List UInt8) (s : Nat) (m : Nat) (h : m < E.length) : wantD E k s m = if ofK k s (atE E m) = true then some (atE E m) else wantD E k s (m + 1) := by
  unfold wantD
  rw [List.drop_eq_getElem_cons h, atE_get E m h]
  by_cases hp : ofK k s E[m] = true
  · rw [if_pos hp, List.find?_cons_of_pos hp]
  · rw [if_neg hp, List.find?_cons_of_neg hp]
theorem fromD_step (E : List Ent) (k : List UInt8) (s : Nat) (g : Bool) (m : Nat) (h : m < E.length) : fromD E k s g m = if cmpM (atE E m).key (atE E m).seq (atE E m).gone k s g ≥ 0 then m else fromD E k s g (m + 1) := by
  unfold fromD
  rw [List.drop_eq_getElem_cons h, atE_get E m h, seekAt]
  split <;> omega
theorem fromD_le (E : List Ent) (k : List UInt8) (s : Nat) (g : Bool) (j : Nat) (h : j ≤ E.length) : fromD E k s g j ≤ E.length := by
  unfold fromD
  have := seekAt_le k s g (E.drop j)
  rw [List.length_drop] at this
  omega
theorem fromD_zero (E : List Ent) (k : List UInt8) (s : Nat) (g : Bool) : fromD E k s g 0 = seekAt k s g E := by unfold fromD; rw [List.drop_zero, Nat.zero_add]
theorem wantD_zero (E : List Ent) (k : List UInt8) (s : Nat) : wantD E k s 0 = E.find? (ofK k s) := rfl
theorem wantD_end (E : List Ent) (k : List UInt8) (s : Nat) : wantD E k s E.length = none := by unfold wantD; rw [List.drop_length]; rfl
theorem fromD_end (E : List Ent) (k : List UInt8) (s : Nat) (g : Bool) : fromD E k s g E.length = E.length := by unfold fromD; rw [List.drop_length]; rfl
/-- an entry's cells -/
def entCs (x : Ent) : Array Value := #[.string (bs x.key), .int .u64 x.seq, .bool x.gone, .string (bs x.val)]
/-- v[lo:hi] -/
theorem cutE_mid {w : World} {v : Value} {l : List PE} (h : RdE w v l) (lo m : Nat) (h2 : lo + m ≤ l.length) :
    ∃ a c, (∀ (w' : World), (Instr.slice 22 v (some (.int .i64 lo)) (some (.int .i64 ((lo : Int) + (m : Int)))) none).run Try.prog w' = .ok (.slice a m c) w') ∧ RdE w (.slice a m c) ((l.drop lo).take m) := by
  obtain ⟨i0, hi0, hz, hz1, hz2⟩ := info_parts info_ent
  obtain ⟨hj, hhj⟩ : ∃ k : Nat, k = lo + m := ⟨_, rfl⟩
  obtain ⟨a, c, h3, _, _, h4⟩ := reads_cut Try.underlying22 hi0 hz1 (by omega) (rdE_reads h) lo hj (by omega) (by omega)
  have e : hj - lo = m := by omega
  have e1 : ((lo : Int) + (m : Int)) = ((hj : Nat) : Int) := by omega
  rw [e] at h3 h4
  refine ⟨a, c, fun w' => by rw [e1]; exact h3 w' .i64 .i64, ?_⟩
  have h5 : (pcells l).take (hj * 4) = pcells (l.take hj) := flatM_take pcell 4 (fun _ => rfl) l hj (by omega)
  rw [h5, pcells_drop _ _ (by rw [List.length_take]; omega)] at h4
  have h6 := (rdE_of h4).2
  rw [List.drop_take, e] at h6
  exact h6
end Go.Proofs.Ytbcnapkbdbefhaa

/- The law OrderCmp answers true for any two marks. No condition. -/
import Derived.Test.YtdamfcldkaidjaaOrder3
import Derived.Deep.RegionHeld3
namespace Go.Proofs.Ytdamfcldkaidjaa
open Go.RowKit

set_option maxRecDepth 100000 in
set_option maxHeartbeats 2000000 in
theorem orderCmp_core (k1 k2 : ByteArray) (s1 s2 : Nat) (g1 g2 : Bool) (w : World) (h1 : k1.size ≤ 140737488351232) (h2 : k2.size ≤ 140737488351232) :
    Calls Try.prog 5 #[.agg #[.string k1, .int .u64 s1, .bool g1], .agg #[.string k2, .int .u64 s2, .bool g2]] w fun e w' => e = .returned (.bool true) ∧ Below w.heap.size w w' := by
  obtain ⟨W, hW⟩ : ∃ W, W = (w.alloc (.cells #[.string k1, .int .u64 s1, .bool g1] 40)).alloc (.cells #[.string k2, .int .u64 s2, .bool g2] 40) := ⟨_, rfl⟩
  have a0 : W.cell? ⟨w.heap.size, 0, none⟩ = some (.string k1) := by rw [hW]; exact cell_first2 _ _ _ _ _ _ rfl
  have a1 : W.cell? ⟨w.heap.size, 1, none⟩ = some (.int .u64 s1) := by rw [hW]; exact cell_first2 _ _ _ _ _ _ rfl
  have a2 : W.cell? ⟨w.heap.size, 2, none⟩ = some (.bool g1) := by rw [hW]; exact cell_first2 _ _ _ _ _ _ rfl
  have b0 : W.cell? ⟨w.heap.size + 1, 0, none⟩ = some (.string k2) := by rw [hW]; exact cell_second2 _ _ _ _ _ _ rfl
  have b1 : W.cell? ⟨w.heap.size + 1, 1, none⟩ = some (.int .u64 s2) := by rw [hW]; exact cell_second2 _ _ _ _ _ _ rfl
  have b2 : W.cell? ⟨w.heap.size + 1, 2, none⟩ = some (.bool g2) := by rw [hW]; exact cell_second2 _ _ _ _ _ _ rfl
  have hbel : Below w.heap.size w W := by rw [hW]; exact below2' _ _ _
  have hwr : IntKind.i64.wrap ((k1.size : Int) + (k2.size : Int)) = (k1.size : Int) + (k2.size : Int) := IntWalk.i64_in _ (by omega)
  by_cases hb : 100000 < k1.size + k2.size
  · have hd : decide (100000 < (k1.size : Int) + (k2.size : Int)) = true := by simp; omega
    go_enter Try.func5, Try.ntmps5
    go_wp2
    rw [← hW]
    clear hW
    go_quiet (fail)
    go_wp2
    go_ret
    exact ⟨rfl, hbel.trans ((drewN_below _ _).mono hbel.size)⟩
  · have hd : decide (100000 < (k1.size : Int) + (k2.size : Int)) = false := by simp; omega
    go_enter Try.func5, Try.ntmps5
    go_wp2
    rw [← hW]
    clear hW
    go_region_held3 (fun w' => w'.cell? ⟨w.heap.size, 0, none⟩ = some (.string k1) ∧ w'.cell? ⟨w.heap.size, 1, none⟩ = some (.int .u64 s1) ∧ w'.cell? ⟨w.heap.size, 2, none⟩ = some (.bool g1) ∧
        w'.cell? ⟨w.heap.size + 1, 0, none⟩ = some (.string k2) ∧ w'.cell? ⟨w.heap.size + 1, 1, none⟩ = some (.int .u64 s2) ∧ w'.cell? ⟨w.heap.size + 1, 2, none⟩ = some (.bool g2) ∧ Below w.heap.size w w') ((go_split_ands; (repeat' apply And.intro) <;> first | assumption | exact hbel.drew | exact Below.keeps hb2 _ _ _ (by assumption) | exact Below.trans (by assumption) (hb2.mono (Below.size (by assumption))) | go_keep))
      (first | (go_at_call 50; refine (check_any _ _).mono ?_; rintro e w' ⟨rfl, rfl⟩) | (go_at_call 51; refine (refCheck_any _ _).mono ?_; rintro e w' ⟨rfl, rfl⟩) | (go_at_call 52; refine (orderCmp_any _ _ _ _ _ _ _).mono ?_; rintro e w' ⟨rfl, hb2⟩) | (go_at_call 53; refine (refCmp_any _ _ _ _ _ _ _ (by omega) (by omega)).mono ?_; rintro e w' ⟨rfl, hb2⟩))
    go_wp2
    go_ret
    exact ⟨rfl, by go_split_ands; assumption⟩
theorem orderCmp_walk (w : World) (k1 : ByteArray) (s1 : Nat) (g1 : Bool) (k2 : ByteArray) (s2 : Nat) (g2 : Bool) (h1 : k1.size ≤ 140737488351232) (_ : s1 < 18446744073709551616) (h2 : k2.size ≤ 140737488351232) (_ : s2 < 18446744073709551616) :
    Calls Try.prog 5 #[.agg #[.string k1, .int .u64 s1, .bool g1], .agg #[.string k2, .int .u64 s2, .bool g2]] w fun e w' => e = .returned (.bool true) ∧ Below w.heap.size w w' :=
  orderCmp_core k1 k2 s1 s2 g1 g2 w h1 h2
end Go.Proofs.Ytdamfcldkaidjaa

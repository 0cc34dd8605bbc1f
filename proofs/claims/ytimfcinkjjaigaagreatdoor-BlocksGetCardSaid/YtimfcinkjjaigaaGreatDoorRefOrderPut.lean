/- Walk of the reference's order Put: an entry behind some bytes. The condition: bytes and texts of at most 2^36. -/
import Derived.Test.YtimfcinkjjaigaaGreatDoorRefPut
import Derived.Test.YtimfcinkjjaigaaGreatDoorOrderPut
namespace Go.Proofs.YtimfcinkjjaigaaGreatDoor
open Go.RowKit

set_option maxRecDepth 100000 in
set_option maxHeartbeats 4000000 in
theorem refOrderPut_any (w : World) (v : Value) (l : List UInt8) (k u : ByteArray) (s : Nat) (g : Bool) (hv : Rd w v l) (hl : l.length ≤ 68719476736) (hk : k.size ≤ 34359738368) (hu : u.size ≤ 34359738368) (hs : s < 18446744073709551616) :
    Calls Tryz.prog 121 #[v, .agg #[.string k, .int .u64 s, .bool g, .string u]] w (RetMy (l ++ eput ⟨k.data.toList, s, g, u.data.toList⟩) w) := by
  obtain ⟨W, hW⟩ : ∃ W, W = w.alloc (.cells #[.string k, .int .u64 s, .bool g, .string u] 106) := ⟨_, rfl⟩
  have hx : Blk W w.heap.size #[.string k, .int .u64 s, .bool g, .string u] 106 := by rw [hW]; exact Blk.new _ _ _
  have hb : Below w.heap.size w W := by rw [hW]; exact (Below.refl _ _).alloc (Nat.le_refl _) _
  have hv2 := hv.below hb
  obtain ⟨va, vn, vc, rfl, hvn⟩ := rd_len hv
  have x0 := hx.cellv 0 (.string k) rfl
  have x1 := hx.cellv 1 (.int .u64 s) rfl
  have x2 := hx.cellv 2 (.bool g) rfl
  have x3 := hx.cellv 3 (.string u) rfl
  have HVN := Lib.hid hvn
  clear hx hv hvn
  have hk10 := vint_le k.size
  have HL1 : Hid ((l ++ (vint k.size ++ k.data.toList)).length ≤ 103079215115) := by
    show _ ≤ _
    rw [List.length_append, List.length_append, size_data]; omega
  have hs10 := vint_le s
  have HL2 : Hid ((((l ++ (vint k.size ++ k.data.toList)) ++ vint s).length + [flagB g].length) ≤ 103079215126) := by
    show _ ≤ _
    rw [List.length_append]
    have := HL1.out
    simp only [List.length_cons, List.length_nil]
    omega
  clear hk10 hs10
  have HW := Lib.hid hW
  clear hW
  have hS : ∀ w', Below W.heap.size W w' → Rd w' (.slice va vn vc) l ∧ w'.cell? ⟨w.heap.size, 0, none⟩ = some (.string k) ∧ w'.cell? ⟨w.heap.size, 1, none⟩ = some (.int .u64 s) ∧ w'.cell? ⟨w.heap.size, 2, none⟩ = some (.bool g) ∧ w'.cell? ⟨w.heap.size, 3, none⟩ = some (.string u) ∧ Below W.heap.size W w' :=
    fun w' hb' => ⟨hv2.below hb', Below.keeps hb' _ _ _ x0, Below.keeps hb' _ _ _ x1, Below.keeps hb' _ _ _ x2, Below.keeps hb' _ _ _ x3, hb'⟩
  have HS := Lib.hid hS
  have hWW : Below W.heap.size W W := Below.refl _ _
  clear hS
  go_enter Tryz.func121, Tryz.ntmps121
  go_wp2_with fail
  rw [← HW.out]
  go_region_held3 (fun w' => Rd w' (.slice va vn vc) l ∧ w'.cell? ⟨w.heap.size, 0, none⟩ = some (.string k) ∧ w'.cell? ⟨w.heap.size, 1, none⟩ = some (.int .u64 s) ∧ w'.cell? ⟨w.heap.size, 2, none⟩ = some (.bool g) ∧ w'.cell? ⟨w.heap.size, 3, none⟩ = some (.string u) ∧ Below W.heap.size W w')
    ((go_split_ands; refine HS.out _ ?_; first | assumption | exact Below.drew hWW | exact Below.trans (by assumption) (bel4.mono (Below.size (by assumption))) | exact Below.trans (by assumption) (bel5.mono (Below.size (by assumption)))))
    (first
      | (go_at_call 135; refine (refPutText_any _ _ l k (by go_split_ands; assumption) (by omega) (by omega)).mono ?_; rintro e w4 ⟨pa, pn, pc, rfl, HPN, HP, bel4⟩)
      | (go_at_call 122; refine (refPut_any _ _ (l ++ (vint k.size ++ k.data.toList)) s (rd_of_own HP.out).2 hs (Nat.le_trans HL1.out (by decide))).mono ?_; rintro e w5 ⟨qa, qn, qc, rfl, HQN, HQ, bel5⟩; replace HQ := Lib.hid (own_mono HQ.out (Below.size (w := W) (by go_split_ands; assumption)))))
  have B5 : Below W.heap.size W w5 := by go_split_ands; assumption
  obtain ⟨_, _, _, c2, c3, _⟩ := HS.out w5 B5
  have hs5 := B5.size
  cases g with
  | true =>
    go_wp2_with (at_builtin; go_loud (refine wp_app_my rfl _ _ rfl W.heap.size _ _ _ _ [flagB true] rfl rfl (own_below HQ.out ((Below.refl _ _).alloc (Nat.le_refl _) _)) (rd_one _ (flagB true) _ rfl _) (Nat.le_trans HL2.out (by decide)) (by simp; omega) ?_); intro ra rn rc w6 HRN HR bel6)
    have B6 := B5.trans (((Below.refl W.heap.size w5).alloc hs5 _).trans bel6)
    go_ret
    exact ⟨ra, rn, rc, rfl, by rw [← eput_true] at HRN; exact HRN, by rw [← eput_true] at HR; exact own_mono HR.out hb.size, hb.trans (B6.mono hb.size)⟩
  | false =>
    have hS5 : ∀ w', Below W.heap.size w5 w' → w'.cell? ⟨w.heap.size, 3, none⟩ = some (.string u) ∧ Below W.heap.size W w' := fun w' hb' => ⟨(HS.out w' (B5.trans hb')).2.2.2.2.1, B5.trans hb'⟩
    have HS5 := Lib.hid hS5
    have h55 : Below W.heap.size w5 w5 := Below.refl _ _
    clear hS5 c2 HP HPN HQN bel4 bel5
    go_wp2_with fail
    go_region_held3 (fun w' => w'.cell? ⟨w.heap.size, 3, none⟩ = some (.string u) ∧ Below W.heap.size W w')
      ((go_split_ands; first | assumption | exact HS5.out _ (Below.drew h55) | exact HS5.out _ ((Below.drew h55).alloc (by simp; omega) _) | exact HS5.out _ (((Below.drew h55).alloc (by simp; omega) _).trans bel6) | exact HS5.out _ ((((Below.drew h55).alloc (by simp; omega) _).trans bel6).trans (bel7.mono (Below.size (by assumption))))))
      (first
        | (refine step_app rfl _ _ rfl W.heap.size _ _ _ ((l ++ (vint k.size ++ k.data.toList)) ++ vint s) [flagB false] rfl rfl (by first | exact HQ.out | exact own_below HQ.out ((Below.refl _ _).alloc (Nat.le_refl _) _) | exact own_below HQ.out ((Below.drew (Below.refl _ _)).alloc (Nat.le_refl _) _)) (rd_one _ _ _ rfl _) (Nat.le_trans HL2.out (by decide)) (by first | (simp; omega) | (go_split_ands; exact Below.size (by assumption))) ?_; intro ra rn rc w6 HRN HR bel6)
        | (go_at_call 135; refine (refPutText_any _ _ _ u (rd_of_own HR.out).2 (by omega) (by have := HL2.out; simp only [List.length_append] at this ⊢; omega)).mono ?_; rintro e w7 ⟨ta, tn, tc, rfl, HTN, HT, bel7⟩))
    all_goals
      have B7 : Below W.heap.size W w7 := by go_split_ands; assumption
      go_wp2
      go_ret
      exact ⟨ta, tn, tc, rfl, by rw [eput_false] at HTN; exact HTN, by rw [eput_false] at HT; exact own_mono HT.out (by have h6 := bel6.size; have h7 := hb.size; simp at h6; omega), hb.trans (B7.mono hb.size)⟩
end Go.Proofs.YtimfcinkjjaigaaGreatDoor

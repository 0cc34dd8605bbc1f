/- Walk of law04.OrderParts. The condition: an entry of texts of at most 2^47 bytes. -/
import Derived.Test.YtdamfcldkaidjaaAlive4
import Derived.Test.YtdamfcldkaidjaaCut
import Derived.Test.YtdamfcldkaidjaaMore
namespace Go.Proofs.Ytdamfcldkaidjaa
open Go.RowKit

set_option maxRecDepth 100000 in
set_option maxHeartbeats 4000000 in
theorem orderParts_walk (w : World) (k : ByteArray) (s : Nat) (g : Bool) (u : ByteArray) (hk : k.size ≤ 140737488351232) (hs : s < 18446744073709551616) (hu : u.size ≤ 140737488351232) :
    Calls Try.prog 29 #[.agg #[.string k, .int .u64 s, .bool g, .string u]] w (RetTrue w) := by
  have hend : ∀ (w5 : World), Hid (Calls Try.prog 72 #[] w5 (RetTrue w5)) := fun w5 => alive04_any w5
  have HX : Blk (w.alloc (.cells #[.string k, .int .u64 s, .bool g, .string u] 55)) w.heap.size #[.string k, .int .u64 s, .bool g, .string u] 55 := Blk.new _ _ _
  have bel : Below w.heap.size w (w.alloc (.cells #[.string k, .int .u64 s, .bool g, .string u] 55)) := (Below.refl _ _).alloc (Nat.le_refl _) _
  have hwr : IntKind.i64.wrap ((k.size : Int) + (u.size : Int)) = (k.size : Int) + (u.size : Int) := IntWalk.i64_in _ (by omega)
  go_enter Try.func29, Try.ntmps29
  go_wp2_with fail
  refine (hend _).out.mono ?_
  rintro e w1 ⟨rfl, bel1⟩
  replace HX := HX.below bel1
  replace bel := Below.trans bel (bel1.mono bel.size)
  have x0 := HX.cellv 0 (.string k) rfl
  have x3 := HX.cellv 3 (.string u) rfl
  clear bel1
  by_cases hb : 1048576 < k.size + u.size
  · go_wp2_with fail
    refine (beyond_one w1 _ _ (by omega) (by omega) true (by simp; omega)).mono ?_
    rintro e w2 ⟨rfl, bel2⟩
    replace bel := Below.trans bel (bel2.mono bel.size)
    clear bel2
    go_wp2_with fail
    refine (hend _).out.mono ?_
    rintro e w3 ⟨rfl, bel3⟩
    replace bel := Below.trans bel (bel3.mono bel.size)
    clear bel3
    go_wp2
    go_ret
    exact ⟨rfl, bel⟩
  · go_wp2_with fail
    refine (beyond_one w1 _ _ (by omega) (by omega) false (by simp; omega)).mono ?_
    rintro e w2 ⟨rfl, bel2⟩
    replace bel := Below.trans bel (bel2.mono bel.size)
    replace HX := HX.below bel2
    clear bel2 x0 x3 hwr
    have hS : ∀ w', Below w2.heap.size w2 w' → w'.cell? ⟨w.heap.size, 0, none⟩ = some (.string k) ∧ w'.cell? ⟨w.heap.size, 1, none⟩ = some (.int .u64 s) ∧ w'.cell? ⟨w.heap.size, 2, none⟩ = some (.bool g) ∧ w'.cell? ⟨w.heap.size, 3, none⟩ = some (.string u) ∧ Below w2.heap.size w2 w' :=
      fun w' hb' => ⟨(HX.below hb').cellv 0 _ rfl, (HX.below hb').cellv 1 _ rfl, (HX.below hb').cellv 2 _ rfl, (HX.below hb').cellv 3 _ rfl, hb'⟩
    have HS := Lib.hid hS
    have h22 : Below w2.heap.size w2 w2 := Below.refl _ _
    clear hS
    go_wp2_with fail
    go_region_held (fun w' => w'.cell? ⟨w.heap.size, 0, none⟩ = some (.string k) ∧ w'.cell? ⟨w.heap.size, 1, none⟩ = some (.int .u64 s) ∧ w'.cell? ⟨w.heap.size, 2, none⟩ = some (.bool g) ∧ w'.cell? ⟨w.heap.size, 3, none⟩ = some (.string u) ∧ Below w2.heap.size w2 w')
      ((go_split_ands; refine HS.out _ ?_; first | assumption | exact Below.drew h22 | exact Below.trans (by assumption) (hb9.mono (Below.size (by assumption)))))
      (first
        | (go_at_call 63; refine (putText_rd _ _ [] k (rd_nil _) (by omega) (by simp)).mono ?_; rintro e w4 ⟨pa, pn, pc, rfl, HPN, HP, hb9⟩)
        | (go_at_call 62; refine (put_my' _ _ _ s HP.out hs (by rw [List.nil_append]; have := vint_le k.size; simp only [List.length_append, size_data]; omega)).mono ?_; rintro e w5 ⟨qa, qn, qc, rfl, HQN, HQ, hb9⟩; replace HQ := Lib.hid (own_mono HQ.out (Below.size (w := w2) (by go_split_ands; assumption)))))
    have B5 : Below w2.heap.size w2 w5 := by go_split_ands; assumption
    obtain ⟨c0, c1, c2, c3, _⟩ := HS.out w5 B5
    have B6 : Below w.heap.size w w5 := Below.trans bel (B5.mono bel.size)
    have hlq : ([] ++ (vint k.size ++ k.data.toList) ++ vint s).length ≤ 1048696 := by
      rw [List.nil_append]; have := vint_le k.size; have := vint_le s; simp only [List.length_append, size_data]; omega
    have HLQ := Lib.hid hlq
    have HX5 := Lib.hid (HX.below B5)
    have hsz := B5.size
    have HX2 : w.heap.size < w2.heap.size := HX.lt
    clear hlq HX HPN HP HQN
    cases g with
    | true =>
      go_upto_region 7 with (at_builtin; go_loud (refine wp_app_my rfl _ _ rfl w2.heap.size _ _ _ _ [1] rfl rfl (own_below HQ.out ((Below.refl _ _).alloc (Nat.le_refl _) _)) (rd_one _ 1 _ rfl _) (Nat.le_trans (Nat.add_le_add_right HLQ.out _) (by decide)) (by simp; omega) ?_); intro ra rn rc w6 HRN HR bel6)
      have B56 : Below w2.heap.size w5 w6 := Below.trans ((Below.refl w2.heap.size w5).alloc hsz _) bel6
      have X6 := Blk.under HX5.out HX2 B56
      have y0 := X6.cellv 0 (.string k) rfl
      have y1 := X6.cellv 1 (.int .u64 s) rfl
      have y2 := X6.cellv 2 (.bool true) rfl
      have y3 := X6.cellv 3 (.string u) rfl
      have B7 : Below w.heap.size w w6 := Below.trans B6 (B56.mono bel.size)
      clear X6 c0 c1 c2 c3
      go_wp2_with fail
      refine (orderPut_any _ _ [] k u s true (rd_nil _) (by decide) (by omega) (by omega) hs).mono ?_
      rintro e w8 ⟨ta, tn, tc, rfl, HTN, HT, bel8⟩
      rw [eput_true, show flagB true = (1 : UInt8) from rfl] at HT
      have HR8 := Lib.hid ((rd_of_own HR.out).2.below bel8)
      have hsame := sameBytes_any _ _ _ _ _ HT.out HR8.out
      rw [decide_eq_true rfl] at hsame
      have HSA := Lib.hid hsame
      clear hsame y0 y1 y2 y3
      go_wp2_with fail
      refine HSA.out.mono ?_
      rintro e w9 ⟨rfl, k9, rfl⟩
      go_wp2
      go_ret
      exact ⟨rfl, Below.trans B7 (Below.trans (bel8.mono B7.size) ((drewN_below _ _).mono (Nat.le_trans B7.size bel8.size)))⟩
    | false =>
      have hS : ∀ w', Below w2.heap.size w5 w' → w'.cell? ⟨w.heap.size, 0, none⟩ = some (.string k) ∧ w'.cell? ⟨w.heap.size, 1, none⟩ = some (.int .u64 s) ∧ w'.cell? ⟨w.heap.size, 2, none⟩ = some (.bool false) ∧ w'.cell? ⟨w.heap.size, 3, none⟩ = some (.string u) ∧ Below w2.heap.size w5 w' :=
        fun w' hb' => ⟨(HX5.out.under HX2 hb').cellv 0 _ rfl, (HX5.out.under HX2 hb').cellv 1 _ rfl, (HX5.out.under HX2 hb').cellv 2 _ rfl, (HX5.out.under HX2 hb').cellv 3 _ rfl, hb'⟩
      have HS := Lib.hid hS
      have h55 : Below w2.heap.size w5 w5 := Below.refl _ _
      have HSZ := Lib.hid hsz
      clear hS B5 h22 hsz
      go_wp2_with fail
      go_region_held3 (fun w' => w'.cell? ⟨w.heap.size, 0, none⟩ = some (.string k) ∧ w'.cell? ⟨w.heap.size, 1, none⟩ = some (.int .u64 s) ∧ w'.cell? ⟨w.heap.size, 2, none⟩ = some (.bool false) ∧ w'.cell? ⟨w.heap.size, 3, none⟩ = some (.string u) ∧ Below w2.heap.size w5 w')
        ((go_split_ands; refine HS.out _ ?_; first | assumption | exact Below.drew h55 | exact Below.trans (by assumption) (hb9.mono (Nat.le_trans HSZ.out (Below.size (by assumption)))) | exact Below.trans (by assumption) hb8 | exact Below.alloc (by assumption) (Nat.le_trans HSZ.out (Below.size (by assumption))) _))
        (first
          | (go_at_call 63; refine (putText_rd _ _ _ u (rd_of_own HR.out).2 (by omega) (by rw [List.length_append]; have := HLQ.out; simp only [List.length_cons, List.length_nil]; omega)).mono ?_; rintro e w7 ⟨pa, pn, pc, rfl, HPN, HP, hb9⟩)
          | (refine step_app rfl _ _ rfl _ _ _ _ _ [0] rfl rfl (by first | exact own_below HQ.out (((Below.refl _ _).drew).alloc (Nat.le_refl _) _) | exact own_below HQ.out ((Below.refl _ _).alloc (Nat.le_refl _) _)) (by exact rd_one _ 0 _ rfl _) (Nat.le_trans (Nat.add_le_add_right HLQ.out _) (by decide)) (Nat.le_trans HSZ.out (Below.size (w := w5) (by go_split_ands; assumption))) ?_; intro ra rn rc w6 HRN HR hb8))
      have B7 : Below w2.heap.size w5 w7 := by go_split_ands; assumption
      obtain ⟨y0, y1, y2, y3, _⟩ := HS.out w7 B7
      replace B7 : Below w.heap.size w w7 := Below.trans B6 (B7.mono bel.size)
      clear HPN
      go_wp2_with fail
      refine (orderPut_any _ _ [] k u s false (rd_nil _) (by decide) (by omega) (by omega) hs).mono ?_
      rintro e w8 ⟨ta, tn, tc, rfl, HTN, HT, bel8⟩
      rw [← eput_false, show flagB false = (0 : UInt8) from rfl] at HT
      have HR8 := Lib.hid (HP.out.below bel8)
      have hsame := sameBytes_any _ _ _ _ _ HT.out HR8.out
      rw [decide_eq_true rfl] at hsame
      have HSA := Lib.hid hsame
      clear hsame y0 y1 y2 y3
      go_wp2_with fail
      refine HSA.out.mono ?_
      rintro e w9 ⟨rfl, k9, rfl⟩
      go_wp2
      go_ret
      exact ⟨rfl, Below.trans B7 (Below.trans (bel8.mono B7.size) ((drewN_below _ _).mono (Nat.le_trans B7.size bel8.size)))⟩
end Go.Proofs.Ytdamfcldkaidjaa

/- Walk of law04.OrderGet. The condition: bytes of at most 2^47. -/
import Derived.Test.YtdamfcldkaidjaaRefOrderGet
import Derived.Test.YtdamfcldkaidjaaCut
import Derived.Test.YtdamfcldkaidjaaAlive1
import Derived.Deep.Cut
namespace Go.Proofs.Ytdamfcldkaidjaa
open Go.RowKit

theorem ret_var {l : List UInt8} {x : Ent} {n er : Nat} (h : eget l = (x, n, er)) {K U : ByteArray} (hK : K = bs x.key) (hU : U = bs x.val) {w w' : World} {e : Ending} (hr : RetEnt (eget l) w e w') :
    e = .returned (.tuple #[.agg #[.string K, .int .u64 x.seq, .bool x.gone, .string U], .int .i64 n, .int .i64 er]) ∧ Below w.heap.size w w' := by
  subst hK hU
  obtain ⟨rfl, hb⟩ := hr
  rw [h]
  exact ⟨rfl, hb⟩

set_option maxRecDepth 100000 in
set_option maxHeartbeats 4000000 in
theorem orderGet_walk (w : World) (v : Value) (l : List UInt8) (hv : Rd w v l) (hl : l.length ≤ 140737488351232) :
    Calls Try.prog 10 #[v] w (RetTrue w) := by
  obtain ⟨va, vn, vc, rfl, hvn⟩ := rd_len hv
  rw [← hvn] at hl
  have HVN := Lib.hid hvn
  have HV := Lib.hid hv
  clear hvn hv
  by_cases hb : 1048576 < vn
  · go_enter Try.func10, Try.ntmps10
    go_wp2_with fail
    refine (beyond_one w _ _ (by omega) (by omega) true (by simp; omega)).mono ?_
    rintro e w2 ⟨rfl, bel⟩
    go_wp2
    go_ret
    exact ⟨rfl, bel⟩
  · rcases hg : eget l with ⟨x, n, er⟩
    have HG := Lib.hid hg
    clear hg
    obtain ⟨K, hK⟩ : ∃ K, K = bs x.key := ⟨_, rfl⟩
    obtain ⟨U, hU⟩ : ∃ U, U = bs x.val := ⟨_, rfl⟩
    have HK := Lib.hid hK
    have HU := Lib.hid hU
    clear hK hU
    obtain ⟨S, hS⟩ : ∃ S, S = x.seq := ⟨_, rfl⟩
    obtain ⟨G, hG⟩ : ∃ G, G = x.gone := ⟨_, rfl⟩
    have HSS := Lib.hid hS
    have HGG := Lib.hid hG
    clear hS hG
    go_enter Try.func10, Try.ntmps10
    go_wp2_with fail
    refine (beyond_one w _ _ (by omega) (by omega) false (by simp; omega)).mono ?_
    rintro e w2 ⟨rfl, bel⟩
    go_wp2_with fail
    refine (twinBytes_any _ _ w2 (HV.out.below bel) (by rw [← HVN.out]; omega)).mono ?_
    rintro e w3 ⟨tv, rfl, htw, bel3⟩
    have HT := Lib.hid htw
    clear htw
    replace bel := Below.trans bel (bel3.mono bel.size)
    go_wp2_with fail
    refine (orderGet_any w3 _ l (twin_rd HT.out) (by rw [← HVN.out]; exact hl)).mono ?_
    rintro e w4 hret
    obtain ⟨rfl, bel4⟩ := ret_var HG.out HK.out HU.out hret
    clear hret
    rw [← HSS.out, ← HGG.out]
    go_upto_region 5 with (fail)
    obtain ⟨Y, hY⟩ : ∃ Y, Y = w4.heap.size := ⟨_, rfl⟩
    have HY : Blk (w4.alloc (.cells #[.string K, .int .u64 S, .bool G, .string U] 55)) Y #[.string K, .int .u64 S, .bool G, .string U] 55 := Blk.new_at _ _ _ _ hY
    have bel5 : Below w3.heap.size w3 (w4.alloc (.cells #[.string K, .int .u64 S, .bool G, .string U] 55)) := bel4.alloc bel4.size _
    rw [← hY]
    replace HT := Lib.hid (twin_below HT.out bel5)
    replace bel := Below.trans bel (bel5.mono bel.size)
    generalize w4.alloc (.cells #[.string K, .int .u64 S, .bool G, .string U] 55) = w5 at HY HT bel ⊢
    clear hY bel3 bel4 bel5
    go_wp2_with fail
    refine (refOrderGet_any w5 _ l (HV.out.below bel) (by rw [← HVN.out]; exact hl)).mono ?_
    rintro e w6 hret
    obtain ⟨rfl, bel6⟩ := ret_var HG.out HK.out HU.out hret
    clear hret
    rw [← HSS.out, ← HGG.out]
    go_upto_region 6 with (fail)
    obtain ⟨Z, hZ⟩ : ∃ Z, Z = w6.heap.size := ⟨_, rfl⟩
    have HZ : Blk (w6.alloc (.cells #[.string K, .int .u64 S, .bool G, .string U] 55)) Z #[.string K, .int .u64 S, .bool G, .string U] 55 := Blk.new_at _ _ _ _ hZ
    have bel7 : Below w5.heap.size w5 (w6.alloc (.cells #[.string K, .int .u64 S, .bool G, .string U] 55)) := bel6.alloc bel6.size _
    rw [← hZ]
    replace HT := Lib.hid (twin_below HT.out bel7)
    replace bel := Below.trans bel (bel7.mono bel.size)
    replace HY := HY.below bel7
    generalize w6.alloc (.cells #[.string K, .int .u64 S, .bool G, .string U] 55) = w7 at HY HZ HT bel ⊢
    clear hZ bel6 bel7
    have y0 := HY.cellv 0 (.string K) rfl
    have y1 := HY.cellv 1 (.int .u64 S) rfl
    have y2 := HY.cellv 2 (.bool G) rfl
    have y3 := HY.cellv 3 (.string U) rfl
    have z0 := HZ.cellv 0 (.string K) rfl
    have z1 := HZ.cellv 1 (.int .u64 S) rfl
    have z2 := HZ.cellv 2 (.bool G) rfl
    have z3 := HZ.cellv 3 (.string U) rfl
    have HL := Lib.hid (leftBytes_any _ _ _ l w7 HT.out (HV.out.below bel))
    go_wp2_with fail
    refine HL.out.mono ?_
    rintro e w' ⟨rfl, n5, rfl⟩
    go_wp2
    go_ret
    exact ⟨by first | rfl | (simp; done), Below.trans bel ((drewN_below _ _).mono bel.size)⟩
end Go.Proofs.Ytdamfcldkaidjaa

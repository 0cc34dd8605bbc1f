/- The law IntsGet answers true for any bytes and leaves them as they were. No condition. -/
import Derived.Test.YtdamfcldkaidjaaHelp1
import Derived.Test.YtdamfcldkaidjaaInts3
namespace Go.Proofs.Ytdamfcldkaidjaa
open Go.RowKit

set_option maxRecDepth 100000 in
set_option maxHeartbeats 1000000 in
theorem intsGet_walk (v : Value) (l : List UInt8) (w : World) (hv : Rd w v l) (_hz : l.length ≤ 140737488351232) :
    Calls Try.prog 4 #[v] w fun e w' => e = .returned (.bool true) ∧ Below w.heap.size w w' := by
  have hv0 := hv
  obtain ⟨a, cap, rfl, h1, h2, h3⟩ := hv
  clear h3
  have hbey := Lib.hid (beyond_any w.heap.size 0 l.length (w.alloc (.cells #[.int .i64 l.length] 3)) (by omega) (by omega) (by rw [World.cell?_alloc_at _ _ _ _ rfl]; rfl))
  by_cases hb : 1048576 < l.length
  · go_enter Try.func4, Try.ntmps4
    go_wp2_with fail
    refine hbey.out.mono ?_
    rintro e w' ⟨rfl, rfl⟩
    go_wp2_with fail
    go_ret
    exact ⟨rfl, (Below.refl _ _).alloc (Nat.le_refl _) _⟩
  · have HV := Lib.hid (hv0.later (w' := w.alloc (.cells #[.int .i64 l.length] 3)) (Below.keeps ((Below.refl _ _).alloc (Nat.le_refl _) _)))
    clear hv0
    go_enter Try.func4, Try.ntmps4
    go_wp2_with fail
    refine hbey.out.mono ?_
    rintro e w' ⟨rfl, rfl⟩
    go_wp2_with fail
    refine (twinBytes_any _ l _ HV.out (by omega)).mono ?_
    rintro e w1 ⟨t, rfl, htw, hbel⟩
    have HR := Lib.hid (HV.out.below hbel)
    have HT := Lib.hid htw
    clear htw HV
    go_wp2_with fail
    refine (intsGet_any _ l _ (twin_rd HT.out)).mono ?_
    rintro e w' ⟨rfl, rfl⟩
    go_wp2_with fail
    refine (refGet_any _ l _ HR.out).mono ?_
    rintro e w' ⟨rfl, rfl⟩
    go_wp2_with fail
    refine (intsGetFour_any _ l _ (twin_rd HT.out)).mono ?_
    rintro e w' ⟨rfl, rfl⟩
    go_wp2_with fail
    refine (refGetFour_any _ l _ HR.out).mono ?_
    rintro e w' ⟨n4, rfl, rfl⟩
    go_wp2_with fail
    refine (intsGetText_any _ l _ ((twin_rd HT.out).drewN n4)).mono ?_
    rintro e w' ⟨rfl, rfl⟩
    go_wp2_with fail
    refine (refGetText_any _ l _ (HR.out.drewN n4)).mono ?_
    rintro e w' ⟨rfl, rfl⟩
    go_wp2_with fail
    refine (leftBytes_any _ _ _ l _ (twin_drewN HT.out n4) (HR.out.drewN n4)).mono ?_
    rintro e w' ⟨rfl, n5, rfl⟩
    go_wp2_with fail
    go_ret
    refine ⟨rfl, ?_⟩
    have h5 := ((Below.refl _ w).alloc (Nat.le_refl _) (.cells #[.int .i64 l.length] 3)).trans (hbel.mono (by simp))
    exact h5.trans ((drewN_below w1 _).mono h5.size)
end Go.Proofs.Ytdamfcldkaidjaa

/- The law BloomsMay answers true for any bytes and any key. No condition. -/
import Derived.Test.YtdamfcldkaidjaaBlooms2
namespace Go.Proofs.Ytdamfcldkaidjaa
open Go.RowKit

set_option maxRecDepth 100000 in
set_option maxHeartbeats 1000000 in
theorem bloomsMay_walk (w : World) (v : Value) (l : List UInt8) (s : ByteArray) (hv : Rd w v l) (hz : l.length ≤ 140737488351232) (hs : s.size ≤ 140737488351232) :
    Calls Try.prog 3 #[v, .string s] w fun e w' => e = .returned (.bool true) ∧ Below w.heap.size w w' := by
  have hv0 := hv
  obtain ⟨a, cap, rfl, h1, h2, h3⟩ := hv
  clear h3
  have HV := Lib.hid hv0
  clear hv0
  rcases (by omega : 100000 < l.length ∨ (l.length ≤ 100000 ∧ 10000 < s.size) ∨ (l.length ≤ 100000 ∧ s.size ≤ 10000)) with hb | ⟨hb, hb2⟩ | ⟨hb, hb2⟩
  · go_enter Try.func3, Try.ntmps3
    go_wp2
    go_ret
    exact ⟨rfl, Below.refl _ _⟩
  · go_enter Try.func3, Try.ntmps3
    go_wp2
    go_ret
    exact ⟨rfl, Below.refl _ _⟩
  · go_enter Try.func3, Try.ntmps3
    go_wp2_with fail
    refine (twinBytes_any _ l _ HV.out (by omega)).mono ?_
    rintro e w1 ⟨t, rfl, htw, hbel⟩
    have HR := Lib.hid (HV.out.below hbel)
    have HT := Lib.hid htw
    have HB := Lib.hid hbel
    clear htw HV hbel
    go_wp2_with fail
    refine (may_any s _ l _ (by omega) (by omega) (twin_rd HT.out)).mono ?_
    rintro e w2 ⟨rfl, hbel2⟩
    have HR2 := Lib.hid (HR.out.below hbel2)
    have HT2 := Lib.hid (twin_below HT.out hbel2)
    have HB2 := Lib.hid (HB.out.trans (hbel2.mono HB.out.size))
    clear HR HT HB hbel2
    go_wp2_with fail
    refine (refMay_any s _ l _ (by omega) (by omega) HR2.out).mono ?_
    rintro e w3 ⟨rfl, hbel3⟩
    have HR3 := Lib.hid (HR2.out.below hbel3)
    have HT3 := Lib.hid (twin_below HT2.out hbel3)
    have HB3 := Lib.hid (HB2.out.trans (hbel3.mono HB2.out.size))
    clear HR2 HT2 HB2 hbel3
    go_wp2_with fail
    refine (leftBytes_any _ _ _ l _ HT3.out HR3.out).mono ?_
    rintro e w' ⟨rfl, n5, rfl⟩
    go_wp2_with fail
    go_ret
    exact ⟨rfl, HB3.out.trans ((drewN_below _ _).mono HB3.out.size)⟩
end Go.Proofs.Ytdamfcldkaidjaa

/- Walks of the reference's Put, PutFour, PutText of numbers and texts. The condition: fewer than 2^37 bytes. -/
import Derived.Test.YtimfcinkjjaigaaGreatDoorAppStr
namespace Go.Proofs.YtimfcinkjjaigaaGreatDoor
open Go.RowKit

set_option maxRecDepth 100000 in
set_option maxHeartbeats 2000000 in
theorem refPut_any (w : World) (v : Value) (l : List UInt8) (n : Nat) (hv : Rd w v l) (hn : n < 18446744073709551616) (hl : l.length ≤ 137438953472) :
    Calls Tryz.prog 122 #[v, .int .u64 n] w (RetMy (l ++ vint n) w) := by
  have HV := Lib.hid hv
  have HL := Lib.hid hl
  clear hv hl
  go_enter Tryz.func122, Tryz.ntmps122
  go_wp2_with (at_builtin; go_loud (refine wp_app_my rfl _ _ rfl w.heap.size 0 _ _ [] l rfl rfl (.inl ⟨rfl, rfl, _, rfl⟩) HV.out (by have := HL.out; simp; omega) (Nat.le_refl _) ?_); intro b0 k0 c0 w1 HK0 HO0 hb0)
  have HB0 := Lib.hid hb0
  clear hb0
  try show Code.wp _ _ _ _ _
  go_loopw [1, 5] (fun nv ov wr => ∃ m : Nat, m < 18446744073709551616 ∧ nv = .int .u64 m ∧ (∃ a k c, ov = .slice a k c ∧ ∃ p : List UInt8, Hid (p ++ vint m = l ++ vint n) ∧ Hid (Own wr w.heap.size 5 1 (.slice a k c) k (u8s p))) ∧ Hid (Below w.heap.size w wr)) (fun nv _ _ => (intOf nv).toNat)
  case atStart => exact ⟨n, hn, rfl, ⟨b0, k0, c0, rfl, l, rfl, HO0⟩, HB0⟩
  case round =>
    obtain ⟨m, hm, rfl, ⟨a, k, c, rfl, p, HE, HO⟩, HB⟩ := hrel
    have hpl : p.length ≤ 137438953482 := by
      have e := congrArg List.length HE.out
      have h1 := vint_le n
      have h2 := HL.out
      simp only [List.length_append] at e
      omega
    have HAL : Hid (∀ o, Below w.heap.size wr (wr.alloc o)) := fun o => (Below.refl _ _).alloc HB.out.size _
    have HAF : Hid (∀ o, Below wr.heap.size wr (wr.alloc o)) := fun o => (Below.refl _ _).alloc (Nat.le_refl _) _
    by_cases h128 : 128 ≤ m
    · have hd : decide ((128 : Int) ≤ (m : Int)) = true := by simp; omega
      have hd2 : decide ((m : Int) ≥ 128) = true := by simp; omega
      obtain ⟨r, hr⟩ : ∃ r, r = 128 + m % 128 := ⟨_, rfl⟩
      have hr1 : (128 : Int) + (m : Int) % 128 = (r : Int) := by omega
      have hr2 : r < 256 := by omega
      have hw : IntKind.u8.wrap (r : Int) = (r : Int) := IntWalk.u8_in _ (by omega)
      have HR : Hid (r = m % 128 + 128) := by show _ = _; omega
      clear hr
      go_wp2_with (at_builtin; go_loud (refine wp_app_my rfl _ _ rfl w.heap.size k (.slice a k c) _ p [UInt8.ofNat r] rfl rfl (own_below HO.out (HAF.out _)) (rd_one wr (UInt8.ofNat r) r (by rw [toNat_ofNat r hr2]) _) (by simp; omega) (Nat.le_trans HB.out.size (HAF.out _).size) ?_); intro b1 k1 c1 w2 HK1 HO1 hb1)
      have hbf := Lib.hid (HB.out.trans ((HAL.out _).trans hb1))
      have hE2 : (p ++ [UInt8.ofNat r]) ++ vint (m / 128) = l ++ vint n := by
        rw [← HE.out, vint_step m h128 (by omega), HR.out, List.append_assoc]; rfl
      have HE2 := Lib.hid hE2
      clear hb1 hE2 hr1 hw
      go_wp2_with fail
      go_roundw
      case rel => exact ⟨m / 128, by omega, by go_num, ⟨b1, k1, c1, rfl, _, HE2, HO1⟩, hbf⟩
      case measure => simp [intOf]; omega
    · have hd : decide ((128 : Int) ≤ (m : Int)) = false := by simp; omega
      have hd2 : decide ((m : Int) ≥ 128) = false := by simp; omega
      have hw : IntKind.u8.wrap (m : Int) = (m : Int) := IntWalk.u8_in _ (by omega)
      have hm2 : m < 256 := by omega
      go_wp2_with (at_builtin; go_loud (refine wp_app_my rfl _ _ rfl w.heap.size k (.slice a k c) _ p [UInt8.ofNat m] rfl rfl (own_below HO.out (HAF.out _)) (rd_one wr (UInt8.ofNat m) m (by rw [toNat_ofNat m hm2]) _) (by simp; omega) (Nat.le_trans HB.out.size (HAF.out _).size) ?_); intro b1 k1 c1 w2 HK1 HO1 hb1)
      have hbf := HB.out.trans ((HAL.out _).trans hb1)
      have hE2 : p ++ [UInt8.ofNat m] = l ++ vint n := by rw [← HE.out, vint_small m (by omega)]
      rw [hE2] at HK1 HO1
      go_ret
      exact ⟨b1, k1, c1, rfl, HK1, HO1, hbf⟩
set_option maxRecDepth 100000 in
set_option maxHeartbeats 2000000 in
theorem refPutText_any (w : World) (v : Value) (l : List UInt8) (s : ByteArray) (hv : Rd w v l) (hs : s.size ≤ 137438953472) (hl : l.length ≤ 137438953400) :
    Calls Tryz.prog 135 #[v, .string s] w (RetMy (l ++ (vint s.size ++ s.data.toList)) w) := by
  have HP := Lib.hid (refPut_any w v l s.size hv (by omega) (by omega))
  have hvl := vint_le s.size
  have HL := Lib.hid hl
  have HVL := Lib.hid hvl
  clear hv hl hvl
  go_enter Tryz.func135, Tryz.ntmps135
  go_wp2_with fail
  refine HP.out.mono ?_
  rintro e w1 ⟨a, k, c, rfl, HK, HO, hb⟩
  have HB := Lib.hid hb
  have hk : k ≤ 137438953472 := by
    have h1 := HK.out
    have h2 := HL.out
    have h3 := HVL.out
    rw [List.length_append] at h1
    omega
  clear hb
  go_wp2_with (at_builtin; go_loud (refine wp_app_str rfl _ _ rfl w.heap.size k (.slice a k c) s (l ++ vint s.size) rfl rfl HO.out (by omega) HB.out.size ?_); intro b1 k1 c1 w2 HK1 HO1 hb1)
  have hbf := HB.out.trans hb1
  rw [List.append_assoc] at HK1 HO1
  go_ret
  exact ⟨b1, k1, c1, rfl, HK1, HO1, hbf⟩
end Go.Proofs.YtimfcinkjjaigaaGreatDoor

/- Walks of blooms.May and of the reference's place and May. The condition: bytes and texts of less than 2^28. -/
import Derived.Test.YtnfamahfaghejaaBlooms1
namespace Go.Proofs.Ytnfamahfaghejaa
open Go.RowKit

def bloomMay (b key : List UInt8) : Bool × Nat := if b.length < 9 ∨ b.getD (b.length - 1) 0 ≠ 6 then (false, 4) else (mayAll b key (b.length - 1), 0)
def RetMay (b key : List UInt8) (w : World) (e : Ending) (w' : World) : Prop := e = .returned (.tuple #[.bool (bloomMay b key).1, .int .i64 (bloomMay b key).2]) ∧ Below w.heap.size w w'
theorem ret_may {b key : List UInt8} {w w' : World} {r : Bool} {n : Nat} {x : Bool} {y : Int} (h : bloomMay b key = (r, n)) (h1 : x = r) (h2 : y = n) (h3 : Below w.heap.size w w') : RetMay b key w (.returned (.tuple #[.bool x, .int .i64 y])) w' := by
  subst h1 h2
  exact ⟨by rw [h], h3⟩
theorem neq_six (d : Nat) : ((d : Int) != 6) = decide (d ≠ 6) := by rw [Bool.eq_iff_iff]; simp; omega

set_option maxRecDepth 100000 in
set_option maxHeartbeats 800000 in
theorem may_any (key : ByteArray) (v : Value) (b : List UInt8) (w : World) (hkey : key.size ≤ 268435456) (hb : b.length ≤ 268435456) (hv : Rd w v b) :
    Calls Try.prog 37 #[v, .string key] w (RetMay b key.data.toList w) := by
  have hv0 := hv
  obtain ⟨a, cap, rfl, h1, h2, h3⟩ := hv
  have hvW := hv0.below (w' := w.alloc (.cells #[.slice a b.length cap] 25)) ((Below.refl _ _).alloc (Nat.le_refl _) _)
  have hcW : (w.alloc (.cells #[.slice a b.length cap] 25)).cell? ⟨w.heap.size, 0, none⟩ = some (.slice a b.length cap) := by rw [World.cell?_alloc_at _ _ _ _ rfl]; rfl
  have HW := Lib.hid hvW
  clear hvW hv0
  by_cases h9 : b.length < 9
  · have HM : Hid (bloomMay b key.data.toList = (false, 4)) := if_pos (.inl h9)
    clear h3
    go_enter Try.func37, Try.ntmps37
    go_wp2
    go_ret2
    exact ret_may HM.out rfl rfl ((Below.refl _ _).alloc (Nat.le_refl _) _)
  · obtain ⟨bb, off, rfl, hc⟩ := h3 (b.length - 1) (by omega)
    obtain ⟨d, hd⟩ : ∃ d : Nat, d = (b[b.length - 1]'(by omega)).toNat := ⟨_, rfl⟩
    rw [← hd] at hc
    have hget : b.getD (b.length - 1) 0 = b[b.length - 1]'(by omega) := by rw [List.getD_eq_getElem?_getD, List.getElem?_eq_getElem (by omega)]; rfl
    have hc2 := (Below.keeps ((Below.refl w.heap.size w).alloc (Nat.le_refl _) (.cells #[.slice (some ⟨bb, off, none⟩) b.length cap] 25))) _ _ _ hc
    clear h3 hc
    obtain ⟨n, hn⟩ : ∃ n, n = b.length - 1 := ⟨_, rfl⟩
    have hn1 : n + 1 = b.length := by omega
    by_cases h6 : d = 6
    · have HM : Hid (bloomMay b key.data.toList = (mayAll b key.data.toList n, 0)) := by
        show _ = _
        unfold bloomMay
        rw [if_neg, hn]
        rintro (h | h)
        · omega
        · apply h; rw [hget]; apply UInt8.toNat_inj.1; rw [← hd, h6]; rfl
      have hb6 : ((d : Int) != 6) = false := by rw [neq_six]; simp [h6]
      have H := Lib.hid (eachMay_any key n w.heap.size _ b _ (by omega) (by omega) (by omega) (by omega) hcW HW.out)
      rw [← hn] at hc2
      rw [show ((8 * n : Nat) : Int) = 8 * (n : Int) from by omega] at H
      have e2 : (b.length : Int) - 1 = (n : Int) := by omega
      have hn9 : 8 ≤ n := by omega
      clear hd hget hn h6 hcW
      have HN1 := Lib.hid hn1
      have hnb : n < b.length := by omega
      clear hn1
      go_enter Try.func37, Try.ntmps37
      go_wp2_with fail
      refine H.out.mono ?_
      rintro e w1 ⟨rfl, hbel⟩
      have hfin : Below w.heap.size w w1 := ((Below.refl _ w).alloc (Nat.le_refl _) _).trans (hbel.mono (by simp))
      go_wp2
      go_ret2
      exact ret_may HM.out rfl rfl hfin
    · have HM : Hid (bloomMay b key.data.toList = (false, 4)) := by
        show _ = _
        unfold bloomMay
        rw [if_pos]
        refine .inr fun h => h6 ?_
        rw [hget] at h
        rw [hd, h]; rfl
      have hb6 : ((d : Int) != 6) = true := by rw [neq_six]; simp [h6]
      clear hd hget hn h6
      go_enter Try.func37, Try.ntmps37
      go_wp2
      go_ret2
      exact ret_may HM.out rfl rfl ((Below.refl _ _).alloc (Nat.le_refl _) _)

end Go.Proofs.Ytnfamahfaghejaa

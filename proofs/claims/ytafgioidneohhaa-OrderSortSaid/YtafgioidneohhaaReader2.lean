/- Walks of the reader of package order: a byte that is 0 or 1. The condition: a reader in a block of its own, bytes of less than 2^47. -/
import Derived.Test.YtafgioidneohhaaReader1
namespace Go.Proofs.Ytafgioidneohhaa
open Go.RowKit

set_option maxRecDepth 100000 in
set_option maxHeartbeats 1000000 in
theorem byte_nil (w : World) (g : Nat) (v : Value) (l : List UInt8) (k : Nat) (h : Rdr w g v k 0) (hv : Rd w v l) (hl : l.length ≤ 140737488351232) (hk : k = l.length) :
    Calls Try.prog 33 #[.pointer (some ⟨g, 0, none⟩)] w (RetByte 0 g v k 5 w) := by
  obtain ⟨va, vn, vc, rfl, hvn⟩ := rd_len hv
  obtain ⟨a, c, hcut, _⟩ := cut_from hv k (by omega)
  rw [← hvn] at hcut hk hl
  subst hk
  rw [Nat.sub_self] at hcut
  have c0 := Blk.cellv h 0 (.slice va k vc) rfl
  have c1 := Blk.cellv h 1 (.int .i64 k) rfl
  have HH := Lib.hid h
  clear h hv hvn
  go_enter Try.func33, Try.ntmps33
  go_wp2_with fail
  go_quiet (fail)
  go_wp2_with fail
  refine (took_any _ g _ k 0 5 (HH.out.drewN nq) (by omega)).mono ?_
  rintro e' w' ⟨rfl, hr, ho⟩
  go_wp2
  go_ret
  exact ⟨rfl, hr, (Only.of_below (drewN_below w nq)).trans ho⟩

set_option maxRecDepth 100000 in
set_option maxHeartbeats 1000000 in
theorem byte_any (w0 w : World) (g : Nat) (v : Value) (l : List UInt8) (k : Nat) (h : Rdr w g v k 0) (hv : Rd w0 v l) (hbel : Below w0.heap.size w0 w) (hg : w0.heap.size ≤ g) (hl : l.length ≤ 140737488351232) (d : UInt8) (t : List UInt8) (hd : l.drop k = d :: t) :
    Calls Try.prog 33 #[.pointer (some ⟨g, 0, none⟩)] w (RetByte d.toNat g v (if 1 < d.toNat then k else k + 1) (if 1 < d.toNat then 4 else 0) w) := by
  obtain ⟨va, vn, vc, rfl, hvn⟩ := rd_len hv
  have hkl : k < l.length := by have := congrArg List.length hd; simp at this; omega
  obtain ⟨a, c, hcut, hrd⟩ := cut_from hv k (by omega)
  rw [← hvn] at hcut hl hkl hrd
  have hcell : ∃ b off, a = some ⟨b, off, none⟩ ∧ w0.cell? ⟨b, off, none⟩ = some (.int .u8 d.toNat) := by
    rw [hd] at hrd
    obtain ⟨a2, c2, e, _, _, hr⟩ := hrd
    simp only [Value.slice.injEq] at e
    obtain ⟨b, off, e2, hc⟩ := hr 0 (by simp)
    exact ⟨b, off, by rw [e.1, e2], by simpa using hc⟩
  obtain ⟨b, off, rfl, hc0⟩ := hcell
  have hkeep : ∀ w1, Below w0.heap.size w0 w1 → w1.cell? ⟨b, off, none⟩ = some (.int .u8 d.toNat) := fun w1 hb => Below.keeps hb _ _ _ hc0
  have HKE := Lib.hid hkeep
  have hcw := hkeep w hbel
  have c0 := Blk.cellv h 0 (.slice va vn vc) rfl
  have c1 := Blk.cellv h 1 (.int .i64 k) rfl
  have HH := Lib.hid h
  have HB := Lib.hid hbel
  generalize d.toNat = D at *
  clear h hv hvn hd hrd hc0 hkeep hbel
  by_cases hD : 1 < D
  · rw [if_pos hD, if_pos hD]
    go_enter Try.func33, Try.ntmps33
    go_wp2_with fail
    go_quiet (fail)
    go_wp2_with fail
    refine (took_any _ g _ k 0 4 (HH.out.drewN nq) (by omega)).mono ?_
    rintro e' w' ⟨rfl, hr, ho⟩
    have ho2 := (Only.of_below (drewN_below w nq)).trans ho
    have hc2 := HKE.out w' (Only.below HB.out ho2 hg HB.out.size)
    go_wp2
    go_ret
    exact ⟨rfl, hr, ho2⟩
  · rw [if_neg hD, if_neg hD]
    go_enter Try.func33, Try.ntmps33
    go_wp2_with fail
    go_quiet (fail)
    go_wp2_with fail
    refine (took_any _ g _ k 1 0 (HH.out.drewN nq) (by omega)).mono ?_
    rintro e' w' ⟨rfl, hr, ho⟩
    have ho2 := (Only.of_below (drewN_below w nq)).trans ho
    have hc2 := HKE.out w' (Only.below HB.out ho2 hg HB.out.size)
    go_wp2
    go_ret
    exact ⟨rfl, hr, ho2⟩
end Go.Proofs.Ytafgioidneohhaa

/- Walk of law03.alive: some answers that the document fixes. No condition. -/
import Derived.Test.YtdngnoledfdohaaFrames3
import Derived.Test.YtdngnoledfdohaaAppStr
import Derived.Test.YtdngnoledfdohaaAlive1
namespace Go.Proofs.Ytdngnoledfdohaa
open Go.RowKit

/-- frames.Get, its answer as variables -/
def RetGot (r : List UInt8) (k er : Nat) (w : World) (e : Ending) (w' : World) : Prop :=
  ∃ a n c, e = .returned (.tuple #[.slice a n c, .int .i64 k, .int .i64 er]) ∧ Hid (n = r.length) ∧ Hid (Own w' w.heap.size 5 1 (.slice a n c) n (u8s r)) ∧ Below w.heap.size w w'
theorem got_var (w : World) (v : Value) (l r : List UInt8) (k er : Nat) (h : fgetR l = (r, k, er)) (hv : Rd w v l) (hl : l.length ≤ 140737488351232) :
    Calls Try.prog 26 #[v] w (RetGot r k er w) := by
  refine (framesGet_any w v l hv hl).mono ?_
  rintro e w' ⟨a, n, c, rfl, h1, h2, h3⟩
  rw [h] at h1 h2 ⊢
  exact ⟨a, n, c, rfl, h1, h2, h3⟩
theorem g3a : fput [97] = [0, 0, 0, 1, 197, 125, 254, 35, 97] := by kernel_rfl
theorem g3b : fgetR [0, 0, 0, 1, 197, 125, 254, 35, 97, 109, 111, 114, 101] = ([97], 9, 0) := by kernel_rfl
theorem g3c : fgetR [0, 0, 0, 1, 197, 125, 254, 35] = ([], 0, 5) := by kernel_rfl
theorem g3d : fgetR [0, 0, 0] = ([], 0, 5) := by kernel_rfl
theorem g3e : fgetR [0, 1, 0, 1, 5, 5, 5, 5] = ([], 0, 4) := by kernel_rfl

set_option maxRecDepth 100000 in
set_option maxHeartbeats 4000000 in
theorem alive03_any (w : World) : Calls Try.prog 23 #[] w (RetTrue w) := by
  have kc := fun (w : World) (C : Array Value) (n c : Nat) => Lib.run_convert_bytes_const (P := Try.prog) w 25 5 C n c Try.underlying25 Try.underlying5
  obtain ⟨i0, hi, hz, hz1, hz2⟩ := info_parts info_u8
  go_enter Try.func23, Try.ntmps23
  go_wp2_with fail
  have hba : Below w.heap.size w (w.alloc (.cells #[.int .u8 97] 5 (1, 2))) := (Below.refl _ _).alloc (Nat.le_refl _) _
  refine (framesPut_any _ _ [97] (rd_lit w [97] _ _ 1 (by simp [u8s]) rfl (by decide) (1, 2)) (by decide)).mono ?_
  rintro e w1 ⟨ba, bn, bc, rfl, HBN, HB, bel1⟩
  rw [g3a] at HBN HB
  have bel : Below w.heap.size w w1 := Below.trans hba (bel1.mono hba.size)
  clear hba bel1
  obtain rfl : bn = 9 := HBN.out
  have hrd := (rd_of_own HB.out).2
  have hcell : ∃ b off, ba = some ⟨b, off, none⟩ ∧ w1.cell? ⟨b, off + 3, none⟩ = some (.int .u8 1) ∧ w1.cell? ⟨b, off + 8, none⟩ = some (.int .u8 97) := by
    obtain ⟨a, c, e, _, _, h⟩ := hrd
    simp only [Value.slice.injEq] at e
    obtain ⟨b, off, e1, c1⟩ := h 3 (by decide)
    obtain ⟨b2, off2, e2, c2⟩ := h 8 (by decide)
    rw [e1] at e2
    cases e2
    exact ⟨b, off, by rw [e.1, e1], c1, c2⟩
  obtain ⟨b, off, rfl, c3, c8⟩ := hcell
  have HR := Lib.hid hrd
  clear HBN HB hrd
  go_wp2_with (first
    | (at_builtin; refine wp_app_my rfl _ _ rfl w1.heap.size 0 _ _ [] [0, 0, 0, 1, 197, 125, 254, 35, 97] rfl rfl (own_nil _ _ _ _) HR.out (by decide) (Nat.le_refl _) ?_; intro xa xn xc w2 HXN HX bel2)
    | (at_builtin; refine wp_app_str rfl _ _ rfl w1.heap.size _ _ ⟨#[109, 111, 114, 101]⟩ _ rfl rfl HX.out (by rw [HXN.out]; decide) bel2.size ?_; intro ya yn yc w3 HYN HY bel3))
  refine (got_var w3 _ _ [97] 9 0 g3b (rd_of_own HY.out).2 (by decide)).mono ?_
  rintro e w4 ⟨za, zn, zc, rfl, HZN, HZ, bel4⟩
  have B14 : Below w1.heap.size w1 w4 := Below.trans bel2 (Below.trans bel3 (bel4.mono (Nat.le_trans bel2.size bel3.size)))
  replace bel := Below.trans bel (B14.mono bel.size)
  have HR4 := Lib.hid (HR.out.below B14)
  clear c3 c8 HX HXN HY HYN bel2 bel3 bel4 B14 HR kc
  obtain ⟨x1a, x1c, hcut1, hr1⟩ := cut_to HR4.out 8 (by decide)
  obtain ⟨x2a, x2c, hcut2, hr2⟩ := cut_to HR4.out 3 (by decide)
  simp only [show ((8 : Nat) : Int) = 8 from rfl, show ((3 : Nat) : Int) = 3 from rfl] at hcut1 hcut2
  rw [show ([0, 0, 0, 1, 197, 125, 254, 35, 97] : List UInt8).take 8 = [0, 0, 0, 1, 197, 125, 254, 35] from rfl] at hr1
  rw [show ([0, 0, 0, 1, 197, 125, 254, 35, 97] : List UInt8).take 3 = [0, 0, 0] from rfl] at hr2
  have H1 := Lib.hid hr1
  have H2 := Lib.hid hr2
  clear hr1 hr2 HR4
  have HZ4 := Lib.hid (rd_of_own HZ.out).2
  clear HZ
  go_wp2_with fail
  refine (got_var w4 _ _ [] 0 5 g3c H1.out (by decide)).mono ?_
  rintro e w5 ⟨pa, pn, pc, rfl, HPN, _, bel5⟩
  replace H2 := Lib.hid (H2.out.below bel5)
  replace HZ4 := Lib.hid (HZ4.out.below bel5)
  replace bel := Below.trans bel (bel5.mono bel.size)
  clear H1 bel5 hcut1
  go_wp2_with fail
  refine (got_var w5 _ _ [] 0 5 g3d H2.out (by decide)).mono ?_
  rintro e w6 ⟨qa, qn, qc, rfl, HQN, _, bel6⟩
  replace HZ4 := Lib.hid (HZ4.out.below bel6)
  replace bel := Below.trans bel (bel6.mono bel.size)
  clear H2 bel6 hcut2
  go_wp2_with fail
  have hba : Below w6.heap.size w6 (w6.alloc (.cells #[.int .u8 0, .int .u8 1, .int .u8 0, .int .u8 1, .int .u8 5, .int .u8 5, .int .u8 5, .int .u8 5] 5)) := (Below.refl _ _).alloc (Nat.le_refl _) _
  refine (got_var _ _ [0, 1, 0, 1, 5, 5, 5, 5] [] 0 4 g3e (rd_lit w6 [0, 1, 0, 1, 5, 5, 5, 5] _ _ 8 (by simp [u8s]) rfl (by decide)) (by decide)).mono ?_
  rintro e w7 ⟨ra, rn, rc, rfl, HRN, _, bel7⟩
  replace bel7 := Below.trans hba (bel7.mono hba.size)
  replace HZ4 := Lib.hid (HZ4.out.below bel7)
  replace bel := Below.trans bel (bel7.mono bel.size)
  clear hba bel7
  have hmk := run_make (P := Try.prog) w7 25 5 i0 (.int .u8 0) Try.underlying25 hi hz .i64 .i64 65537 65537 (by omega) (by omega) (by rw [hz2]; omega) (by omega)
  rw [hz1] at hmk
  simp only [show (65537 : Int).toNat = 65537 from rfl, Nat.mul_one, show (Value.int IntKind.u8 0).cells = #[Value.int IntKind.u8 0] from rfl] at hmk
  have hmr : Rd (w7.alloc (.cells (madeCells #[.int .u8 0] 65537) 5)) (.slice (some ⟨w7.heap.size, 0, none⟩) 65537 65537) (List.replicate 65537 0) := by
    rw [made_u8]
    exact (rd_of_own (own_of_blk (base := 0) (n := 65537) (Blk.new _ _ _) (Nat.zero_le _) List.length_replicate.symm (by omega))).2
  have HMR := Lib.hid hmr
  clear hmr
  go_wp2_with fail
  refine (framesPut_long _ _ _ HMR.out (by rw [List.length_replicate]; omega) (by rw [List.length_replicate]; omega)).mono ?_
  rintro e w8 ⟨rfl, rfl⟩
  have bel8 : Below w7.heap.size w7 (w7.alloc (.cells (madeCells #[.int .u8 0] 65537) 5)) := (Below.refl _ _).alloc (Nat.le_refl _) _
  have hs := run_str (HZ4.out.below bel8)
  rw [show bs [97] = ⟨#[97]⟩ from rfl] at hs
  clear hmk HMR
  replace bel := Below.trans bel (bel8.mono bel.size)
  go_wp2
  go_ret
  exact ⟨by first | rfl | (simp; done), bel⟩
end Go.Proofs.Ytdngnoledfdohaa

/- Walk of edits.Put. The conditions: lists of 100000 elements at most, numbers as their kinds bear. -/
import Derived.Test.YtmonmfamnbfhcaaFlI
namespace Go.Proofs.Ytmonmfamnbfhcaa
open Go.RowKit

def PX.fit (x : PX) : Prop := x.add.length ≤ 100000 ∧ x.rem.length ≤ 100000 ∧ (∀ f ∈ x.add, f.n < 4294967296) ∧ (∀ k ∈ x.rem, k < 4294967296) ∧ x.jo < 4294967296 ∧ x.nx < 4294967296 ∧ x.sq < 18446744073709551616
/-- what edits.Put tells -/
def RetPutX (x : PX) (w : World) (e : Ending) (w' : World) : Prop :=
  ∃ (l : List UInt8) (q : Nat) (a : Option Addr) (n c : Nat), e = .returned (.tuple #[.slice a n c, .int .i64 q]) ∧ Hid (x.add.all mayF = true ∧ q = 0 ∧ l = ePut x ∨ x.add.all mayF = false ∧ q = 1 ∧ l = []) ∧ Hid (n = l.length) ∧
    Hid (Own w' w.heap.size 5 1 (.slice a n c) n (u8s l)) ∧ Below w.heap.size w w'
set_option maxRecDepth 100000 in
set_option maxHeartbeats 2000000 in
theorem putX_any (w : World) (vx : Value) (x : PX) (hx : RdX w vx x) (hf : x.fit) :
    Calls Try.prog 13 #[vx] w (RetPutX x w) := by
  obtain ⟨va, vr, rfl, hva, hvr⟩ := hx
  obtain ⟨f1, f2, f3, f4, f5, f6, f7⟩ := hf
  obtain ⟨W, hW⟩ : ∃ W, W = w.alloc (.cells #[va, vr, .int .u32 x.jo, .int .u32 x.nx, .int .u64 x.sq] 27) := ⟨_, rfl⟩
  have HBW : Hid (Below w.heap.size w W) := Lib.hid (by rw [hW]; exact alloc_bel _ _)
  have hBlk : Blk W w.heap.size #[va, vr, .int .u32 x.jo, .int .u32 x.nx, .int .u64 x.sq] 27 := by rw [hW]; exact Blk.new _ _ _
  have HC : Hid (∀ w', Below w.heap.size w w' → Below W.heap.size W w' → w'.cell? ⟨w.heap.size, 0, none⟩ = some va ∧ w'.cell? ⟨w.heap.size, 1, none⟩ = some vr ∧ w'.cell? ⟨w.heap.size, 2, none⟩ = some (.int .u32 x.jo) ∧ w'.cell? ⟨w.heap.size, 3, none⟩ = some (.int .u32 x.nx) ∧ w'.cell? ⟨w.heap.size, 4, none⟩ = some (.int .u64 x.sq)) :=
    Lib.hid fun w' _ hb => ⟨Below.keeps hb _ _ _ (hBlk.cell 0), Below.keeps hb _ _ _ (hBlk.cell 1), Below.keeps hb _ _ _ (hBlk.cell 2), Below.keeps hb _ _ _ (hBlk.cell 3), Below.keeps hb _ _ _ (hBlk.cell 4)⟩
  have HV : Hid (∀ w', Below w.heap.size w w' → RdF w' va x.add ∧ RdU w' vr x.rem) := Lib.hid fun w' hb => ⟨hva.below hb, hvr.below hb⟩
  have HF := Lib.hid (fine_any W va x.add (HV.out W HBW.out).1)
  have HF3 := Lib.hid f3
  have HF4 := Lib.hid f4
  obtain ⟨B, hB⟩ : ∃ b, b = x.add.all mayF := ⟨_, rfl⟩
  rw [← hB] at HF
  have HBB := Lib.hid hB
  obtain ⟨c0, c1, c2, c3, c4⟩ := HC.out W HBW.out (Below.refl _ _)
  clear hB f3 f4 hva hvr hBlk c1 c2 c3 c4
  cases B with
  | false =>
    go_enter Try.func13, Try.ntmps13
    go_wp2_with fail
    rw [← hW]
    clear hW
    go_wp2_with fail
    refine HF.out.mono ?_
    rintro e w2 ⟨rfl, b2⟩
    have HB2 := Lib.hid (HBW.out.trans (b2.mono HBW.out.size))
    clear b2 c0
    go_wp2
    go_ret2
    exact ⟨[], 1, none, 0, 0, rfl, Lib.hid (.inr ⟨HBB.out.symm, rfl, rfl⟩), rfl, own_nil _ _ _ _, HB2.out⟩
  | true =>
    have HP1 : Hid (∀ w', Below w.heap.size w w' → Calls Try.prog 29 #[.slice none 0 0, va, .func (.func 30) #[] #[]] w' (RetMy (manyP fput x.add) w')) := Lib.hid fun w' hb => by
      have := putF_any w' (.slice none 0 0) va [] x.add (rd_nil w') (HV.out w' hb).1 (by simp) f1 HBB.out.symm HF3.out
      rwa [List.nil_append] at this
    go_enter Try.func13, Try.ntmps13
    go_wp2_with fail
    rw [← hW]
    clear hW
    go_wp2_with fail
    refine HF.out.mono ?_
    rintro e w2 ⟨rfl, b2⟩
    have HB2 := Lib.hid (HBW.out.trans (b2.mono HBW.out.size))
    have HW2 := Lib.hid b2
    obtain ⟨c0, c1, c2, c3, c4⟩ := HC.out w2 HB2.out HW2.out
    clear b2 c1 c2 c3 c4
    go_wp2_with fail
    refine (HP1.out w2 HB2.out).mono ?_
    rintro e w3 ⟨a3, n3, k3, rfl, HN3, HQ3, b3⟩
    have HB3 := Lib.hid (HB2.out.trans (b3.mono HB2.out.size))
    have HW3 := Lib.hid (HW2.out.trans (b3.mono HW2.out.size))
    have H3L : Hid ((manyP fput x.add).length ≤ 20000000) := Lib.hid (by
      have h1 := flatMap_le fput 104 x.add (fun f hf => fput_le (List.all_eq_true.1 HBB.out.symm f hf))
      have h2 := vint_le x.add.length
      unfold manyP
      rw [List.length_append]
      omega)
    obtain ⟨c0, c1, c2, c3, c4⟩ := HC.out w3 HB3.out HW3.out
    have HP2 := Lib.hid (putU_any w3 (.slice a3 n3 k3) vr (manyP fput x.add) x.rem (rd_of_own HQ3.out).2 (HV.out w3 HB3.out).2 (by have := H3L.out; omega) f2 HF4.out)
    clear b3 c0 c2 c3 c4
    go_wp2_with fail
    refine HP2.out.mono ?_
    rintro e w4 ⟨a4, n4, k4, rfl, HN4, HQ4, b4⟩
    have HB4 := Lib.hid (HB3.out.trans (b4.mono HB3.out.size))
    have HW4 := Lib.hid (HW3.out.trans (b4.mono HW3.out.size))
    have H4L : Hid ((manyP fput x.add ++ manyP vint x.rem).length ≤ 30000000) := Lib.hid (by
      have h1 := flatMap_le vint 10 x.rem (fun f _ => vint_le f)
      have h2 := vint_le x.rem.length
      have h3 := H3L.out
      have e : (manyP vint x.rem).length ≤ 10 + x.rem.length * 10 := by unfold manyP; rw [List.length_append]; omega
      rw [List.length_append]
      omega)
    obtain ⟨c0, c1, c2, c3, c4⟩ := HC.out w4 HB4.out HW4.out
    have HQ4' := Lib.hid (own_mono HQ4.out HB3.out.size)
    clear b4 c0 c1 HQ4 HP1 HP2 HF HV HC
    obtain ⟨jo, hjo⟩ : ∃ j, j = x.jo := ⟨_, rfl⟩
    obtain ⟨nx, hnx⟩ : ∃ j, j = x.nx := ⟨_, rfl⟩
    obtain ⟨sq, hsq⟩ : ∃ j, j = x.sq := ⟨_, rfl⟩
    have HE : Hid (ePut x = manyP fput x.add ++ manyP vint x.rem ++ vint jo ++ vint nx ++ vint sq) := Lib.hid (by rw [hjo, hnx, hsq]; simp [ePut])
    rw [← hjo] at c2 f5 ⊢
    rw [← hnx] at c3 f6 ⊢
    rw [← hsq] at c4 f7 ⊢
    have hw1 : IntKind.u64.wrap (jo : Int) = jo := wrapU jo (by omega)
    have hw2 : IntKind.u64.wrap (nx : Int) = nx := wrapU nx (by omega)
    clear hjo hnx hsq
    obtain ⟨W5, hW5⟩ : ∃ W5, W5 = w4.alloc (.cells #[.int .u64 jo, .int .u64 nx, .int .u64 sq] 25) := ⟨_, rfl⟩
    have hB5 : Blk W5 w4.heap.size #[.int .u64 jo, .int .u64 nx, .int .u64 sq] 25 := by rw [hW5]; exact Blk.new _ _ _
    have HB0 : Hid (Below w.heap.size w W5) := Lib.hid (by rw [hW5]; exact HB4.out.trans ((alloc_bel w4 _).mono HB4.out.size))
    have HO0 := Lib.hid (own_below HQ4'.out (show Below w4.heap.size w4 W5 by rw [hW5]; exact alloc_bel w4 _))
    have HD : Hid (∀ w', Below W5.heap.size W5 w' → w'.cell? ⟨w4.heap.size, 0, none⟩ = some (.int .u64 jo) ∧ w'.cell? ⟨w4.heap.size, 1, none⟩ = some (.int .u64 nx) ∧ w'.cell? ⟨w4.heap.size, 2, none⟩ = some (.int .u64 sq)) :=
      Lib.hid fun w' hb => ⟨Below.keeps hb _ _ _ (hB5.cell 0), Below.keeps hb _ _ _ (hB5.cell 1), Below.keeps hb _ _ _ (hB5.cell 2)⟩
    obtain ⟨d0, d1, d2⟩ := HD.out W5 (Below.refl _ _)
    have HDB0 : Hid (Below W5.heap.size W5 W5) := Lib.hid (Below.refl _ _)
    have H0L : Hid ((manyP fput x.add ++ manyP vint x.rem).length ≤ 300000000) := Lib.hid (by have := H4L.out; omega)
    clear hB5 HQ4'
    go_upto_region 6 with (fail)
    rw [← hW5]
    clear hW5 c2 c3 c4
    refine wp_loop_rounds 4 ?_
    rw [rounds_succ]
    go_wp2_with fail
    refine (put_my _ _ _ jo (rd_of_own HO0.out).2 (by omega) (by have := H0L.out; omega)).mono ?_
    rintro e0 v0 ⟨x0, y0, z0, rfl, HN0, HQ0, b0⟩
    have HB1 := Lib.hid (HB0.out.trans (b0.mono HB0.out.size))
    have HO1 := Lib.hid (own_mono HQ0.out HB0.out.size)
    obtain ⟨d0, d1, d2⟩ := HD.out v0 (HDB0.out.trans (b0.mono HDB0.out.size))
    have HDB1 := Lib.hid (HDB0.out.trans (b0.mono HDB0.out.size))
    have H1L := Lib.hid (show (manyP fput x.add ++ manyP vint x.rem ++ vint jo).length ≤ 300000020 by rw [List.length_append]; have := vint_le jo; have := H0L.out; omega)
    clear b0 HQ0
    go_wp2_with fail
    rw [rounds_succ]
    go_wp2_with fail
    refine (put_my _ _ _ nx (rd_of_own HO1.out).2 (by omega) (by have := H1L.out; omega)).mono ?_
    rintro e1 v1 ⟨x1, y1, z1, rfl, HN1, HQ1, b1⟩
    have HB2 := Lib.hid (HB1.out.trans (b1.mono HB1.out.size))
    have HO2 := Lib.hid (own_mono HQ1.out HB1.out.size)
    obtain ⟨d0, d1, d2⟩ := HD.out v1 (HDB1.out.trans (b1.mono HDB1.out.size))
    have HDB2 := Lib.hid (HDB1.out.trans (b1.mono HDB1.out.size))
    have H2L := Lib.hid (show (manyP fput x.add ++ manyP vint x.rem ++ vint jo ++ vint nx).length ≤ 300000040 by rw [List.length_append]; have := vint_le nx; have := H1L.out; omega)
    clear b1 HQ1
    go_wp2_with fail
    rw [rounds_succ]
    go_wp2_with fail
    refine (put_my _ _ _ sq (rd_of_own HO2.out).2 (by omega) (by have := H2L.out; omega)).mono ?_
    rintro e2 v2 ⟨x2, y2, z2, rfl, HN2, HQ2, b2⟩
    have HB3 := Lib.hid (HB2.out.trans (b2.mono HB2.out.size))
    have HO3 := Lib.hid (own_mono HQ2.out HB2.out.size)
    obtain ⟨d0, d1, d2⟩ := HD.out v2 (HDB2.out.trans (b2.mono HDB2.out.size))
    have HDB3 := Lib.hid (HDB2.out.trans (b2.mono HDB2.out.size))
    have H3L := Lib.hid (show (manyP fput x.add ++ manyP vint x.rem ++ vint jo ++ vint nx ++ vint sq).length ≤ 300000060 by rw [List.length_append]; have := vint_le sq; have := H2L.out; omega)
    clear b2 HQ2
    go_wp2_with fail
    rw [rounds_succ]
    go_wp2
    go_ret2
    exact ⟨_, 0, x2, y2, z2, rfl, Lib.hid (.inl ⟨HBB.out.symm, rfl, HE.out.symm⟩), HN2, HO3.out, HB3.out⟩
end Go.Proofs.Ytmonmfamnbfhcaa

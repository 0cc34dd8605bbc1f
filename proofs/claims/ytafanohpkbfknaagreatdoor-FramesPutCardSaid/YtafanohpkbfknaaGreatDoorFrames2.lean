/- Walk of frames.Put. The condition: bytes of at most 2^47. -/
import Derived.Test.YtafanohpkbfknaaGreatDoorFrames1
import Derived.Deep.Cut
import Derived.Laws.OwnMore
namespace Go.Proofs.YtafanohpkbfknaaGreatDoor
open Go.RowKit

theorem made_u8 (n : Nat) : madeCells #[.int .u8 0] n = (u8s (List.replicate n 0)).toArray := by
  apply Array.toList_inj.1
  rw [toList_madeCells_one]
  simp [u8s]
def RetFrame (r : List UInt8) (w : World) (e : Ending) (w' : World) : Prop :=
  ∃ a n c, e = .returned (.tuple #[.slice a n c, .int .i64 0]) ∧ Hid (n = (fput r).length) ∧ Hid (Own w' w.heap.size 5 1 (.slice a n c) n (u8s (fput r))) ∧ Below w.heap.size w w'
theorem own_of_blk {w : World} {base g n : Nat} {l : List UInt8} (h : Blk w g (u8s l).toArray 5) (hb : base ≤ g) (hn : n = l.length) (hm : n ≤ 1099511627776) : Own w base 5 1 (.slice (some ⟨g, 0, none⟩) n n) n (u8s l) := by
  subst hn
  refine .inr ⟨by simp [u8s], g, l.length, _, (0, 0), rfl, hb, h, fun _ _ h => by omega, Nat.le_refl _, by unfold maxLen; omega, by simp [u8s], ?_⟩
  rw [Nat.mul_one, List.take_of_length_le (by simp [u8s])]

theorem framesPut_long (w : World) (v : Value) (l : List UInt8) (hv : Rd w v l) (hl : l.length ≤ 140737488351232) (h : 65536 < l.length) :
    Calls Tryz.prog 25 #[v] w fun e w' => e = .returned (.tuple #[.slice none 0 0, .int .i64 3]) ∧ w = w' := by
  obtain ⟨va, vn, vc, rfl, hvn⟩ := rd_len hv
  rw [← hvn] at hl h
  clear hv hvn
  go_enter Tryz.func25, Tryz.ntmps25
  go_wp2
  go_ret2
  exact ⟨rfl, rfl⟩

set_option maxRecDepth 100000 in
set_option maxHeartbeats 2000000 in
theorem framesPut_any (w : World) (v : Value) (l : List UInt8) (hv : Rd w v l) (hl : l.length ≤ 65536) :
    Calls Tryz.prog 25 #[v] w (RetFrame l w) := by
  obtain ⟨va, vn, vc, rfl, hvn⟩ := rd_len hv
  rw [← hvn] at hl
  have HVN := Lib.hid hvn
  have HV := Lib.hid hv
  clear hv hvn
  obtain ⟨i0, hi, hz, hz1, hz2⟩ := info_parts info_u8
  have hmod : (vn : Int) % 4294967296 = (vn : Int) := by omega
  go_enter Tryz.func25, Tryz.ntmps25
  go_wp2_with fail
  try rw [hmod]
  refine (putFour_any w _ [] vn (rd_nil w) (by omega) (by decide)).mono ?_
  rintro e w1 hret
  obtain ⟨xa, xn, xc, rfl, HXN, HX, bel1⟩ := my_of_own hret
  rw [List.nil_append] at HXN HX
  clear hret hmod
  have hmk := run_make (P := Tryz.prog) w1 25 5 i0 (.int .u8 0) Tryz.underlying25 hi hz .i64 .i64 (8 + (vn : Int)) (8 + (vn : Int)) (by omega) (by omega) (by rw [hz2]; omega) (by omega)
  go_upto_region 5 with (fail)
  have HG : Blk (w1.alloc (.cells (madeCells #[.int .u8 0] (8 + vn)) 5)) w1.heap.size (u8s (List.replicate (8 + vn) 0)).toArray 5 := by rw [made_u8]; exact Blk.new _ _ _
  obtain ⟨g, hg⟩ : ∃ g, g = w1.heap.size := ⟨_, rfl⟩
  have hb2 : Below w1.heap.size w1 (w1.alloc (.cells (madeCells #[.int .u8 0] (8 + vn)) 5)) := (Below.refl _ _).alloc (Nat.le_refl _) _
  have HX2 := Lib.hid ((rd_of_own HX.out).2.below hb2)
  have bel := Below.trans bel1 (hb2.mono bel1.size)
  have hgw : w.heap.size ≤ g := by have := bel1.size; omega
  rw [← hg] at HG ⊢
  clear hmk hb2 hg bel1 HX
  generalize w1.alloc (.cells (madeCells #[.int .u8 0] (8 + vn)) 5) = w2 at HG HX2 bel ⊢
  go_wp2_with fail
  refine (sum_any w2 _ _ (four vn) l HX2.out (HV.out.below bel)).mono ?_
  rintro e w3 ⟨rfl, bel3⟩
  obtain ⟨C, hC⟩ : ∃ C, C = crcOn 0 (four vn ++ l) := ⟨_, rfl⟩
  have hCl : C < 4294967296 := by rw [hC]; exact crcOn_lt _ _
  have HC := Lib.hid hC
  rw [← hC]
  clear hC
  replace HX2 := Lib.hid (HX2.out.below bel3)
  replace HG := HG.below bel3
  replace bel := Below.trans bel (bel3.mono bel.size)
  clear bel3
  go_wp2_with fail
  refine (putFour_rd w3 _ (four vn) C HX2.out hCl (by rw [four_length]; decide)).mono ?_
  rintro e w4 ⟨ya, yn, yc, rfl, HYN, HY, bel4⟩
  replace HG := HG.below bel4
  replace bel := Below.trans bel (bel4.mono bel.size)
  clear bel4 HX2 HXN
  have h8 : (four vn ++ four C).length = 8 := rfl
  have hrep : (List.replicate (8 + vn) (0 : UInt8)).length = 8 + vn := by simp
  obtain ⟨ca, cc, hcut, hca⟩ : ∃ ca cc, (∀ (w' : World), (Instr.slice 25 (.slice (some ⟨g, 0, none⟩) (8 + vn) (8 + vn)) (some (.int .i64 8)) none none).run Tryz.prog w' = .ok (.slice ca vn cc) w') ∧ (0 < vn → ca = some ⟨g, 8, none⟩) := by
    refine ⟨if 8 + vn = 8 then some ⟨g, 0, none⟩ else (some (⟨g, 0, none⟩ : Addr)).map (·.add (8 * 1)), 8 + vn - 8, fun w' => ?_, fun h0 => ?_⟩
    · rw [show (8 : Int) = ((8 : Nat) : Int) from rfl, run_slice_l w' 25 (some ⟨g, 0, none⟩) (8 + vn) (8 + vn) (by kernel_rfl) .i64 ((8 : Nat) : Int) (by omega) (by omega)]
      simp [sliced, go_sem, Result.andThen]
    · rw [if_neg (by omega)]; rfl
  have HG0 := Lib.hid HG
  have hvl : l.length ≤ vn := by rw [HVN.out]; exact Nat.le_refl _
  have HVL := Lib.hid hvl
  clear HG hvl hrep
  go_upto_region 6 with (refine wp_copy rfl _ _ rfl g 0 (8 + vn) (8 + vn) _ _ _ (four vn ++ four C) rfl rfl HG0.out HY.out (fun _ => rfl) (by rw [h8]; omega) (by rw [h8]; simp) w.heap.size w bel hgw ?_; intro w5 HG5 bel5)
  have e5 : (List.replicate (8 + vn) (0 : UInt8)).take 0 ++ (four vn ++ four C ++ (List.replicate (8 + vn) (0 : UInt8)).drop (0 + (four vn ++ four C).length)) = (four vn ++ four C) ++ List.replicate vn 0 := by
    rw [h8, List.take_zero, List.nil_append, List.drop_replicate]
    congr 2
    omega
  rw [e5] at HG5
  have HV5 := Lib.hid (HV.out.below bel5)
  clear e5 HG0 bel HY HYN
  go_wp2_with (refine wp_copy rfl _ _ rfl g 8 vn cc _ _ _ l rfl rfl HG5.out HV5.out (fun h => hca (by rw [HVN.out]; exact h)) HVL.out (by have := HVL.out; simp only [List.length_append, four_length, List.length_replicate]; omega) w.heap.size w bel5 hgw ?_; intro w6 HG6 bel6)
  go_ret2
  have e6 : ((four vn ++ four C) ++ List.replicate vn 0).take 8 ++ (l ++ ((four vn ++ four C) ++ List.replicate vn (0 : UInt8)).drop (8 + l.length)) = fput l := by
    have h1 : ((four vn ++ four C) ++ List.replicate vn (0 : UInt8)).take 8 = four vn ++ four C := by rw [← h8, List.take_left]
    have h2 : ((four vn ++ four C) ++ List.replicate vn (0 : UInt8)).drop (8 + l.length) = [] := by
      apply List.drop_of_length_le
      rw [List.length_append, h8, List.length_replicate, HVN.out]
      exact Nat.le_refl _
    rw [h1, h2, List.append_nil, List.append_assoc]
    unfold fput
    rw [← HVN.out, ← HC.out]
  rw [e6] at HG6
  have hfl : 8 + vn = (fput l).length := by rw [fput_length, HVN.out]; omega
  exact ⟨_, _, _, rfl, hfl, own_of_blk HG6.out hgw hfl (by omega), bel6⟩
end Go.Proofs.YtafanohpkbfknaaGreatDoor

/- Frames, plain; copy of bytes as a step of the walk; walks of frames.sum and frames.Put. The condition: bytes of at most 2^37. | Frames, plain: what is put is got, what is got was put. No condition. | Walk of frames.Put. The condition: bytes of at most 2^47. | Walks of slices.Clone of bytes and of frames.Get. The condition: bytes of at most 2^47. -/
import Derived.Test.YtbcnapkbdbefhaaGreatDoorBloomsA
import Derived.Test.YtbcnapkbdbefhaaGreatDoorMemB
import Derived.Test.YtbcnapkbdbefhaaGreatDoorPlain2
import Derived.Laws.CopyOwn
import Derived.Deep.Cut
import Derived.Laws.OwnMore
import Derived.Deep.RegionHeld3
namespace Go.Proofs.YtbcnapkbdbefhaaGreatDoor
open Go.RowKit

/-- a record's frame -/
def fput (r : List UInt8) : List UInt8 := four r.length ++ (four (crcOn 0 (four r.length ++ r)) ++ r)
theorem fput_length (r : List UInt8) : (fput r).length = r.length + 8 := by simp [fput, four_length]; omega
/-- the record that bytes begin with -/
def fgetR (l : List UInt8) : List UInt8 × Nat × Nat :=
  if l.length < 8 then ([], 0, 5) else
  if 65536 < fval (l.take 4) then ([], 0, 4) else
  if l.length < 8 + fval (l.take 4) then ([], 0, 5) else
  if crcOn 0 (l.take 4 ++ (l.drop 8).take (fval (l.take 4))) = fval ((l.drop 4).take 4) then ((l.drop 8).take (fval (l.take 4)), 8 + fval (l.take 4), 0) else ([], 0, 4)

set_option maxRecDepth 100000 in
theorem size_u8 : (Tryz.prog.info? 5).map (·.size) = some 1 := by kernel_rfl
/-- copy of bytes into a row that is known whole -/
theorem wp_copy {w : World} {ops : Array Oper} {rest : List Oper} {o : Oper} {a : Act} {Q : Exit → Act → World → Prop} (hgd : o.guard = none) (d s : Operand)
    (ho : o.op = .call { callee := .builtin .copy, args := #[d, s], argTypes := #[22, 22] })
    (g off dLen dCap : Nat) (dp : Option Addr) (v2 : Value) (cur m : List UInt8) (hd : a.eval d = .slice dp dLen dCap) (hx : a.eval s = v2) (hg : Blk w g (u8s cur).toArray 5) (hrd : Rd w v2 m) (hdp : 0 < m.length → dp = some ⟨g, off, none⟩)
    (hfit : m.length ≤ dLen) (hfit2 : off + m.length ≤ cur.length) (B : Nat) (w0 : World) (hb : Below B w0 w) (hBg : B ≤ g)
    (h : ∀ w', Hid (Blk w' g (u8s (cur.take off ++ (m ++ cur.drop (off + m.length)))).toArray 5) → Below B w0 w' → wpList Tryz.prog ops Q rest (a.put o.dst (goInt m.length)) w') : wpList Tryz.prog ops Q (o :: rest) a w := by
  obtain ⟨sp, sc, rfl, _, _⟩ := rd_reads hrd
  have hc := reads_cells (rd_reads hrd)
  refine wpList_copy_splice hgd d s 22 22 ho 5 Tryz.underlying22 size_u8 dp sp dLen dCap m.length sc hd hx g off (u8s cur) 5 hg (u8s m) ?_ ?_ ?_ (one_u8s m) B w0 hb hBg ?_
  · rw [u8s_length]; exact (Nat.min_eq_left hfit).symm
  · intro hp
    rw [u8s_length] at hp
    refine ⟨hdp hp, ?_⟩
    cases sp with
    | none => have := hc.1 rfl; omega
    | some ad => exact ⟨ad, rfl, hc.2 ad rfl⟩
  · rw [u8s_length, u8s_length]; exact hfit2
  · intro w' h1 h2
    have e : splice (u8s cur) off (u8s m) = u8s (cur.take off ++ (m ++ cur.drop (off + m.length))) := by
      simp [splice, u8s, List.map_take, List.map_drop]
    have h3 := h1.out
    rw [e] at h3
    have h4 := h w' h3 h2
    rw [u8s_length]
    exact h4

set_option maxRecDepth 100000 in
set_option maxHeartbeats 1000000 in
theorem sum_any (w : World) (v1 v2 : Value) (l m : List UInt8) (h1 : Rd w v1 l) (h2 : Rd w v2 m) :
    Calls Tryz.prog 150 #[v1, v2] w fun e w' => e = .returned (.int .u32 ((crcOn 0 (l ++ m) : Nat) : Int)) ∧ Below w.heap.size w w' := by
  have H1 := Lib.hid h1
  have H2 := Lib.hid h2
  clear h1 h2
  have HC := Lib.hid (crcOn_more l m)
  go_enter Tryz.func150, Tryz.ntmps150
  go_wp2_with fail
  refine (table_any _).mono ?_
  rintro e w1 ⟨rfl, hb⟩
  have hst := run_storeCells_new (P := Tryz.prog) w1 210 Tryz.zeroCells210 (tabCells 256) (by rw [tabCells_size]; exact info_tab) (by rw [zero_tab, tabCells_size, tabCells_size]) (tabCells_one _)
  go_wp2_with fail
  have hb2 : Below w.heap.size w (w1.alloc (.cells (tabCells 256) 210)) := hb.alloc hb.size _
  have ht := heap_alloc_last w1 (.cells (tabCells 256) 210)
  have HTT : Hid (TabAt (w1.alloc (.cells (tabCells 256) 210)) w1.heap.size) := ht
  clear ht hst
  generalize w1.alloc (.cells (tabCells 256) 210) = w2 at hb2 HTT ⊢
  refine (sumsOf_any _ _ l _ HTT.out (H1.out.below hb2)).mono ?_
  rintro e w' ⟨rfl, rfl⟩
  have hcl := crcOn_lt 0 l
  generalize crcOn 0 l = C at hcl HC ⊢
  go_wp2_with fail
  refine (sumsOn_any _ _ _ m _ hcl HTT.out (H2.out.below hb2)).mono ?_
  rintro e w' ⟨rfl, rfl⟩
  go_wp2
  go_ret
  exact ⟨ret_int (by rw [HC.out]), hb2⟩
end Go.Proofs.YtbcnapkbdbefhaaGreatDoor
namespace Go.Proofs.YtbcnapkbdbefhaaGreatDoor
open Go.RowKit

theorem fval_four' (n : Nat) (h : n < 4294967296) : fval (four n) = n := by
  simp only [fval, four, List.foldl_cons, List.foldl_nil, UInt8.toNat_ofNat']
  omega
theorem fput_take4 (r m : List UInt8) : (fput r ++ m).take 4 = four r.length := rfl
theorem fput_drop4 (r m : List UInt8) : ((fput r ++ m).drop 4).take 4 = four (crcOn 0 (four r.length ++ r)) := rfl
theorem fput_drop8 (r m : List UInt8) : (fput r ++ m).drop 8 = r ++ m := rfl
theorem fgetR_put (r m : List UInt8) (h : r.length ≤ 65536) : fgetR (fput r ++ m) = (r, r.length + 8, 0) := by
  unfold fgetR
  rw [fput_take4, fput_drop4, fput_drop8, fval_four' _ (by omega), fval_four' _ (crcOn_lt _ _)]
  rw [if_neg (by simp [fput_length]; omega), if_neg (by omega), if_neg (by simp [fput_length]; omega), List.take_left, if_pos rfl]
  rw [Nat.add_comm]
theorem four_fval (l : List UInt8) (h : l.length = 4) : four (fval l) = l := by
  match l, h with
  | [a, b, c, d], _ =>
    have ha := a.toNat_lt
    have hb := b.toNat_lt
    have hc := c.toNat_lt
    have hd := d.toNat_lt
    simp only [fval, four, List.foldl_cons, List.foldl_nil]
    congr 1
    · apply UInt8.toNat_inj.1; rw [UInt8.toNat_ofNat']; omega
    · congr 1
      · apply UInt8.toNat_inj.1; rw [UInt8.toNat_ofNat']; omega
      · congr 1
        · apply UInt8.toNat_inj.1; rw [UInt8.toNat_ofNat']; omega
        · congr 1
          apply UInt8.toNat_inj.1; rw [UInt8.toNat_ofNat']; omega
theorem fgetR_got {l r : List UInt8} {k : Nat} (h : fgetR l = (r, k, 0)) : r.length ≤ 65536 ∧ k = r.length + 8 ∧ k ≤ l.length ∧ fput r = l.take k := by
  unfold fgetR at h
  split at h
  · simp at h
  · rename_i h1
    split at h
    · simp at h
    · rename_i h2
      split at h
      · simp at h
      · rename_i h3
        split at h
        · rename_i h4
          simp only [Prod.mk.injEq, and_true] at h
          obtain ⟨rfl, rfl⟩ := h
          generalize hn : fval (l.take 4) = n at *
          have hl : ((l.drop 8).take n).length = n := by simp; omega
          refine ⟨by omega, by omega, by omega, ?_⟩
          have e4 : four n = l.take 4 := by rw [← hn]; exact four_fval _ (by simp; omega)
          have e5 : four (crcOn 0 (l.take 4 ++ (l.drop 8).take n)) = (l.drop 4).take 4 := by rw [h4]; exact four_fval _ (by simp; omega)
          unfold fput
          rw [hl, e4, e5, show 8 + n = 4 + (4 + n) from by omega, List.take_add, List.take_add, List.drop_drop]
        · simp at h
theorem fgetR_bad {l r : List UInt8} {k er : Nat} (h : fgetR l = (r, k, er)) (he : er ≠ 0) : r = [] ∧ k = 0 ∧ (er = 4 ∨ er = 5) := by
  unfold fgetR at h
  repeat' split at h
  all_goals
    simp only [Prod.mk.injEq] at h
    obtain ⟨rfl, rfl, rfl⟩ := h
    first | exact absurd rfl he | exact ⟨rfl, rfl, by simp⟩
theorem fgetR_cut (r : List UInt8) (h : r.length ≤ 65536) (k : Nat) (hk : k < r.length + 8) : fgetR ((fput r).take k) = ([], 0, 5) := by
  have hl : ((fput r).take k).length = k := by rw [List.length_take, fput_length]; omega
  by_cases h8 : k < 8
  · unfold fgetR; rw [if_pos (by omega)]
  · have e4 : ((fput r).take k).take 4 = four r.length := by
      rw [List.take_take, Nat.min_eq_left (by omega)]; rfl
    unfold fgetR
    rw [if_neg (by omega), e4, fval_four' _ (by omega), if_neg (by omega), if_pos (by omega)]
end Go.Proofs.YtbcnapkbdbefhaaGreatDoor
namespace Go.Proofs.YtbcnapkbdbefhaaGreatDoor
open Go.RowKit

theorem made_u8 (n : Nat) : madeCells #[.int .u8 0] n = (u8s (List.replicate n 0)).toArray := by
  apply Array.toList_inj.1
  rw [toList_madeCells_one]
  simp [u8s]
def RetFrame (r : List UInt8) (w : World) (e : Ending) (w' : World) : Prop :=
  ∃ a n c, e = .returned (.tuple #[.slice a n c, .int .i64 0]) ∧ Hid (n = (fput r).length) ∧ Hid (Own w' w.heap.size 5 1 (.slice a n c) n (u8s (fput r))) ∧ Below w.heap.size w w'
theorem own_of_blk {w : World} {base g n : Nat} {l : List UInt8} (h : Blk w g (u8s l).toArray 5) (hb : base ≤ g) (hn : n = l.length) (hm : n ≤ 1099511627776) : Own w base 5 1 (.slice (some ⟨g, 0, none⟩) n n) n (u8s l) := by
  subst hn
  refine .inr ⟨by simp [u8s], g, l.length, _, (0, 0), rfl, hb, h, fun _ _ h => by omega, Nat.le_refl _, by unfold maxLen; omega, by simp [u8s], ?_⟩
  rw [Nat.mul_one, List.take_of_length_le (by simp [u8s])]

theorem framesPut_long (w : World) (v : Value) (l : List UInt8) (hv : Rd w v l) (hl : l.length ≤ 140737488351232) (h : 65536 < l.length) :
    Calls Tryz.prog 137 #[v] w fun e w' => e = .returned (.tuple #[.slice none 0 0, .int .i64 3]) ∧ w = w' := by
  obtain ⟨va, vn, vc, rfl, hvn⟩ := rd_len hv
  rw [← hvn] at hl h
  clear hv hvn
  go_enter Tryz.func137, Tryz.ntmps137
  go_wp2
  go_ret2
  exact ⟨rfl, rfl⟩

set_option maxRecDepth 100000 in
set_option maxHeartbeats 2000000 in
theorem framesPut_any (w : World) (v : Value) (l : List UInt8) (hv : Rd w v l) (hl : l.length ≤ 65536) :
    Calls Tryz.prog 137 #[v] w (RetFrame l w) := by
  obtain ⟨va, vn, vc, rfl, hvn⟩ := rd_len hv
  rw [← hvn] at hl
  have HVN := Lib.hid hvn
  have HV := Lib.hid hv
  clear hv hvn
  obtain ⟨i0, hi, hz, hz1, hz2⟩ := info_parts info_u8
  have hmod : (vn : Int) % 4294967296 = (vn : Int) := by omega
  go_enter Tryz.func137, Tryz.ntmps137
  go_wp2_with fail
  try rw [hmod]
  refine (putFour_any w _ [] vn (rd_nil w) (by omega) (by decide)).mono ?_
  rintro e w1 hret
  obtain ⟨xa, xn, xc, rfl, HXN, HX, bel1⟩ := my_of_own hret
  rw [List.nil_append] at HXN HX
  clear hret hmod
  have hmk := run_make (P := Tryz.prog) w1 22 5 i0 (.int .u8 0) Tryz.underlying22 hi hz .i64 .i64 (8 + (vn : Int)) (8 + (vn : Int)) (by omega) (by omega) (by rw [hz2]; omega) (by omega)
  go_upto_region 5 with (fail)
  have HG : Blk (w1.alloc (.cells (madeCells #[.int .u8 0] (8 + vn)) 5)) w1.heap.size (u8s (List.replicate (8 + vn) 0)).toArray 5 := by rw [made_u8]; exact Blk.new _ _ _
  obtain ⟨g, hg⟩ : ∃ g, g = w1.heap.size := ⟨_, rfl⟩
  have hb2 : Below w1.heap.size w1 (w1.alloc (.cells (madeCells #[.int .u8 0] (8 + vn)) 5)) := (Below.refl _ _).alloc (Nat.le_refl _) _
  have HX2 := Lib.hid ((rd_of_own HX.out).2.below hb2)
  have bel := Below.trans bel1 (hb2.mono bel1.size)
  have hgw : w.heap.size ≤ g := by have := bel1.size; omega
  rw [← hg] at HG ⊢
  clear hmk hb2 hg bel1 HX
  generalize w1.alloc (.cells (madeCells #[.int .u8 0] (8 + vn)) 5) = w2 at HG HX2 bel ⊢
  go_wp2_with fail
  refine (sum_any w2 _ _ (four vn) l HX2.out (HV.out.below bel)).mono ?_
  rintro e w3 ⟨rfl, bel3⟩
  obtain ⟨C, hC⟩ : ∃ C, C = crcOn 0 (four vn ++ l) := ⟨_, rfl⟩
  have hCl : C < 4294967296 := by rw [hC]; exact crcOn_lt _ _
  have HC := Lib.hid hC
  rw [← hC]
  clear hC
  replace HX2 := Lib.hid (HX2.out.below bel3)
  replace HG := HG.below bel3
  replace bel := Below.trans bel (bel3.mono bel.size)
  clear bel3
  go_wp2_with fail
  refine (putFour_rd w3 _ (four vn) C HX2.out hCl (by rw [four_length]; decide)).mono ?_
  rintro e w4 ⟨ya, yn, yc, rfl, HYN, HY, bel4⟩
  replace HG := HG.below bel4
  replace bel := Below.trans bel (bel4.mono bel.size)
  clear bel4 HX2 HXN
  have h8 : (four vn ++ four C).length = 8 := rfl
  have hrep : (List.replicate (8 + vn) (0 : UInt8)).length = 8 + vn := by simp
  obtain ⟨ca, cc, hcut, hca⟩ : ∃ ca cc, (∀ (w' : World), (Instr.slice 22 (.slice (some ⟨g, 0, none⟩) (8 + vn) (8 + vn)) (some (.int .i64 8)) none none).run Tryz.prog w' = .ok (.slice ca vn cc) w') ∧ (0 < vn → ca = some ⟨g, 8, none⟩) := by
    refine ⟨if 8 + vn = 8 then some ⟨g, 0, none⟩ else (some (⟨g, 0, none⟩ : Addr)).map (·.add (8 * 1)), 8 + vn - 8, fun w' => ?_, fun h0 => ?_⟩
    · rw [show (8 : Int) = ((8 : Nat) : Int) from rfl, run_slice_l w' 22 (some ⟨g, 0, none⟩) (8 + vn) (8 + vn) (by kernel_rfl) .i64 ((8 : Nat) : Int) (by omega) (by omega)]
      simp [sliced, go_sem, Result.andThen]
    · rw [if_neg (by omega)]; rfl
  have HG0 := Lib.hid HG
  have hvl : l.length ≤ vn := by rw [HVN.out]; exact Nat.le_refl _
  have HVL := Lib.hid hvl
  clear HG hvl hrep
  go_upto_region 6 with (refine wp_copy rfl _ _ rfl g 0 (8 + vn) (8 + vn) _ _ _ (four vn ++ four C) rfl rfl HG0.out HY.out (fun _ => rfl) (by rw [h8]; omega) (by rw [h8]; simp) w.heap.size w bel hgw ?_; intro w5 HG5 bel5)
  have e5 : (List.replicate (8 + vn) (0 : UInt8)).take 0 ++ (four vn ++ four C ++ (List.replicate (8 + vn) (0 : UInt8)).drop (0 + (four vn ++ four C).length)) = (four vn ++ four C) ++ List.replicate vn 0 := by
    rw [h8, List.take_zero, List.nil_append, List.drop_replicate]
    congr 2
    omega
  rw [e5] at HG5
  have HV5 := Lib.hid (HV.out.below bel5)
  clear e5 HG0 bel HY HYN
  go_wp2_with (refine wp_copy rfl _ _ rfl g 8 vn cc _ _ _ l rfl rfl HG5.out HV5.out (fun h => hca (by rw [HVN.out]; exact h)) HVL.out (by have := HVL.out; simp only [List.length_append, four_length, List.length_replicate]; omega) w.heap.size w bel5 hgw ?_; intro w6 HG6 bel6)
  go_ret2
  have e6 : ((four vn ++ four C) ++ List.replicate vn 0).take 8 ++ (l ++ ((four vn ++ four C) ++ List.replicate vn (0 : UInt8)).drop (8 + l.length)) = fput l := by
    have h1 : ((four vn ++ four C) ++ List.replicate vn (0 : UInt8)).take 8 = four vn ++ four C := by rw [← h8, List.take_left]
    have h2 : ((four vn ++ four C) ++ List.replicate vn (0 : UInt8)).drop (8 + l.length) = [] := by
      apply List.drop_of_length_le
      rw [List.length_append, h8, List.length_replicate, HVN.out]
      exact Nat.le_refl _
    rw [h1, h2, List.append_nil, List.append_assoc]
    unfold fput
    rw [← HVN.out, ← HC.out]
  rw [e6] at HG6
  have hfl : 8 + vn = (fput l).length := by rw [fput_length, HVN.out]; omega
  exact ⟨_, _, _, rfl, hfl, own_of_blk HG6.out hgw hfl (by omega), bel6⟩
end Go.Proofs.YtbcnapkbdbefhaaGreatDoor
namespace Go.Proofs.YtbcnapkbdbefhaaGreatDoor
open Go.RowKit

set_option maxRecDepth 100000 in
set_option maxHeartbeats 1000000 in
theorem clone_any (w : World) (ad : Addr) (n c : Nat) (l : List UInt8) (hv : Rd w (.slice (some ad) n c) l) (hl : l.length ≤ 549755813888) :
    Calls Tryz.prog 151 #[.slice (some ad) n c] w (RetMy l w) := by
  have HV := Lib.hid hv
  clear hv
  have hnn := Lib.run_eql_slice_nil (P := Tryz.prog) w 22 5 (some ad) n c 0 0 Tryz.underlying22
  go_enter Tryz.func151, Tryz.ntmps151
  go_wp2_with (at_builtin; go_loud (refine wp_app_my rfl _ _ rfl w.heap.size 0 _ _ [] l rfl rfl (.inl ⟨rfl, rfl, _, rfl⟩) (HV.out.below ((Below.refl _ _).alloc (Nat.le_refl _) _)) (by simp; omega) (by simp) ?_); intro b k cc w' HK HO hb)
  go_ret
  exact ⟨b, k, cc, rfl, HK, HO, Below.trans ((Below.refl _ _).alloc (Nat.le_refl _) _) hb⟩
/-- v[lo:hi:hi] -/
theorem cut_three {w : World} {v : Value} {l : List UInt8} (h : Rd w v l) (lo hi : Nat) (h1 : lo ≤ hi) (h2 : hi ≤ l.length) :
    ∃ a c, (∀ (w' : World) (kl kh km : IntKind), (Instr.slice 22 v (some (.int kl lo)) (some (.int kh hi)) (some (.int km hi))).run Tryz.prog w' = .ok (.slice a (hi - lo) c) w') ∧ Rd w (.slice a (hi - lo) c) ((l.take hi).drop lo) ∧ (0 < l.length → ∃ ad, a = some ad) := by
  obtain ⟨a0, c0, rfl, hc, hm, hr⟩ := h
  have hlen : ((l.take hi).drop lo).length = hi - lo := by simp; omega
  refine ⟨if hi = lo then a0 else a0.map (·.add (lo * 1)), hi - lo, fun w' kl kh km => ?_, ?_, ?_⟩
  · rw [run_slice_lhm w' 22 a0 l.length c0 (by kernel_rfl) kl kh km lo hi hi (by omega) (by omega) (by omega) (by omega)]
    simp [sliced, go_sem, Result.andThen]
  · refine ⟨_, _, by rw [hlen], by rw [hlen]; exact Nat.le_refl _, by omega, fun j hj => ?_⟩
    rw [hlen] at hj
    obtain ⟨b, off, rfl, hc'⟩ := hr (lo + j) (by omega)
    refine ⟨b, off + lo, ?_, ?_⟩
    · rw [if_neg (by omega)]
      by_cases h0 : lo = 0
      · simp [Addr.add, h0]
      · simp [Addr.add, h0]
    · rw [Nat.add_assoc, hc']; simp
  · intro h0
    obtain ⟨b, off, rfl, _⟩ := hr 0 h0
    split
    · exact ⟨_, rfl⟩
    · exact ⟨_, rfl⟩
/-- v[:hi:hi] -/
theorem cut_two {w : World} {v : Value} {l : List UInt8} (h : Rd w v l) (hi : Nat) (h2 : hi ≤ l.length) :
    ∃ a c, (∀ (w' : World) (kh km : IntKind), (Instr.slice 22 v none (some (.int kh hi)) (some (.int km hi))).run Tryz.prog w' = .ok (.slice a hi c) w') ∧ Rd w (.slice a hi c) (l.take hi) := by
  obtain ⟨a0, c0, rfl, hc, hm, hr⟩ := h
  have hlen : (l.take hi).length = hi := by simp; omega
  refine ⟨a0, hi, fun w' kh km => ?_, ?_⟩
  · rw [run_slice_hm w' 22 a0 l.length c0 (by kernel_rfl) kh km hi hi (by omega) (by omega) (by omega)]
    simp [go_sem]
  · refine ⟨_, _, by rw [hlen], by rw [hlen]; exact Nat.le_refl _, by omega, fun j hj => ?_⟩
    rw [hlen] at hj
    obtain ⟨b, off, e, hc'⟩ := hr j (by omega)
    exact ⟨b, off, e, by rw [hc']; simp⟩

def RetRec (r : List UInt8 × Nat × Nat) (w : World) (e : Ending) (w' : World) : Prop :=
  ∃ a n c, e = .returned (.tuple #[.slice a n c, .int .i64 r.2.1, .int .i64 r.2.2]) ∧ Hid (n = r.1.length) ∧ Hid (Own w' w.heap.size 5 1 (.slice a n c) n (u8s r.1)) ∧ Below w.heap.size w w'
theorem ret_rec_bad {r : List UInt8 × Nat × Nat} {w w' : World} {er : Nat} (h : r = ([], 0, er)) (hb : Below w.heap.size w w') : RetRec r w (.returned (.tuple #[.slice none 0 0, .int .i64 0, .int .i64 er])) w' := by
  subst h
  exact ⟨_, _, _, rfl, rfl, own_nil _ _ _ _, hb⟩
theorem fget_eight {l : List UInt8} (h : 8 ≤ l.length) : fget l = (fval (l.take 4), 0) := by unfold fget; rw [if_neg (by omega)]
theorem fget_eight2 {l : List UInt8} (h : 8 ≤ l.length) : fget (l.drop 4) = (fval ((l.drop 4).take 4), 0) := by unfold fget; rw [if_neg (by simp; omega)]

set_option maxRecDepth 100000 in
set_option maxHeartbeats 4000000 in
theorem framesGet_any (w : World) (v : Value) (l : List UInt8) (hv : Rd w v l) (hl : l.length ≤ 140737488351232) :
    Calls Tryz.prog 90 #[v] w (RetRec (fgetR l) w) := by
  obtain ⟨va, vn, vc, rfl, hvn⟩ := rd_len hv
  rw [← hvn] at hl
  have HVN := Lib.hid hvn
  have HV := Lib.hid hv
  clear hv hvn
  by_cases h8 : vn < 8
  · have HR : Hid (fgetR l = ([], 0, 5)) := by show _ = _; unfold fgetR; rw [if_pos (by rw [← HVN.out]; exact h8)]
    go_enter Tryz.func90, Tryz.ntmps90
    go_wp2
    go_ret3
    exact ret_rec_bad HR.out (Below.refl _ _)
  · have h8l : 8 ≤ l.length := by rw [← HVN.out]; omega
    have H8 := Lib.hid h8l
    obtain ⟨n, hn⟩ : ∃ n, n = fval (l.take 4) := ⟨_, rfl⟩
    obtain ⟨q, hq⟩ : ∃ q, q = fval ((l.drop 4).take 4) := ⟨_, rfl⟩
    have hnl : n < 4294967296 := by
      rw [hn]; have h5 := fval_lt (l.take 4); have h6 : (l.take 4).length = 4 := by simp; omega
      rw [h6] at h5; omega
    have hql : q < 4294967296 := by
      rw [hq]; have h5 := fval_lt ((l.drop 4).take 4); have h6 : ((l.drop 4).take 4).length = 4 := by simp; omega
      rw [h6] at h5; omega
    have HF1 := Lib.hid (fget_eight h8l)
    have HF2 := Lib.hid (fget_eight2 h8l)
    rw [← hn] at HF1
    rw [← hq] at HF2
    have HN := Lib.hid hn
    have HQ := Lib.hid hq
    obtain ⟨x1a, x1c, hcut1, hr1⟩ := cut_from HV.out 4 (by omega)
    rw [← HVN.out] at hcut1 hr1
    simp only [show ((4 : Nat) : Int) = 4 from rfl] at hcut1
    have H1 := Lib.hid hr1
    clear hr1 hn hq h8l
    go_enter Tryz.func90, Tryz.ntmps90
    go_wp2_with fail
    refine (intsGetFour_any _ l w HV.out).mono ?_
    rintro e w' ⟨rfl, rfl⟩
    rw [HF1.out]
    go_wp2_with fail
    refine (intsGetFour_any _ (l.drop 4) w H1.out).mono ?_
    rintro e w' ⟨rfl, rfl⟩
    rw [HF2.out]
    clear hcut1 H1
    by_cases hbig : 65536 < n
    · have HR : Hid (fgetR l = ([], 0, 4)) := by
        show _ = _; unfold fgetR
        rw [if_neg (by have := H8.out; omega), if_pos (by rw [← HN.out]; exact hbig)]
      go_wp2
      go_ret3
      exact ret_rec_bad HR.out (Below.refl _ _)
    · by_cases hsh : vn < 8 + n
      · have HR : Hid (fgetR l = ([], 0, 5)) := by
          show _ = _; unfold fgetR
          rw [if_neg (by have := H8.out; omega), if_neg (by rw [← HN.out]; exact hbig), if_pos (by rw [← HN.out, ← HVN.out]; exact hsh)]
        go_wp2
        go_ret3
        exact ret_rec_bad HR.out (Below.refl _ _)
      · obtain ⟨y1a, y1c, hcut2, hr2⟩ := cut_two HV.out 4 (by have := H8.out; omega)
        obtain ⟨y2a, y2c, hcut3, hr3, hne⟩ := cut_three HV.out 8 (8 + n) (by omega) (by rw [← HVN.out]; omega)
        obtain ⟨ad, rfl⟩ := hne (by have := H8.out; omega)
        have hrec : (l.take (8 + n)).drop 8 = (l.drop 8).take n := by rw [List.drop_take]; congr 1; omega
        rw [hrec] at hr3
        have e8 : 8 + n - 8 = n := by omega
        rw [e8] at hcut3 hr3
        simp only [show ((4 : Nat) : Int) = 4 from rfl] at hcut2
        have hcut4 : ∀ (w' : World), (Instr.slice 22 (.slice va vn vc) (some (.int .i64 8)) (some (.int .i64 (8 + (n : Int)))) (some (.int .i64 (8 + (n : Int))))).run Tryz.prog w' = .ok (.slice (some ad) n y2c) w' := fun w' => by
          have := hcut3 w' .i64 .i64 .i64
          rwa [show ((8 + n : Nat) : Int) = 8 + (n : Int) from by omega, show ((8 : Nat) : Int) = 8 from rfl] at this
        have HR2 := Lib.hid hr2
        have HR3 := Lib.hid hr3
        obtain ⟨C, hC⟩ : ∃ C, C = crcOn 0 (l.take 4 ++ (l.drop 8).take n) := ⟨_, rfl⟩
        have HC := Lib.hid hC
        have hfin : fgetR l = if C = q then ((l.drop 8).take n, 8 + n, 0) else ([], 0, 4) := by
          unfold fgetR
          rw [if_neg (by have := H8.out; omega), if_neg (by rw [← HN.out]; exact hbig), if_neg (by rw [← HN.out, ← HVN.out]; exact hsh), ← HN.out, ← HQ.out, ← hC]
        have HF := Lib.hid hfin
        have hww : Below w.heap.size w w := Below.refl _ _
        have hrl : ((l.drop 8).take n).length = n := by simp; have := HVN.out; omega
        have HRL := Lib.hid hrl
        clear hr2 hr3 hcut3 hrec e8 hC hfin hrl
        have d1 : decide (65536 < (n : Int)) = false := by simp; omega
        have HSUM : Hid (∀ w', Below w.heap.size w w' → Calls Tryz.prog 150 #[.slice y1a 4 y1c, .slice (some ad) n y2c] w' fun e w9 => e = .returned (.int .u32 C) ∧ Below w'.heap.size w' w9) := by
          intro w' hb
          refine (sum_any _ _ _ _ _ (HR2.out.below hb) (HR3.out.below hb)).mono ?_
          rintro e w9 ⟨rfl, hb9⟩
          exact ⟨by rw [HC.out], hb9⟩
        have n8 : (8 : Int) + (n : Int) ≤ (vn : Int) := by omega
        have n8' : decide ((vn : Int) < 8 + (n : Int)) = false := by simp; omega
        by_cases hCq : C = q
        · have hcq : ((C : Int) != (q : Int)) = false := by simp [hCq]
          have hn16 : n ≤ 65536 := by omega
          have HN16 := Lib.hid hn16
          clear hn16
          rw [if_pos hCq] at HF
          clear hCq hbig hsh
          go_upto_region 10 with (fail)
          have HS1 := Lib.hid (HSUM.out w.drew (Below.drew hww))
          have s1 := fun w' => hcut2 w' .i64 .i64
          clear hcut2 HSUM hnl hql
          go_region_with ((go_at_call 150; refine HS1.out.mono ?_; rintro e w9 ⟨rfl, hb9⟩))
          have B9 : Below w.heap.size w w9 := Below.trans (Below.drew hww) hb9
          go_wp2_with fail
          refine (clone_any w9 ad n y2c _ (HR3.out.below B9) (by rw [HRL.out]; have := HN16.out; omega)).mono ?_
          rintro e w10 ⟨ca, cn, cc, rfl, HCN, HCO, hb10⟩
          go_wp2
          go_ret3
          rw [HF.out]
          refine ⟨ca, cn, cc, ?_, HCN, own_mono HCO.out B9.size, Below.trans B9 (hb10.mono B9.size)⟩
          congr 4
        · have hcq : ((C : Int) != (q : Int)) = true := by simp; omega
          rw [if_neg hCq] at HF
          clear hCq hbig hsh
          go_upto_region 10 with (fail)
          have HS1 := Lib.hid (HSUM.out w.drew (Below.drew hww))
          have s1 := fun w' => hcut2 w' .i64 .i64
          clear hcut2 HSUM hnl hql
          go_region_with ((go_at_call 150; refine HS1.out.mono ?_; rintro e w9 ⟨rfl, hb9⟩))
          have B9 : Below w.heap.size w w9 := Below.trans (Below.drew hww) hb9
          go_wp2
          go_ret3
          exact ret_rec_bad HF.out B9
end Go.Proofs.YtbcnapkbdbefhaaGreatDoor

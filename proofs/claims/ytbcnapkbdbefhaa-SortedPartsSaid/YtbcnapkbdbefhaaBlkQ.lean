/- Walks of package blocks: the reader's entry. The condition: bytes of less than 2^47. | Blocks, plain: what Get answers. No program stands in this text; no condition. -/
import Derived.Test.YtbcnapkbdbefhaaBlocks7
namespace Go.Proofs.Ytbcnapkbdbefhaa
open Go.RowKit

set_option maxRecDepth 100000 in
set_option maxHeartbeats 400000 in
theorem res_entry {tmps : Array Value} {w : World} {c : Nat} {k u : ByteArray} {s : Nat} {b : Bool} (hp : tmps[4]?.getD undef = .pointer (some ⟨c, 0, none⟩)) (hX : Blk w c #[.string k, .int .u64 s, .bool b, .string u] 37) :
    (results Try.f53 tmps).run Try.prog w = .ok (.agg #[.string k, .int .u64 s, .bool b, .string u]) w := by
  have c0 := hX.cellv 0 (.string k) rfl
  have c1 := hX.cellv 1 (.int .u64 s) rfl
  have c2 := hX.cellv 2 (.bool b) rfl
  have c3 := hX.cellv 3 (.string u) rfl
  simp only [results, Try.results53]
  simp [go_sem, hp, c0, c1, c2, c3]
theorem only_new {w w' : World} {g c : Nat} (h : Only w w' g) (hc : w.heap.size ≤ c) (i : Nat) (x : Value) : Only w (w'.setCell ⟨c, i, none⟩ x) g := by
  obtain ⟨a1, a2, a3, a4, a5⟩ := h
  obtain ⟨b1, b2, b3, b4, b5⟩ := Only.set w' c i x
  exact ⟨b1.trans a1, b2.trans a2, b3.trans a3, Nat.le_trans a4 b4, fun k hk hne => (b5 k (Nat.lt_of_lt_of_le hk a4) (fun e => by simp at e; omega)).trans (a5 k hk hne)⟩
/-- an entry, read: its values -/
def entVals (x : Ent) : Array Value := #[.string (bs x.key), .int .u64 x.seq, .bool x.gone, .string (bs x.val)]
def rdE5 (key : List UInt8) (q : Nat) (r4 : List UInt8) (b : Bool) (gone : Bool) : Ent × List UInt8 × Bool :=
  if gone then (⟨key, q, true, []⟩, r4, b) else (⟨key, q, false, (tget r4).1⟩, r4.drop (tget r4).2.1, b || decide ((tget r4).2.2 ≠ 0))
def rdE4 (key : List UInt8) (q : Nat) (r3 : List UInt8) (b3 : Bool) : Ent × List UInt8 × Bool :=
  match r3 with
  | [] => (⟨key, q, false, []⟩, [], true)
  | c :: r4 => rdE5 key q r4 b3 (decide (c.toNat = 1))
/-- what is read behind the key -/
def rdE3 (key r2 : List UInt8) (b2 : Bool) : Ent × List UInt8 × Bool :=
  rdE4 key (vget r2).1 (r2.drop (vget r2).2.1) (b2 || decide ((vget r2).2.2 ≠ 0))
/-- what is read behind the first number -/
def rdE2 (pre r1 : List UInt8) (b1 : Bool) : Ent × List UInt8 × Bool :=
  rdE3 (pre ++ (tget r1).1) (r1.drop (tget r1).2.1) (b1 || decide ((tget r1).2.2 ≠ 0))
theorem rdE4_eq (key : List UInt8) (q : Nat) (r3 : List UInt8) (b3 : Bool) : rdE4 key q r3 b3 = (match r3 with
    | [] => (⟨key, q, false, []⟩, [], true)
    | c :: r4 => if c.toNat = 1 then (⟨key, q, true, []⟩, r4, b3) else (⟨key, q, false, (tget r4).1⟩, r4.drop (tget r4).2.1, b3 || decide ((tget r4).2.2 ≠ 0))) := by
  cases r3 with
  | nil => rfl
  | cons c t =>
    show rdE5 key q t b3 (decide (c.toNat = 1)) = _
    unfold rdE5
    by_cases hc : c.toNat = 1 <;> simp [hc]
theorem rdE_eq (last r : List UInt8) (bad : Bool) : rdE last r bad = if last.length < (vget r).1 then (Ent.none, r.drop (vget r).2.1, true) else rdE2 (last.take (vget r).1) (r.drop (vget r).2.1) (bad || decide ((vget r).2.2 ≠ 0)) := by
  unfold rdE rdE2 rdE3
  rw [rdE4_eq]
  rfl
theorem fin4 {w w' : World} {g c : Nat} {v : Value} {bad : Bool} {x0 x1 x2 x3 : Value} {t : TypeId} (hX : Blk w' c #[x0, x1, x2, x3] t) (hR : Rdb w' g v bad) (hO : Only w w' g) (hc : w.heap.size ≤ c) (hne : g ≠ c) :
    Blk ((((w'.setCell ⟨c, 0, none⟩ x0).setCell ⟨c, 1, none⟩ x1).setCell ⟨c, 2, none⟩ x2).setCell ⟨c, 3, none⟩ x3) c #[x0, x1, x2, x3] t ∧
    Rdb ((((w'.setCell ⟨c, 0, none⟩ x0).setCell ⟨c, 1, none⟩ x1).setCell ⟨c, 2, none⟩ x2).setCell ⟨c, 3, none⟩ x3) g v bad ∧
    Only w ((((w'.setCell ⟨c, 0, none⟩ x0).setCell ⟨c, 1, none⟩ x1).setCell ⟨c, 2, none⟩ x2).setCell ⟨c, 3, none⟩ x3) g :=
  ⟨(((hX.set 0 x0).set 1 x1).set 2 x2).set 3 x3, (((Blk.set_other hR ⟨c, 0, none⟩ hne.symm x0).set_other ⟨c, 1, none⟩ hne.symm x1).set_other ⟨c, 2, none⟩ hne.symm x2).set_other ⟨c, 3, none⟩ hne.symm x3,
    only_new (only_new (only_new (only_new hO hc 0 _) hc 1 _) hc 2 _) hc 3 _⟩
set_option maxRecDepth 100000 in
set_option maxHeartbeats 4000000 in
theorem entryB_any (w0 w : World) (g : Nat) (v : Value) (last : ByteArray) (r : List UInt8) (bad : Bool) (h : Rdb w g v bad) (hv : Rd w0 v r) (hbel : Below w0.heap.size w0 w) (hg : w0.heap.size ≤ g) (hl : last.size ≤ 140737488351232) (hrl : r.length ≤ 140737488351232) :
    Calls Try.prog 53 #[.pointer (some ⟨g, 0, none⟩), .string last] w fun en w' => ∃ v', en = .returned (.agg (entVals (rdE last.data.toList r bad).1)) ∧
      Hid (Rdb w' g v' (rdE last.data.toList r bad).2.2) ∧ Hid (Rd w0 v' (rdE last.data.toList r bad).2.1) ∧ Hid (Below w0.heap.size w0 w') ∧ Hid (Only w w' g) := by
  have HV := Lib.hid hv
  have HB := Lib.hid hbel
  have hgl := h.lt
  obtain ⟨W, hW⟩ : ∃ W, W = w.alloc (.cells #[.string ⟨#[]⟩, .int .u64 0, .bool false, .string ⟨#[]⟩] 37) := ⟨_, rfl⟩
  have hX : Blk W w.heap.size #[.string ⟨#[]⟩, .int .u64 0, .bool false, .string ⟨#[]⟩] 37 := by rw [hW]; exact Blk.new _ _ _
  have hbW : Below w.heap.size w W := by rw [hW]; exact (Below.refl _ _).alloc (Nat.le_refl _) _
  have HW := Lib.hid hW
  have HX := Lib.hid hX
  have HR : Hid (Rdb W g v bad) := Blk.below h hbW
  clear hW hX h hv hbel
  go_enter Try.func53, Try.ntmps53
  go_upto_region 1 with (fail)
  rw [← HW.out]
  have hgX : g ≠ w.heap.size := by omega
  have HBW : Hid (Below w0.heap.size w0 W) := HB.out.trans (hbW.mono HB.out.size)
  have HO0 : Hid (Only w W g) := Only.of_below hbW
  go_wp2_with fail
  refine (numberB_any w0 W g v r bad HR.out HV.out HBW.out).mono ?_
  rintro e w1 ⟨v1, rfl, R1, V1, O1⟩
  have HO1 := Lib.hid (HO0.out.trans O1.out)
  have HB1 := Lib.hid (Only.below HBW.out O1.out hg HBW.out.size)
  have HX1 := Lib.hid (HX.out.only O1.out (Ne.symm hgX))
  clear HR HX HV O1
  obtain ⟨N, hN⟩ : ∃ N, N = (vget r).1 := ⟨_, rfl⟩
  have hN64 : N < 18446744073709551616 := by
    rw [hN]
    by_cases he : (vget r).2.2 = 0
    · exact (vget_got (l := r) (n := (vget r).1) (k := (vget r).2.1) (by ext <;> simp [he])).1
    · rcases vget_bad he with ⟨e, _⟩ | ⟨e, _⟩ <;> rw [e] <;> decide
  have hwl : IntKind.u64.wrap ((last.size : Nat) : Int) = ((last.size : Nat) : Int) := wrap_u64_in _ (by omega)
  rw [← hN]
  have HN := Lib.hid hN
  clear hN
  by_cases hlt : last.size < N
  · have hd : decide (((last.size : Nat) : Int) < (N : Int)) = true := by simp; omega
    have HRE : Hid (rdE last.data.toList r bad = (Ent.none, r.drop (vget r).2.1, true)) := by
      show _ = _
      unfold rdE
      rw [if_pos (by rw [size_data, ← HN.out]; exact hlt)]
    have x0 := HX1.out.cellv 0 (.string ⟨#[]⟩) rfl
    have g1 := Blk.cellv R1.out 1 _ rfl
    have gf := Blk.free R1.out 1
    have HR2 := Lib.hid (Blk.set R1.out 1 (.bool true))
    have hO := Only.set w1 g 1 (.bool true)
    have HX2 := Lib.hid (HX1.out.only hO (Ne.symm hgX))
    have HB2 := Lib.hid (Only.below HB1.out hO hg HB1.out.size)
    have HO2 := Lib.hid (HO1.out.trans hO)
    clear hO
    go_upto_region 4 with (fail)
    clear x0 g1 gf
    generalize w1.setCell ⟨g, 1, none⟩ (.bool true) = w2 at HR2 HX2 HB2 HO2 ⊢
    have x0 := HX2.out.cellv 0 (.string ⟨#[]⟩) rfl
    have x1 := HX2.out.cellv 1 (.int .u64 0) rfl
    have x2 := HX2.out.cellv 2 (.bool false) rfl
    have x3 := HX2.out.cellv 3 (.string ⟨#[]⟩) rfl
    have f0 := HX2.out.free 0
    have f1 := HX2.out.free 1
    have f2 := HX2.out.free 2
    have f3 := HX2.out.free 3
    go_wp2_with fail
    have hXf := (((HX2.out.set 0 (.string ⟨#[]⟩)).set 1 (.int .u64 0)).set 2 (.bool false)).set 3 (.string ⟨#[]⟩)
    have hO4 : Only w (((( w2.setCell ⟨w.heap.size, 0, none⟩ (.string ⟨#[]⟩)).setCell ⟨w.heap.size, 1, none⟩ (.int .u64 0)).setCell ⟨w.heap.size, 2, none⟩ (.bool false)).setCell ⟨w.heap.size, 3, none⟩ (.string ⟨#[]⟩)) g :=
      only_new (only_new (only_new (only_new HO2.out (Nat.le_refl _) 0 _) (Nat.le_refl _) 1 _) (Nat.le_refl _) 2 _) (Nat.le_refl _) 3 _
    refine bodyPost_ret (res_entry rfl hXf) rfl ?_
    refine ⟨v1, by rw [HRE.out]; rfl, ?_, by rw [HRE.out]; exact V1, Only.below HB.out hO4 hg HB.out.size, hO4⟩
    rw [HRE.out]
    exact (((Blk.set_other HR2.out ⟨w.heap.size, 0, none⟩ (Ne.symm hgX) _).set_other ⟨w.heap.size, 1, none⟩ (Ne.symm hgX) _).set_other ⟨w.heap.size, 2, none⟩ (Ne.symm hgX) _).set_other ⟨w.heap.size, 3, none⟩ (Ne.symm hgX) _
  · have hd : decide (((last.size : Nat) : Int) < (N : Int)) = false := by simp; omega
    have hNl : (N : Int) ≤ ((last.size : Nat) : Int) := by omega
    obtain ⟨r1, hr1⟩ : ∃ r1, r1 = r.drop (vget r).2.1 := ⟨_, rfl⟩
    obtain ⟨b1, hb1⟩ : ∃ b1, b1 = (bad || decide ((vget r).2.2 ≠ 0)) := ⟨_, rfl⟩
    rw [← hr1] at V1
    rw [← hb1] at R1
    have HRL1 : Hid (r1.length ≤ 140737488351232) := by show _ ≤ _; rw [hr1, List.length_drop]; omega
    have HRE : Hid (rdE last.data.toList r bad = rdE2 (last.data.toList.take N) r1 b1) := by
      show _ = _
      rw [rdE_eq, if_neg (by rw [size_data, ← HN.out]; exact hlt), ← hr1, ← hb1, ← HN.out]
    clear hr1 hb1
    have hdw : Below w1.heap.size w1 w1.drew := (Below.refl _ _).drew
    have HRD := Lib.hid (Blk.below R1.out hdw)
    have HBD := Lib.hid (HB1.out.trans (hdw.mono HB1.out.size))
    have HXD := Lib.hid (HX1.out.below hdw)
    have HOD := Lib.hid (HO1.out.trans (Only.of_below hdw))
    clear hdw R1 HX1 HB1 HO1
    obtain ⟨S, hS⟩ : ∃ S, S = bs (tget r1).1 := ⟨_, rfl⟩
    have hTB := textB_any w0 w1.drew g v1 r1 b1 HRD.out V1.out HBD.out
    rw [← hS] at hTB
    have HTB := Lib.hid hTB
    have hS1 : S.size ≤ 140737488351232 := by
      rw [hS, bs_size]
      by_cases he : (tget r1).2.2 = 0
      · have := (tget_got (l := r1) (s := (tget r1).1) (k := (tget r1).2.1) (by ext <;> simp [he]))
        have := HRL1.out
        omega
      · rcases tget_err he with e | e <;> rw [e] <;> decide
    have HSE := Lib.hid hS
    have hex : (last.extract 0 N).size = N := by rw [ByteArray.size_extract]; omega
    have HKB : Hid ((last.extract 0 N ++ S) = bs (last.data.toList.take N ++ (tget r1).1)) := by
      show _ = _
      rw [hS]
      apply ByteArray.ext
      rw [ByteArray.data_append, ByteArray.data_extract]
      apply Array.ext'
      rw [Array.toList_append, Array.toList_extract, List.extract_eq_take_drop]
      simp [bs]
    have hcat : (N : Int) + (S.size : Int) ≤ 9223372036854775807 := by omega
    clear hTB hS
    go_upto_region 5 with (fail)
    go_region_with ((go_at_call 78; refine HTB.out.mono ?_; rintro e w2 ⟨v2, rfl, R2, V2, O2⟩; have HX2 := Lib.hid (HXD.out.only O2.out (Ne.symm hgX)); have x0 := HX2.out.cellv 0 (.string ⟨#[]⟩) rfl; have f0 := HX2.out.free 0))
    have hO3 := only_new (HOD.out.trans O2.out) (Nat.le_refl _) 0 (.string (last.extract 0 N ++ S))
    have hX3 : Blk (w2.setCell ⟨w.heap.size, 0, none⟩ (.string (last.extract 0 N ++ S))) w.heap.size #[.string (last.extract 0 N ++ S), .int .u64 0, .bool false, .string ⟨#[]⟩] 37 := HX2.out.set 0 _
    have hR3 : Rdb (w2.setCell ⟨w.heap.size, 0, none⟩ (.string (last.extract 0 N ++ S))) g v2 _ := Blk.set_other R2.out ⟨w.heap.size, 0, none⟩ (Ne.symm hgX) (.string (last.extract 0 N ++ S))
    obtain ⟨r2, hr2⟩ : ∃ x, x = r1.drop (tget r1).2.1 := ⟨_, rfl⟩
    obtain ⟨b2, hb2⟩ : ∃ x, x = (b1 || decide ((tget r1).2.2 ≠ 0)) := ⟨_, rfl⟩
    obtain ⟨key, hkey⟩ : ∃ x, x = last.data.toList.take N ++ (tget r1).1 := ⟨_, rfl⟩
    have HRE2 : Hid (rdE last.data.toList r bad = rdE3 key r2 b2) := by show _ = _; rw [HRE.out, rdE2, hkey, hr2, hb2]
    obtain ⟨K, hK⟩ : ∃ x, x = last.extract 0 N ++ S := ⟨_, rfl⟩
    have HKE : Hid (K = bs key) := by show _ = _; rw [hK, HKB.out, hkey]
    rw [← hb2, ← hK] at hR3
    rw [← hK] at hX3 hO3 ⊢
    rw [← hr2] at V2
    have HRL2 : Hid (r2.length ≤ 140737488351232) := by show _ ≤ _; rw [hr2, List.length_drop]; have := HRL1.out; omega
    clear hr2 hb2 hkey hK HRE HKB hcat hex HSE HTB HRD HXD HOD HX2 x0 f0 R2 O2 V1 hNl hd HRL1 hS1
    generalize w2.setCell ⟨w.heap.size, 0, none⟩ (.string K) = w3 at hO3 hX3 hR3 ⊢
    have HO3 := Lib.hid hO3
    have HX3 := Lib.hid hX3
    have HR3 := Lib.hid hR3
    have HB3 := Lib.hid (Only.below HB.out hO3 hg HB.out.size)
    clear hO3 hX3 hR3
    go_upto_region 6 with (fail)
    go_wp2_with fail
    refine (numberB_any w0 w3 g v2 r2 b2 HR3.out V2.out HB3.out).mono ?_
    rintro e w4 ⟨v3, rfl, R4, V3, O4⟩
    have HX4 := Lib.hid (HX3.out.only O4.out (Ne.symm hgX))
    have x1 := HX4.out.cellv 1 (.int .u64 0) rfl
    have f1 := HX4.out.free 1
    obtain ⟨q, hq⟩ : ∃ x, x = (vget r2).1 := ⟨_, rfl⟩
    obtain ⟨r3, hr3⟩ : ∃ x, x = r2.drop (vget r2).2.1 := ⟨_, rfl⟩
    obtain ⟨b3, hb3⟩ : ∃ x, x = (b2 || decide ((vget r2).2.2 ≠ 0)) := ⟨_, rfl⟩
    have HRE3 : Hid (rdE last.data.toList r bad = rdE4 key q r3 b3) := by show _ = _; rw [HRE2.out, rdE3, hq, hr3, hb3]
    rw [← hr3] at V3
    rw [← hb3] at R4
    rw [← hq]
    have HRL3 : Hid (r3.length ≤ 140737488351232) := by show _ ≤ _; rw [hr3, List.length_drop]; have := HRL2.out; omega
    have hO5 := only_new (HO3.out.trans O4.out) (Nat.le_refl _) 1 (.int .u64 q)
    have hX5 : Blk (w4.setCell ⟨w.heap.size, 1, none⟩ (.int .u64 q)) w.heap.size #[.string K, .int .u64 q, .bool false, .string ⟨#[]⟩] 37 := HX4.out.set 1 _
    have hR5 : Rdb (w4.setCell ⟨w.heap.size, 1, none⟩ (.int .u64 q)) g v3 b3 := Blk.set_other R4.out ⟨w.heap.size, 1, none⟩ (Ne.symm hgX) (.int .u64 q)
    clear hq hr3 hb3 HRE2 HX3 HR3 HO3 HB3 V2 HRL2 O4
    go_upto_region 7 with (fail)
    clear x1 f1 HX4 R4
    generalize w4.setCell ⟨w.heap.size, 1, none⟩ (.int .u64 q) = w5 at hO5 hX5 hR5 ⊢
    have HO5 := Lib.hid hO5
    have HX5 := Lib.hid hX5
    have HR5 := Lib.hid hR5
    have HB5 := Lib.hid (Only.below HB.out hO5 hg HB.out.size)
    clear hO5 hX5 hR5
    obtain ⟨a3, n3, c3, rfl, hn3⟩ := rd_len V3.out
    have g0 := Blk.cellv HR5.out 0 (.slice a3 n3 c3) rfl
    cases r3 with
    | nil =>
      obtain rfl : n3 = 0 := by simpa using hn3
      clear hn3
      have g1 := Blk.cellv HR5.out 1 (.bool b3) rfl
      have gf := Blk.free HR5.out 1
      have hO6 := HO5.out.trans (Only.set w5 g 1 (.bool true))
      have hX6 := HX5.out.only (Only.set w5 g 1 (.bool true)) (Ne.symm hgX)
      have hR6 : Rdb (w5.setCell ⟨g, 1, none⟩ (.bool true)) g (.slice a3 0 c3) true := Blk.set HR5.out 1 (.bool true)
      go_upto_region 9 with (fail)
      clear g0 g1 gf
      generalize w5.setCell ⟨g, 1, none⟩ (.bool true) = w6 at hO6 hX6 hR6 ⊢
      have x0 := hX6.cellv 0 (.string K) rfl
      have x1 := hX6.cellv 1 (.int .u64 q) rfl
      have x2 := hX6.cellv 2 (.bool false) rfl
      have x3 := hX6.cellv 3 (.string ⟨#[]⟩) rfl
      have f0 := hX6.free 0
      have f1 := hX6.free 1
      have f2 := hX6.free 2
      have f3 := hX6.free 3
      obtain ⟨y1, y2, y3⟩ := fin4 hX6 hR6 hO6 (Nat.le_refl _) hgX
      have Y1 := Lib.hid y1
      have Y2 := Lib.hid y2
      have Y3 := Lib.hid y3
      clear y1 y2 y3 hO6 hX6 hR6
      go_wp2_with fail
      refine bodyPost_ret (res_entry rfl Y1.out) rfl ?_
      refine ⟨_, by rw [HRE3.out, HKE.out]; rfl, by rw [HRE3.out]; exact Y2, by rw [HRE3.out]; exact V3, Only.below HB.out Y3.out hg HB.out.size, Y3⟩
    | cons d r4 =>
      have hn4 : n3 = r4.length + 1 := by simpa using hn3
      have hn0 : ((n3 : Int) == 0) = false := by simp; omega
      have hn1 : (0 : Int) < (n3 : Int) := by omega
      clear hn4
      obtain ⟨a', c', e1, _, _, hcell⟩ := V3.out.below HB5.out
      obtain ⟨b8, off8, hae, d0⟩ := hcell 0 (by simp)
      simp only [Value.slice.injEq] at e1
      obtain ⟨e1, el, ec⟩ := e1
      rw [hae] at e1
      subst e1
      clear el ec hcell hae
      simp only [List.getElem_cons_zero, Nat.add_zero] at d0
      obtain ⟨D, hD⟩ : ∃ D, D = d.toNat := ⟨_, rfl⟩
      rw [← hD] at d0
      obtain ⟨gone, hgo⟩ : ∃ x, x = decide (D = 1) := ⟨_, rfl⟩
      have hg1 : ((D : Int) == 1) = gone := by
        rw [hgo, Bool.eq_iff_iff]; simp; omega
      have HRE4 : Hid (rdE last.data.toList r bad = rdE5 key q r4 b3 gone) := by show _ = _; rw [HRE3.out, hgo, hD]; rfl
      have x2 := HX5.out.cellv 2 (.bool false) rfl
      have f2 := HX5.out.free 2
      have hO6 := only_new HO5.out (Nat.le_refl _) 2 (.bool gone)
      have hX6 : Blk (w5.setCell ⟨w.heap.size, 2, none⟩ (.bool gone)) w.heap.size #[.string K, .int .u64 q, .bool gone, .string ⟨#[]⟩] 37 := HX5.out.set 2 _
      have hR6 : Rdb (w5.setCell ⟨w.heap.size, 2, none⟩ (.bool gone)) g (.slice (some ⟨b8, off8, none⟩) n3 c3) b3 := Blk.set_other HR5.out ⟨w.heap.size, 2, none⟩ (Ne.symm hgX) (.bool gone)
      clear hgo hD HRE3 hn3
      go_upto_region 11 with (fail)
      clear g0 d0 x2 f2 hg1 hn0 hn1 HX5 HR5 HO5 HB5
      generalize w5.setCell ⟨w.heap.size, 2, none⟩ (.bool gone) = w6 at hO6 hX6 hR6 ⊢
      have HO6 := Lib.hid hO6
      have HX6 := Lib.hid hX6
      have HR6 := Lib.hid hR6
      clear hO6 hX6 hR6
      have htk := tookB_any w0 w6 g _ (d :: r4) b3 1 0 HR6.out V3.out (by simp)
      have HTK := Lib.hid htk
      clear htk
      go_wp2_with fail
      refine HTK.out.mono ?_
      rintro e w7 ⟨v4, rfl, R7, V4, O7⟩
      rw [show (b3 || decide ((0 : Nat) ≠ 0)) = b3 from by simp] at R7
      rw [show (d :: r4).drop 1 = r4 from rfl] at V4
      have HX7 := Lib.hid (HX6.out.only O7.out (Ne.symm hgX))
      have HO7 := Lib.hid (HO6.out.trans O7.out)
      have HB7 := Lib.hid (Only.below HB.out HO7.out hg HB.out.size)
      clear HX6 HR6 HO6 HTK V3 O7
      have x2 := HX7.out.cellv 2 (.bool gone) rfl
      cases gone
      · go_upto_region 13 with (fail)
        clear x2
        have hTB := textB_any w0 w7 g v4 r4 b3 R7.out V4.out HB7.out
        obtain ⟨U, hU⟩ : ∃ U, U = bs (tget r4).1 := ⟨_, rfl⟩
        rw [← hU] at hTB
        have HTB := Lib.hid hTB
        have HUE := Lib.hid hU
        clear hTB hU
        go_wp2_with fail
        refine HTB.out.mono ?_
        rintro e w8 ⟨v5, rfl, R8, V5, O8⟩
        have HX8 := HX7.out.only O8.out (Ne.symm hgX)
        have x3 := HX8.cellv 3 (.string ⟨#[]⟩) rfl
        have f3 := HX8.free 3
        have hO9 := only_new (HO7.out.trans O8.out) (Nat.le_refl _) 3 (.string U)
        have hX9 : Blk (w8.setCell ⟨w.heap.size, 3, none⟩ (.string U)) w.heap.size #[.string K, .int .u64 q, .bool false, .string U] 37 := HX8.set 3 _
        have hR9 : Rdb (w8.setCell ⟨w.heap.size, 3, none⟩ (.string U)) g v5 _ := Blk.set_other R8.out ⟨w.heap.size, 3, none⟩ (Ne.symm hgX) (.string U)
        clear HX7 HO7 HB7 R7 V4 O8 HTB R8
        go_upto_region 14 with (fail)
        clear x3 f3 HX8
        generalize w8.setCell ⟨w.heap.size, 3, none⟩ (.string U) = w9 at hO9 hX9 hR9 ⊢
        have x0 := hX9.cellv 0 (.string K) rfl
        have x1 := hX9.cellv 1 (.int .u64 q) rfl
        have x2 := hX9.cellv 2 (.bool false) rfl
        have x3 := hX9.cellv 3 (.string U) rfl
        have f0 := hX9.free 0
        have f1 := hX9.free 1
        have f2 := hX9.free 2
        have f3 := hX9.free 3
        obtain ⟨y1, y2, y3⟩ := fin4 hX9 hR9 hO9 (Nat.le_refl _) hgX
        have Y1 := Lib.hid y1
        have Y2 := Lib.hid y2
        have Y3 := Lib.hid y3
        clear y1 y2 y3 hO9 hX9 hR9
        go_wp2_with fail
        refine bodyPost_ret (res_entry rfl Y1.out) rfl ?_
        refine ⟨_, by rw [HRE4.out, HKE.out, HUE.out]; rfl, by rw [HRE4.out]; exact Y2, by rw [HRE4.out]; exact V5, Only.below HB.out Y3.out hg HB.out.size, Y3⟩
      · go_upto_region 14 with (fail)
        clear x2
        have x0 := HX7.out.cellv 0 (.string K) rfl
        have x1 := HX7.out.cellv 1 (.int .u64 q) rfl
        have x2 := HX7.out.cellv 2 (.bool true) rfl
        have x3 := HX7.out.cellv 3 (.string ⟨#[]⟩) rfl
        have f0 := HX7.out.free 0
        have f1 := HX7.out.free 1
        have f2 := HX7.out.free 2
        have f3 := HX7.out.free 3
        obtain ⟨y1, y2, y3⟩ := fin4 HX7.out R7.out HO7.out (Nat.le_refl _) hgX
        have Y1 := Lib.hid y1
        have Y2 := Lib.hid y2
        have Y3 := Lib.hid y3
        clear y1 y2 y3
        go_wp2_with fail
        refine bodyPost_ret (res_entry rfl Y1.out) rfl ?_
        refine ⟨_, by rw [HRE4.out, HKE.out]; rfl, by rw [HRE4.out]; exact Y2, by rw [HRE4.out]; exact V4, Only.below HB.out Y3.out hg HB.out.size, Y3⟩
end Go.Proofs.Ytbcnapkbdbefhaa
namespace Go.Proofs.Ytbcnapkbdbefhaa
open Go.RowKit

theorem getD_at (l : List UInt8) (j : Nat) (h : j < l.length) : l.getD j 0 = l[j] := by rw [List.getD_eq_getElem?_getD, List.getElem?_eq_getElem h]; rfl
theorem vget_lt (l : List UInt8) : (vget l).1 < 18446744073709551616 := by
  by_cases he : (vget l).2.2 = 0
  · exact (vget_got (l := l) (n := (vget l).1) (k := (vget l).2.1) (by ext <;> simp [he])).1
  · rcases vget_bad he with ⟨e, _⟩ | ⟨e, _⟩ <;> rw [e] <;> decide
theorem tget_sum (l : List UInt8) : (tget l).1.length + (l.drop (tget l).2.1).length ≤ l.length := by
  by_cases he : (tget l).2.2 = 0
  · have h := tget_got (l := l) (s := (tget l).1) (k := (tget l).2.1) (by ext <;> simp [he])
    rw [List.length_drop]; omega
  · rcases tget_err he with e | e <;> rw [e] <;> simp
theorem rdE5_len (key : List UInt8) (q : Nat) (r4 : List UInt8) (b g : Bool) : (rdE5 key q r4 b g).1.key = key ∧ (rdE5 key q r4 b g).2.1.length ≤ r4.length ∧ (rdE5 key q r4 b g).1.val.length ≤ r4.length ∧ (rdE5 key q r4 b g).1.seq = q := by
  have := tget_sum r4
  cases g
  · simp only [rdE5, Bool.false_eq_true, if_false]
    exact ⟨trivial, by omega, by omega, trivial⟩
  · simp only [rdE5, if_true]
    exact ⟨trivial, Nat.le_refl _, Nat.zero_le _, trivial⟩
theorem rdE4_len (key : List UInt8) (q : Nat) (r3 : List UInt8) (b : Bool) : (rdE4 key q r3 b).1.key = key ∧ (rdE4 key q r3 b).2.1.length ≤ r3.length ∧ (rdE4 key q r3 b).1.val.length ≤ r3.length ∧ (rdE4 key q r3 b).1.seq = q := by
  cases r3 with
  | nil => exact ⟨rfl, Nat.le_refl _, Nat.le_refl _, rfl⟩
  | cons c t =>
    obtain ⟨h1, h2, h3, h4⟩ := rdE5_len key q t b (decide (c.toNat = 1))
    exact ⟨h1, Nat.le_trans h2 (by simp), Nat.le_trans h3 (by simp), h4⟩
theorem rdE_len (last r : List UInt8) (bad : Bool) : (rdE last r bad).1.key.length + (rdE last r bad).2.1.length ≤ last.length + r.length ∧ (rdE last r bad).1.val.length ≤ r.length ∧ (rdE last r bad).1.seq < 18446744073709551616 := by
  rw [rdE_eq]
  split
  · simp only [Ent.none, List.length_nil, List.length_drop]
    exact ⟨by omega, by omega, by decide⟩
  · unfold rdE2 rdE3
    obtain ⟨h1, h2, h3, h4⟩ := rdE4_len (last.take (vget r).1 ++ (tget (r.drop (vget r).2.1)).1) (vget ((r.drop (vget r).2.1).drop (tget (r.drop (vget r).2.1)).2.1)).1
      (((r.drop (vget r).2.1).drop (tget (r.drop (vget r).2.1)).2.1).drop (vget ((r.drop (vget r).2.1).drop (tget (r.drop (vget r).2.1)).2.1)).2.1)
      (bad || decide ((vget r).2.2 ≠ 0) || decide ((tget (r.drop (vget r).2.1)).2.2 ≠ 0) || decide ((vget ((r.drop (vget r).2.1).drop (tget (r.drop (vget r).2.1)).2.1)).2.2 ≠ 0))
    have hs := tget_sum (r.drop (vget r).2.1)
    rw [h1, h4]
    refine ⟨?_, ?_, vget_lt _⟩
    · rw [List.length_append, List.length_take]
      simp only [List.length_drop] at h2 hs ⊢
      omega
    · simp only [List.length_drop] at h3 hs ⊢
      omega
theorem pst_bounds (r0 : List UInt8) (i : Nat) : (pst r0 i).2.1.length + (pst r0 i).2.2.1.length ≤ r0.length ∧ ∀ x ∈ (pst r0 i).1, x.key.length ≤ r0.length ∧ x.val.length ≤ r0.length ∧ x.seq < 18446744073709551616 := by
  induction i with
  | zero => exact ⟨by simp [pst], by simp [pst]⟩
  | succ i ih =>
    obtain ⟨h1, h2⟩ := ih
    obtain ⟨g1, g2, g3⟩ := rdE_len (pst r0 i).2.1 (pst r0 i).2.2.1 (pst r0 i).2.2.2
    refine ⟨by simp only [pst]; omega, fun x hx => ?_⟩
    simp only [pst, List.mem_append, List.mem_singleton] at hx
    rcases hx with hx | hx
    · exact h2 x hx
    · rw [hx]; exact ⟨by omega, by omega, g3⟩

/-- where the places begin -/
def numB (b : List UInt8) : Nat := (b.getD (b.length - 2) 0).toNat * 256 + (b.getD (b.length - 1) 0).toNat
theorem two_num (n : Nat) (h : n < 65536) (l : List UInt8) : numB (l ++ two n) = n := by
  unfold numB
  have e : (l ++ two n).length = l.length + 2 := by rw [List.length_append]; rfl
  rw [e, List.getD_eq_getElem?_getD, List.getD_eq_getElem?_getD, List.getElem?_append_right (by omega), List.getElem?_append_right (by omega), show l.length + 2 - 2 - l.length = 0 from by omega, show l.length + 2 - 1 - l.length = 1 from by omega]
  simp only [two, List.getElem?_cons_zero, List.getElem?_cons_succ, Option.getD_some, UInt8.toNat_ofNat']
  omega
theorem blk_cut {E : List Ent} {b : List UInt8} (hm : mayL E = true) (hb : blkPut E = b) : 2 ≤ b.length ∧ 2 + 2 * numB b ≤ b.length ∧ b.take (b.length - 2 - 2 * numB b) = bodyN E E.length := by
  obtain ⟨h1, _⟩ := (mayL_iff E).1 hm
  have hp := placesN_length E E.length
  have hn : numB b = (placesN E E.length).length := by rw [← hb, blkPut]; exact two_num _ (by rw [hp]; omega) _
  have hl : b.length = (bodyN E E.length).length + 2 * (placesN E E.length).length + 2 := by rw [← hb, blkPut, List.length_append, List.length_append, twos_length]; rfl
  refine ⟨by omega, by omega, ?_⟩
  rw [hn, hl, show (bodyN E E.length).length + 2 * (placesN E E.length).length + 2 - 2 - 2 * (placesN E E.length).length = (bodyN E E.length).length from by omega, ← hb, blkPut, List.append_assoc, List.take_left]
/-- what Get's loop ends with, if the bytes are a block's -/
theorem get_end {E : List Ent} {r0 : List UInt8} {i : Nat} (hm : mayL E = true) (hs : ∀ x ∈ E, x.seq < 18446744073709551616) (hr : r0 = bodyN E E.length) (hi : ∀ j, j < i → (pst r0 j).2.2.1 ≠ [])
    (hend : (pst r0 i).2.2.1 = [] ∨ (pst r0 i).2.2.2 = true ∨ 64 < i) : (pst r0 i).1 = E ∧ (pst r0 i).2.2.2 = false := by
  obtain ⟨h1, h2⟩ := (mayL_iff E).1 hm
  subst hr
  have hE := pst_body E h2 hs E.length (Nat.le_refl _)
  have hile : i ≤ E.length := by
    by_cases h : E.length < i
    · exact absurd (by rw [hE]; simp) (hi _ h)
    · omega
  have hI := pst_body E h2 hs i hile
  have hie : i = E.length := by
    by_cases h : i < E.length
    · rcases hend with h3 | h3 | h3
      · rw [hI] at h3
        have := body_grows E i E.length h
        have h4 := congrArg List.length h3
        simp at h4; omega
      · rw [hI] at h3; cases h3
      · omega
    · omega
  rw [hI, hie]
  simp
def toPE (x : Ent) : PE := ⟨bs x.key, x.seq, x.gone, bs x.val⟩
theorem toPE_ent (x : Ent) : (toPE x).ent = x := by cases x; simp [toPE, PE.ent, entOf, bs_data]
theorem entsOf_toPE (E : List Ent) : entsOf (E.map toPE) = E := by
  unfold entsOf
  rw [List.map_map]
  conv => rhs; rw [← List.map_id E]
  exact List.map_congr_left fun x _ => toPE_ent x
/-- entries' cells -/
def pcell (x : PE) : List Value := [.string x.k, .int .u64 x.s, .bool x.g, .string x.u]
def pcells (l : List PE) : List Value := l.flatMap pcell
theorem pcells_length (l : List PE) : (pcells l).length = l.length * 4 := flatM_length pcell 4 (fun _ => rfl) l
theorem pcells_app (l m : List PE) : pcells (l ++ m) = pcells l ++ pcells m := by simp [pcells]
theorem one_pcells (l : List PE) : ∀ u ∈ pcells l, u.oneCell' = true := by
  intro u hu
  obtain ⟨x, _, h⟩ := List.mem_flatMap.1 hu
  simp only [pcell, List.mem_cons, List.not_mem_nil, or_false] at h
  rcases h with rfl | rfl | rfl | rfl <;> rfl
theorem rdE_of {w : World} {v : Value} {n : Nat} {l : List PE} (h : Reads w 4 v n (pcells l)) : n = l.length ∧ RdE w v l := by
  obtain ⟨a, cap, rfl, hl, hc, hm, hr⟩ := h
  rw [pcells_length] at hl
  have hn : n = l.length := by omega
  subst hn
  refine ⟨rfl, a, cap, rfl, hc, hm, fun j hj => ?_⟩
  have hg := fun i (hi : i < 4) => flatM_get pcell 4 (fun _ => rfl) l j i hj hi
  have key : ∀ i, i < 4 → ∃ b off, a = some ⟨b, off, none⟩ ∧ w.cell? ⟨b, off + (j * 4 + i), none⟩ = (pcell l[j])[i]? := fun i hi => by
    have hlt : j * 4 + i < (pcells l).length := by rw [pcells_length]; omega
    obtain ⟨b, off, e, c⟩ := hr (j * 4 + i) hlt
    exact ⟨b, off, e, by rw [c, ← hg i hi]; exact (List.getElem?_eq_getElem hlt).symm⟩
  obtain ⟨b, off, e, c0⟩ := key 0 (by omega)
  obtain ⟨b1, off1, e1, c1⟩ := key 1 (by omega)
  obtain ⟨b2, off2, e2, c2⟩ := key 2 (by omega)
  obtain ⟨b3, off3, e3, c3⟩ := key 3 (by omega)
  rw [e] at e1 e2 e3
  cases e1; cases e2; cases e3
  exact ⟨b, off, e, c0, by rw [Nat.add_assoc]; exact c1, by rw [Nat.add_assoc]; exact c2, by rw [Nat.add_assoc]; exact c3⟩
end Go.Proofs.Ytbcnapkbdbefhaa

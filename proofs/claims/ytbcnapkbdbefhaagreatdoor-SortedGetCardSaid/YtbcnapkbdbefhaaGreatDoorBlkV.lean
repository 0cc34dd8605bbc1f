/- Walks of package blocks: the reader's entry. The condition: bytes of less than 2^47. | Blocks, plain: what Get answers. No program stands in this text; no condition. | Walks of package blocks: Get. The condition: bytes of at most 2^28. | Blocks, plain: no block begins another one; the parts of a block behind fours. No program stands in this text; no condition. | Plain: one block is of one list of entries alone. No condition. -/
import Derived.Test.YtbcnapkbdbefhaaGreatDoorBlocksA
namespace Go.Proofs.YtbcnapkbdbefhaaGreatDoor
open Go.RowKit

set_option maxRecDepth 100000 in
set_option maxHeartbeats 400000 in
theorem res_entry {tmps : Array Value} {w : World} {c : Nat} {k u : ByteArray} {s : Nat} {b : Bool} (hp : tmps[4]?.getD undef = .pointer (some ⟨c, 0, none⟩)) (hX : Blk w c #[.string k, .int .u64 s, .bool b, .string u] 34) :
    (results Tryz.f152 tmps).run Tryz.prog w = .ok (.agg #[.string k, .int .u64 s, .bool b, .string u]) w := by
  have c0 := hX.cellv 0 (.string k) rfl
  have c1 := hX.cellv 1 (.int .u64 s) rfl
  have c2 := hX.cellv 2 (.bool b) rfl
  have c3 := hX.cellv 3 (.string u) rfl
  simp only [results, Tryz.results152]
  simp [go_sem, hp, c0, c1, c2, c3]
theorem only_new {w w' : World} {g c : Nat} (h : Only w w' g) (hc : w.heap.size ≤ c) (i : Nat) (x : Value) : Only w (w'.setCell ⟨c, i, none⟩ x) g := by
  obtain ⟨a1, a2, a3, a4, a5⟩ := h
  obtain ⟨b1, b2, b3, b4, b5⟩ := Only.set w' c i x
  exact ⟨b1.trans a1, b2.trans a2, b3.trans a3, Nat.le_trans a4 b4, fun k hk hne => (b5 k (Nat.lt_of_lt_of_le hk a4) (fun e => by simp at e; omega)).trans (a5 k hk hne)⟩
/-- an entry, read: its values -/
def entVals (x : Ent) : Array Value := #[.string (bs x.key), .int .u64 x.seq, .bool x.gone, .string (bs x.val)]
def rdE5 (key : List UInt8) (q : Nat) (r4 : List UInt8) (b : Bool) (gone : Bool) : Ent × List UInt8 × Bool :=
  if gone then (⟨key, q, true, []⟩, r4, b) else (⟨key, q, false, (tget r4).1⟩, r4.drop (tget r4).2.1, b || decide ((tget r4).2.2 ≠ 0))
def rdE4 (key : List UInt8) (q : Nat) (r3 : List UInt8) (b3 : Bool) : Ent × List UInt8 × Bool :=
  match r3 with
  | [] => (⟨key, q, false, []⟩, [], true)
  | c :: r4 => rdE5 key q r4 b3 (decide (c.toNat = 1))
/-- what is read behind the key -/
def rdE3 (key r2 : List UInt8) (b2 : Bool) : Ent × List UInt8 × Bool :=
  rdE4 key (vget r2).1 (r2.drop (vget r2).2.1) (b2 || decide ((vget r2).2.2 ≠ 0))
/-- what is read behind the first number -/
def rdE2 (pre r1 : List UInt8) (b1 : Bool) : Ent × List UInt8 × Bool :=
  rdE3 (pre ++ (tget r1).1) (r1.drop (tget r1).2.1) (b1 || decide ((tget r1).2.2 ≠ 0))
theorem rdE4_eq (key : List UInt8) (q : Nat) (r3 : List UInt8) (b3 : Bool) : rdE4 key q r3 b3 = (match r3 with
    | [] => (⟨key, q, false, []⟩, [], true)
    | c :: r4 => if c.toNat = 1 then (⟨key, q, true, []⟩, r4, b3) else (⟨key, q, false, (tget r4).1⟩, r4.drop (tget r4).2.1, b3 || decide ((tget r4).2.2 ≠ 0))) := by
  cases r3 with
  | nil => rfl
  | cons c t =>
    show rdE5 key q t b3 (decide (c.toNat = 1)) = _
    unfold rdE5
    by_cases hc : c.toNat = 1 <;> simp [hc]
theorem rdE_eq (last r : List UInt8) (bad : Bool) : rdE last r bad = if last.length < (vget r).1 then (Ent.none, r.drop (vget r).2.1, true) else rdE2 (last.take (vget r).1) (r.drop (vget r).2.1) (bad || decide ((vget r).2.2 ≠ 0)) := by
  unfold rdE rdE2 rdE3
  rw [rdE4_eq]
  rfl
theorem fin4 {w w' : World} {g c : Nat} {v : Value} {bad : Bool} {x0 x1 x2 x3 : Value} {t : TypeId} (hX : Blk w' c #[x0, x1, x2, x3] t) (hR : Rdb w' g v bad) (hO : Only w w' g) (hc : w.heap.size ≤ c) (hne : g ≠ c) :
    Blk ((((w'.setCell ⟨c, 0, none⟩ x0).setCell ⟨c, 1, none⟩ x1).setCell ⟨c, 2, none⟩ x2).setCell ⟨c, 3, none⟩ x3) c #[x0, x1, x2, x3] t ∧
    Rdb ((((w'.setCell ⟨c, 0, none⟩ x0).setCell ⟨c, 1, none⟩ x1).setCell ⟨c, 2, none⟩ x2).setCell ⟨c, 3, none⟩ x3) g v bad ∧
    Only w ((((w'.setCell ⟨c, 0, none⟩ x0).setCell ⟨c, 1, none⟩ x1).setCell ⟨c, 2, none⟩ x2).setCell ⟨c, 3, none⟩ x3) g :=
  ⟨(((hX.set 0 x0).set 1 x1).set 2 x2).set 3 x3, (((Blk.set_other hR ⟨c, 0, none⟩ hne.symm x0).set_other ⟨c, 1, none⟩ hne.symm x1).set_other ⟨c, 2, none⟩ hne.symm x2).set_other ⟨c, 3, none⟩ hne.symm x3,
    only_new (only_new (only_new (only_new hO hc 0 _) hc 1 _) hc 2 _) hc 3 _⟩
set_option maxRecDepth 100000 in
set_option maxHeartbeats 4000000 in
theorem entryB_any (w0 w : World) (g : Nat) (v : Value) (last : ByteArray) (r : List UInt8) (bad : Bool) (h : Rdb w g v bad) (hv : Rd w0 v r) (hbel : Below w0.heap.size w0 w) (hg : w0.heap.size ≤ g) (hl : last.size ≤ 140737488351232) (hrl : r.length ≤ 140737488351232) :
    Calls Tryz.prog 152 #[.pointer (some ⟨g, 0, none⟩), .string last] w fun en w' => ∃ v', en = .returned (.agg (entVals (rdE last.data.toList r bad).1)) ∧
      Hid (Rdb w' g v' (rdE last.data.toList r bad).2.2) ∧ Hid (Rd w0 v' (rdE last.data.toList r bad).2.1) ∧ Hid (Below w0.heap.size w0 w') ∧ Hid (Only w w' g) := by
  have HV := Lib.hid hv
  have HB := Lib.hid hbel
  have hgl := h.lt
  obtain ⟨W, hW⟩ : ∃ W, W = w.alloc (.cells #[.string ⟨#[]⟩, .int .u64 0, .bool false, .string ⟨#[]⟩] 34) := ⟨_, rfl⟩
  have hX : Blk W w.heap.size #[.string ⟨#[]⟩, .int .u64 0, .bool false, .string ⟨#[]⟩] 34 := by rw [hW]; exact Blk.new _ _ _
  have hbW : Below w.heap.size w W := by rw [hW]; exact (Below.refl _ _).alloc (Nat.le_refl _) _
  have HW := Lib.hid hW
  have HX := Lib.hid hX
  have HR : Hid (Rdb W g v bad) := Blk.below h hbW
  clear hW hX h hv hbel
  go_enter Tryz.func152, Tryz.ntmps152
  go_upto_region 1 with (fail)
  rw [← HW.out]
  have hgX : g ≠ w.heap.size := by omega
  have HBW : Hid (Below w0.heap.size w0 W) := HB.out.trans (hbW.mono HB.out.size)
  have HO0 : Hid (Only w W g) := Only.of_below hbW
  go_wp2_with fail
  refine (numberB_any w0 W g v r bad HR.out HV.out HBW.out).mono ?_
  rintro e w1 ⟨v1, rfl, R1, V1, O1⟩
  have HO1 := Lib.hid (HO0.out.trans O1.out)
  have HB1 := Lib.hid (Only.below HBW.out O1.out hg HBW.out.size)
  have HX1 := Lib.hid (HX.out.only O1.out (Ne.symm hgX))
  clear HR HX HV O1
  obtain ⟨N, hN⟩ : ∃ N, N = (vget r).1 := ⟨_, rfl⟩
  have hN64 : N < 18446744073709551616 := by
    rw [hN]
    by_cases he : (vget r).2.2 = 0
    · exact (vget_got (l := r) (n := (vget r).1) (k := (vget r).2.1) (by ext <;> simp [he])).1
    · rcases vget_bad he with ⟨e, _⟩ | ⟨e, _⟩ <;> rw [e] <;> decide
  have hwl : IntKind.u64.wrap ((last.size : Nat) : Int) = ((last.size : Nat) : Int) := wrap_u64_in _ (by omega)
  rw [← hN]
  have HN := Lib.hid hN
  clear hN
  by_cases hlt : last.size < N
  · have hd : decide (((last.size : Nat) : Int) < (N : Int)) = true := by simp; omega
    have HRE : Hid (rdE last.data.toList r bad = (Ent.none, r.drop (vget r).2.1, true)) := by
      show _ = _
      unfold rdE
      rw [if_pos (by rw [size_data, ← HN.out]; exact hlt)]
    have x0 := HX1.out.cellv 0 (.string ⟨#[]⟩) rfl
    have g1 := Blk.cellv R1.out 1 _ rfl
    have gf := Blk.free R1.out 1
    have HR2 := Lib.hid (Blk.set R1.out 1 (.bool true))
    have hO := Only.set w1 g 1 (.bool true)
    have HX2 := Lib.hid (HX1.out.only hO (Ne.symm hgX))
    have HB2 := Lib.hid (Only.below HB1.out hO hg HB1.out.size)
    have HO2 := Lib.hid (HO1.out.trans hO)
    clear hO
    go_upto_region 4 with (fail)
    clear x0 g1 gf
    generalize w1.setCell ⟨g, 1, none⟩ (.bool true) = w2 at HR2 HX2 HB2 HO2 ⊢
    have x0 := HX2.out.cellv 0 (.string ⟨#[]⟩) rfl
    have x1 := HX2.out.cellv 1 (.int .u64 0) rfl
    have x2 := HX2.out.cellv 2 (.bool false) rfl
    have x3 := HX2.out.cellv 3 (.string ⟨#[]⟩) rfl
    have f0 := HX2.out.free 0
    have f1 := HX2.out.free 1
    have f2 := HX2.out.free 2
    have f3 := HX2.out.free 3
    go_wp2_with fail
    have hXf := (((HX2.out.set 0 (.string ⟨#[]⟩)).set 1 (.int .u64 0)).set 2 (.bool false)).set 3 (.string ⟨#[]⟩)
    have hO4 : Only w (((( w2.setCell ⟨w.heap.size, 0, none⟩ (.string ⟨#[]⟩)).setCell ⟨w.heap.size, 1, none⟩ (.int .u64 0)).setCell ⟨w.heap.size, 2, none⟩ (.bool false)).setCell ⟨w.heap.size, 3, none⟩ (.string ⟨#[]⟩)) g :=
      only_new (only_new (only_new (only_new HO2.out (Nat.le_refl _) 0 _) (Nat.le_refl _) 1 _) (Nat.le_refl _) 2 _) (Nat.le_refl _) 3 _
    refine bodyPost_ret (res_entry rfl hXf) rfl ?_
    refine ⟨v1, by rw [HRE.out]; rfl, ?_, by rw [HRE.out]; exact V1, Only.below HB.out hO4 hg HB.out.size, hO4⟩
    rw [HRE.out]
    exact (((Blk.set_other HR2.out ⟨w.heap.size, 0, none⟩ (Ne.symm hgX) _).set_other ⟨w.heap.size, 1, none⟩ (Ne.symm hgX) _).set_other ⟨w.heap.size, 2, none⟩ (Ne.symm hgX) _).set_other ⟨w.heap.size, 3, none⟩ (Ne.symm hgX) _
  · have hd : decide (((last.size : Nat) : Int) < (N : Int)) = false := by simp; omega
    have hNl : (N : Int) ≤ ((last.size : Nat) : Int) := by omega
    obtain ⟨r1, hr1⟩ : ∃ r1, r1 = r.drop (vget r).2.1 := ⟨_, rfl⟩
    obtain ⟨b1, hb1⟩ : ∃ b1, b1 = (bad || decide ((vget r).2.2 ≠ 0)) := ⟨_, rfl⟩
    rw [← hr1] at V1
    rw [← hb1] at R1
    have HRL1 : Hid (r1.length ≤ 140737488351232) := by show _ ≤ _; rw [hr1, List.length_drop]; omega
    have HRE : Hid (rdE last.data.toList r bad = rdE2 (last.data.toList.take N) r1 b1) := by
      show _ = _
      rw [rdE_eq, if_neg (by rw [size_data, ← HN.out]; exact hlt), ← hr1, ← hb1, ← HN.out]
    clear hr1 hb1
    have hdw : Below w1.heap.size w1 w1.drew := (Below.refl _ _).drew
    have HRD := Lib.hid (Blk.below R1.out hdw)
    have HBD := Lib.hid (HB1.out.trans (hdw.mono HB1.out.size))
    have HXD := Lib.hid (HX1.out.below hdw)
    have HOD := Lib.hid (HO1.out.trans (Only.of_below hdw))
    clear hdw R1 HX1 HB1 HO1
    obtain ⟨S, hS⟩ : ∃ S, S = bs (tget r1).1 := ⟨_, rfl⟩
    have hTB := textB_any w0 w1.drew g v1 r1 b1 HRD.out V1.out HBD.out
    rw [← hS] at hTB
    have HTB := Lib.hid hTB
    have hS1 : S.size ≤ 140737488351232 := by
      rw [hS, bs_size]
      by_cases he : (tget r1).2.2 = 0
      · have := (tget_got (l := r1) (s := (tget r1).1) (k := (tget r1).2.1) (by ext <;> simp [he]))
        have := HRL1.out
        omega
      · rcases tget_err he with e | e <;> rw [e] <;> decide
    have HSE := Lib.hid hS
    have hex : (last.extract 0 N).size = N := by rw [ByteArray.size_extract]; omega
    have HKB : Hid ((last.extract 0 N ++ S) = bs (last.data.toList.take N ++ (tget r1).1)) := by
      show _ = _
      rw [hS]
      apply ByteArray.ext
      rw [ByteArray.data_append, ByteArray.data_extract]
      apply Array.ext'
      rw [Array.toList_append, Array.toList_extract, List.extract_eq_take_drop]
      simp [bs]
    have hcat : (N : Int) + (S.size : Int) ≤ 9223372036854775807 := by omega
    clear hTB hS
    go_upto_region 5 with (fail)
    go_region_with ((go_at_call 170; refine HTB.out.mono ?_; rintro e w2 ⟨v2, rfl, R2, V2, O2⟩; have HX2 := Lib.hid (HXD.out.only O2.out (Ne.symm hgX)); have x0 := HX2.out.cellv 0 (.string ⟨#[]⟩) rfl; have f0 := HX2.out.free 0))
    have hO3 := only_new (HOD.out.trans O2.out) (Nat.le_refl _) 0 (.string (last.extract 0 N ++ S))
    have hX3 : Blk (w2.setCell ⟨w.heap.size, 0, none⟩ (.string (last.extract 0 N ++ S))) w.heap.size #[.string (last.extract 0 N ++ S), .int .u64 0, .bool false, .string ⟨#[]⟩] 34 := HX2.out.set 0 _
    have hR3 : Rdb (w2.setCell ⟨w.heap.size, 0, none⟩ (.string (last.extract 0 N ++ S))) g v2 _ := Blk.set_other R2.out ⟨w.heap.size, 0, none⟩ (Ne.symm hgX) (.string (last.extract 0 N ++ S))
    obtain ⟨r2, hr2⟩ : ∃ x, x = r1.drop (tget r1).2.1 := ⟨_, rfl⟩
    obtain ⟨b2, hb2⟩ : ∃ x, x = (b1 || decide ((tget r1).2.2 ≠ 0)) := ⟨_, rfl⟩
    obtain ⟨key, hkey⟩ : ∃ x, x = last.data.toList.take N ++ (tget r1).1 := ⟨_, rfl⟩
    have HRE2 : Hid (rdE last.data.toList r bad = rdE3 key r2 b2) := by show _ = _; rw [HRE.out, rdE2, hkey, hr2, hb2]
    obtain ⟨K, hK⟩ : ∃ x, x = last.extract 0 N ++ S := ⟨_, rfl⟩
    have HKE : Hid (K = bs key) := by show _ = _; rw [hK, HKB.out, hkey]
    rw [← hb2, ← hK] at hR3
    rw [← hK] at hX3 hO3 ⊢
    rw [← hr2] at V2
    have HRL2 : Hid (r2.length ≤ 140737488351232) := by show _ ≤ _; rw [hr2, List.length_drop]; have := HRL1.out; omega
    clear hr2 hb2 hkey hK HRE HKB hcat hex HSE HTB HRD HXD HOD HX2 x0 f0 R2 O2 V1 hNl hd HRL1 hS1
    generalize w2.setCell ⟨w.heap.size, 0, none⟩ (.string K) = w3 at hO3 hX3 hR3 ⊢
    have HO3 := Lib.hid hO3
    have HX3 := Lib.hid hX3
    have HR3 := Lib.hid hR3
    have HB3 := Lib.hid (Only.below HB.out hO3 hg HB.out.size)
    clear hO3 hX3 hR3
    go_upto_region 6 with (fail)
    go_wp2_with fail
    refine (numberB_any w0 w3 g v2 r2 b2 HR3.out V2.out HB3.out).mono ?_
    rintro e w4 ⟨v3, rfl, R4, V3, O4⟩
    have HX4 := Lib.hid (HX3.out.only O4.out (Ne.symm hgX))
    have x1 := HX4.out.cellv 1 (.int .u64 0) rfl
    have f1 := HX4.out.free 1
    obtain ⟨q, hq⟩ : ∃ x, x = (vget r2).1 := ⟨_, rfl⟩
    obtain ⟨r3, hr3⟩ : ∃ x, x = r2.drop (vget r2).2.1 := ⟨_, rfl⟩
    obtain ⟨b3, hb3⟩ : ∃ x, x = (b2 || decide ((vget r2).2.2 ≠ 0)) := ⟨_, rfl⟩
    have HRE3 : Hid (rdE last.data.toList r bad = rdE4 key q r3 b3) := by show _ = _; rw [HRE2.out, rdE3, hq, hr3, hb3]
    rw [← hr3] at V3
    rw [← hb3] at R4
    rw [← hq]
    have HRL3 : Hid (r3.length ≤ 140737488351232) := by show _ ≤ _; rw [hr3, List.length_drop]; have := HRL2.out; omega
    have hO5 := only_new (HO3.out.trans O4.out) (Nat.le_refl _) 1 (.int .u64 q)
    have hX5 : Blk (w4.setCell ⟨w.heap.size, 1, none⟩ (.int .u64 q)) w.heap.size #[.string K, .int .u64 q, .bool false, .string ⟨#[]⟩] 34 := HX4.out.set 1 _
    have hR5 : Rdb (w4.setCell ⟨w.heap.size, 1, none⟩ (.int .u64 q)) g v3 b3 := Blk.set_other R4.out ⟨w.heap.size, 1, none⟩ (Ne.symm hgX) (.int .u64 q)
    clear hq hr3 hb3 HRE2 HX3 HR3 HO3 HB3 V2 HRL2 O4
    go_upto_region 7 with (fail)
    clear x1 f1 HX4 R4
    generalize w4.setCell ⟨w.heap.size, 1, none⟩ (.int .u64 q) = w5 at hO5 hX5 hR5 ⊢
    have HO5 := Lib.hid hO5
    have HX5 := Lib.hid hX5
    have HR5 := Lib.hid hR5
    have HB5 := Lib.hid (Only.below HB.out hO5 hg HB.out.size)
    clear hO5 hX5 hR5
    obtain ⟨a3, n3, c3, rfl, hn3⟩ := rd_len V3.out
    have g0 := Blk.cellv HR5.out 0 (.slice a3 n3 c3) rfl
    cases r3 with
    | nil =>
      obtain rfl : n3 = 0 := by simpa using hn3
      clear hn3
      have g1 := Blk.cellv HR5.out 1 (.bool b3) rfl
      have gf := Blk.free HR5.out 1
      have hO6 := HO5.out.trans (Only.set w5 g 1 (.bool true))
      have hX6 := HX5.out.only (Only.set w5 g 1 (.bool true)) (Ne.symm hgX)
      have hR6 : Rdb (w5.setCell ⟨g, 1, none⟩ (.bool true)) g (.slice a3 0 c3) true := Blk.set HR5.out 1 (.bool true)
      go_upto_region 9 with (fail)
      clear g0 g1 gf
      generalize w5.setCell ⟨g, 1, none⟩ (.bool true) = w6 at hO6 hX6 hR6 ⊢
      have x0 := hX6.cellv 0 (.string K) rfl
      have x1 := hX6.cellv 1 (.int .u64 q) rfl
      have x2 := hX6.cellv 2 (.bool false) rfl
      have x3 := hX6.cellv 3 (.string ⟨#[]⟩) rfl
      have f0 := hX6.free 0
      have f1 := hX6.free 1
      have f2 := hX6.free 2
      have f3 := hX6.free 3
      obtain ⟨y1, y2, y3⟩ := fin4 hX6 hR6 hO6 (Nat.le_refl _) hgX
      have Y1 := Lib.hid y1
      have Y2 := Lib.hid y2
      have Y3 := Lib.hid y3
      clear y1 y2 y3 hO6 hX6 hR6
      go_wp2_with fail
      refine bodyPost_ret (res_entry rfl Y1.out) rfl ?_
      refine ⟨_, by rw [HRE3.out, HKE.out]; rfl, by rw [HRE3.out]; exact Y2, by rw [HRE3.out]; exact V3, Only.below HB.out Y3.out hg HB.out.size, Y3⟩
    | cons d r4 =>
      have hn4 : n3 = r4.length + 1 := by simpa using hn3
      have hn0 : ((n3 : Int) == 0) = false := by simp; omega
      have hn1 : (0 : Int) < (n3 : Int) := by omega
      clear hn4
      obtain ⟨a', c', e1, _, _, hcell⟩ := V3.out.below HB5.out
      obtain ⟨b8, off8, hae, d0⟩ := hcell 0 (by simp)
      simp only [Value.slice.injEq] at e1
      obtain ⟨e1, el, ec⟩ := e1
      rw [hae] at e1
      subst e1
      clear el ec hcell hae
      simp only [List.getElem_cons_zero, Nat.add_zero] at d0
      obtain ⟨D, hD⟩ : ∃ D, D = d.toNat := ⟨_, rfl⟩
      rw [← hD] at d0
      obtain ⟨gone, hgo⟩ : ∃ x, x = decide (D = 1) := ⟨_, rfl⟩
      have hg1 : ((D : Int) == 1) = gone := by
        rw [hgo, Bool.eq_iff_iff]; simp; omega
      have HRE4 : Hid (rdE last.data.toList r bad = rdE5 key q r4 b3 gone) := by show _ = _; rw [HRE3.out, hgo, hD]; rfl
      have x2 := HX5.out.cellv 2 (.bool false) rfl
      have f2 := HX5.out.free 2
      have hO6 := only_new HO5.out (Nat.le_refl _) 2 (.bool gone)
      have hX6 : Blk (w5.setCell ⟨w.heap.size, 2, none⟩ (.bool gone)) w.heap.size #[.string K, .int .u64 q, .bool gone, .string ⟨#[]⟩] 34 := HX5.out.set 2 _
      have hR6 : Rdb (w5.setCell ⟨w.heap.size, 2, none⟩ (.bool gone)) g (.slice (some ⟨b8, off8, none⟩) n3 c3) b3 := Blk.set_other HR5.out ⟨w.heap.size, 2, none⟩ (Ne.symm hgX) (.bool gone)
      clear hgo hD HRE3 hn3
      go_upto_region 11 with (fail)
      clear g0 d0 x2 f2 hg1 hn0 hn1 HX5 HR5 HO5 HB5
      generalize w5.setCell ⟨w.heap.size, 2, none⟩ (.bool gone) = w6 at hO6 hX6 hR6 ⊢
      have HO6 := Lib.hid hO6
      have HX6 := Lib.hid hX6
      have HR6 := Lib.hid hR6
      clear hO6 hX6 hR6
      have htk := tookB_any w0 w6 g _ (d :: r4) b3 1 0 HR6.out V3.out (by simp)
      have HTK := Lib.hid htk
      clear htk
      go_wp2_with fail
      refine HTK.out.mono ?_
      rintro e w7 ⟨v4, rfl, R7, V4, O7⟩
      rw [show (b3 || decide ((0 : Nat) ≠ 0)) = b3 from by simp] at R7
      rw [show (d :: r4).drop 1 = r4 from rfl] at V4
      have HX7 := Lib.hid (HX6.out.only O7.out (Ne.symm hgX))
      have HO7 := Lib.hid (HO6.out.trans O7.out)
      have HB7 := Lib.hid (Only.below HB.out HO7.out hg HB.out.size)
      clear HX6 HR6 HO6 HTK V3 O7
      have x2 := HX7.out.cellv 2 (.bool gone) rfl
      cases gone
      · go_upto_region 13 with (fail)
        clear x2
        have hTB := textB_any w0 w7 g v4 r4 b3 R7.out V4.out HB7.out
        obtain ⟨U, hU⟩ : ∃ U, U = bs (tget r4).1 := ⟨_, rfl⟩
        rw [← hU] at hTB
        have HTB := Lib.hid hTB
        have HUE := Lib.hid hU
        clear hTB hU
        go_wp2_with fail
        refine HTB.out.mono ?_
        rintro e w8 ⟨v5, rfl, R8, V5, O8⟩
        have HX8 := HX7.out.only O8.out (Ne.symm hgX)
        have x3 := HX8.cellv 3 (.string ⟨#[]⟩) rfl
        have f3 := HX8.free 3
        have hO9 := only_new (HO7.out.trans O8.out) (Nat.le_refl _) 3 (.string U)
        have hX9 : Blk (w8.setCell ⟨w.heap.size, 3, none⟩ (.string U)) w.heap.size #[.string K, .int .u64 q, .bool false, .string U] 34 := HX8.set 3 _
        have hR9 : Rdb (w8.setCell ⟨w.heap.size, 3, none⟩ (.string U)) g v5 _ := Blk.set_other R8.out ⟨w.heap.size, 3, none⟩ (Ne.symm hgX) (.string U)
        clear HX7 HO7 HB7 R7 V4 O8 HTB R8
        go_upto_region 14 with (fail)
        clear x3 f3 HX8
        generalize w8.setCell ⟨w.heap.size, 3, none⟩ (.string U) = w9 at hO9 hX9 hR9 ⊢
        have x0 := hX9.cellv 0 (.string K) rfl
        have x1 := hX9.cellv 1 (.int .u64 q) rfl
        have x2 := hX9.cellv 2 (.bool false) rfl
        have x3 := hX9.cellv 3 (.string U) rfl
        have f0 := hX9.free 0
        have f1 := hX9.free 1
        have f2 := hX9.free 2
        have f3 := hX9.free 3
        obtain ⟨y1, y2, y3⟩ := fin4 hX9 hR9 hO9 (Nat.le_refl _) hgX
        have Y1 := Lib.hid y1
        have Y2 := Lib.hid y2
        have Y3 := Lib.hid y3
        clear y1 y2 y3 hO9 hX9 hR9
        go_wp2_with fail
        refine bodyPost_ret (res_entry rfl Y1.out) rfl ?_
        refine ⟨_, by rw [HRE4.out, HKE.out, HUE.out]; rfl, by rw [HRE4.out]; exact Y2, by rw [HRE4.out]; exact V5, Only.below HB.out Y3.out hg HB.out.size, Y3⟩
      · go_upto_region 14 with (fail)
        clear x2
        have x0 := HX7.out.cellv 0 (.string K) rfl
        have x1 := HX7.out.cellv 1 (.int .u64 q) rfl
        have x2 := HX7.out.cellv 2 (.bool true) rfl
        have x3 := HX7.out.cellv 3 (.string ⟨#[]⟩) rfl
        have f0 := HX7.out.free 0
        have f1 := HX7.out.free 1
        have f2 := HX7.out.free 2
        have f3 := HX7.out.free 3
        obtain ⟨y1, y2, y3⟩ := fin4 HX7.out R7.out HO7.out (Nat.le_refl _) hgX
        have Y1 := Lib.hid y1
        have Y2 := Lib.hid y2
        have Y3 := Lib.hid y3
        clear y1 y2 y3
        go_wp2_with fail
        refine bodyPost_ret (res_entry rfl Y1.out) rfl ?_
        refine ⟨_, by rw [HRE4.out, HKE.out]; rfl, by rw [HRE4.out]; exact Y2, by rw [HRE4.out]; exact V4, Only.below HB.out Y3.out hg HB.out.size, Y3⟩
end Go.Proofs.YtbcnapkbdbefhaaGreatDoor
namespace Go.Proofs.YtbcnapkbdbefhaaGreatDoor
open Go.RowKit

theorem getD_at (l : List UInt8) (j : Nat) (h : j < l.length) : l.getD j 0 = l[j] := by rw [List.getD_eq_getElem?_getD, List.getElem?_eq_getElem h]; rfl
theorem vget_lt (l : List UInt8) : (vget l).1 < 18446744073709551616 := by
  by_cases he : (vget l).2.2 = 0
  · exact (vget_got (l := l) (n := (vget l).1) (k := (vget l).2.1) (by ext <;> simp [he])).1
  · rcases vget_bad he with ⟨e, _⟩ | ⟨e, _⟩ <;> rw [e] <;> decide
theorem tget_sum (l : List UInt8) : (tget l).1.length + (l.drop (tget l).2.1).length ≤ l.length := by
  by_cases he : (tget l).2.2 = 0
  · have h := tget_got (l := l) (s := (tget l).1) (k := (tget l).2.1) (by ext <;> simp [he])
    rw [List.length_drop]; omega
  · rcases tget_err he with e | e <;> rw [e] <;> simp
theorem rdE5_len (key : List UInt8) (q : Nat) (r4 : List UInt8) (b g : Bool) : (rdE5 key q r4 b g).1.key = key ∧ (rdE5 key q r4 b g).2.1.length ≤ r4.length ∧ (rdE5 key q r4 b g).1.val.length ≤ r4.length ∧ (rdE5 key q r4 b g).1.seq = q := by
  have := tget_sum r4
  cases g
  · simp only [rdE5, Bool.false_eq_true, if_false]
    exact ⟨trivial, by omega, by omega, trivial⟩
  · simp only [rdE5, if_true]
    exact ⟨trivial, Nat.le_refl _, Nat.zero_le _, trivial⟩
theorem rdE4_len (key : List UInt8) (q : Nat) (r3 : List UInt8) (b : Bool) : (rdE4 key q r3 b).1.key = key ∧ (rdE4 key q r3 b).2.1.length ≤ r3.length ∧ (rdE4 key q r3 b).1.val.length ≤ r3.length ∧ (rdE4 key q r3 b).1.seq = q := by
  cases r3 with
  | nil => exact ⟨rfl, Nat.le_refl _, Nat.le_refl _, rfl⟩
  | cons c t =>
    obtain ⟨h1, h2, h3, h4⟩ := rdE5_len key q t b (decide (c.toNat = 1))
    exact ⟨h1, Nat.le_trans h2 (by simp), Nat.le_trans h3 (by simp), h4⟩
theorem rdE_len (last r : List UInt8) (bad : Bool) : (rdE last r bad).1.key.length + (rdE last r bad).2.1.length ≤ last.length + r.length ∧ (rdE last r bad).1.val.length ≤ r.length ∧ (rdE last r bad).1.seq < 18446744073709551616 := by
  rw [rdE_eq]
  split
  · simp only [Ent.none, List.length_nil, List.length_drop]
    exact ⟨by omega, by omega, by decide⟩
  · unfold rdE2 rdE3
    obtain ⟨h1, h2, h3, h4⟩ := rdE4_len (last.take (vget r).1 ++ (tget (r.drop (vget r).2.1)).1) (vget ((r.drop (vget r).2.1).drop (tget (r.drop (vget r).2.1)).2.1)).1
      (((r.drop (vget r).2.1).drop (tget (r.drop (vget r).2.1)).2.1).drop (vget ((r.drop (vget r).2.1).drop (tget (r.drop (vget r).2.1)).2.1)).2.1)
      (bad || decide ((vget r).2.2 ≠ 0) || decide ((tget (r.drop (vget r).2.1)).2.2 ≠ 0) || decide ((vget ((r.drop (vget r).2.1).drop (tget (r.drop (vget r).2.1)).2.1)).2.2 ≠ 0))
    have hs := tget_sum (r.drop (vget r).2.1)
    rw [h1, h4]
    refine ⟨?_, ?_, vget_lt _⟩
    · rw [List.length_append, List.length_take]
      simp only [List.length_drop] at h2 hs ⊢
      omega
    · simp only [List.length_drop] at h3 hs ⊢
      omega
theorem pst_bounds (r0 : List UInt8) (i : Nat) : (pst r0 i).2.1.length + (pst r0 i).2.2.1.length ≤ r0.length ∧ ∀ x ∈ (pst r0 i).1, x.key.length ≤ r0.length ∧ x.val.length ≤ r0.length ∧ x.seq < 18446744073709551616 := by
  induction i with
  | zero => exact ⟨by simp [pst], by simp [pst]⟩
  | succ i ih =>
    obtain ⟨h1, h2⟩ := ih
    obtain ⟨g1, g2, g3⟩ := rdE_len (pst r0 i).2.1 (pst r0 i).2.2.1 (pst r0 i).2.2.2
    refine ⟨by simp only [pst]; omega, fun x hx => ?_⟩
    simp only [pst, List.mem_append, List.mem_singleton] at hx
    rcases hx with hx | hx
    · exact h2 x hx
    · rw [hx]; exact ⟨by omega, by omega, g3⟩

/-- where the places begin -/
def numB (b : List UInt8) : Nat := (b.getD (b.length - 2) 0).toNat * 256 + (b.getD (b.length - 1) 0).toNat
theorem two_num (n : Nat) (h : n < 65536) (l : List UInt8) : numB (l ++ two n) = n := by
  unfold numB
  have e : (l ++ two n).length = l.length + 2 := by rw [List.length_append]; rfl
  rw [e, List.getD_eq_getElem?_getD, List.getD_eq_getElem?_getD, List.getElem?_append_right (by omega), List.getElem?_append_right (by omega), show l.length + 2 - 2 - l.length = 0 from by omega, show l.length + 2 - 1 - l.length = 1 from by omega]
  simp only [two, List.getElem?_cons_zero, List.getElem?_cons_succ, Option.getD_some, UInt8.toNat_ofNat']
  omega
theorem blk_cut {E : List Ent} {b : List UInt8} (hm : mayL E = true) (hb : blkPut E = b) : 2 ≤ b.length ∧ 2 + 2 * numB b ≤ b.length ∧ b.take (b.length - 2 - 2 * numB b) = bodyN E E.length := by
  obtain ⟨h1, _⟩ := (mayL_iff E).1 hm
  have hp := placesN_length E E.length
  have hn : numB b = (placesN E E.length).length := by rw [← hb, blkPut]; exact two_num _ (by rw [hp]; omega) _
  have hl : b.length = (bodyN E E.length).length + 2 * (placesN E E.length).length + 2 := by rw [← hb, blkPut, List.length_append, List.length_append, twos_length]; rfl
  refine ⟨by omega, by omega, ?_⟩
  rw [hn, hl, show (bodyN E E.length).length + 2 * (placesN E E.length).length + 2 - 2 - 2 * (placesN E E.length).length = (bodyN E E.length).length from by omega, ← hb, blkPut, List.append_assoc, List.take_left]
/-- what Get's loop ends with, if the bytes are a block's -/
theorem get_end {E : List Ent} {r0 : List UInt8} {i : Nat} (hm : mayL E = true) (hs : ∀ x ∈ E, x.seq < 18446744073709551616) (hr : r0 = bodyN E E.length) (hi : ∀ j, j < i → (pst r0 j).2.2.1 ≠ [])
    (hend : (pst r0 i).2.2.1 = [] ∨ (pst r0 i).2.2.2 = true ∨ 64 < i) : (pst r0 i).1 = E ∧ (pst r0 i).2.2.2 = false := by
  obtain ⟨h1, h2⟩ := (mayL_iff E).1 hm
  subst hr
  have hE := pst_body E h2 hs E.length (Nat.le_refl _)
  have hile : i ≤ E.length := by
    by_cases h : E.length < i
    · exact absurd (by rw [hE]; simp) (hi _ h)
    · omega
  have hI := pst_body E h2 hs i hile
  have hie : i = E.length := by
    by_cases h : i < E.length
    · rcases hend with h3 | h3 | h3
      · rw [hI] at h3
        have := body_grows E i E.length h
        have h4 := congrArg List.length h3
        simp at h4; omega
      · rw [hI] at h3; cases h3
      · omega
    · omega
  rw [hI, hie]
  simp
def toPE (x : Ent) : PE := ⟨bs x.key, x.seq, x.gone, bs x.val⟩
theorem toPE_ent (x : Ent) : (toPE x).ent = x := by cases x; simp [toPE, PE.ent, entOf, bs_data]
theorem entsOf_toPE (E : List Ent) : entsOf (E.map toPE) = E := by
  unfold entsOf
  rw [List.map_map]
  conv => rhs; rw [← List.map_id E]
  exact List.map_congr_left fun x _ => toPE_ent x
/-- entries' cells -/
def pcell (x : PE) : List Value := [.string x.k, .int .u64 x.s, .bool x.g, .string x.u]
def pcells (l : List PE) : List Value := l.flatMap pcell
theorem pcells_length (l : List PE) : (pcells l).length = l.length * 4 := flatM_length pcell 4 (fun _ => rfl) l
theorem pcells_app (l m : List PE) : pcells (l ++ m) = pcells l ++ pcells m := by simp [pcells]
theorem one_pcells (l : List PE) : ∀ u ∈ pcells l, u.oneCell' = true := by
  intro u hu
  obtain ⟨x, _, h⟩ := List.mem_flatMap.1 hu
  simp only [pcell, List.mem_cons, List.not_mem_nil, or_false] at h
  rcases h with rfl | rfl | rfl | rfl <;> rfl
theorem rdE_of {w : World} {v : Value} {n : Nat} {l : List PE} (h : Reads w 4 v n (pcells l)) : n = l.length ∧ RdE w v l := by
  obtain ⟨a, cap, rfl, hl, hc, hm, hr⟩ := h
  rw [pcells_length] at hl
  have hn : n = l.length := by omega
  subst hn
  refine ⟨rfl, a, cap, rfl, hc, hm, fun j hj => ?_⟩
  have hg := fun i (hi : i < 4) => flatM_get pcell 4 (fun _ => rfl) l j i hj hi
  have key : ∀ i, i < 4 → ∃ b off, a = some ⟨b, off, none⟩ ∧ w.cell? ⟨b, off + (j * 4 + i), none⟩ = (pcell l[j])[i]? := fun i hi => by
    have hlt : j * 4 + i < (pcells l).length := by rw [pcells_length]; omega
    obtain ⟨b, off, e, c⟩ := hr (j * 4 + i) hlt
    exact ⟨b, off, e, by rw [c, ← hg i hi]; exact (List.getElem?_eq_getElem hlt).symm⟩
  obtain ⟨b, off, e, c0⟩ := key 0 (by omega)
  obtain ⟨b1, off1, e1, c1⟩ := key 1 (by omega)
  obtain ⟨b2, off2, e2, c2⟩ := key 2 (by omega)
  obtain ⟨b3, off3, e3, c3⟩ := key 3 (by omega)
  rw [e] at e1 e2 e3
  cases e1; cases e2; cases e3
  exact ⟨b, off, e, c0, by rw [Nat.add_assoc]; exact c1, by rw [Nat.add_assoc]; exact c2, by rw [Nat.add_assoc]; exact c3⟩
end Go.Proofs.YtbcnapkbdbefhaaGreatDoor
namespace Go.Proofs.YtbcnapkbdbefhaaGreatDoor
open Go.RowKit

theorem i64_or_small (a b : Nat) (ha : a < 65536) (hb : b < 65536) : bits .or .i64 (a : Int) (b : Int) = ((a ||| b : Nat) : Int) := by
  have hx : a ||| b < 2 ^ 16 := Nat.or_lt_two_pow (by omega) (by omega)
  show IntKind.i64.wrap ((BitVec.ofInt 64 (a : Int) ||| BitVec.ofInt 64 (b : Int)).toNat : Int) = _
  rw [BitVec.toNat_or, ofInt_u64 a (by omega), ofInt_u64 b (by omega)]
  exact IntWalk.i64_in _ (by omega)
theorem step_app_b9 {ops : Array Oper} {o : Oper} {a : Act} {w : World} {K : Act → World → Prop} {Q : Exit → Act → World → Prop} {E : Prop} (hgd : o.guard = none) (s x : Operand) {t e : TypeId} {i : TypeInfo} {z : Value} {sz by_ : Nat}
    (ho : o.op = .call { callee := .builtin .append, args := #[s, x], argTypes := #[t, t] }) (ht : Tryz.prog.underlying t = some (.slice e)) (hi : Tryz.prog.info? e = some i) (hz : i.zero = some z) (hs : i.size = sz) (hb : i.bytes = by_) (hzs : z.cells.size = sz) (hsz : 0 < sz)
    (base n m : Nat) (v v2 : Value) (xs ys zs : List Value) (r : Nat) (hs' : a.eval s = v) (hx : a.eval x = v2) (hown : Own w base e sz v n xs) (hrd : Reads w sz v2 m ys) (h1 : ∀ u ∈ ys, u.oneCell' = true)
    (hr : n + m = r) (hzz : xs ++ ys = zs) (hlen : r * by_ ≤ 140737488355328) (hnm : r ≤ 9223372036854775807) (hbase : base ≤ w.heap.size)
    (h : ∀ b c w', Hid (Own w' base e sz (.slice b r c) r zs) → Hid (Grew w w' base v (.slice b r c)) → K (a.put o.dst (.slice b r c)) w') : if Region.wanted o (yielded ops a.tmps) = true then Oper.wp Tryz.prog o a w K Q else E := by
  subst hr hzz
  have hw : Region.wanted o (yielded ops a.tmps) = true := by simp [Region.wanted, hgd]
  rw [if_pos hw]
  obtain ⟨v', w', hr, h2, h3, h4, h5⟩ := run_app2 (P := Tryz.prog) w base t o.type e i z sz by_ ht hi hz hs hb hzs hsz v n xs hown v2 m ys hrd h1 hlen hnm hbase
  unfold Oper.wp execOp
  simp only [ho, resolve, invoke, builtin, Sem.run_bind, Sem.run_pure, Result.andThen_ok, List.map_toArray, List.map_cons, List.map_nil, hs', hx, hr]
  obtain ⟨b, c, rfl⟩ := (reads_of_own h2).slice
  exact h b c w' h2 (grew_of h4 h3 h5)
set_option maxRecDepth 100000 in
theorem info_ent : (Tryz.prog.info? 34).map (fun i => (i.zero, i.size, i.bytes)) = some (some (.agg #[.string ⟨#[]⟩, .int .u64 0, .bool false, .string ⟨#[]⟩]), 4, 48) := by kernel_rfl
theorem reads_ent (w : World) (x : PE) (ty : TypeId) : Reads (w.alloc (.cells #[.string x.k, .int .u64 x.s, .bool x.g, .string x.u] ty)) 4 (.slice (some ⟨w.heap.size, 0, none⟩) 1 1) 1 (pcell x) :=
  reads_new w _ ty 1 4 rfl (by unfold maxLen; omega)
theorem rd_take {w : World} {a : Addr} {n c : Nat} {l : List UInt8} (h : Rd w (.slice (some a) n c) l) (k : Nat) (hk : k ≤ n) : Rd w (.slice (some a) k k) (l.take k) := by
  obtain ⟨a', cap, e, h1, h2, h3⟩ := h
  simp only [Value.slice.injEq] at e
  obtain ⟨rfl, rfl, rfl⟩ := e
  have hl : (l.take k).length = k := by rw [List.length_take]; omega
  refine ⟨_, k, by rw [hl], by rw [hl]; exact Nat.le_refl _, by omega, fun j hj => ?_⟩
  obtain ⟨b, off, e, hc⟩ := h3 j (by omega)
  exact ⟨b, off, e, by rw [hc]; simp⟩
/-- what Get answers -/
def RetGetB (b : List UInt8) (w : World) (e : Ending) (w' : World) : Prop :=
  Below w.heap.size w w' ∧ ((∃ E, mayL E = true ∧ (∀ x ∈ E, x.seq < 18446744073709551616) ∧ blkPut E = b ∧ ∃ a n c, e = .returned (.tuple #[.slice a n c, .int .i64 0]) ∧ Hid (n = E.length) ∧ Hid (Own w' w.heap.size 34 4 (.slice a n c) n (pcells (E.map toPE)))) ∨
    ((∀ E, mayL E = true → (∀ x ∈ E, x.seq < 18446744073709551616) → blkPut E ≠ b) ∧ e = .returned (.tuple #[.slice none 0 0, .int .i64 4])))
def lenV : Value → Nat
  | .slice _ n _ => n
  | _ => 0
set_option maxRecDepth 100000 in
set_option maxHeartbeats 4000000 in
theorem blocksGet_any (w : World) (v : Value) (b : List UInt8) (hv : Rd w v b) (hl : b.length ≤ 268435456) : Calls Tryz.prog 91 #[v] w (RetGetB b w) := by
  have HV := Lib.hid hv
  obtain ⟨va, vn, vc, rfl, hvn⟩ := rd_len hv
  have HVN := Lib.hid hvn
  rw [← hvn] at hl
  clear hvn hv
  by_cases hs : vn < 2
  · have HF : Hid (∀ E, mayL E = true → (∀ x ∈ E, x.seq < 18446744073709551616) → blkPut E ≠ b) := fun E hm _ hb => by have := (blk_cut hm hb).1; have := HVN.out; omega
    go_enter Tryz.func91, Tryz.ntmps91
    go_wp2
    go_ret2
    exact ⟨Below.refl _ _, .inr ⟨HF.out, rfl⟩⟩
  obtain ⟨en, hen⟩ : ∃ n, n = vn - 2 := ⟨_, rfl⟩
  have he1 : ((vn : Int) - 2) = (en : Int) := by omega
  obtain ⟨a', c', e1, hvc, _, hcell⟩ := HV.out
  obtain ⟨bb, off, hae, d0⟩ := hcell en (by have := HVN.out; omega)
  obtain ⟨b2, off2, hae2, d1⟩ := hcell (en + 1) (by have := HVN.out; omega)
  simp only [Value.slice.injEq] at e1
  obtain ⟨e1, el, ec⟩ := e1
  rw [hae] at hae2
  cases hae2
  rw [hae] at e1
  subst e1
  rw [← el, ← ec] at hvc
  clear el ec hcell hae
  obtain ⟨X, hX⟩ : ∃ X, X = (b[en]'(by have := HVN.out; omega)).toNat := ⟨_, rfl⟩
  obtain ⟨Y, hY⟩ : ∃ X, X = (b[en + 1]'(by have := HVN.out; omega)).toNat := ⟨_, rfl⟩
  rw [← hX] at d0
  rw [← hY] at d1
  have hX256 : X < 256 := by rw [hX]; exact UInt8.toNat_lt _
  have hY256 : Y < 256 := by rw [hY]; exact UInt8.toNat_lt _
  have hnum : numB b = X * 256 + Y := by
    unfold numB
    rw [show b.length - 2 = en from by have := HVN.out; omega, show b.length - 1 = en + 1 from by have := HVN.out; omega, getD_at _ _ (by have := HVN.out; omega), getD_at _ _ (by have := HVN.out; omega), hX, hY]
  clear hX hY
  have HEN := Lib.hid hen
  clear hen
  have hor : bits BinOp.or IntKind.i64 ((X : Int) * 256) (Y : Int) = ((X * 256 + Y : Nat) : Int) := by
    rw [show (X : Int) * 256 = ((X * 256 : Nat) : Int) from by omega, i64_or_small _ _ (by omega) (by omega), show X * 256 ||| Y = X * 256 + Y from or_low X Y 8 hY256]
  obtain ⟨num, hnu⟩ : ∃ n, n = X * 256 + Y := ⟨_, rfl⟩
  rw [← hnu] at hnum hor
  have hnl : num < 65536 := by omega
  have HNUM := Lib.hid hnum
  clear hnum
  have hb1 : ((en : Int) + 1) < (vn : Int) := by omega
  have hb0 : ((en : Int)) < (vn : Int) := by omega
  go_enter Tryz.func91, Tryz.ntmps91
  go_upto_region 4 with (fail)
  go_quiet (fail)
  rw [show ((X : Int) * 256 + (Y : Int)) = (num : Int) from by omega]
  clear hnu hX256 hY256
  have hdw := drewN_below w nq
  obtain ⟨W, hW⟩ : ∃ W, W = w.drewN nq := ⟨_, rfl⟩
  rw [← hW] at hdw ⊢
  clear hW d0 d1 hor
  by_cases hneg : en < 2 * num
  · have hd : decide ((en : Int) - 2 * (num : Int) < 0) = true := by simp; omega
    have HF : Hid (∀ E, mayL E = true → (∀ x ∈ E, x.seq < 18446744073709551616) → blkPut E ≠ b) := fun E hm _ hb => by have := (blk_cut hm hb).2.1; have := HVN.out; have := HNUM.out; have := HEN.out; omega
    go_wp2
    go_ret2
    exact ⟨hdw, .inr ⟨HF.out, rfl⟩⟩
  obtain ⟨rn, hrn⟩ : ∃ n, n = en - 2 * num := ⟨_, rfl⟩
  have hrr : (en : Int) - 2 * (num : Int) = (rn : Int) := by omega
  rw [hrr]
  have HRN := Lib.hid hrn
  have hrv : rn ≤ vn := by omega
  clear hrr hneg hrn
  obtain ⟨r0, hr0⟩ : ∃ r, r = b.take rn := ⟨_, rfl⟩
  have hr0l : r0.length = rn := by rw [hr0, List.length_take]; have := HVN.out; omega
  have HR0 : Hid (Rd w (.slice (some ⟨bb, off, none⟩) rn rn) r0) := by rw [hr0]; exact rd_take HV.out rn hrv
  have HRL : Hid (r0.length ≤ 268435456) := by show _ ≤ _; omega
  have HRE : Hid (∀ E, mayL E = true → (∀ x ∈ E, x.seq < 18446744073709551616) → blkPut E = b → r0 = bodyN E E.length) := fun E hm _ hb => by
    have := (blk_cut hm hb).2.2
    rw [HNUM.out] at this
    rw [← this, hr0]
    congr 1
    have := HVN.out; have := HEN.out; have := HRN.out; omega
  have hrc : rn ≤ vc := by omega
  clear hr0 hr0l hrv HRN HEN HNUM hnl hb1 hb0
  go_upto_region 8 with (fail)
  obtain ⟨W1, hW1⟩ : ∃ x, x = W.alloc (.cells #[.slice (some ⟨bb, off, none⟩) rn rn, .bool false] 200) := ⟨_, rfl⟩
  have hRd : Rdb W1 W.heap.size (.slice (some ⟨bb, off, none⟩) rn rn) false := by rw [hW1]; exact Blk.new _ _ _
  have hb1 : Below w.heap.size w W1 := by rw [hW1]; exact hdw.alloc hdw.size _
  have hgb : W.heap.size < W1.heap.size := by rw [hW1]; simp
  have hgw := hdw.size
  rw [← hW1]
  obtain ⟨g, hg⟩ : ∃ g, g = W.heap.size := ⟨_, rfl⟩
  rw [← hg] at hRd hgb hgw ⊢
  have HRD := Lib.hid hRd
  have HB1 := Lib.hid hb1
  clear hW1 hg hRd hb1 hrc hdw he1
  obtain ⟨base, hba⟩ : ∃ x, x = W1.heap.size := ⟨_, rfl⟩
  rw [← hba] at hgb
  have HBA := Lib.hid hba
  clear hba
  obtain ⟨i0, hi0, hz, hz1, hz2⟩ := info_parts info_ent
  go_wp2_with fail
  show Code.wp _ _ _ _ _
  go_loopw [2, 6] (fun lv sv wr => ∃ i : Nat, i ≤ 65 ∧ (∃ la lc, lv = .slice la i lc ∧ Hid (Own wr base 34 4 (.slice la i lc) i (pcells ((pst r0 i).1.map toPE)))) ∧ (∃ K : ByteArray, sv = .string K ∧ Hid (K = bs (pst r0 i).2.1)) ∧
      (∃ ra rn rc, Hid (Rdb wr g (.slice ra rn rc) (pst r0 i).2.2.2) ∧ Hid (Rd w (.slice ra rn rc) (pst r0 i).2.2.1)) ∧ Hid (Below w.heap.size w wr) ∧ Hid (base ≤ wr.heap.size) ∧ Hid (∀ j, j < i → (pst r0 j).2.2.1 ≠ []) ∧ Hid (Apart wr lv (.slice none 0 0)))
      (fun lv _ _ => 65 - lenV lv)
  case atStart => exact ⟨0, by omega, ⟨none, 0, rfl, own_none _ _ _ _⟩, ⟨_, rfl, rfl⟩, ⟨_, _, _, HRD, HR0⟩, HB1, by rw [HBA.out]; exact Nat.le_refl _, fun j hj => by omega, Apart.none _ _⟩
  case round =>
    obtain ⟨i, hi, ⟨la, lc, rfl, HO⟩, ⟨K, rfl, HK⟩, ⟨ra, rn, rc, HR, HRV⟩, HB, HS, HI, HAP⟩ := hrel
    have hbd := pst_bounds r0 i
    obtain ⟨L, s, r, bad, hp⟩ : ∃ L s r bad, pst r0 i = (L, s, r, bad) := ⟨_, _, _, _, rfl⟩
    rw [hp] at HO HK HR HRV hbd
    have HP := Lib.hid hp
    have hrn : rn = r.length := by obtain ⟨_, _, e, _⟩ := HRV.out; simp only [Value.slice.injEq] at e; exact e.2.1
    have HRN := Lib.hid hrn
    have HBD := Lib.hid hbd
    have hKs : K.size = s.length := by rw [HK.out, bs_size]
    have hrl := HRL.out
    have hKl : K.size ≤ 268435456 := by rw [hKs]; simp only at hbd; omega
    have hrrl : rn ≤ 268435456 := by rw [hrn]; simp only at hbd; omega
    clear hp hbd hKs hrl hrn
    have g0 := Blk.cellv HR.out 0 (.slice ra rn rc) rfl
    have g1 := Blk.cellv HR.out 1 (.bool bad) rfl
    by_cases hgo : 0 < rn ∧ bad = false ∧ i ≤ 64
    · obtain ⟨hg1, rfl, hg3⟩ := hgo
      have hd1 : decide ((0 : Int) < (rn : Int)) = true := by simp; omega
      have hd2 : decide ((i : Int) ≤ 64) = true := by simp; omega
      have hen := entryB_any w wr g _ K r false HR.out HRV.out HB.out hgw (by omega) (by rw [← HRN.out]; omega)
      rw [HK.out, bs_data] at hen
      obtain ⟨y, hy⟩ : ∃ y, y = toPE (rdE s r false).1 := ⟨_, rfl⟩
      have hye : entVals (rdE s r false).1 = #[.string y.k, .int .u64 y.s, .bool y.g, .string y.u] := by rw [hy]; rfl
      rw [hye, ← HK.out] at hen
      have HEN := Lib.hid hen
      have HY := Lib.hid hy
      clear hen hy hye
      obtain ⟨yk, ys, yg, yu⟩ := y
      go_wp2_with fail
      refine HEN.out.mono ?_
      rintro e w2 ⟨v2, rfl, R2, V2, B2, O2⟩
      obtain ⟨ra2, rn2, rc2, rfl, hrn2⟩ := rd_len V2.out
      clear g0 g1 hrn2 HEN HR HRV
      have HO2 := Lib.hid (own_other HO.out O2.out hgb)
      have HA2 := Lib.hid (HAP.out.later O2.out.size)
      have hs2 : base ≤ w2.heap.size := Nat.le_trans HS.out O2.out.size
      have hbw2 : w.heap.size ≤ w2.heap.size := B2.out.size
      have HHS2 := Lib.hid hs2
      have HHB2 := Lib.hid hbw2
      clear hs2 hbw2 O2 HO HAP HB HS
      go_upto_region 11 with (fail)
      obtain ⟨w3, hw3⟩ : ∃ x, x = w2.alloc (.cells #[.string yk, .int .u64 ys, .bool yg, .string yu] 34) := ⟨_, rfl⟩
      have hY3 : Blk w3 w2.heap.size #[.string yk, .int .u64 ys, .bool yg, .string yu] 34 := by rw [hw3]; exact Blk.new _ _ _
      have hb23 : Below w2.heap.size w2 w3 := by rw [hw3]; exact (Below.refl _ _).alloc (Nat.le_refl _) _
      have hlt3 : w2.heap.size < w3.heap.size := hY3.lt
      rw [← hw3]
      obtain ⟨cY, hcY⟩ : ∃ x, x = w2.heap.size := ⟨_, rfl⟩
      have hAY : Away w3 cY (.slice la i lc) := fun j hj => by
        simp only [Value.ownBlock, Option.some.injEq] at hj
        subst hj
        exact ⟨by omega, fun e => by have := (HA2.out _ e).1; omega⟩
      have HAY := Lib.hid hAY
      have HO3 := Lib.hid (own_below HO2.out hb23)
      have HR3 := Lib.hid (Blk.below R2.out hb23)
      have hB3 : Below w.heap.size w w3 := B2.out.trans (hb23.mono HHB2.out)
      have hS3 : base ≤ w3.heap.size := Nat.le_trans HHS2.out hb23.size
      have HB3 := Lib.hid hB3
      have HS3 := Lib.hid hS3
      rw [← hcY] at hY3 ⊢
      have HY3 := Lib.hid hY3
      have HAL : Hid (∀ o, Below w3.heap.size w3 (w3.drew.alloc o)) := fun o => (Below.refl _ _).drew.alloc (Nat.le_refl _) _
      have HDR : Hid (Below w3.heap.size w3 w3.drew) := (Below.refl _ _).drew
      have HSS : Hid (∀ w', Blk w' cY #[.string yk, .int .u64 ys, .bool yg, .string yu] 34 → w'.cell? ⟨cY, 0, none⟩ = some (.string yk) ∧ w'.cell? ⟨cY, 1, none⟩ = some (.int .u64 ys) ∧ w'.cell? ⟨cY, 2, none⟩ = some (.bool yg) ∧ w'.cell? ⟨cY, 3, none⟩ = some (.string yu)) :=
        fun w' h => ⟨h.cellv 0 _ rfl, h.cellv 1 _ rfl, h.cellv 2 _ rfl, h.cellv 3 _ rfl⟩
      obtain ⟨y0, y1, y2, y3⟩ := HSS.out w3 HY3.out
      clear hY3 hb23 hlt3 hAY hB3 hS3 hcY hw3 HO2 HA2 R2 B2 HHS2 HHB2
      go_region_held3 (fun w' => w'.cell? ⟨cY, 0, none⟩ = some (.string yk) ∧ w'.cell? ⟨cY, 1, none⟩ = some (.int .u64 ys) ∧ w'.cell? ⟨cY, 2, none⟩ = some (.bool yg) ∧ w'.cell? ⟨cY, 3, none⟩ = some (.string yu))
        ((go_split_ands; refine HSS.out _ ?_; first | exact HG.out.blk (HY3.out.below (HAL.out _)) (HAY.out.later (HAL.out _).size) | exact HY3.out.below HDR.out | exact HY3.out.below (HAL.out _)))
        ((refine step_app_b9 rfl _ _ rfl Tryz.underlying29 hi0 hz hz1 hz2 rfl (by omega) base i 1 (.slice la i lc) _ (pcells (L.map toPE)) (pcell ⟨yk, ys, yg, yu⟩) (pcells (L.map toPE ++ [⟨yk, ys, yg, yu⟩])) (i + 1) rfl rfl (own_below HO3.out (HAL.out _)) (reads_ent _ ⟨yk, ys, yg, yu⟩ _) (one_pcells [⟨yk, ys, yg, yu⟩]) rfl (by rw [pcells_app]; simp [pcells]) (by omega) (by omega) (by have := HS3.out; simp; omega) ?_; intro ua uc w4 HU HG))
      have hb4 := HG.out.below
      have HRF : Hid (Rdb w4 g (.slice ra2 rn2 rc2) (rdE s r false).2.2) := blk_under (HR3.out.below (HAL.out _)) hgb hb4
      have HBF : Hid (Below w.heap.size w w4) := (HB3.out.trans ((HAL.out _).mono HB3.out.size)).trans (hb4.mono (Nat.le_trans hgw (Nat.le_of_lt hgb)))
      have HSF : Hid (base ≤ w4.heap.size) := Nat.le_trans (Nat.le_trans HS3.out (HAL.out _).size) hb4.size
      have HAF : Hid (Apart w4 (.slice ua (i + 1) uc) (.slice none 0 0)) := fun j hj => ⟨(own_lt HU.out (Nat.succ_pos _) j hj).2, by simp [Value.ownBlock]⟩
      have HP1 : Hid (pst r0 (i + 1) = (L ++ [(rdE s r false).1], (rdE s r false).1.key, (rdE s r false).2.1, (rdE s r false).2.2)) := by show _ = _; rw [pst, HP.out]
      have HIF : Hid (∀ j, j < i + 1 → (pst r0 j).2.2.1 ≠ []) := fun j hj => by
        by_cases e : j = i
        · subst e; rw [HP.out]; simp only; intro e2; have := HRN.out; rw [e2] at this; simp at this; omega
        · exact HI.out j (by omega)
      clear hb4 HG HAY HO3 HR3 HB3 HS3 HY3 HAL HDR HSS y0 y1 y2 y3 hd1 hd2
      go_wp2_with fail
      refine ⟨⟨i + 1, by omega, ⟨ua, uc, rfl, by rw [HP1.out, List.map_append, List.map_cons, List.map_nil, ← HY.out]; exact HU⟩, ⟨yk, rfl, by rw [HP1.out]; show yk = _; have := HY.out; simp only [toPE, PE.mk.injEq] at this; exact this.1⟩, ⟨ra2, rn2, rc2, by rw [HP1.out]; exact HRF, by rw [HP1.out]; exact V2⟩, HBF, HSF, HIF, HAF⟩, by simp [lenV]; omega⟩
    · have HEND : Hid (r = [] ∨ bad = true ∨ 64 < i) := by
        by_cases h1 : r = []
        · exact .inl h1
        · by_cases h2 : bad = true
          · exact .inr (.inl h2)
          · refine .inr (.inr ?_)
            have : 0 < rn := by rw [HRN.out]; exact List.length_pos_iff.2 h1
            by_cases h3 : i ≤ 64
            · exact absurd ⟨this, by simpa using h2, h3⟩ hgo
            · omega
      have HPUT : Hid (∀ w', Below w.heap.size w w' → RdE w' (.slice la i lc) (L.map toPE) → Calls Tryz.prog 75 #[.slice la i lc] w' (RetPut L w')) := fun w' _ hr => by
        have := blocksPut_any w' _ (L.map toPE) hr (fun x hx => by
          obtain ⟨y, hy, rfl⟩ := List.mem_map.1 hx
          exact ((HBD.out).2 y hy).2.2)
        rw [entsOf_toPE] at this
        exact this
      have HFAIL : Hid (∀ E, mayL E = true → (∀ x ∈ E, x.seq < 18446744073709551616) → blkPut E = b → L = E ∧ bad = false) := fun E hm hsq hb => by
        have := get_end hm hsq (HRE.out E hm hsq hb) HI.out (by rw [HP.out]; exact HEND.out)
        rw [HP.out] at this
        exact this
      have HLI : Hid (L.length = i) := by have := pst_length r0 i; rw [HP.out] at this; exact this
      have HRDE := Lib.hid (rdE_of (reads_of_own HO.out)).2
      cases bad
      · have hways : rn = 0 ∨ (0 < rn ∧ 64 < i) := by
          by_cases h1 : rn = 0
          · exact .inl h1
          · refine .inr ⟨by omega, ?_⟩
            by_cases h3 : i ≤ 64
            · exact absurd ⟨by omega, rfl, h3⟩ hgo
            · omega
        have HFAIL2 : Hid (∀ E, mayL E = true → (∀ x ∈ E, x.seq < 18446744073709551616) → blkPut E = b → L = E) := fun E h1 h2 h3 => (HFAIL.out E h1 h2 h3).1
        have HSQ : Hid (∀ x ∈ L, x.seq < 18446744073709551616) := fun x hx => (HBD.out.2 x hx).2.2
        clear hgo HEND HRE HP HI HRV HRN HR0 HRL HFAIL
        rcases hways with hw | ⟨hw, hw2⟩
        case' inl =>
          have hd1 : decide ((0 : Int) < (rn : Int)) = false := by simp; omega
        case' inr =>
          have hd1 : decide ((0 : Int) < (rn : Int)) = true := by simp; omega
          have hd2 : decide ((i : Int) ≤ 64) = false := by simp; omega
        all_goals
          go_upto_region 12 with (fail)
          try clear hd2
          clear hd1 g0 g1
          go_wp2_with fail
          refine (HPUT.out wr HB.out HRDE.out).mono ?_
          rintro e w5 ⟨bel5, hput⟩
          have hb5 := HB.out.trans (bel5.mono HB.out.size)
          have HB5 := Lib.hid hb5
          have g1 := Blk.cellv (Blk.below HR.out bel5) 1 (.bool false) rfl
          have HO5 := Lib.hid (own_below HO.out bel5)
          have HVB := Lib.hid (HV.out.below hb5)
          clear bel5 hb5
          rcases hput with ⟨hm, pa, pn, pc, rfl, HPN, HPO⟩ | ⟨hm, rfl⟩
          · have HPR := Lib.hid (rd_of_own HPO.out).2
            have HMM := Lib.hid hm
            have heq := bytesEqual_any w5 _ _ (blkPut L) b HPR.out HVB.out
            cases hc : decide (blkPut L = b)
            · rw [hc] at heq
              have HEQ := Lib.hid heq
              have hne : blkPut L ≠ b := by simpa using hc
              have HF : Hid (∀ E, mayL E = true → (∀ x ∈ E, x.seq < 18446744073709551616) → blkPut E ≠ b) := fun E h1 h2 h3 => hne (by rw [HFAIL2.out E h1 h2 h3]; exact h3)
              clear heq hne hc hm HPO HPN
              go_upto_region 13 with (fail)
              go_wp2_with fail
              refine HEQ.out.mono ?_
              rintro e w6 ⟨rfl, rfl⟩
              go_wp2
              go_ret2
              exact ⟨HB5.out, .inr ⟨HF.out, rfl⟩⟩
            · rw [hc] at heq
              have HEQ := Lib.hid heq
              have heb : blkPut L = b := by simpa using hc
              have HEB := Lib.hid heb
              clear heq heb hc hm HPO HPN
              go_upto_region 13 with (fail)
              go_wp2_with fail
              refine HEQ.out.mono ?_
              rintro e w6 ⟨rfl, rfl⟩
              go_wp2
              go_ret2
              exact ⟨HB5.out, .inl ⟨L, HMM.out, HSQ.out, HEB.out, la, i, lc, rfl, HLI.out.symm, own_mono HO5.out (Nat.le_trans hgw (Nat.le_of_lt hgb))⟩⟩
          · have HF : Hid (∀ E, mayL E = true → (∀ x ∈ E, x.seq < 18446744073709551616) → blkPut E ≠ b) := fun E h1 h2 h3 => by
              rw [HFAIL2.out E h1 h2 h3, h1] at hm; cases hm
            clear hm
            go_upto_region 13 with (fail)
            go_wp2
            go_ret2
            exact ⟨HB5.out, .inr ⟨HF.out, rfl⟩⟩
      · have HF : Hid (∀ E, mayL E = true → (∀ x ∈ E, x.seq < 18446744073709551616) → blkPut E ≠ b) := fun E h1 h2 h3 => by
          have := (HFAIL.out E h1 h2 h3).2; cases this
        clear hgo HEND HRE HP HI HRV HRN HR0 HRL HFAIL
        rcases Nat.eq_zero_or_pos rn with hw | hw
        case' inl =>
          have hd1 : decide ((0 : Int) < (rn : Int)) = false := by simp; omega
        case' inr =>
          have hd1 : decide ((0 : Int) < (rn : Int)) = true := by simp; omega
        all_goals
          go_upto_region 12 with (fail)
          try clear hd2
          clear hd1 g0 g1
          go_wp2_with fail
          refine (HPUT.out wr HB.out HRDE.out).mono ?_
          rintro e w5 ⟨bel5, hput⟩
          have hb5 := HB.out.trans (bel5.mono HB.out.size)
          have HB5 := Lib.hid hb5
          have g1 := Blk.cellv (Blk.below HR.out bel5) 1 (.bool true) rfl
          have HO5 := Lib.hid (own_below HO.out bel5)
          have HVB := Lib.hid (HV.out.below hb5)
          clear bel5 hb5
          rcases hput with ⟨hm, pa, pn, pc, rfl, HPN, HPO⟩ | ⟨hm, rfl⟩
          all_goals
            clear hm
            go_upto_region 13 with (fail)
            go_wp2
            go_ret2
            exact ⟨HB5.out, .inr ⟨HF.out, rfl⟩⟩
end Go.Proofs.YtbcnapkbdbefhaaGreatDoor
namespace Go.Proofs.YtbcnapkbdbefhaaGreatDoor
open Go.RowKit

theorem atE_take (E : List Ent) (i k : Nat) (h : k < i) : atE (E.take i) k = atE E k := by
  unfold atE
  rw [List.getD_eq_getElem?_getD, List.getD_eq_getElem?_getD, List.getElem?_take_of_lt h]
theorem atE_drop (E : List Ent) (i k : Nat) : atE (E.drop i) k = atE E (i + k) := by
  unfold atE
  rw [List.getD_eq_getElem?_getD, List.getD_eq_getElem?_getD, List.getElem?_drop]
/-- entries that may be a block -/
def OkE (E : List Ent) : Prop := (∀ k, k < E.length → okAt E k = true) ∧ ∀ x ∈ E, x.seq < 18446744073709551616
theorem okE_of {E : List Ent} (hm : mayL E = true) (hs : ∀ x ∈ E, x.seq < 18446744073709551616) : OkE E := ⟨((mayL_iff E).1 hm).2, hs⟩
theorem OkE.fit {E : List Ent} (h : OkE E) (k : Nat) (hk : k < E.length) : fitE (atE E k) = true := by
  have := h.1 k hk
  unfold okAt at this
  rw [Bool.and_eq_true] at this
  exact this.1
theorem OkE.seq {E : List Ent} (h : OkE E) (k : Nat) (hk : k < E.length) : (atE E k).seq < 18446744073709551616 := by
  rw [atE_get E k hk]; exact h.2 _ (List.getElem_mem hk)
/-- the same bytes begin with the same entries -/
theorem same_head {E F : List Ent} (hE : OkE E) (hF : OkE F) {R S : List UInt8} (h : bodyN E E.length ++ R = bodyN F F.length ++ S) (i : Nat) (hi : i ≤ E.length) (hj : i ≤ F.length) :
    E.take i = F.take i ∧ bodyN E i = bodyN F i := by
  induction i with
  | zero => exact ⟨by simp, rfl⟩
  | succ i ih =>
    obtain ⟨h1, h2⟩ := ih (by omega) (by omega)
    obtain ⟨r1, e1⟩ := body_split E (i + 1) E.length hi
    obtain ⟨r2, e2⟩ := body_split F (i + 1) F.length hj
    have h3 : encAt E i ++ (r1 ++ R) = encAt F i ++ (r2 ++ S) := by
      rw [e1, e2, bodyN, bodyN, h2] at h
      simp only [List.append_assoc] at h
      exact List.append_cancel_left h
    have hlast : i % 4 ≠ 0 → (atE E (i - 1)).key = (atE F (i - 1)).key := fun h0 => by
      have hi0 : i - 1 < i := by
        rcases Nat.eq_zero_or_pos i with e | e
        · subst e; simp at h0
        · omega
      rw [← atE_take E i _ hi0, ← atE_take F i _ hi0, h1]
    have a1 := rdE_enc E i (atE E (i - 1)).key (r1 ++ R) (hE.fit i (by omega)) (hE.seq i (by omega)) (fun _ => rfl)
    have a2 := rdE_enc F i (atE E (i - 1)).key (r2 ++ S) (hF.fit i (by omega)) (hF.seq i (by omega)) hlast
    rw [h3, a2] at a1
    simp only [Prod.mk.injEq, and_true] at a1
    obtain ⟨b1, b2⟩ := a1
    rw [← b2] at h3
    have h4 := List.append_cancel_right h3
    refine ⟨?_, by rw [bodyN, bodyN, h2, h4]⟩
    rw [List.take_succ_eq_append_getElem (by omega), List.take_succ_eq_append_getElem (by omega), h1, ← atE_get E i (by omega), ← atE_get F i (by omega), b1]
/-- no entry's bytes begin with two zeros -/
theorem enc_head (E : List Ent) (k : Nat) (hf : fitE (atE E k) = true) (rest X : List UInt8) : encAt E k ++ rest ≠ 0 :: 0 :: X := by
  intro h
  obtain ⟨f1, _, _⟩ := (fitE_iff _).1 hf
  have hk1 : 1 ≤ (atE E k).key.length ∧ (atE E k).key.length ≤ 32 := by simpa [checkK] using f1
  have hn2 : alikeAt E k ≤ (atE E k).key.length := by
    unfold alikeAt; split
    · omega
    · exact alikeL_le2 _ _
  unfold encAt at h
  rw [vint_small _ (by omega)] at h
  simp only [List.cons_append, List.nil_append, List.cons.injEq] at h
  obtain ⟨h1, h2⟩ := h
  have h0 : alikeAt E k = 0 := by
    have := congrArg UInt8.toNat h1
    rw [toNat_ofNat _ (by omega)] at this
    exact this
  rw [h0] at h2
  unfold eput tput cutE at h2
  simp only [List.drop_zero] at h2
  rw [vint_small _ (by omega)] at h2
  simp only [List.cons_append, List.nil_append, List.cons.injEq] at h2
  have := congrArg UInt8.toNat h2.1
  rw [toNat_ofNat _ (by omega)] at this
  simp at this
  rw [this] at hk1
  simp at hk1
theorem places_head (E : List Ent) (n : Nat) : ∃ t, placesN E (n + 1) = 0 :: t := by
  induction n with
  | zero => exact ⟨[], rfl⟩
  | succ n ih =>
    obtain ⟨t, ht⟩ := ih
    exact ⟨_, by rw [placesN, ht, List.cons_append]⟩
theorem twos_head (E : List Ent) (h : 0 < E.length) (R : List UInt8) : ∃ X, twos (placesN E E.length) ++ R = 0 :: 0 :: X := by
  obtain ⟨n, hn⟩ : ∃ n, E.length = n + 1 := ⟨E.length - 1, by omega⟩
  obtain ⟨t, ht⟩ := places_head E n
  rw [hn, ht]
  exact ⟨twos t ++ R, rfl⟩
theorem not_fewer {E F : List Ent} (hE : OkE E) (hF : OkE F) {R S X : List UInt8} (h : bodyN E E.length ++ R = bodyN F F.length ++ S) (hR : R = 0 :: 0 :: X) : ¬ E.length < F.length := by
  intro hlt
  obtain ⟨_, h2⟩ := same_head hE hF h E.length (Nat.le_refl _) (by omega)
  obtain ⟨r, hr⟩ := body_split F (E.length + 1) F.length hlt
  rw [hr, bodyN, h2, hR] at h
  simp only [List.append_assoc] at h
  exact enc_head F E.length (hF.fit _ hlt) _ _ (List.append_cancel_left h).symm
/-- entries whose bytes are followed by two zeros -/
theorem body_eq {E F : List Ent} (hE : OkE E) (hF : OkE F) {R S X Y : List UInt8} (h : bodyN E E.length ++ R = bodyN F F.length ++ S) (hR : R = 0 :: 0 :: X) (hS : S = 0 :: 0 :: Y) : E = F := by
  have h1 := not_fewer hE hF h hR
  have h2 := not_fewer hF hE h.symm hS
  have h3 : E.length = F.length := by omega
  obtain ⟨h4, _⟩ := same_head hE hF h E.length (Nat.le_refl _) (by omega)
  rw [List.take_length, h3, List.take_length] at h4
  exact h4
/-- no block begins another one -/
theorem blk_prefix {E F : List Ent} (hm : mayL E = true) (hs : ∀ x ∈ E, x.seq < 18446744073709551616) (hm2 : mayL F = true) (hs2 : ∀ x ∈ F, x.seq < 18446744073709551616) (S : List UInt8) (h : blkPut E ++ S = blkPut F) : E = F := by
  obtain ⟨X, hX⟩ := twos_head E ((mayL_iff E).1 hm).1.1 (two (placesN E E.length).length ++ S)
  obtain ⟨Y, hY⟩ := twos_head F ((mayL_iff F).1 hm2).1.1 (two (placesN F F.length).length)
  refine body_eq (okE_of hm hs) (okE_of hm2 hs2) ?_ hX hY
  unfold blkPut at h
  simpa only [List.append_assoc] using h
theorem blk_inj {E F : List Ent} (hm : mayL E = true) (hs : ∀ x ∈ E, x.seq < 18446744073709551616) (hm2 : mayL F = true) (hs2 : ∀ x ∈ F, x.seq < 18446744073709551616) (h : blkPut E = blkPut F) : E = F :=
  blk_prefix hm hs hm2 hs2 [] (by rw [List.append_nil]; exact h)
theorem enc_five (E : List Ent) (k : Nat) (hk : alikeAt E k = 0) (hf : fitE (atE E k) = true) : 5 ≤ (encAt E k).length := by
  obtain ⟨f1, _, _⟩ := (fitE_iff _).1 hf
  have hk1 : 1 ≤ (atE E k).key.length ∧ (atE E k).key.length ≤ 32 := by simpa [checkK] using f1
  have h1 := vint_pos (alikeAt E k)
  have h2 := vint_pos (atE E k).key.length
  have h3 := vint_pos (atE E k).seq
  unfold encAt
  rw [hk]
  unfold eput tput cutE
  simp only [List.drop_zero, List.length_append, List.length_cons]
  have := vint_pos 0
  omega
/-- a block has nine bytes at least -/
theorem blk_nine {E : List Ent} (hm : mayL E = true) : 9 ≤ (blkPut E).length := by
  obtain ⟨h1, h2⟩ := (mayL_iff E).1 hm
  have h0 := h2 0 h1.1
  unfold okAt at h0
  rw [Bool.and_eq_true] at h0
  have h5 := enc_five E 0 rfl h0.1
  obtain ⟨r, hr⟩ := body_split E 1 E.length h1.1
  rw [blkPut_length, hr, List.length_append]
  have : (bodyN E 1).length = (encAt E 0).length := by simp [bodyN]
  omega

/-- the parts behind a four -/
theorem enc_take (E : List Ent) (i k : Nat) (h : i < k) : encAt (E.take k) i = encAt E i := by
  unfold encAt alikeAt
  rw [atE_take E k i h, atE_take E k (i - 1) (by omega)]
theorem body_take (E : List Ent) (k n : Nat) (h : n ≤ k) : bodyN (E.take k) n = bodyN E n := by
  induction n with
  | zero => rfl
  | succ n ih => rw [bodyN, bodyN, ih (by omega), enc_take E n k (by omega)]
theorem enc_drop (E : List Ent) (i k : Nat) (hk : k % 4 = 0) : encAt (E.drop k) i = encAt E (k + i) := by
  unfold encAt alikeAt
  rw [atE_drop, atE_drop, show (k + i) % 4 = i % 4 from by omega]
  by_cases h : i % 4 = 0
  · rw [if_pos h, if_pos h]
  · rw [if_neg h, if_neg h, show k + i - 1 = k + (i - 1) from by
      have : i ≠ 0 := fun e => by subst e; simp at h
      omega]
theorem body_drop (E : List Ent) (k n : Nat) (hk : k % 4 = 0) : bodyN E (k + n) = bodyN E k ++ bodyN (E.drop k) n := by
  induction n with
  | zero => simp [bodyN]
  | succ n ih => rw [show k + (n + 1) = k + n + 1 from rfl, bodyN, bodyN, ih, enc_drop E n k hk, List.append_assoc]
theorem may_take {E : List Ent} (hm : mayL E = true) (k : Nat) (h1 : 0 < k) (h2 : k ≤ E.length) : mayL (E.take k) = true := by
  obtain ⟨g1, g2⟩ := (mayL_iff E).1 hm
  have hl : (E.take k).length = k := by rw [List.length_take]; omega
  refine (mayL_iff _).2 ⟨by omega, fun i hi => ?_⟩
  rw [hl] at hi
  have := g2 i (by omega)
  unfold okAt at this ⊢
  rw [atE_take E k i hi, atE_take E k (i - 1) (by omega)]
  exact this
theorem may_drop {E : List Ent} (hm : mayL E = true) (k : Nat) (h2 : k < E.length) : mayL (E.drop k) = true := by
  obtain ⟨g1, g2⟩ := (mayL_iff E).1 hm
  have hl : (E.drop k).length = E.length - k := List.length_drop
  refine (mayL_iff _).2 ⟨by omega, fun i hi => ?_⟩
  rw [hl] at hi
  have := g2 (k + i) (by omega)
  unfold okAt at this ⊢
  rw [atE_drop, atE_drop]
  rw [Bool.and_eq_true] at this ⊢
  refine ⟨this.1, ?_⟩
  by_cases h : i = 0
  · subst h; rfl
  · have h3 := this.2
    rw [show k + i - 1 = k + (i - 1) from by omega, show (k + i == 0) = false from by simp; omega, Bool.false_or] at h3
    rw [h3, Bool.or_true]
theorem body_parts (E : List Ent) (k : Nat) (hk : k % 4 = 0) (h2 : k ≤ E.length) : bodyN E E.length = bodyN (E.take k) (E.take k).length ++ bodyN (E.drop k) (E.drop k).length := by
  rw [List.length_take, List.length_drop, Nat.min_eq_left h2, body_take E k k (Nat.le_refl _), ← body_drop E k _ hk, show k + (E.length - k) = E.length from by omega]
end Go.Proofs.YtbcnapkbdbefhaaGreatDoor
namespace Go.Proofs.YtbcnapkbdbefhaaGreatDoor
open Go.RowKit

/-- one block is of one list alone -/
theorem blk_unique {E F : List Ent} (hE : mayL E = true) (hF : mayL F = true) (sE : ∀ x ∈ E, x.seq < 18446744073709551616) (sF : ∀ x ∈ F, x.seq < 18446744073709551616) (h : blkPut E = blkPut F) : E = F := by
  obtain ⟨a1, a2⟩ := (mayL_iff E).1 hE
  obtain ⟨b1, b2⟩ := (mayL_iff F).1 hF
  have c := (blk_cut hE rfl).2.2
  rw [h, (blk_cut hF rfl).2.2] at c
  have pE := pst_body E a2 sE
  have pF := pst_body F b2 sF
  rw [c] at pF
  rcases Nat.lt_trichotomy E.length F.length with hl | hl | hl
  · have e1 := pE E.length (Nat.le_refl _)
    have e2 := pF E.length (Nat.le_of_lt hl)
    rw [e1] at e2
    simp only [Prod.mk.injEq, and_true] at e2
    have g := e2.2.2
    rw [List.drop_length] at g
    have g2 := body_grows F E.length F.length hl
    rw [c] at g2
    have g3 := congrArg List.length g
    rw [List.length_drop] at g3
    simp at g3; omega
  · have e1 := pE E.length (Nat.le_refl _)
    have e2 := pF F.length (Nat.le_refl _)
    rw [← hl, e1] at e2
    simp only [Prod.mk.injEq, and_true] at e2
    have g := e2.1
    rw [List.take_length, hl, List.take_length] at g
    exact g
  · have e1 := pE F.length (Nat.le_of_lt hl)
    have e2 := pF F.length (Nat.le_refl _)
    rw [e1] at e2
    simp only [Prod.mk.injEq, and_true] at e2
    have g := e2.2.2
    have g2 := body_grows E F.length E.length hl
    have g3 := congrArg List.length g
    rw [List.length_drop, List.length_drop, c] at g3
    omega
end Go.Proofs.YtbcnapkbdbefhaaGreatDoor

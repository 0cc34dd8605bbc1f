/- Walks of package blocks: number, alike, the reader. The condition: bytes of less than 2^47. | Walks of package blocks: may, each. The condition: a slice of entries. | Walks of package blocks: each, for the closures of may and of Put. The condition: a slice of entries. | Walks of package blocks: may. The condition: a slice of entries. | Walks of package blocks: the closures of Put. The condition: a slice of entries, keys and values that are not too long. | Walks of package blocks: Put's closure. The condition: a slice of entries, keys and values that are not too long. | Walks of package blocks: Put. The condition: a slice of entries whose numbers are of 64 bits. -/
import Derived.Test.YtbcnapkbdbefhaaGreatDoorBlkP
import Derived.Test.YtbcnapkbdbefhaaGreatDoorMemB
import Derived.Test.YtbcnapkbdbefhaaGreatDoorReader1
import Derived.StillTailTactics
import Derived.Test.YtbcnapkbdbefhaaGreatDoorListsA
import Derived.Deep.Cut
import Derived.Test.YtbcnapkbdbefhaaGreatDoorOrderPut
import Derived.Deep.RegionWith
namespace Go.Proofs.YtbcnapkbdbefhaaGreatDoor
open Go.RowKit

theorem Grew.alloc {w w' : World} {base : Nat} {v v' : Value} {o : Obj} (h : Grew (w.alloc o) w' base v v') (hb : base ≤ w.heap.size) : Grew w w' base v v' := by
  have hal : Below w.heap.size w (w.alloc o) := (Below.refl _ _).alloc (Nat.le_refl _) _
  exact ⟨(hal.mono hb).trans h.below, fun b e sz n u xs ho ha => h.keep b e sz n u xs (own_below ho hal) (ha.later hal.size), fun u ha => h.apart u (ha.later hal.size), by
    obtain ⟨a1, a2, a3, a4, a5⟩ := h.rows
    obtain ⟨b1, b2, b3, b4, b5⟩ := hal
    exact ⟨a1.trans b1, a2.trans b2, a3.trans b3, Nat.le_trans b4 a4, fun k hk hne => (a5 k (Nat.lt_of_lt_of_le hk b4) hne).trans (b5 k hk)⟩⟩
theorem Grew.blk {w w' : World} {base : Nat} {v v' : Value} (h : Grew w w' base v v') {g : Nat} {cs : Array Value} {t : TypeId} (hb : Blk w g cs t) (ha : Apart w (.slice (some ⟨g, 0, none⟩) 0 0) v) : Blk w' g cs t :=
  hb.grown h.rows (fun e => (ha g rfl).2 e.symm)
set_option maxRecDepth 100000 in
set_option maxHeartbeats 1000000 in
theorem number_any (w : World) (base : Nat) (v : Value) (l : List UInt8) (n p : Nat) (hown : Own w base 5 1 v n (u8s l)) (hp : p < 65536) (hl : n ≤ 1073741824) (hbase : base ≤ w.heap.size) :
    Calls Tryz.prog 135 #[v, .int .i64 p] w fun e w' => ∃ b c, e = .returned (.slice b (n + 2) c) ∧ Hid (Own w' base 5 1 (.slice b (n + 2) c) (n + 2) (u8s (l ++ two p))) ∧ Hid (Grew w w' base v (.slice b (n + 2) c)) := by
  have HO := Lib.hid hown
  obtain ⟨a, c, rfl⟩ := (reads_of_own hown).slice
  clear hown
  obtain ⟨i0, hi, hz, hz1, hz2⟩ := info_parts info_u8
  have hlit : ∀ (w : World), Rd (w.alloc (.cells #[.int .u8 ((p : Int) / 256), .int .u8 ((p : Int) % 256)] 5)) (.slice (some ⟨w.heap.size, 0, none⟩) 2 2) (two p) := fun w => rd_lit w (two p) _ _ 2 (by
    simp only [two, u8s, List.map_cons, List.map_nil, UInt8.toNat_ofNat']
    refine congrArg List.toArray ?_
    congr 2
    · congr 1; omega) rfl (by simp [two])
  have HL := Lib.hid hlit
  clear hlit
  have hal : ∀ o, Below w.heap.size w (w.alloc o) := fun o => (Below.refl _ _).alloc (Nat.le_refl _) _
  have HAL := Lib.hid hal
  clear hal
  go_enter Tryz.func135, Tryz.ntmps135
  go_wp2_with (at_builtin; go_loud (refine wp_app_el2 rfl _ _ rfl Tryz.underlying22 hi hz hz1 hz2 rfl (by omega) base n 2 (.slice a n c) _ (u8s l) (u8s (two p)) (u8s (l ++ two p)) (n + 2) rfl rfl (own_below HO.out (HAL.out _)) (rd_reads (HL.out w)) (one_u8s _) rfl (by rw [u8s_append]) (by omega) (by omega) (Nat.le_trans hbase (by simp)) ?_); intro ua uc w2 HX2 HG2)
  go_ret
  exact ⟨_, _, rfl, HX2, HG2.out.alloc hbase⟩

theorem bs_inj {l m : List UInt8} (h : bs l = bs m) : l = m := by rw [← bs_data l, h, bs_data]
theorem bs_toList (l : List UInt8) : (bs l).toList = l := by rw [Lib.toList_data, bs_data]
set_option maxRecDepth 100000 in
set_option maxHeartbeats 1000000 in
theorem bytesEqual_any (w : World) (v v2 : Value) (l m : List UInt8) (hv : Rd w v l) (hv2 : Rd w v2 m) :
    Calls Tryz.prog 25 #[v, v2] w fun e w' => e = .returned (.bool (decide (l = m))) ∧ w = w' := by
  have s1 := run_str hv
  have s2 := run_str hv2
  have e1 := bs_toList l
  have e2 := bs_toList m
  clear hv hv2
  obtain ⟨a, ha⟩ : ∃ a, a = bs l := ⟨_, rfl⟩
  obtain ⟨b, hb⟩ : ∃ b, b = bs m := ⟨_, rfl⟩
  rw [← ha] at s1 e1
  rw [← hb] at s2 e2
  have HA := Lib.hid e1
  have HB := Lib.hid e2
  clear ha hb e1 e2
  go_enter Tryz.func25, Tryz.ntmps25
  go_wp2
  go_ret
  refine ⟨ret_bool ?_, rfl⟩
  rw [HA.out, HB.out]
  rw [Bool.eq_iff_iff]; simp

/-- a reader of package blocks in block g: its bytes, is it bad? -/
def Rdb (w : World) (g : Nat) (v : Value) (bad : Bool) : Prop := Blk w g #[v, .bool bad] 200
set_option maxRecDepth 100000 in
set_option maxHeartbeats 1000000 in
theorem tookB_any (w0 w : World) (g : Nat) (v : Value) (l : List UInt8) (bad : Bool) (n e : Nat) (h : Rdb w g v bad) (hv : Rd w0 v l) (hn : n ≤ l.length) :
    Calls Tryz.prog 171 #[.pointer (some ⟨g, 0, none⟩), .int .i64 n, .int .i64 e] w fun en w' => ∃ v', en = .returned (.tuple #[]) ∧ Hid (Rdb w' g v' (bad || decide (e ≠ 0))) ∧ Hid (Rd w0 v' (l.drop n)) ∧ Hid (Only w w' g) := by
  have HB := Lib.hid h
  obtain ⟨a, c, hcut, hrd⟩ := cut_from hv n hn
  have HRD := Lib.hid hrd
  have s1 := fun w' => hcut w' .i64
  obtain ⟨va, vn, vc, rfl, hvn⟩ := rd_len hv
  obtain ⟨zn, hz⟩ : ∃ z, z = l.length - n := ⟨_, rfl⟩
  rw [← hz] at s1 HRD
  clear hcut hrd hz hv hn hvn
  have c0 := Blk.cellv h 0 _ rfl
  have c1 := Blk.cellv h 1 _ rfl
  have f0 := Blk.free h 0
  have f1 := Blk.free h 1
  clear h
  by_cases hb : bad = true
  · subst hb
    go_enter Tryz.func171, Tryz.ntmps171
    go_wp2
    go_end0
    refine ⟨.slice a zn c, rfl, ?_, HRD, (Only.set w g 1 _).trans (Only.set _ g 0 _)⟩
    have h2 := Blk.set (Blk.set HB.out 1 (.bool true)) 0 (.slice a zn c)
    exact h2
  · obtain rfl : bad = false := by simpa using hb
    by_cases he : e = 0
    · subst he
      go_enter Tryz.func171, Tryz.ntmps171
      go_wp2
      go_end0
      refine ⟨.slice a zn c, rfl, ?_, HRD, (Only.set w g 1 _).trans (Only.set _ g 0 _)⟩
      have h2 := Blk.set (Blk.set HB.out 1 (.bool false)) 0 (.slice a zn c)
      exact h2
    · have hee : ((e : Int) != 0) = true := by simp; omega
      go_enter Tryz.func171, Tryz.ntmps171
      go_wp2
      go_end0
      refine ⟨.slice a zn c, rfl, ?_, HRD, (Only.set w g 1 _).trans (Only.set _ g 0 _)⟩
      have h2 := Blk.set (Blk.set HB.out 1 (.bool true)) 0 (.slice a zn c)
      have e4 : (false || decide (e ≠ 0)) = true := by simp; omega
      rw [e4]
      exact h2
theorem vget_len (l : List UInt8) : (vget l).2.1 ≤ l.length := by
  by_cases h : (vget l).2.2 = 0
  · exact (vget_got (l := l) (n := (vget l).1) (k := (vget l).2.1) (by ext <;> simp [h])).2.2.1
  · rcases vget_bad h with ⟨e, _⟩ | ⟨e, _⟩ <;> rw [e] <;> exact Nat.zero_le _
theorem tget_len (l : List UInt8) : (tget l).2.1 ≤ l.length := by
  by_cases h : (tget l).2.2 = 0
  · exact (tget_got (l := l) (s := (tget l).1) (k := (tget l).2.1) (by ext <;> simp [h])).2.1
  · rcases tget_err h with e | e <;> rw [e] <;> exact Nat.zero_le _
set_option maxRecDepth 100000 in
set_option maxHeartbeats 1000000 in
theorem numberB_any (w0 w : World) (g : Nat) (v : Value) (l : List UInt8) (bad : Bool) (h : Rdb w g v bad) (hv : Rd w0 v l) (hbel : Below w0.heap.size w0 w) :
    Calls Tryz.prog 169 #[.pointer (some ⟨g, 0, none⟩)] w fun en w' => ∃ v', en = .returned (.int .u64 (vget l).1) ∧ Hid (Rdb w' g v' (bad || decide ((vget l).2.2 ≠ 0))) ∧ Hid (Rd w0 v' (l.drop (vget l).2.1)) ∧ Hid (Only w w' g) := by
  have HB := Lib.hid h
  have HK := Lib.hid (vget_len l)
  have HV := Lib.hid hv
  have HG := Lib.hid (intsGet_any v l w (hv.below hbel))
  obtain ⟨va, vn, vc, rfl, hvn⟩ := rd_len hv
  have c0 := Blk.cellv h 0 (.slice va vn vc) rfl
  obtain ⟨N, K, E, hg⟩ : ∃ N K E, vget l = (N, K, E) := ⟨_, _, _, rfl⟩
  have HN := Lib.hid hg
  have HG2 : Hid (Calls Tryz.prog 179 #[.slice va vn vc] w fun e' w' => e' = .returned (.tuple #[.int .u64 N, .int .i64 K, .int .i64 E]) ∧ w = w') := by
    refine HG.out.mono ?_
    rintro e' w' ⟨rfl, rfl⟩
    rw [HN.out]; exact ⟨rfl, rfl⟩
  rw [HN.out] at HK ⊢
  clear h hv hbel hvn HG hg
  go_enter Tryz.func169, Tryz.ntmps169
  go_wp2_with fail
  refine HG2.out.mono ?_
  rintro e' w' ⟨rfl, rfl⟩
  go_wp2_with fail
  refine (tookB_any w0 w g _ l bad K E HB.out HV.out HK.out).mono ?_
  rintro e' w' ⟨v', rfl, h1, h2, h3⟩
  go_wp2
  go_ret
  exact ⟨v', rfl, h1, h2, h3⟩
set_option maxRecDepth 100000 in
set_option maxHeartbeats 1000000 in
theorem textB_any (w0 w : World) (g : Nat) (v : Value) (l : List UInt8) (bad : Bool) (h : Rdb w g v bad) (hv : Rd w0 v l) (hbel : Below w0.heap.size w0 w) :
    Calls Tryz.prog 170 #[.pointer (some ⟨g, 0, none⟩)] w fun en w' => ∃ v', en = .returned (.string (bs (tget l).1)) ∧ Hid (Rdb w' g v' (bad || decide ((tget l).2.2 ≠ 0))) ∧ Hid (Rd w0 v' (l.drop (tget l).2.1)) ∧ Hid (Only w w' g) := by
  have HB := Lib.hid h
  have HK := Lib.hid (tget_len l)
  have HV := Lib.hid hv
  have HG := Lib.hid (intsGetText_any v l w (hv.below hbel))
  obtain ⟨va, vn, vc, rfl, hvn⟩ := rd_len hv
  have c0 := Blk.cellv h 0 (.slice va vn vc) rfl
  obtain ⟨N, K, E, hg⟩ : ∃ N K E, tget l = (N, K, E) := ⟨_, _, _, rfl⟩
  have HN := Lib.hid hg
  obtain ⟨S, hS⟩ : ∃ S, S = bs N := ⟨_, rfl⟩
  have HG2 : Hid (Calls Tryz.prog 180 #[.slice va vn vc] w fun e' w' => e' = .returned (.tuple #[.string S, .int .i64 K, .int .i64 E]) ∧ w = w') := by
    refine HG.out.mono ?_
    rintro e' w' ⟨h1, h2⟩
    rw [h1, HN.out, hS]; exact ⟨rfl, h2⟩
  rw [HN.out] at HK ⊢
  rw [← hS]
  clear h hv hbel hvn HG hg hS
  go_enter Tryz.func170, Tryz.ntmps170
  go_wp2_with fail
  refine HG2.out.mono ?_
  rintro e' w' ⟨rfl, rfl⟩
  go_wp2_with fail
  refine (tookB_any w0 w g _ l bad K E HB.out HV.out HK.out).mono ?_
  rintro e' w' ⟨v', rfl, h1, h2, h3⟩
  go_wp2
  go_ret
  exact ⟨v', rfl, h1, h2, h3⟩

theorem alike_more (s t : List UInt8) (n : Nat) (h : ∀ i, (hi : i < n) → (h1 : i < s.length) → (h2 : i < t.length) → s[i] = t[i]) (h1 : n ≤ s.length) (h2 : n ≤ t.length) : n ≤ alikeL s t := by
  by_cases hn : alikeL s t < n
  · exact absurd (h _ hn (by omega) (by omega)) (alikeL_stop s t (by omega) (by omega))
  · omega
set_option maxRecDepth 100000 in
set_option maxHeartbeats 1000000 in
theorem alike_any (w : World) (s t : ByteArray) (hs : s.size ≤ 1099511627776) :
    Calls Tryz.prog 131 #[.string s, .string t] w fun e w' => e = .returned (.int .i64 (alikeL s.data.toList t.data.toList)) ∧ Below w.heap.size w w' := by
  have hle1 := alikeL_le1 s.data.toList t.data.toList
  have hle2 := alikeL_le2 s.data.toList t.data.toList
  rw [size_data] at hle1 hle2
  obtain ⟨n, hn⟩ : ∃ n, n = alikeL s.data.toList t.data.toList := ⟨_, rfl⟩
  have HN := Lib.hid hn
  rw [← hn] at hle1 hle2 ⊢
  clear hn
  obtain ⟨mn, hmn⟩ : ∃ m, m = min s.size t.size := ⟨_, rfl⟩
  have hmin : (if t.size < s.size then ((t.size : Nat) : Int) else ((s.size : Nat) : Int)) = (mn : Int) := by
    rw [hmn]; split <;> omega
  have hnm : n ≤ mn := by omega
  have hm1 : mn ≤ s.size := by omega
  have hm2 : mn ≤ t.size := by omega
  clear hmn
  go_enter Tryz.func131, Tryz.ntmps131
  go_wp2_with fail
  show Code.wp _ _ _ _ _
  go_loopw [4] (fun i wr => ∃ k : Nat, k ≤ n ∧ i = .int .i64 k ∧ Below w.heap.size w wr) (fun i _ => n - (intOf i).toNat)
  case atStart => exact ⟨0, Nat.zero_le _, rfl, Below.refl _ _⟩
  case round =>
    obtain ⟨k, hk, rfl, belr⟩ := hrel
    by_cases hlt : k < n
    · have hd : decide (k < mn) = true := by simp; omega
      have hks : ((k : Nat) : Int) < ((s.size : Nat) : Int) := by omega
      have hkt : ((k : Nat) : Int) < ((t.size : Nat) : Int) := by omega
      have heq : (((s[k]'(by omega)).toNat : Int) == ((t[k]'(by omega)).toNat : Int)) = true := by
        have h := alikeL_end s.data.toList t.data.toList k (by rw [← HN.out]; exact hlt) (by rw [size_data]; omega) (by rw [size_data]; omega)
        have h' : s[k]'(by omega) = t[k]'(by omega) := h
        rw [h']; simp
      go_wp2_with fail
      go_quiet (fail)
      clear hd
      have hdw := drewN_below wr nq
      go_wp2_with fail
      go_round
      case rel => exact ⟨k + 1, by omega, by go_num, Below.trans belr (hdw.mono belr.size)⟩
      case measure => simp [intOf]; omega
    · obtain rfl : k = n := by omega
      by_cases hkm : k < mn
      · have hd : decide (k < mn) = true := by simp; omega
        have hks : ((k : Nat) : Int) < ((s.size : Nat) : Int) := by omega
        have hkt : ((k : Nat) : Int) < ((t.size : Nat) : Int) := by omega
        have heq : (((s[k]'(by omega)).toNat : Int) == ((t[k]'(by omega)).toNat : Int)) = false := by
          have h := alikeL_stop s.data.toList t.data.toList (by rw [← HN.out, size_data]; omega) (by rw [← HN.out, size_data]; omega)
          simp only [← HN.out] at h
          have h' : s[k]'(by omega) ≠ t[k]'(by omega) := h
          simp only [beq_eq_false_iff_ne, ne_eq]
          intro e
          exact h' (UInt8.toNat_inj.1 (by omega))
        go_wp2_with fail
        go_quiet (fail)
        clear hd
        have hdw := drewN_below wr nq
        go_wp2_with fail
        go_ret
        exact ⟨rfl, Below.trans belr (hdw.mono belr.size)⟩
      · have hd : decide (k < mn) = false := by simp; omega
        go_wp2_with fail
        go_quiet (fail)
        clear hd
        have hdw := drewN_below wr nq
        go_wp2_with fail
        go_ret
        exact ⟨rfl, Below.trans belr (hdw.mono belr.size)⟩
end Go.Proofs.YtbcnapkbdbefhaaGreatDoor
namespace Go.Proofs.YtbcnapkbdbefhaaGreatDoor
open Go.RowKit

theorem still_tail {P : Program} {id : Nat} {Q : Exit → Act → World → Prop} {a : Act} {w wd : World} {l : List Oper} (n : Nat) (hm : P.follows .mixedOrders = true) (hB : Region.lexTailB .any l.toArray n = true) (hwd : wd = w.drew)
    (h : wpStill P l.toArray wd (fun a' => wpList P l.toArray Q (l.drop n) a' wd) (l.take n) a) : (Code.region id l.toArray true).wp P Q a w := by
  subst hwd
  exact wp_region_still_tail n hm hB h
theorem still_skip {P : Program} {ops : Array Oper} {w : World} {Q : Act → Prop} {a : Act} {o : Oper} {rest : List Oper} (hw : Region.wanted o (yielded ops a.tmps) = false) (h : wpStill P ops w Q rest (a.put o.dst undef)) : wpStill P ops w Q (o :: rest) a :=
  wpStill_step fun K hK => by rw [if_neg (by rw [hw]; decide)]; exact hK _ h
def entsOf (l : List PE) : List Ent := l.map PE.ent
theorem entsOf_length (l : List PE) : (entsOf l).length = l.length := by simp [entsOf]
theorem entsOf_at (l : List PE) (k : Nat) (h : k < l.length) : atE (entsOf l) k = l[k].ent := by
  rw [atE_get _ _ (by rw [entsOf_length]; exact h)]; simp [entsOf]

set_option maxRecDepth 100000 in
set_option maxHeartbeats 8000000 in
theorem mayStep_any (w0 w : World) (c d : Nat) (v : Value) (l : List PE) (k : Nat) (x : PE) (ok : Bool) (hc : Blk w c #[.bool ok] 4) (hd : Blk w d #[v] 29)
    (hv : RdE w0 v l) (hbel : Below w0.heap.size w0 w) (hk : k < l.length) (hx : x = l[k]) :
    Calls Tryz.prog 163 #[.int .i64 k, .agg #[.string x.k, .int .u64 x.s, .bool x.g, .string x.u], .pointer (some ⟨c, 0, none⟩), .pointer (some ⟨d, 0, none⟩)] w fun e w' =>
      e = .returned (.tuple #[]) ∧ Hid (Blk w' c #[.bool (ok && okAt (entsOf l) k)] 4) ∧ Hid (Only w w' c) := by
  have HE : Hid (atE (entsOf l) k = x.ent) := by show _ = _; rw [entsOf_at l k hk, hx]
  clear hx
  obtain ⟨xk, xs, xg, xu⟩ := x
  simp only
  have HOK : Hid (okAt (entsOf l) k = (checkK xk.data.toList && (decide (xu.size ≤ 256) && (!xg || xu.toList.isEmpty)) && (k == 0 || decide (cmpE (atE (entsOf l) (k - 1)) (entOf xk xs xg xu) < 0)))) := by
    show _ = _
    unfold okAt
    rw [HE.out]
    simp only [fitE, PE.ent, entOf, Lib.toList_data, size_data]
    rfl
  obtain ⟨wd, hwd⟩ : ∃ wd, wd = (w.alloc (.cells #[.string xk, .int .u64 xs, .bool xg, .string xu] 34)).drew := ⟨_, rfl⟩
  have hbd : Below w.heap.size w wd := by rw [hwd]; exact ((Below.refl _ _).alloc (Nat.le_refl _) _).drew
  have hX : Blk wd w.heap.size #[.string xk, .int .u64 xs, .bool xg, .string xu] 34 := by rw [hwd]; exact (Blk.new _ _ _).drew
  have HWD := Lib.hid hwd
  replace hc := hc.below hbd
  replace hd := hd.below hbd
  have HV := Lib.hid (hv.below (hbel.trans (hbd.mono hbel.size)))
  obtain ⟨va, vc, rfl, _, _, _⟩ := hv
  have c0 := hc.cellv 0 (.bool ok) rfl
  have d0 := hd.cellv 0 (.slice va l.length vc) rfl
  have cf := hc.free 0
  have x0 := hX.cellv 0 (.string xk) rfl
  have x1 := hX.cellv 1 (.int .u64 xs) rfl
  have x2 := hX.cellv 2 (.bool xg) rfl
  have x3 := hX.cellv 3 (.string xu) rfl
  have HCA : ∀ b, checkK xk.data.toList = b → Hid (∀ w', Calls Tryz.prog 126 #[.string xk] w' fun e w'' => e = .returned (.bool b) ∧ w'' = w') := fun b hb w' =>
    (check_any xk w').mono fun e w'' h => by rw [← hb]; exact ⟨h.1, h.2.symm⟩
  clear hwd HE
  cases ok
  · clear HCA
    go_enter Tryz.func163, Tryz.ntmps163
    go_wp2_with fail
    refine still_tail (wd := wd) 36 ?hm ?hB ?hwd ?h
    case hm => kernel_rfl
    case hB => kernel_rfl
    case hwd => exact HWD.out
    simp only [List.take_succ_cons, List.take_zero, List.drop_succ_cons, List.drop_zero]
    repeat (first | ((with_reducible refine still_skip ?hw ?hrest); case hw => rfl; simp only [Act.put, List.setIfInBounds_toArray, List.set_cons_zero, List.set_cons_succ]) | ((with_reducible refine wpStill_step (fun K hK => ?_)); go_simp; refine hK _ ?_; clear hK K))
    try refine wpStill_nil ?_
    go_wp2_with fail
    go_end0
    refine ⟨rfl, ?_, (Only.of_below hbd).trans (Only.set wd c 0 _)⟩
    have h2 := hc.set 0 (.bool false)
    show Blk _ c #[.bool (false && okAt (entsOf l) k)] _
    rw [show (false && okAt (entsOf l) k) = false from Bool.false_and _]
    exact h2
  cases hck : checkK xk.data.toList
  · have HCK := HCA _ hck
    have HCE := Lib.hid hck
    clear HCA hck
    go_enter Tryz.func163, Tryz.ntmps163
    go_wp2_with fail
    refine still_tail (wd := wd) 36 ?hm ?hB ?hwd ?h
    case hm => kernel_rfl
    case hB => kernel_rfl
    case hwd => exact HWD.out
    simp only [List.take_succ_cons, List.take_zero, List.drop_succ_cons, List.drop_zero]
    repeat (first | ((with_reducible refine still_skip ?hw ?hrest); case hw => rfl; simp only [Act.put, List.setIfInBounds_toArray, List.set_cons_zero, List.set_cons_succ]) | ((with_reducible refine wpStill_step (fun K hK => ?_)); go_simp; refine hK _ ?_; clear hK K))
    (with_reducible refine wpStill_step (fun K hK => ?_))
    go_simp
    refine ⟨_, HCK.out _, hK _ ?_⟩
    clear hK K
    repeat (first | ((with_reducible refine still_skip ?hw ?hrest); case hw => rfl; simp only [Act.put, List.setIfInBounds_toArray, List.set_cons_zero, List.set_cons_succ]) | ((with_reducible refine wpStill_step (fun K hK => ?_)); go_simp; refine hK _ ?_; clear hK K))
    try refine wpStill_nil ?_
    go_wp2_with fail
    go_end0
    refine ⟨rfl, ?_, (Only.of_below hbd).trans (Only.set wd c 0 _)⟩
    have h2 := hc.set 0 (.bool false)
    show Blk _ c #[.bool (true && okAt (entsOf l) k)] _
    rw [show (true && okAt (entsOf l) k) = false from by rw [HOK.out, HCE.out]; rfl]
    exact h2
  have HCK := HCA _ hck
  have HCE := Lib.hid hck
  clear HCA hck
  by_cases hvl : xu.size ≤ 256
  case neg =>
    have hvd : decide ((xu.size : Int) ≤ 256) = false := by simp; omega
    have HVD : Hid (decide (xu.size ≤ 256) = false) := by show _ = _; simp; omega
    go_enter Tryz.func163, Tryz.ntmps163
    go_wp2_with fail
    refine still_tail (wd := wd) 36 ?hm ?hB ?hwd ?h
    case hm => kernel_rfl
    case hB => kernel_rfl
    case hwd => exact HWD.out
    simp only [List.take_succ_cons, List.take_zero, List.drop_succ_cons, List.drop_zero]
    repeat (first | ((with_reducible refine still_skip ?hw ?hrest); case hw => rfl; simp only [Act.put, List.setIfInBounds_toArray, List.set_cons_zero, List.set_cons_succ]) | ((with_reducible refine wpStill_step (fun K hK => ?_)); go_simp; refine hK _ ?_; clear hK K))
    (with_reducible refine wpStill_step (fun K hK => ?_))
    go_simp
    refine ⟨_, HCK.out _, hK _ ?_⟩
    clear hK K
    repeat (first | ((with_reducible refine still_skip ?hw ?hrest); case hw => rfl; simp only [Act.put, List.setIfInBounds_toArray, List.set_cons_zero, List.set_cons_succ]) | ((with_reducible refine wpStill_step (fun K hK => ?_)); go_simp; refine hK _ ?_; clear hK K))
    try refine wpStill_nil ?_
    go_wp2_with fail
    go_end0
    refine ⟨rfl, ?_, (Only.of_below hbd).trans (Only.set wd c 0 _)⟩
    have h2 := hc.set 0 (.bool false)
    show Blk _ c #[.bool (true && okAt (entsOf l) k)] _
    rw [show (true && okAt (entsOf l) k) = false from by rw [HOK.out, HCE.out, HVD.out]; rfl]
    exact h2
  have hvd : decide ((xu.size : Int) ≤ 256) = true := by simp; omega
  have HVD : Hid (decide (xu.size ≤ 256) = true) := by show _ = _; simp; omega
  have hgv : ∃ gv : Bool, (!xg || xu.toList.isEmpty) = gv := ⟨_, rfl⟩
  obtain ⟨gv, hgv⟩ := hgv
  have HGV := Lib.hid hgv
  cases gv
  · obtain ⟨hg1, hg2⟩ : xg = true ∧ xu.toList.isEmpty = false := by simpa using hgv
    subst hg1
    clear hgv
    go_enter Tryz.func163, Tryz.ntmps163
    go_wp2_with fail
    refine still_tail (wd := wd) 36 ?hm ?hB ?hwd ?h
    case hm => kernel_rfl
    case hB => kernel_rfl
    case hwd => exact HWD.out
    simp only [List.take_succ_cons, List.take_zero, List.drop_succ_cons, List.drop_zero]
    repeat (first | ((with_reducible refine still_skip ?hw ?hrest); case hw => rfl; simp only [Act.put, List.setIfInBounds_toArray, List.set_cons_zero, List.set_cons_succ]) | ((with_reducible refine wpStill_step (fun K hK => ?_)); go_simp; refine hK _ ?_; clear hK K))
    (with_reducible refine wpStill_step (fun K hK => ?_))
    go_simp
    refine ⟨_, HCK.out _, hK _ ?_⟩
    clear hK K
    repeat (first | ((with_reducible refine still_skip ?hw ?hrest); case hw => rfl; simp only [Act.put, List.setIfInBounds_toArray, List.set_cons_zero, List.set_cons_succ]) | ((with_reducible refine wpStill_step (fun K hK => ?_)); go_simp; refine hK _ ?_; clear hK K))
    try refine wpStill_nil ?_
    go_wp2_with fail
    go_end0
    refine ⟨rfl, ?_, (Only.of_below hbd).trans (Only.set wd c 0 _)⟩
    have h2 := hc.set 0 (.bool false)
    show Blk _ c #[.bool (true && okAt (entsOf l) k)] _
    rw [show (true && okAt (entsOf l) k) = false from by rw [HOK.out, HCE.out, HVD.out, HGV.out]; rfl]
    exact h2
  cases xg
  · clear hgv
    by_cases hk0 : k = 0
    · subst hk0
      go_enter Tryz.func163, Tryz.ntmps163
      go_wp2_with fail
      refine still_tail (wd := wd) 36 ?hm ?hB ?hwd ?h
      case hm => kernel_rfl
      case hB => kernel_rfl
      case hwd => exact HWD.out
      simp only [List.take_succ_cons, List.take_zero, List.drop_succ_cons, List.drop_zero]
      repeat (first | ((with_reducible refine still_skip ?hw ?hrest); case hw => rfl; simp only [Act.put, List.setIfInBounds_toArray, List.set_cons_zero, List.set_cons_succ]) | ((with_reducible refine wpStill_step (fun K hK => ?_)); go_simp; refine hK _ ?_; clear hK K))
      (with_reducible refine wpStill_step (fun K hK => ?_))
      go_simp
      refine ⟨_, HCK.out _, hK _ ?_⟩
      clear hK K
      repeat (first | ((with_reducible refine still_skip ?hw ?hrest); case hw => rfl; simp only [Act.put, List.setIfInBounds_toArray, List.set_cons_zero, List.set_cons_succ]) | ((with_reducible refine wpStill_step (fun K hK => ?_)); go_simp; refine hK _ ?_; clear hK K))
      try refine wpStill_nil ?_
      go_wp2_with fail
      go_end0
      refine ⟨rfl, ?_, (Only.of_below hbd).trans (Only.set wd c 0 _)⟩
      have h2 := hc.set 0 (.bool true)
      show Blk _ c #[.bool (true && okAt (entsOf l) 0)] _
      rw [show (true && okAt (entsOf l) 0) = true from by rw [HOK.out, HCE.out, HVD.out, HGV.out]; rfl]
      exact h2
    · have hk1 : ((k : Int) == 0) = false := by simp; omega
      have HK1 : Hid ((k == 0) = false) := by show _ = _; simp; omega
      obtain ⟨j, hj⟩ : ∃ j, j = k - 1 := ⟨_, rfl⟩
      have HJ := Lib.hid hj
      have hkj : ((k : Int) - 1) = (j : Int) := by omega
      have hjl : j < l.length := by omega
      have hwj : IntKind.i64.wrap (j : Int) = (j : Int) := IntWalk.i64_in _ (by omega)
      have HAJ := Lib.hid (entsOf_at l j hjl)
      obtain ⟨a', c', hve, _, _, hcell⟩ := HV.out
      obtain ⟨b3, off3, hae, y0, y1, y2, _⟩ := hcell j hjl
      simp only [Value.slice.injEq] at hve
      obtain ⟨rfl, el, rfl⟩ := hve
      clear el hcell hj
      subst hae
      obtain ⟨y, hy⟩ : ∃ y, y = l[j] := ⟨_, rfl⟩
      rw [← hy] at y0 y1 y2 HAJ
      clear hy
      obtain ⟨yk, ys, yg, yu⟩ := y
      simp only at y0 y1 y2
      obtain ⟨n, hn⟩ : ∃ n, n = cmpM yk.data.toList ys yg xk.data.toList xs false := ⟨_, rfl⟩
      have HN := Lib.hid hn
      have HCM : Hid (Calls Tryz.prog 94 #[.agg #[.string yk, .int .u64 ys, .bool yg], .agg #[.string xk, .int .u64 xs, .bool false]] wd fun e w' => e = .returned (.int .i64 n) ∧ Below wd.heap.size wd w') := by
        rw [hn]; exact orderCmp_any _ _ _ _ _ _ wd
      clear hn
      go_enter Tryz.func163, Tryz.ntmps163
      go_wp2_with fail
      refine still_tail (wd := wd) 36 ?hm ?hB ?hwd ?h
      case hm => kernel_rfl
      case hB => kernel_rfl
      case hwd => exact HWD.out
      simp only [List.take_succ_cons, List.take_zero, List.drop_succ_cons, List.drop_zero]
      repeat (first | ((with_reducible refine still_skip ?hw ?hrest); case hw => rfl; simp only [Act.put, List.setIfInBounds_toArray, List.set_cons_zero, List.set_cons_succ]) | ((with_reducible refine wpStill_step (fun K hK => ?_)); go_simp; refine hK _ ?_; clear hK K))
      (with_reducible refine wpStill_step (fun K hK => ?_))
      go_simp
      refine ⟨_, HCK.out _, hK _ ?_⟩
      clear hK K
      repeat (first | ((with_reducible refine still_skip ?hw ?hrest); case hw => rfl; simp only [Act.put, List.setIfInBounds_toArray, List.set_cons_zero, List.set_cons_succ]) | ((with_reducible refine wpStill_step (fun K hK => ?_)); go_simp; refine hK _ ?_; clear hK K))
      try refine wpStill_nil ?_
      go_wp2_with fail
      refine HCM.out.mono ?_
      rintro e w9 ⟨rfl, bel9⟩
      replace hc := hc.below bel9
      have c9 := hc.cellv 0 (.bool true) rfl
      have cf9 := hc.free 0
      go_wp2_with fail
      go_end0
      refine ⟨rfl, ?_, (Only.of_below (hbd.trans (bel9.mono hbd.size))).trans (Only.set w9 c 0 _)⟩
      have h2 := hc.set 0 (.bool (decide (n < 0)))
      show Blk _ c #[.bool (true && okAt (entsOf l) k)] _
      rw [show (true && okAt (entsOf l) k) = decide (n < 0) from by rw [HOK.out, HCE.out, HVD.out, HGV.out, HK1.out, ← HJ.out, HAJ.out, HN.out]; rfl]
      exact h2
  · have hem : xu.toList.isEmpty = true := by simpa using hgv
    revert hem
    intro hem
    clear hgv
    by_cases hk0 : k = 0
    · subst hk0
      go_enter Tryz.func163, Tryz.ntmps163
      go_wp2_with fail
      refine still_tail (wd := wd) 36 ?hm ?hB ?hwd ?h
      case hm => kernel_rfl
      case hB => kernel_rfl
      case hwd => exact HWD.out
      simp only [List.take_succ_cons, List.take_zero, List.drop_succ_cons, List.drop_zero]
      repeat (first | ((with_reducible refine still_skip ?hw ?hrest); case hw => rfl; simp only [Act.put, List.setIfInBounds_toArray, List.set_cons_zero, List.set_cons_succ]) | ((with_reducible refine wpStill_step (fun K hK => ?_)); go_simp; refine hK _ ?_; clear hK K))
      (with_reducible refine wpStill_step (fun K hK => ?_))
      go_simp
      refine ⟨_, HCK.out _, hK _ ?_⟩
      clear hK K
      repeat (first | ((with_reducible refine still_skip ?hw ?hrest); case hw => rfl; simp only [Act.put, List.setIfInBounds_toArray, List.set_cons_zero, List.set_cons_succ]) | ((with_reducible refine wpStill_step (fun K hK => ?_)); go_simp; refine hK _ ?_; clear hK K))
      try refine wpStill_nil ?_
      go_wp2_with fail
      go_end0
      refine ⟨rfl, ?_, (Only.of_below hbd).trans (Only.set wd c 0 _)⟩
      have h2 := hc.set 0 (.bool true)
      show Blk _ c #[.bool (true && okAt (entsOf l) 0)] _
      rw [show (true && okAt (entsOf l) 0) = true from by rw [HOK.out, HCE.out, HVD.out, HGV.out]; rfl]
      exact h2
    · have hk1 : ((k : Int) == 0) = false := by simp; omega
      have HK1 : Hid ((k == 0) = false) := by show _ = _; simp; omega
      obtain ⟨j, hj⟩ : ∃ j, j = k - 1 := ⟨_, rfl⟩
      have HJ := Lib.hid hj
      have hkj : ((k : Int) - 1) = (j : Int) := by omega
      have hjl : j < l.length := by omega
      have hwj : IntKind.i64.wrap (j : Int) = (j : Int) := IntWalk.i64_in _ (by omega)
      have HAJ := Lib.hid (entsOf_at l j hjl)
      obtain ⟨a', c', hve, _, _, hcell⟩ := HV.out
      obtain ⟨b3, off3, hae, y0, y1, y2, _⟩ := hcell j hjl
      simp only [Value.slice.injEq] at hve
      obtain ⟨rfl, el, rfl⟩ := hve
      clear el hcell hj
      subst hae
      obtain ⟨y, hy⟩ : ∃ y, y = l[j] := ⟨_, rfl⟩
      rw [← hy] at y0 y1 y2 HAJ
      clear hy
      obtain ⟨yk, ys, yg, yu⟩ := y
      simp only at y0 y1 y2
      obtain ⟨n, hn⟩ : ∃ n, n = cmpM yk.data.toList ys yg xk.data.toList xs true := ⟨_, rfl⟩
      have HN := Lib.hid hn
      have HCM : Hid (Calls Tryz.prog 94 #[.agg #[.string yk, .int .u64 ys, .bool yg], .agg #[.string xk, .int .u64 xs, .bool true]] wd fun e w' => e = .returned (.int .i64 n) ∧ Below wd.heap.size wd w') := by
        rw [hn]; exact orderCmp_any _ _ _ _ _ _ wd
      clear hn
      go_enter Tryz.func163, Tryz.ntmps163
      go_wp2_with fail
      refine still_tail (wd := wd) 36 ?hm ?hB ?hwd ?h
      case hm => kernel_rfl
      case hB => kernel_rfl
      case hwd => exact HWD.out
      simp only [List.take_succ_cons, List.take_zero, List.drop_succ_cons, List.drop_zero]
      repeat (first | ((with_reducible refine still_skip ?hw ?hrest); case hw => rfl; simp only [Act.put, List.setIfInBounds_toArray, List.set_cons_zero, List.set_cons_succ]) | ((with_reducible refine wpStill_step (fun K hK => ?_)); go_simp; refine hK _ ?_; clear hK K))
      (with_reducible refine wpStill_step (fun K hK => ?_))
      go_simp
      refine ⟨_, HCK.out _, hK _ ?_⟩
      clear hK K
      repeat (first | ((with_reducible refine still_skip ?hw ?hrest); case hw => rfl; simp only [Act.put, List.setIfInBounds_toArray, List.set_cons_zero, List.set_cons_succ]) | ((with_reducible refine wpStill_step (fun K hK => ?_)); go_simp; refine hK _ ?_; clear hK K))
      try refine wpStill_nil ?_
      go_wp2_with fail
      refine HCM.out.mono ?_
      rintro e w9 ⟨rfl, bel9⟩
      replace hc := hc.below bel9
      have c9 := hc.cellv 0 (.bool true) rfl
      have cf9 := hc.free 0
      go_wp2_with fail
      go_end0
      refine ⟨rfl, ?_, (Only.of_below (hbd.trans (bel9.mono hbd.size))).trans (Only.set w9 c 0 _)⟩
      have h2 := hc.set 0 (.bool (decide (n < 0)))
      show Blk _ c #[.bool (true && okAt (entsOf l) k)] _
      rw [show (true && okAt (entsOf l) k) = decide (n < 0) from by rw [HOK.out, HCE.out, HVD.out, HGV.out, HK1.out, ← HJ.out, HAJ.out, HN.out]; rfl]
      exact h2

end Go.Proofs.YtbcnapkbdbefhaaGreatDoor
namespace Go.Proofs.YtbcnapkbdbefhaaGreatDoor
open Go.RowKit

def PE.agg (x : PE) : Value := .agg #[.string x.k, .int .u64 x.s, .bool x.g, .string x.u]
set_option maxRecDepth 100000 in
set_option maxHeartbeats 2000000 in
theorem eachMayE_any (w0 w : World) (v : Value) (l : List PE) (p q : Value) (Inv : Nat → World → Prop) (hv : RdE w0 v l) (hinv : Inv 0 w) (hbelow : ∀ k w', Inv k w' → Below w0.heap.size w0 w')
    (hlater : ∀ k w' w'', Inv k w' → Below w'.heap.size w' w'' → Inv k w'')
    (hstep : ∀ k (hk : k < l.length) w', Inv k w' → Calls Tryz.prog 163 #[.int .i64 k, l[k].agg, p, q] w' fun e w'' => e = .returned (.tuple #[]) ∧ Inv (k + 1) w'') :
    Calls Tryz.prog 129 #[v, .func (.func 163) #[] #[p, q]] w fun e w' => e = .returned (.tuple #[]) ∧ Inv l.length w' := by
  have HV := Lib.hid hv
  have HB := Lib.hid hbelow
  have HL := Lib.hid hlater
  have HI := Lib.hid hinv
  have HS := Lib.hid hstep
  obtain ⟨va, vc, rfl, h1, h2, _⟩ := hv
  clear hbelow hlater hinv hstep
  obtain ⟨vn, hvn⟩ : ∃ n, n = l.length := ⟨_, rfl⟩
  have HVN := Lib.hid hvn
  rw [← hvn] at h1 HV ⊢
  clear hvn
  go_enter Tryz.func129, Tryz.ntmps129
  go_wp2_with fail
  show Code.wp _ _ _ _ _
  go_loopw [8] (fun i wr => ∃ k : Nat, k ≤ vn ∧ i = .int .i64 k ∧ Hid (Inv k wr)) (fun i _ => vn - (intOf i).toNat)
  case atStart => exact ⟨0, Nat.zero_le _, rfl, HI⟩
  case round =>
    obtain ⟨k, hk, rfl, hi⟩ := hrel
    by_cases hlt : k < vn
    · have hkl : k < l.length := by rw [← HVN.out]; exact hlt
      have bel := HB.out _ _ hi.out
      obtain ⟨a', c', hve, _, _, hcell⟩ := HV.out.below bel
      obtain ⟨b3, off3, hae, c0, c1, c2, c3⟩ := hcell k hkl
      simp only [Value.slice.injEq] at hve
      obtain ⟨e1, el, ec⟩ := hve
      rw [hae] at e1
      subst e1
      clear el ec hcell hae
      have hst := HS.out k hkl
      obtain ⟨x, hx⟩ : ∃ x, x = l[k] := ⟨_, rfl⟩
      rw [← hx] at c0 c1 c2 c3 hst
      have HST := Lib.hid hst
      clear hx hst
      obtain ⟨xk, xs, xg, xu⟩ := x
      simp only at c0 c1 c2 c3
      obtain ⟨wr, hwr⟩ := the_world bel
      subst hwr
      clear bel
      go_wp2_with fail
      have hal : Below wr.heap.size wr (wr.alloc (.cells #[.string xk, .int .u64 xs, .bool xg, .string xu] 34)) := (Below.refl _ _).alloc (Nat.le_refl _) _
      refine (HST.out _ (HL.out _ _ _ hi.out hal)).mono ?_
      rintro e w2 ⟨rfl, hi2⟩
      have HI2 := Lib.hid hi2
      clear hi2 hal c0 c1 c2 c3
      go_wp2_with fail
      exact ⟨⟨k + 1, by omega, by go_num, HI2⟩, by simp [intOf]; omega⟩
    · obtain rfl : k = vn := by omega
      go_wp2_with fail
      go_end0
      exact ⟨rfl, hi.out⟩
set_option maxRecDepth 100000 in
set_option maxHeartbeats 2000000 in
theorem eachPutE_any (w0 w : World) (v : Value) (l : List PE) (p q r : Value) (Inv : Nat → World → Prop) (hv : RdE w0 v l) (hinv : Inv 0 w) (hbelow : ∀ k w', Inv k w' → Below w0.heap.size w0 w')
    (hlater : ∀ k w' w'', Inv k w' → Below w'.heap.size w' w'' → Inv k w'')
    (hstep : ∀ k (hk : k < l.length) w', Inv k w' → Calls Tryz.prog 130 #[.int .i64 k, l[k].agg, p, q, r] w' fun e w'' => e = .returned (.tuple #[]) ∧ Inv (k + 1) w'') :
    Calls Tryz.prog 129 #[v, .func (.func 130) #[] #[p, q, r]] w fun e w' => e = .returned (.tuple #[]) ∧ Inv l.length w' := by
  have HV := Lib.hid hv
  have HB := Lib.hid hbelow
  have HL := Lib.hid hlater
  have HI := Lib.hid hinv
  have HS := Lib.hid hstep
  obtain ⟨va, vc, rfl, h1, h2, _⟩ := hv
  clear hbelow hlater hinv hstep
  obtain ⟨vn, hvn⟩ : ∃ n, n = l.length := ⟨_, rfl⟩
  have HVN := Lib.hid hvn
  rw [← hvn] at h1 HV ⊢
  clear hvn
  go_enter Tryz.func129, Tryz.ntmps129
  go_wp2_with fail
  show Code.wp _ _ _ _ _
  go_loopw [8] (fun i wr => ∃ k : Nat, k ≤ vn ∧ i = .int .i64 k ∧ Hid (Inv k wr)) (fun i _ => vn - (intOf i).toNat)
  case atStart => exact ⟨0, Nat.zero_le _, rfl, HI⟩
  case round =>
    obtain ⟨k, hk, rfl, hi⟩ := hrel
    by_cases hlt : k < vn
    · have hkl : k < l.length := by rw [← HVN.out]; exact hlt
      have bel := HB.out _ _ hi.out
      obtain ⟨a', c', hve, _, _, hcell⟩ := HV.out.below bel
      obtain ⟨b3, off3, hae, c0, c1, c2, c3⟩ := hcell k hkl
      simp only [Value.slice.injEq] at hve
      obtain ⟨e1, el, ec⟩ := hve
      rw [hae] at e1
      subst e1
      clear el ec hcell hae
      have hst := HS.out k hkl
      obtain ⟨x, hx⟩ : ∃ x, x = l[k] := ⟨_, rfl⟩
      rw [← hx] at c0 c1 c2 c3 hst
      have HST := Lib.hid hst
      clear hx hst
      obtain ⟨xk, xs, xg, xu⟩ := x
      simp only at c0 c1 c2 c3
      obtain ⟨wr, hwr⟩ := the_world bel
      subst hwr
      clear bel
      go_wp2_with fail
      have hal : Below wr.heap.size wr (wr.alloc (.cells #[.string xk, .int .u64 xs, .bool xg, .string xu] 34)) := (Below.refl _ _).alloc (Nat.le_refl _) _
      refine (HST.out _ (HL.out _ _ _ hi.out hal)).mono ?_
      rintro e w2 ⟨rfl, hi2⟩
      have HI2 := Lib.hid hi2
      clear hi2 hal c0 c1 c2 c3
      go_wp2_with fail
      exact ⟨⟨k + 1, by omega, by go_num, HI2⟩, by simp [intOf]; omega⟩
    · obtain rfl : k = vn := by omega
      go_wp2_with fail
      go_end0
      exact ⟨rfl, hi.out⟩
end Go.Proofs.YtbcnapkbdbefhaaGreatDoor
namespace Go.Proofs.YtbcnapkbdbefhaaGreatDoor
open Go.RowKit

set_option maxRecDepth 100000 in
set_option maxHeartbeats 2000000 in
theorem mayE_any (w : World) (v : Value) (l : List PE) (hv : RdE w v l) :
    Calls Tryz.prog 128 #[v] w fun e w' => e = .returned (.bool (mayL (entsOf l))) ∧ Below w.heap.size w w' := by
  have HV := Lib.hid hv
  obtain ⟨va, vc, rfl, h1, h2, _⟩ := hv
  have HLL := Lib.hid (entsOf_length l)
  obtain ⟨b, hb⟩ : ∃ b, b = decide (0 < (entsOf l).length ∧ (entsOf l).length ≤ 64) := ⟨_, rfl⟩
  obtain ⟨W, hW⟩ : ∃ W, W = (w.alloc (.cells #[.slice va l.length vc] 29)).alloc (.cells #[.bool b] 4) := ⟨_, rfl⟩
  have hd : Blk W w.heap.size #[.slice va l.length vc] 29 := by rw [hW]; exact (Blk.new _ _ _).alloc _
  have hc : Blk W (w.heap.size + 1) #[.bool b] 4 := by rw [hW]; exact Blk.new_at _ _ _ _ (by simp)
  have hbel : Below w.heap.size w W := by rw [hW]; exact ((Below.refl _ _).alloc (Nat.le_refl _) _).alloc (by simp) _
  have HW := Lib.hid hW
  have hmain := eachMayE_any w W _ l (.pointer (some ⟨w.heap.size + 1, 0, none⟩)) (.pointer (some ⟨w.heap.size, 0, none⟩))
    (fun k w' => Blk w' (w.heap.size + 1) #[.bool (mayN (entsOf l) k)] 4 ∧ Blk w' w.heap.size #[.slice va l.length vc] 29 ∧ Below w.heap.size w w') HV.out ⟨by rw [mayN, ← hb]; exact hc, hd, hbel⟩
    (fun k w' h => h.2.2) (fun k w' w'' h hbl => ⟨h.1.below hbl, h.2.1.below hbl, h.2.2.trans (hbl.mono h.2.2.size)⟩)
    (fun k hk w' h => (mayStep_any w w' (w.heap.size + 1) w.heap.size _ l k l[k] (mayN (entsOf l) k) h.1 h.2.1 HV.out h.2.2 hk rfl).mono fun e w'' ⟨e1, e2, e3⟩ =>
      ⟨e1, e2.out, h.2.1.only e3.out (by omega), Only.below h.2.2 e3.out (by omega) h.2.2.size⟩)
  have HM := Lib.hid hmain
  have d0 := hd.cellv 0 (.slice va l.length vc) rfl
  obtain ⟨n, hn⟩ : ∃ n, n = l.length := ⟨_, rfl⟩
  rw [HLL.out, ← hn] at hb
  rw [← hn] at h1 d0 hd hW HW ⊢
  have hres : Hid (mayL (entsOf l) = mayN (entsOf l) n) := by show _ = _; rw [mayL, HLL.out, hn]
  rw [← hn] at HM
  clear hmain hn HLL HV hc hd hW
  rw [hres.out]
  by_cases hn0 : 0 < n
  · by_cases hn64 : n ≤ 64
    · obtain rfl : b = true := by rw [hb]; simp; omega
      clear hb
      have g1 : decide ((0 : Int) < (n : Int)) = true := by simp; omega
      have g2 : decide ((n : Int) ≤ 64) = true := by simp; omega
      go_enter Tryz.func128, Tryz.ntmps128
      go_upto_region 2 with (fail)
      rw [← HW.out]
      go_wp2_with fail
      refine HM.out.mono ?_
      rintro e w2 ⟨rfl, hc2, _, bel2⟩
      have c2 := hc2.cellv 0 (.bool (mayN (entsOf l) n)) rfl
      go_wp2_with fail
      go_ret
      exact ⟨rfl, bel2⟩
    · obtain rfl : b = false := by rw [hb]; simp; omega
      clear hb
      have g1 : decide ((0 : Int) < (n : Int)) = true := by simp; omega
      have g2 : decide ((n : Int) ≤ 64) = false := by simp; omega
      go_enter Tryz.func128, Tryz.ntmps128
      go_upto_region 2 with (fail)
      rw [← HW.out]
      go_wp2_with fail
      refine HM.out.mono ?_
      rintro e w2 ⟨rfl, hc2, _, bel2⟩
      have c2 := hc2.cellv 0 (.bool (mayN (entsOf l) n)) rfl
      go_wp2_with fail
      go_ret
      exact ⟨rfl, bel2⟩
  · obtain rfl : b = false := by rw [hb]; simp; omega
    clear hb
    have g1 : decide ((0 : Int) < (n : Int)) = false := by simp; omega
    go_enter Tryz.func128, Tryz.ntmps128
    go_upto_region 2 with (fail)
    rw [← HW.out]
    go_wp2_with fail
    refine HM.out.mono ?_
    rintro e w2 ⟨rfl, hc2, _, bel2⟩
    have c2 := hc2.cellv 0 (.bool (mayN (entsOf l) n)) rfl
    go_wp2_with fail
    go_ret
    exact ⟨rfl, bel2⟩
end Go.Proofs.YtbcnapkbdbefhaaGreatDoor
namespace Go.Proofs.YtbcnapkbdbefhaaGreatDoor
open Go.RowKit

def i64s (l : List Nat) : List Value := l.map fun n : Nat => .int .i64 (n : Int)
theorem i64s_length (l : List Nat) : (i64s l).length = l.length := by simp [i64s]
theorem i64s_app (l m : List Nat) : i64s (l ++ m) = i64s l ++ i64s m := by simp [i64s]
theorem one_i64s (l : List Nat) : ∀ u ∈ i64s l, u.oneCell' = true := by
  intro u hu
  obtain ⟨c, _, rfl⟩ := List.mem_map.1 hu
  rfl
set_option maxRecDepth 100000 in
theorem info_i64 : (Tryz.prog.info? 3).map (fun i => (i.zero, i.size, i.bytes)) = some (some (.int .i64 0), 1, 8) := by kernel_rfl
theorem reads_one (w : World) (x : Value) (ty : TypeId) : Reads (w.alloc (.cells #[x] ty)) 1 (.slice (some ⟨w.heap.size, 0, none⟩) 1 1) 1 [x] :=
  ⟨_, 1, rfl, rfl, Nat.le_refl _, by omega, fun j hj => ⟨_, 0, rfl, by
    have : j = 0 := by simp at hj; omega
    subst this
    rw [World.cell?_alloc_at _ _ _ _ rfl]; rfl⟩⟩
theorem own_other {w w' : World} {base c : Nat} {e : TypeId} {sz n : Nat} {v : Value} {xs : List Value} (h : Own w base e sz v n xs) (hO : Only w w' c) (hc : c < base) : Own w' base e sz v n xs := by
  rcases h with h | ⟨h1, g, cap, cur, fr, rfl, h3, h4, h5⟩
  · exact .inl h
  · refine .inr ⟨h1, g, cap, cur, fr, rfl, h3, ?_, h5⟩
    rw [hO.block g (Array.getElem?_eq_some_iff.1 h4).1 (fun e => by simp at e; omega)]; exact h4

/-- what Put's closures hold: places, bytes, the list -/
structure PutSt (w0 : World) (base cP cB cL : Nat) (v : Value) (P : List Nat) (B : List UInt8) (w : World) (pa : Option Addr) (np pc : Nat) (ba : Option Addr) (nb bc : Nat) : Prop where
  p : Blk w cP #[.slice pa np pc] 86
  b : Blk w cB #[.slice ba nb bc] 22
  l : Blk w cL #[v] 29
  op : Own w base 3 1 (.slice pa np pc) np (i64s P)
  ob : Own w base 5 1 (.slice ba nb bc) nb (u8s B)
  pb : Apart w (.slice pa np pc) (.slice ba nb bc)
  bp : Apart w (.slice ba nb bc) (.slice pa np pc)
  bel : Below w0.heap.size w0 w
  sz : base ≤ w.heap.size
/-- the three variables lie below the slices' memory, apart, and are the call's own -/
structure PutVs (w0 : World) (base cP cB cL : Nat) : Prop where
  p0 : w0.heap.size ≤ cP
  b0 : w0.heap.size ≤ cB
  l0 : w0.heap.size ≤ cL
  base0 : w0.heap.size ≤ base
  p1 : cP < base
  b1 : cB < base
  l1 : cL < base
  pb : cP ≠ cB
  pl : cP ≠ cL
  bl : cB ≠ cL
section
variable {w0 w w' : World} {base cP cB cL : Nat} {v : Value} {P : List Nat} {B : List UInt8} {pa : Option Addr} {np pc : Nat} {ba : Option Addr} {nb bc : Nat}
theorem PutSt.later (h : PutSt w0 base cP cB cL v P B w pa np pc ba nb bc) (hb : Below w.heap.size w w') : PutSt w0 base cP cB cL v P B w' pa np pc ba nb bc :=
  ⟨h.p.below hb, h.b.below hb, h.l.below hb, own_below h.op hb, own_below h.ob hb, h.pb.later hb.size, h.bp.later hb.size, h.bel.trans (hb.mono h.bel.size), Nat.le_trans h.sz hb.size⟩
theorem blk_under {g n : Nat} {cs : Array Value} {t : TypeId} (h : Blk w g cs t) (hg : g < n) (hb : Below n w w') : Blk w' g cs t := by
  unfold Blk at *
  rw [hb.block g hg]; exact h
theorem PutSt.grewP (h : PutSt w0 base cP cB cL v P B w pa np pc ba nb bc) (hv : PutVs w0 base cP cB cL) {q : List Nat} {ua : Option Addr} {un uc : Nat} (hX : Own w' base 3 1 (.slice ua un uc) un (i64s q)) (hun : 0 < un)
    (hG : Grew w w' base (.slice pa np pc) (.slice ua un uc)) : PutSt w0 base cP cB cL v q B (w'.setCell ⟨cP, 0, none⟩ (.slice ua un uc)) ua un uc ba nb bc := by
  have hO := Only.set w' cP 0 (.slice ua un uc)
  have hbp := hG.apart _ h.bp
  have hb1 : Below w0.heap.size w0 w' := h.bel.trans (hG.below.mono hv.base0)
  refine ⟨(blk_under h.p hv.p1 hG.below).set 0 _, (blk_under h.b hv.b1 hG.below).only hO (Ne.symm hv.pb), (blk_under h.l hv.l1 hG.below).only hO (Ne.symm hv.pl), own_other hX hO hv.p1, own_other (hG.keep _ _ _ _ _ _ h.ob h.bp) hO hv.p1,
    (hbp.comm hX hun).later hO.size, hbp.later hO.size, Only.below hb1 hO hv.p0 hb1.size, Nat.le_trans (Nat.le_trans h.sz hG.below.size) hO.size⟩
theorem PutSt.grewB (h : PutSt w0 base cP cB cL v P B w pa np pc ba nb bc) (hv : PutVs w0 base cP cB cL) {q : List UInt8} {ua : Option Addr} {un uc : Nat} (hX : Own w' base 5 1 (.slice ua un uc) un (u8s q)) (hun : 0 < un)
    (hG : Grew w w' base (.slice ba nb bc) (.slice ua un uc)) : PutSt w0 base cP cB cL v P q (w'.setCell ⟨cB, 0, none⟩ (.slice ua un uc)) pa np pc ua un uc := by
  have hO := Only.set w' cB 0 (.slice ua un uc)
  have hpb := hG.apart _ h.pb
  have hb1 : Below w0.heap.size w0 w' := h.bel.trans (hG.below.mono hv.base0)
  refine ⟨(blk_under h.p hv.p1 hG.below).only hO hv.pb, (blk_under h.b hv.b1 hG.below).set 0 _, (blk_under h.l hv.l1 hG.below).only hO (Ne.symm hv.bl), own_other (hG.keep _ _ _ _ _ _ h.op h.pb) hO hv.b1, own_other hX hO hv.b1,
    hpb.later hO.size, (hpb.comm hX hun).later hO.size, Only.below hb1 hO hv.b0 hb1.size, Nat.le_trans (Nat.le_trans h.sz hG.below.size) hO.size⟩
theorem PutSt.newB (h : PutSt w0 base cP cB cL v P B w pa np pc ba nb bc) (hv : PutVs w0 base cP cB cL) {q : List UInt8} {ua : Option Addr} {un uc : Nat} (hX : Own w' w.heap.size 5 1 (.slice ua un uc) un (u8s q)) (hun : 0 < un)
    (hb : Below w.heap.size w w') : PutSt w0 base cP cB cL v P q (w'.setCell ⟨cB, 0, none⟩ (.slice ua un uc)) pa np pc ua un uc := by
  have hO := Only.set w' cB 0 (.slice ua un uc)
  have h' := h.later hb
  have hpb : Apart w' (.slice pa np pc) (.slice ua un uc) := fun k hk => ⟨(h'.pb k hk).1, fun e => by
    have h1 := (h.pb k hk).1
    have h2 := (own_lt hX hun k e).1
    omega⟩
  have hX' := own_mono hX h.sz
  exact ⟨h'.p.only hO hv.pb, h'.b.set 0 _, h'.l.only hO (Ne.symm hv.bl), own_other h'.op hO hv.b1, own_other hX' hO hv.b1,
    hpb.later hO.size, (hpb.comm hX' hun).later hO.size, Only.below h'.bel hO hv.b0 h'.bel.size, Nat.le_trans h'.sz hO.size⟩
/-- a block apart from all is written -/
def Away (w : World) (c : Nat) (u : Value) : Prop := Apart w (.slice (some ⟨c, 0, none⟩) 0 0) u
theorem Away.ne {c : Nat} {u : Value} (h : Away w c u) : u.ownBlock = none ∨ u.ownBlock ≠ some c := .inr (h c rfl).2
theorem PutSt.setX (h : PutSt w0 base cP cB cL v P B w pa np pc ba nb bc) {c : Nat} (hc : w0.heap.size ≤ c) (hp : c ≠ cP) (hb : c ≠ cB) (hl : c ≠ cL) (ap : Away w c (.slice pa np pc)) (ab : Away w c (.slice ba nb bc)) (i : Nat) (x : Value) :
    PutSt w0 base cP cB cL v P B (w.setCell ⟨c, i, none⟩ x) pa np pc ba nb bc := by
  have hO := Only.set w c i x
  exact ⟨h.p.only hO hp.symm, h.b.only hO hb.symm, h.l.only hO hl.symm, own_kept h.op hO ap.ne, own_kept h.ob hO ab.ne, h.pb.later hO.size, h.bp.later hO.size, Only.below h.bel hO hc h.bel.size, Nat.le_trans h.sz hO.size⟩
end
end Go.Proofs.YtbcnapkbdbefhaaGreatDoor
namespace Go.Proofs.YtbcnapkbdbefhaaGreatDoor
open Go.RowKit

theorem extract_drop (s : ByteArray) (n : Nat) : (s.extract n s.size).data.toList = s.data.toList.drop n := by
  rw [ByteArray.data_extract, Array.toList_extract, List.extract_eq_take_drop]
  exact List.take_of_length_le (by rw [List.length_drop, Array.length_toList]; exact Nat.le_refl _)
theorem eput_pos (x : Ent) : 1 ≤ (eput x).length := by
  unfold eput
  simp only [List.length_append, List.length_cons]
  omega
set_option maxRecDepth 100000 in
set_option maxHeartbeats 4000000 in
theorem putStep_any (w0 w : World) (base cP cB cL : Nat) (v : Value) (l : List PE) (k : Nat) (x : PE) (P : List Nat) (B : List UInt8) (pa : Option Addr) (np pc : Nat) (ba : Option Addr) (nb bc : Nat) (h : PutSt w0 base cP cB cL v P B w pa np pc ba nb bc)
    (hvs : PutVs w0 base cP cB cL) (hv : RdE w0 v l) (hk : k < l.length) (hx : x = l[k]) (hlen : l.length ≤ 1048576) (hall : ∀ x ∈ l, x.k.size ≤ 1048576 ∧ x.u.size ≤ 1048576 ∧ x.s < 18446744073709551616) (hbody : B.length ≤ 1073741824) (hpl : P.length ≤ 1048576) :
    Calls Tryz.prog 130 #[.int .i64 k, x.agg, .pointer (some ⟨cP, 0, none⟩), .pointer (some ⟨cB, 0, none⟩), .pointer (some ⟨cL, 0, none⟩)] w fun e w' =>
      e = .returned (.tuple #[]) ∧ ∃ pa np pc ba nb bc, PutSt w0 base cP cB cL v (P ++ (if k % 4 = 0 then [B.length] else [])) (B ++ encAt (entsOf l) k) w' pa np pc ba nb bc := by
  have HE : Hid (atE (entsOf l) k = x.ent) := by show _ = _; rw [entsOf_at l k hk, hx]
  obtain ⟨xk, xs, xg, xu⟩ := x
  have HALL := Lib.hid hall
  have hxm : (⟨xk, xs, xg, xu⟩ : PE) ∈ l := by rw [hx]; exact List.getElem_mem hk
  obtain ⟨hxk, hxu, hxs⟩ := hall _ hxm
  simp only at hxk hxu hxs
  clear hx hall
  simp only [PE.agg]
  obtain ⟨i0, hi, hz, hz1, hz2⟩ := info_parts info_i64
  have hal : Below w.heap.size w (w.alloc (.cells #[.string xk, .int .u64 xs, .bool xg, .string xu] 34)) := (Below.refl _ _).alloc (Nat.le_refl _) _
  obtain ⟨W, hW⟩ : ∃ W, W = w.alloc (.cells #[.string xk, .int .u64 xs, .bool xg, .string xu] 34) := ⟨_, rfl⟩
  have hX : Blk W w.heap.size #[.string xk, .int .u64 xs, .bool xg, .string xu] 34 := by rw [hW]; exact Blk.new _ _ _
  rw [← hW] at hal
  have HW := Lib.hid hW
  have hs := h.later hal
  have hwx := hX.lt
  have hap : Away W w.heap.size (.slice pa np pc) := fun j hj => by
    simp only [Value.ownBlock, Option.some.injEq] at hj
    subst hj
    exact ⟨hwx, fun e => by have := (h.pb _ e).1; omega⟩
  have hab : Away W w.heap.size (.slice ba nb bc) := fun j hj => by
    simp only [Value.ownBlock, Option.some.injEq] at hj
    subst hj
    exact ⟨hwx, fun e => by have := (h.bp _ e).1; omega⟩
  have hcx : w0.heap.size ≤ w.heap.size ∧ w.heap.size ≠ cP ∧ w.heap.size ≠ cB ∧ w.heap.size ≠ cL := by
    have := h.sz; have := hvs.p1; have := hvs.b1; have := hvs.l1
    exact ⟨h.bel.size, by omega, by omega, by omega⟩
  have HCX := Lib.hid hcx
  have HVS := Lib.hid hvs
  have hnb := (rd_of_own h.ob).1
  have hnp : np = P.length := by have := reads_of_own h.op; obtain ⟨_, _, _, e, _⟩ := this; rw [i64s_length] at e; omega
  have HX := Lib.hid hX
  have HS := Lib.hid hs
  have HAP := Lib.hid hap
  have HAB := Lib.hid hab
  clear h hs hX hap hab hcx hvs hW hal
  have p0 := HS.out.p.cellv 0 (.slice pa np pc) rfl
  have b0 := HS.out.b.cellv 0 (.slice ba nb bc) rfl
  rw [← hnb] at hbody ⊢
  rw [← hnp] at hpl
  have HNB := Lib.hid hnb
  have HNP := Lib.hid hnp
  clear hnb hnp
  by_cases hk4 : k % 4 = 0
  · have hm : ((k : Int) % 4 == 0) = true := by simp; omega
    go_enter Tryz.func130, Tryz.ntmps130
    go_upto_region 1 with (fail)
    rw [← HW.out]
    go_upto_region 3 with (fail)
    have hal2 : ∀ o, Below W.heap.size W (W.alloc o) := fun o => (Below.refl _ _).alloc (Nat.le_refl _) _
    have HAL := Lib.hid hal2
    have HSZ := Lib.hid (Nat.le_trans HS.out.sz (HAL.out (.cells #[] 0)).size)
    clear hal2
    go_upto_region 5 with (at_builtin; go_loud (refine wp_app_el2 rfl _ _ rfl Tryz.underlying86 hi hz hz1 hz2 rfl (by omega) base np 1 (.slice pa np pc) _ (i64s P) [.int .i64 nb] (i64s (P ++ [nb])) (np + 1) rfl rfl (own_below HS.out.op (HAL.out _)) (reads_one W _ _) (by simp [Value.oneCell']) rfl (by rw [i64s_app]; rfl) (by omega) (by omega) (Nat.le_trans HS.out.sz (by simp)) ?_); intro ua uc w3 HX2 HG2; have hG := HG2.out.alloc HS.out.sz; have hPB := blk_under HS.out.p HVS.out.p1 hG.below; have p1 := hPB.cellv 0 (.slice pa np pc) rfl; have pf := hPB.free 0)
    have HN : Hid (0 = alikeAt (entsOf l) k) := by show _ = _; rw [alikeAt, if_pos hk4]
    have HS5 := Lib.hid (HS.out.grewP HVS.out HX2.out (Nat.succ_pos _) hG)
    have B5 : Below W.heap.size W W := Below.refl _ _
    have hO := Only.set w3 cP 0 (.slice ua (np + 1) uc)
    have HX5 : Hid (Blk (w3.setCell ⟨cP, 0, none⟩ (.slice ua (np + 1) uc)) w.heap.size #[.string xk, .int .u64 xs, .bool xg, .string xu] 34) := (hG.blk HX.out HAP.out).only hO HCX.out.2.1
    have HAP5 : Hid (Away (w3.setCell ⟨cP, 0, none⟩ (.slice ua (np + 1) uc)) w.heap.size (.slice ua (np + 1) uc)) := (hG.apart _ HAP.out).later hO.size
    have HAB5 : Hid (Away (w3.setCell ⟨cP, 0, none⟩ (.slice ua (np + 1) uc)) w.heap.size (.slice ba nb bc)) := HAB.out.later (Nat.le_trans hG.below.size hO.size)
    have hbW : Below w.heap.size W W := Below.refl _ _
    generalize w3.setCell ⟨cP, 0, none⟩ (.slice ua (np + 1) uc) = w5 at HS5 HX5 HAP5 HAB5 ⊢
    have x0 := HX5.out.cellv 0 (.string xk) rfl
    have xf := HX5.out.free 0
    clear hO hG hPB p1 pf p0 b0 HX2 HG2
    go_upto_region 6 with (fail)
    have HZK : Hid ((xk).data.toList = xk.data.toList.drop (alikeAt (entsOf l) k)) := by show _ = _; rw [← HN.out]; exact (List.drop_zero).symm
    have HZS : Hid ((xk).size ≤ 1048576) := by show _ ≤ _; rw [← size_data, HZK.out, List.length_drop, size_data]; omega
    have hs6 := HS5.out.setX HCX.out.1 HCX.out.2.1 HCX.out.2.2.1 HCX.out.2.2.2 HAP5.out HAB5.out 0 (.string (xk))
    have hx6 : Blk (w5.setCell ⟨w.heap.size, 0, none⟩ (.string (xk))) w.heap.size #[.string (xk), .int .u64 xs, .bool xg, .string xu] 34 := HX5.out.set 0 (.string (xk))
    obtain ⟨zk, hzk⟩ : ∃ z, z = (xk) := ⟨_, rfl⟩
    have HZK2 : Hid (zk.data.toList = xk.data.toList.drop (alikeAt (entsOf l) k)) := by show _ = _; rw [hzk]; exact HZK.out
    rw [← hzk] at HZS hs6 hx6 ⊢
    generalize w5.setCell ⟨w.heap.size, 0, none⟩ (.string zk) = w6 at hs6 hx6 ⊢
    have HS6 := Lib.hid hs6
    have HKX : Hid (∀ w', Below w6.heap.size w6 w' → w'.cell? ⟨w.heap.size, 0, none⟩ = some (.string zk) ∧ w'.cell? ⟨w.heap.size, 1, none⟩ = some (.int .u64 xs) ∧ w'.cell? ⟨w.heap.size, 2, none⟩ = some (.bool xg) ∧ w'.cell? ⟨w.heap.size, 3, none⟩ = some (.string xu)) := fun w' hb =>
      ⟨(hx6.below hb).cellv 0 _ rfl, (hx6.below hb).cellv 1 _ rfl, (hx6.below hb).cellv 2 _ rfl, (hx6.below hb).cellv 3 _ rfl⟩
    have HKB : Hid (∀ w', Below w6.heap.size w6 w' → w'.cell? ⟨cB, 0, none⟩ = some (.slice ba nb bc) ∧ w'.frozen? ⟨cB, 0, none⟩ = false ∧ Rd w' (.slice ba nb bc) B) := fun w' hb =>
      ⟨(HS6.out.b.below hb).cellv 0 _ rfl, (HS6.out.b.below hb).free 0, (rd_of_own (own_below HS6.out.ob hb)).2⟩
    have hwn : IntKind.u64.wrap (0 : Int) = (0 : Int) := by decide
    have h66 : Below w6.heap.size w6 w6.drew := (Below.refl _ _).drew
    obtain ⟨z0, z1, z2, z3⟩ := HKX.out w6.drew h66
    obtain ⟨b0, _, _⟩ := HKB.out w6.drew h66
    clear hs6 hx6 HS5 HX5 HAP5 HAB5 x0 xf hzk
    go_region_with ((first
      | (go_at_call 78; refine (put_my' _ _ B 0 (HKB.out _ h66).2.2 (by omega) (by rw [← HNB.out]; omega)).mono ?_; rintro e w7 ⟨qa, qn, qc, rfl, HQN, HQ, bel7⟩; have h67 : Below w6.heap.size w6 w7 := h66.trans bel7; obtain ⟨z0, z1, z2, z3⟩ := HKX.out w7 h67)
      | (go_at_call 132; go_loud (refine (orderPut_my _ _ (B ++ vint 0) zk xu xs xg (rd_of_own HQ.out).2 (by rw [List.length_append, ← HNB.out]; have := vint_le 0; omega) (by have := HZS.out; omega) (by omega) hxs).mono ?_; rintro e w8 ⟨ra, rn, rc, rfl, HRN, HR, bel8⟩; obtain ⟨b8, f8, _⟩ := HKB.out w8 (h67.trans (bel8.mono h67.size))))))
    all_goals
      go_wp2_with fail
      go_end0
      have hb68 : Below w6.heap.size w6 w8 := h67.trans (bel8.mono h67.size)
      have hrn : 0 < rn := by rw [HRN.out, List.length_append]; have := eput_pos ⟨zk.data.toList, xs, xg, xu.data.toList⟩; omega
      have hf := HS6.out.newB HVS.out (own_mono HR.out h67.size) hrn hb68
      have eB : (B ++ vint 0) ++ eput ⟨zk.data.toList, xs, xg, xu.data.toList⟩ = B ++ encAt (entsOf l) k := by
        rw [encAt, HE.out, ← HN.out, List.append_assoc]
        have := HZK2.out
        rw [← HN.out] at this
        rw [this]; rfl
      rw [eB] at hf
      exact ⟨rfl, _, _, _, ra, rn, rc, by first | exact hf | (rw [if_pos hk4]; exact hf)⟩
  · have hm : ((k : Int) % 4 == 0) = false := by simp; omega
    have hbd : Below W.heap.size W W.drew := (Below.refl _ _).drew
    obtain ⟨wd, hwd⟩ : ∃ wd, wd = W.drew := ⟨_, rfl⟩
    rw [← hwd] at hbd
    have HWD := Lib.hid hwd
    clear hwd p0 b0
    have hsd := HS.out.later hbd
    obtain ⟨j, hj⟩ : ∃ j, j = k - 1 := ⟨_, rfl⟩
    have hk0 : k ≠ 0 := by intro e; subst e; simp at hk4
    have hkj : ((k : Int) - 1) = (j : Int) := by omega
    have hjl : j < l.length := by omega
    have hwj : IntKind.i64.wrap (j : Int) = (j : Int) := IntWalk.i64_in _ (by omega)
    have HAJ := Lib.hid (entsOf_at l j hjl)
    have HJ := Lib.hid hj
    obtain ⟨a', c', hve, _, _, hcell⟩ := hv.below hsd.bel
    obtain ⟨b3, off3, hae, y0, y1, y2, _⟩ := hcell j hjl
    subst hve
    subst hae
    clear hcell hj y1 y2
    obtain ⟨y, hy⟩ : ∃ y, y = l[j] := ⟨_, rfl⟩
    rw [← hy] at y0 HAJ
    have hym : y ∈ l := by rw [hy]; exact List.getElem_mem hjl
    have hyk := (HALL.out y hym).1
    clear hy hym
    obtain ⟨yk, ys, yg, yu⟩ := y
    simp only at y0 hyk
    have l0 := hsd.l.cellv 0 (.slice (some ⟨b3, off3, none⟩) l.length c') rfl
    have hXd := HX.out.below hbd
    have x0 := hXd.cellv 0 (.string xk) rfl
    have HSD := Lib.hid hsd
    have HXD := Lib.hid hXd
    have HBD := Lib.hid hbd
    clear hsd hXd hbd
    have hjb : ((j : Nat) : Int) < ((l.length : Nat) : Int) := by omega
    go_enter Tryz.func130, Tryz.ntmps130
    go_upto_region 1 with (fail)
    rw [← HW.out]
    go_upto_region 4 with (fail)
    refine still_tail (wd := wd) 10 ?hm ?hB ?hwd ?h
    case hm => kernel_rfl
    case hB => kernel_rfl
    case hwd => exact HWD.out
    simp only [List.take_succ_cons, List.take_zero, List.drop_succ_cons, List.drop_zero]
    repeat (first | ((with_reducible refine still_skip ?hw ?hrest); case hw => rfl; simp only [Act.put, List.setIfInBounds_toArray, List.set_cons_zero, List.set_cons_succ]) | ((with_reducible refine wpStill_step (fun K hK => ?_)); go_simp; refine hK _ ?_; clear hK K))
    try refine wpStill_nil ?_
    go_wp2_with fail
    refine (alike_any wd yk xk (by omega)).mono ?_
    rintro e w5 ⟨rfl, bel5⟩
    have hn1 := alikeL_le2 yk.data.toList xk.data.toList
    rw [size_data] at hn1
    obtain ⟨n, hn⟩ : ∃ n, n = alikeL yk.data.toList xk.data.toList := ⟨_, rfl⟩
    rw [← hn] at hn1
    have HN : Hid (n = alikeAt (entsOf l) k) := by
      show _ = _
      rw [hn, alikeAt, if_neg hk4, ← HJ.out, HAJ.out, HE.out]; rfl
    rw [← hn]
    clear hn
    have B5 := HBD.out.trans (bel5.mono HBD.out.size)
    have HS5 := Lib.hid (HSD.out.later bel5)
    have HX5 := Lib.hid (HXD.out.below bel5)
    have HAP5 := Lib.hid (HAP.out.later B5.size)
    have HAB5 := Lib.hid (HAB.out.later B5.size)
    have x0 := HX5.out.cellv 0 (.string xk) rfl
    have xf := HX5.out.free 0
    clear y0 l0 bel5 B5 HSD HXD
    go_upto_region 5 with (fail)
    go_upto_region 6 with (fail)
    have HZK : Hid ((xk.extract n xk.size).data.toList = xk.data.toList.drop (alikeAt (entsOf l) k)) := by show _ = _; rw [← HN.out]; exact extract_drop xk _
    have HZS : Hid ((xk.extract n xk.size).size ≤ 1048576) := by show _ ≤ _; rw [← size_data, HZK.out, List.length_drop, size_data]; omega
    have hs6 := HS5.out.setX HCX.out.1 HCX.out.2.1 HCX.out.2.2.1 HCX.out.2.2.2 HAP5.out HAB5.out 0 (.string (xk.extract n xk.size))
    have hx6 : Blk (w5.setCell ⟨w.heap.size, 0, none⟩ (.string (xk.extract n xk.size))) w.heap.size #[.string (xk.extract n xk.size), .int .u64 xs, .bool xg, .string xu] 34 := HX5.out.set 0 (.string (xk.extract n xk.size))
    obtain ⟨zk, hzk⟩ : ∃ z, z = (xk.extract n xk.size) := ⟨_, rfl⟩
    have HZK2 : Hid (zk.data.toList = xk.data.toList.drop (alikeAt (entsOf l) k)) := by show _ = _; rw [hzk]; exact HZK.out
    rw [← hzk] at HZS hs6 hx6 ⊢
    generalize w5.setCell ⟨w.heap.size, 0, none⟩ (.string zk) = w6 at hs6 hx6 ⊢
    have HS6 := Lib.hid hs6
    have HKX : Hid (∀ w', Below w6.heap.size w6 w' → w'.cell? ⟨w.heap.size, 0, none⟩ = some (.string zk) ∧ w'.cell? ⟨w.heap.size, 1, none⟩ = some (.int .u64 xs) ∧ w'.cell? ⟨w.heap.size, 2, none⟩ = some (.bool xg) ∧ w'.cell? ⟨w.heap.size, 3, none⟩ = some (.string xu)) := fun w' hb =>
      ⟨(hx6.below hb).cellv 0 _ rfl, (hx6.below hb).cellv 1 _ rfl, (hx6.below hb).cellv 2 _ rfl, (hx6.below hb).cellv 3 _ rfl⟩
    have HKB : Hid (∀ w', Below w6.heap.size w6 w' → w'.cell? ⟨cB, 0, none⟩ = some (.slice ba nb bc) ∧ w'.frozen? ⟨cB, 0, none⟩ = false ∧ Rd w' (.slice ba nb bc) B) := fun w' hb =>
      ⟨(HS6.out.b.below hb).cellv 0 _ rfl, (HS6.out.b.below hb).free 0, (rd_of_own (own_below HS6.out.ob hb)).2⟩
    have hwn : IntKind.u64.wrap (n : Int) = (n : Int) := by exact wrap_u64_in n (by omega)
    have h66 : Below w6.heap.size w6 w6.drew := (Below.refl _ _).drew
    obtain ⟨z0, z1, z2, z3⟩ := HKX.out w6.drew h66
    obtain ⟨b0, _, _⟩ := HKB.out w6.drew h66
    clear hs6 hx6 HS5 HX5 HAP5 HAB5 x0 xf hzk
    go_region_with ((first
      | (go_at_call 78; refine (put_my' _ _ B n (HKB.out _ h66).2.2 (by omega) (by rw [← HNB.out]; omega)).mono ?_; rintro e w7 ⟨qa, qn, qc, rfl, HQN, HQ, bel7⟩; have h67 : Below w6.heap.size w6 w7 := h66.trans bel7; obtain ⟨z0, z1, z2, z3⟩ := HKX.out w7 h67)
      | (go_at_call 132; go_loud (refine (orderPut_my _ _ (B ++ vint n) zk xu xs xg (rd_of_own HQ.out).2 (by rw [List.length_append, ← HNB.out]; have := vint_le n; omega) (by have := HZS.out; omega) (by omega) hxs).mono ?_; rintro e w8 ⟨ra, rn, rc, rfl, HRN, HR, bel8⟩; obtain ⟨b8, f8, _⟩ := HKB.out w8 (h67.trans (bel8.mono h67.size))))))
    all_goals
      go_wp2_with fail
      go_end0
      have hb68 : Below w6.heap.size w6 w8 := h67.trans (bel8.mono h67.size)
      have hrn : 0 < rn := by rw [HRN.out, List.length_append]; have := eput_pos ⟨zk.data.toList, xs, xg, xu.data.toList⟩; omega
      have hf := HS6.out.newB HVS.out (own_mono HR.out h67.size) hrn hb68
      have eB : (B ++ vint n) ++ eput ⟨zk.data.toList, xs, xg, xu.data.toList⟩ = B ++ encAt (entsOf l) k := by
        rw [encAt, HE.out, ← HN.out, List.append_assoc]
        have := HZK2.out
        rw [← HN.out] at this
        rw [this]; rfl
      rw [eB] at hf
      exact ⟨rfl, _, _, _, ra, rn, rc, by first | exact hf | (rw [if_neg hk4, List.append_nil]; exact hf)⟩
end Go.Proofs.YtbcnapkbdbefhaaGreatDoor
namespace Go.Proofs.YtbcnapkbdbefhaaGreatDoor
open Go.RowKit

theorem own_reads {w : World} {base : Nat} {e : TypeId} {sz : Nat} {v : Value} {n : Nat} {xs : List Value} (h : Own w base e sz v n xs) : xs.length = n * sz := by
  obtain ⟨_, _, _, e, _⟩ := reads_of_own h
  exact e
set_option maxRecDepth 100000 in
set_option maxHeartbeats 1000000 in
theorem putStep2_any (w0 w : World) (base cP cB cL : Nat) (v : Value) (k p : Nat) (P : List Nat) (B : List UInt8) (pa : Option Addr) (np pc : Nat) (ba : Option Addr) (nb bc : Nat) (h : PutSt w0 base cP cB cL v P B w pa np pc ba nb bc)
    (hvs : PutVs w0 base cP cB cL) (hp : p < 65536) (hb : nb ≤ 1073741824) :
    Calls Tryz.prog 134 #[.int .i64 k, .int .i64 p, .pointer (some ⟨cB, 0, none⟩)] w fun e w' =>
      e = .returned (.tuple #[]) ∧ ∃ ba bc, PutSt w0 base cP cB cL v P (B ++ two p) w' pa np pc ba (nb + 2) bc := by
  have b0 := h.b.cellv 0 (.slice ba nb bc) rfl
  have H := Lib.hid h
  have HV := Lib.hid hvs
  clear h hvs
  go_enter Tryz.func134, Tryz.ntmps134
  go_wp2_with fail
  refine (number_any w base _ B nb p H.out.ob hp hb H.out.sz).mono ?_
  rintro e w2 ⟨ua, uc, rfl, hX, hG⟩
  have hcb := blk_under H.out.b HV.out.b1 hG.out.below
  have b1 := hcb.cellv 0 (.slice ba nb bc) rfl
  have f1 := hcb.free 0
  have HF := Lib.hid (H.out.grewB HV.out hX.out (by omega) hG.out)
  clear b0 hX hG hcb
  go_wp2_with fail
  go_end0
  exact ⟨rfl, ua, uc, HF.out⟩

set_option maxRecDepth 100000 in
set_option maxHeartbeats 2000000 in
theorem eachInt_any (w0 w : World) (base cP cB cL : Nat) (v : Value) (P : List Nat) (B : List UInt8) (pa : Option Addr) (np pc : Nat) (ba : Option Addr) (nb bc : Nat) (h : PutSt w0 base cP cB cL v P B w pa np pc ba nb bc)
    (hvs : PutVs w0 base cP cB cL) (hp : ∀ p ∈ P, p < 65536) (hb : nb ≤ 536870912) (hnp : np ≤ 1048576) :
    Calls Tryz.prog 133 #[.slice pa np pc, .func (.func 134) #[] #[.pointer (some ⟨cB, 0, none⟩)]] w fun e w' =>
      e = .returned (.tuple #[]) ∧ ∃ ba nb bc, PutSt w0 base cP cB cL v P (B ++ twos P) w' pa np pc ba nb bc := by
  have H := Lib.hid h
  have HV := Lib.hid hvs
  have HP := Lib.hid hp
  have HL : Hid (P.length = np) := by have := own_reads h.op; rw [i64s_length] at this; show _ = _; omega
  clear h hvs hp
  go_enter Tryz.func133, Tryz.ntmps133
  go_wp2_with fail
  show Code.wp _ _ _ _ _
  go_loopw [8] (fun i wr => ∃ k : Nat, k ≤ np ∧ i = .int .i64 k ∧ ∃ ba bc, Hid (PutSt w0 base cP cB cL v P (B ++ twos (P.take k)) wr pa np pc ba (nb + 2 * k) bc)) (fun i _ => np - (intOf i).toNat)
  case atStart => exact ⟨0, Nat.zero_le _, rfl, ba, bc, Lib.hid (by simpa [twos] using H.out)⟩
  case round =>
    obtain ⟨k, hk, rfl, xa, xc, HK⟩ := hrel
    by_cases hlt : k < np
    · have hkl : k < P.length := by rw [HL.out]; exact hlt
      obtain ⟨a', c', e1, _, _, _, hcell⟩ := reads_of_own HK.out.op
      obtain ⟨b3, off3, hae, c0⟩ := hcell k (by rw [i64s_length]; exact hkl)
      simp only [i64s, List.getElem_map] at c0
      simp only [Value.slice.injEq] at e1
      obtain ⟨e1, _, ec⟩ := e1
      rw [hae] at e1
      subst e1
      clear hcell hae ec
      have hpm := HP.out _ (List.getElem_mem hkl)
      have htk : Hid ((B ++ twos (P.take k)) ++ two P[k] = B ++ twos (P.take (k + 1))) := by
        show _ = _
        rw [List.take_succ_eq_append_getElem hkl, twos_app, List.append_assoc]; simp [twos]
      obtain ⟨p, hpe⟩ : ∃ p, p = P[k] := ⟨_, rfl⟩
      rw [← hpe] at c0 hpm htk
      clear hpe
      go_wp2_with fail
      refine (putStep2_any w0 wr base cP cB cL v k p P _ _ np pc xa _ xc HK.out HV.out hpm (by omega)).mono ?_
      rintro e w2 ⟨rfl, ya, yc, hy⟩
      rw [htk.out] at hy
      have HY := Lib.hid hy
      clear hy c0
      go_wp2_with fail
      exact ⟨⟨k + 1, by omega, by go_num, ya, yc, HY⟩, by simp [intOf]; omega⟩
    · obtain rfl : k = np := by omega
      go_wp2_with fail
      go_end0
      exact ⟨rfl, xa, _, xc, by have := HK.out; rwa [List.take_of_length_le (by rw [HL.out]; exact Nat.le_refl _)] at this⟩
theorem enc_small (E : List Ent) (k : Nat) (h : fitE (atE E k) = true) : (encAt E k).length ≤ 400 := by
  obtain ⟨f1, f2, _⟩ := (fitE_iff _).1 h
  have hk : (atE E k).key.length ≤ 32 := by simp [checkK] at f1; omega
  have h1 := vint_le (alikeAt E k)
  have h2 := vint_le ((atE E k).key.drop (alikeAt E k)).length
  have h3 := vint_le (atE E k).seq
  have h4 := vint_le (atE E k).val.length
  unfold encAt eput cutE tput
  cases (atE E k).gone
  · simp only [List.length_append, List.length_cons, List.length_drop, Bool.false_eq_true, if_false] at *
    omega
  · simp only [List.length_append, List.length_cons, List.length_drop, if_true, List.length_nil] at *
    omega
theorem body_small (E : List Ent) (h : ∀ k, k < E.length → okAt E k = true) (k : Nat) (hk : k ≤ E.length) : (bodyN E k).length ≤ 400 * k := by
  induction k with
  | zero => simp [bodyN]
  | succ k ih =>
    have h1 := h k (by omega)
    unfold okAt at h1
    rw [Bool.and_eq_true] at h1
    have := enc_small E k h1.1
    have := ih (by omega)
    rw [bodyN, List.length_append]; omega
theorem places_small (E : List Ent) (h : ∀ k, k < E.length → okAt E k = true) (k : Nat) (hk : k ≤ E.length) : ∀ p ∈ placesN E k, p ≤ 400 * k := by
  induction k with
  | zero => simp [placesN]
  | succ k ih =>
    intro p hp
    simp only [placesN, List.mem_append] at hp
    rcases hp with hp | hp
    · have := ih (by omega) p hp; omega
    · split at hp
      · rw [List.mem_singleton.1 hp]; have := body_small E h k (by omega); omega
      · cases hp
/-- what Put answers -/
def RetPut (E : List Ent) (w : World) (e : Ending) (w' : World) : Prop :=
  Below w.heap.size w w' ∧ ((mayL E = true ∧ ∃ a n c, e = .returned (.tuple #[.slice a n c, .int .i64 0]) ∧ Hid (n = (blkPut E).length) ∧ Hid (Own w' w.heap.size 5 1 (.slice a n c) n (u8s (blkPut E)))) ∨
    (mayL E = false ∧ e = .returned (.tuple #[.slice none 0 0, .int .i64 1])))
set_option maxRecDepth 100000 in
set_option maxHeartbeats 4000000 in
theorem blocksPut_any (w : World) (v : Value) (l : List PE) (hv : RdE w v l) (hs : ∀ x ∈ l, x.s < 18446744073709551616) : Calls Tryz.prog 75 #[v] w (RetPut (entsOf l) w) := by
  have HV := Lib.hid hv
  have HMAY := Lib.hid (fun (w' : World) (h : RdE w' v l) => mayE_any w' v l h)
  obtain ⟨va, vc, rfl, h1, h2, _⟩ := hv
  obtain ⟨vn, hvn⟩ : ∃ n, n = l.length := ⟨_, rfl⟩
  have HVN := Lib.hid hvn
  rw [← hvn] at h1 HV HMAY ⊢
  clear hvn
  obtain ⟨W, hW⟩ : ∃ W, W = w.alloc (.cells #[.slice va vn vc] 29) := ⟨_, rfl⟩
  have hL : Blk W w.heap.size #[.slice va vn vc] 29 := by rw [hW]; exact Blk.new _ _ _
  have hbW : Below w.heap.size w W := by rw [hW]; exact (Below.refl _ _).alloc (Nat.le_refl _) _
  have HW := Lib.hid hW
  have HL := Lib.hid hL
  have l0 := hL.cellv 0 (.slice va vn vc) rfl
  have HM := HMAY.out W (HV.out.below hbW)
  clear hW hL HMAY
  cases hm : mayL (entsOf l)
  · rw [hm] at HM
    have HM' := Lib.hid HM
    have HMM := Lib.hid hm
    clear HM hm
    go_enter Tryz.func75, Tryz.ntmps75
    go_upto_region 1 with (fail)
    rw [← HW.out]
    go_wp2_with fail
    refine HM'.out.mono ?_
    rintro e w2 ⟨rfl, bel2⟩
    have belf := hbW.trans (bel2.mono hbW.size)
    go_wp2
    go_ret2
    exact ⟨belf, .inr ⟨HMM.out, rfl⟩⟩
  · rw [hm] at HM
    have HM' := Lib.hid HM
    have HMM := Lib.hid hm
    clear HM hm
    go_enter Tryz.func75, Tryz.ntmps75
    go_upto_region 1 with (fail)
    rw [← HW.out]
    go_wp2_with fail
    refine HM'.out.mono ?_
    rintro e w2 ⟨rfl, bel2⟩
    have HL2 := Lib.hid (HL.out.below bel2)
    have bel12 := hbW.trans (bel2.mono hbW.size)
    have hl2 := HL2.out.lt
    obtain ⟨hE1, hE2⟩ := (mayL_iff _).1 HMM.out
    rw [entsOf_length, ← HVN.out] at hE1
    have HOK := Lib.hid hE2
    have HE1 := Lib.hid hE1
    have hall : ∀ x ∈ l, x.k.size ≤ 1048576 ∧ x.u.size ≤ 1048576 ∧ x.s < 18446744073709551616 := fun x hx => by
      obtain ⟨i, hi, rfl⟩ := List.mem_iff_getElem.1 hx
      have hok := HOK.out i (by rw [entsOf_length]; exact hi)
      unfold okAt at hok
      rw [Bool.and_eq_true, entsOf_at l i hi] at hok
      obtain ⟨f1, f2, _⟩ := (fitE_iff _).1 hok.1
      have h1 : l[i].k.data.toList.length ≤ 32 := by simp [checkK] at f1; exact f1.2
      have h2 : l[i].u.data.toList.length ≤ 256 := f2
      rw [size_data] at h1 h2
      exact ⟨by omega, by omega, hs _ hx⟩
    have HALL := Lib.hid hall
    go_upto_region 5 with (fail)
    obtain ⟨W5, hW5⟩ : ∃ W5, W5 = (w2.alloc (.cells #[.slice none 0 0] 22)).alloc (.cells #[.slice none 0 0] 86) := ⟨_, rfl⟩
    have hb25 : Below w2.heap.size w2 W5 := by rw [hW5]; exact ((Below.refl _ _).alloc (Nat.le_refl _) _).alloc (by simp) _
    have hB : Blk W5 w2.heap.size #[.slice none 0 0] 22 := by rw [hW5]; exact (Blk.new _ _ _).alloc _
    have hP : Blk W5 (w2.heap.size + 1) #[.slice none 0 0] 86 := by rw [hW5]; exact Blk.new_at _ _ _ _ (by simp)
    have hsz : w2.heap.size + 2 = W5.heap.size := by rw [hW5]; simp
    rw [← hW5]
    have hst : PutSt w (w2.heap.size + 2) (w2.heap.size + 1) w2.heap.size w.heap.size (.slice va vn vc) [] [] W5 none 0 0 none 0 0 :=
      ⟨hP, hB, HL2.out.below hb25, own_none _ _ _ _, own_none _ _ _ _, Apart.none _ _, Apart.none _ _, bel12.trans (hb25.mono bel12.size), by omega⟩
    have hvs : PutVs w (w2.heap.size + 2) (w2.heap.size + 1) w2.heap.size w.heap.size :=
      ⟨by omega, by omega, Nat.le_refl _, by omega, by omega, by omega, by omega, by omega, by omega, by omega⟩
    clear hW5 hsz hb25 hB hP
    obtain ⟨cB, hcB⟩ : ∃ c, c = w2.heap.size := ⟨_, rfl⟩
    obtain ⟨cP, hcP⟩ : ∃ c, c = w2.heap.size + 1 := ⟨_, rfl⟩
    obtain ⟨base, hba⟩ : ∃ c, c = w2.heap.size + 2 := ⟨_, rfl⟩
    obtain ⟨cL, hcL⟩ : ∃ c, c = w.heap.size := ⟨_, rfl⟩
    rw [← hcP, ← hba] at hst hvs
    rw [← hcP]
    rw [← hcB] at hst hvs ⊢
    have hst2 : PutSt w base cP cB cL (.slice va vn vc) [] [] W5 none 0 0 none 0 0 := by rw [hcL]; exact hst
    have hvs2 : PutVs w base cP cB cL := by rw [hcL]; exact hvs
    have HVS := Lib.hid hvs2
    have HST := Lib.hid hst2
    have HCL := Lib.hid hcL
    rw [← hcL]
    have hea := eachPutE_any w W5 _ l (.pointer (some ⟨cP, 0, none⟩)) (.pointer (some ⟨cB, 0, none⟩)) (.pointer (some ⟨cL, 0, none⟩))
      (fun k w' => ∃ pa np pc ba nb bc, PutSt w base cP cB cL (.slice va vn vc) (placesN (entsOf l) k) (bodyN (entsOf l) k) w' pa np pc ba nb bc) HV.out ⟨_, _, _, _, _, _, HST.out⟩
      (fun k w' ⟨_, _, _, _, _, _, h⟩ => h.bel) (fun k w' w'' ⟨_, _, _, _, _, _, h⟩ hb => ⟨_, _, _, _, _, _, h.later hb⟩)
      (fun k hk w' ⟨pa, np, pc, ba, nb, bc, h⟩ => (putStep_any w w' base cP cB cL _ l k l[k] _ _ pa np pc ba nb bc h HVS.out HV.out hk rfl (by have := HE1.out; rw [← HVN.out]; omega) HALL.out
        (by have := body_small (entsOf l) HOK.out k (by rw [entsOf_length]; omega); have := HE1.out; rw [← HVN.out] at hk; omega)
        (by rw [placesN_length]; have := HE1.out; rw [← HVN.out] at hk; omega)).mono fun e w'' h => h)
    have HEA := Lib.hid hea
    have l0 := HST.out.l.cellv 0 (.slice va vn vc) rfl
    clear hea hst hvs hst2 hvs2 hcB hcP hba hcL hall hE1 hE2
    rw [← HVN.out] at HEA
    go_wp2_with fail
    refine HEA.out.mono ?_
    rintro e w6 ⟨rfl, pa, np, pc, ba, nb, bc, hst6⟩
    have HS6 := Lib.hid hst6
    have hnp : np = (placesN (entsOf l) vn).length := by have := own_reads hst6.op; rw [i64s_length] at this; omega
    have hnb : nb = (bodyN (entsOf l) vn).length := (rd_of_own hst6.ob).1
    have HNP : Hid (np ≤ 64) := by show _ ≤ _; rw [hnp, placesN_length]; have := HE1.out; omega
    have HNB : Hid (nb ≤ 25600) := by
      show _ ≤ _
      rw [hnb]; have := body_small (entsOf l) HOK.out vn (by rw [entsOf_length, ← HVN.out]; exact Nat.le_refl _); have := HE1.out; omega
    have HNPE := Lib.hid hnp
    clear hst6 hnp hnb
    have p0 := HS6.out.p.cellv 0 (.slice pa np pc) rfl
    go_upto_region 6 with (fail)
    go_wp2_with fail
    refine (eachInt_any w w6 base cP cB cL _ (placesN (entsOf l) vn) (bodyN (entsOf l) vn) pa np pc ba nb bc HS6.out HVS.out (fun p hp => by
      have := places_small (entsOf l) HOK.out vn (by rw [entsOf_length, ← HVN.out]; exact Nat.le_refl _) p hp; have := HE1.out; omega) (by have := HNB.out; omega) (by have := HNP.out; omega)).mono ?_
    rintro e w7 ⟨rfl, xa, xn, xc, hst7⟩
    have HS7 := Lib.hid hst7
    have p0 := hst7.p.cellv 0 (.slice pa np pc) rfl
    have b0 := hst7.b.cellv 0 (.slice xa xn xc) rfl
    have hxn : xn = (bodyN (entsOf l) vn ++ twos (placesN (entsOf l) vn)).length := (rd_of_own hst7.ob).1
    have HXN : Hid (xn ≤ 30000) := by
      show _ ≤ _
      have h1 := (rd_of_own HS6.out.ob).1
      rw [hxn, List.length_append, twos_length, ← HNPE.out]; have := HNP.out; have := HNB.out; omega
    have HXE := Lib.hid hxn
    clear hst7 hxn
    go_upto_region 7 with (fail)
    go_wp2_with fail
    refine (number_any w7 base _ _ xn np HS7.out.ob (by have := HNP.out; omega) (by have := HXN.out; omega) HS7.out.sz).mono ?_
    rintro e w8 ⟨ua, uc, rfl, hX, hG⟩
    have belf : Below w.heap.size w w8 := HS7.out.bel.trans (hG.out.below.mono HVS.out.base0)
    have eB : (bodyN (entsOf l) vn ++ twos (placesN (entsOf l) vn)) ++ two np = blkPut (entsOf l) := by
      unfold blkPut
      rw [entsOf_length, ← HVN.out, HNPE.out]
    rw [eB] at hX
    have HF : Hid (xn + 2 = (blkPut (entsOf l)).length) := by show _ = _; rw [← eB, List.length_append, HXE.out]; rfl
    clear hG eB p0 b0
    go_wp2_with fail
    go_ret2
    exact ⟨belf, .inl ⟨HMM.out, ua, _, uc, rfl, HF, own_mono hX.out HVS.out.base0⟩⟩
end Go.Proofs.YtbcnapkbdbefhaaGreatDoor

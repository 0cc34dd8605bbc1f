/- Walks of package blocks: number, alike, the reader. The condition: bytes of less than 2^47. -/
import Derived.Test.YtbcnapkbdbefhaaBlkP
import Derived.Test.YtbcnapkbdbefhaaApart
import Derived.Test.YtbcnapkbdbefhaaReader1
import Derived.StillTailTactics
namespace Go.Proofs.Ytbcnapkbdbefhaa
open Go.RowKit

theorem Grew.alloc {w w' : World} {base : Nat} {v v' : Value} {o : Obj} (h : Grew (w.alloc o) w' base v v') (hb : base ≤ w.heap.size) : Grew w w' base v v' := by
  have hal : Below w.heap.size w (w.alloc o) := (Below.refl _ _).alloc (Nat.le_refl _) _
  exact ⟨(hal.mono hb).trans h.below, fun b e sz n u xs ho ha => h.keep b e sz n u xs (own_below ho hal) (ha.later hal.size), fun u ha => h.apart u (ha.later hal.size), by
    obtain ⟨a1, a2, a3, a4, a5⟩ := h.rows
    obtain ⟨b1, b2, b3, b4, b5⟩ := hal
    exact ⟨a1.trans b1, a2.trans b2, a3.trans b3, Nat.le_trans b4 a4, fun k hk hne => (a5 k (Nat.lt_of_lt_of_le hk b4) hne).trans (b5 k hk)⟩⟩
theorem Grew.blk {w w' : World} {base : Nat} {v v' : Value} (h : Grew w w' base v v') {g : Nat} {cs : Array Value} {t : TypeId} (hb : Blk w g cs t) (ha : Apart w (.slice (some ⟨g, 0, none⟩) 0 0) v) : Blk w' g cs t :=
  hb.grown h.rows (fun e => (ha g rfl).2 e.symm)
set_option maxRecDepth 100000 in
set_option maxHeartbeats 1000000 in
theorem number_any (w : World) (base : Nat) (v : Value) (l : List UInt8) (n p : Nat) (hown : Own w base 5 1 v n (u8s l)) (hp : p < 65536) (hl : n ≤ 1073741824) (hbase : base ≤ w.heap.size) :
    Calls Try.prog 65 #[v, .int .i64 p] w fun e w' => ∃ b c, e = .returned (.slice b (n + 2) c) ∧ Hid (Own w' base 5 1 (.slice b (n + 2) c) (n + 2) (u8s (l ++ two p))) ∧ Hid (Grew w w' base v (.slice b (n + 2) c)) := by
  have HO := Lib.hid hown
  obtain ⟨a, c, rfl⟩ := (reads_of_own hown).slice
  clear hown
  obtain ⟨i0, hi, hz, hz1, hz2⟩ := info_parts info_u8
  have hlit : ∀ (w : World), Rd (w.alloc (.cells #[.int .u8 ((p : Int) / 256), .int .u8 ((p : Int) % 256)] 5)) (.slice (some ⟨w.heap.size, 0, none⟩) 2 2) (two p) := fun w => rd_lit w (two p) _ _ 2 (by
    simp only [two, u8s, List.map_cons, List.map_nil, UInt8.toNat_ofNat']
    refine congrArg List.toArray ?_
    congr 2
    · congr 1; omega) rfl (by simp [two])
  have HL := Lib.hid hlit
  clear hlit
  have hal : ∀ o, Below w.heap.size w (w.alloc o) := fun o => (Below.refl _ _).alloc (Nat.le_refl _) _
  have HAL := Lib.hid hal
  clear hal
  go_enter Try.func65, Try.ntmps65
  go_wp2_with (at_builtin; go_loud (refine wp_app_el2 rfl _ _ rfl Try.underlying26 hi hz hz1 hz2 rfl (by omega) base n 2 (.slice a n c) _ (u8s l) (u8s (two p)) (u8s (l ++ two p)) (n + 2) rfl rfl (own_below HO.out (HAL.out _)) (rd_reads (HL.out w)) (one_u8s _) rfl (by rw [u8s_append]) (by omega) (by omega) (Nat.le_trans hbase (by simp)) ?_); intro ua uc w2 HX2 HG2)
  go_ret
  exact ⟨_, _, rfl, HX2, HG2.out.alloc hbase⟩

theorem bs_inj {l m : List UInt8} (h : bs l = bs m) : l = m := by rw [← bs_data l, h, bs_data]
theorem bs_toList (l : List UInt8) : (bs l).toList = l := by rw [Lib.toList_data, bs_data]
set_option maxRecDepth 100000 in
set_option maxHeartbeats 1000000 in
theorem bytesEqual_any (w : World) (v v2 : Value) (l m : List UInt8) (hv : Rd w v l) (hv2 : Rd w v2 m) :
    Calls Try.prog 38 #[v, v2] w fun e w' => e = .returned (.bool (decide (l = m))) ∧ w = w' := by
  have s1 := run_str hv
  have s2 := run_str hv2
  have e1 := bs_toList l
  have e2 := bs_toList m
  clear hv hv2
  obtain ⟨a, ha⟩ : ∃ a, a = bs l := ⟨_, rfl⟩
  obtain ⟨b, hb⟩ : ∃ b, b = bs m := ⟨_, rfl⟩
  rw [← ha] at s1 e1
  rw [← hb] at s2 e2
  have HA := Lib.hid e1
  have HB := Lib.hid e2
  clear ha hb e1 e2
  go_enter Try.func38, Try.ntmps38
  go_wp2
  go_ret
  refine ⟨ret_bool ?_, rfl⟩
  rw [HA.out, HB.out]
  rw [Bool.eq_iff_iff]; simp

/-- a reader of package blocks in block g: its bytes, is it bad? -/
def Rdb (w : World) (g : Nat) (v : Value) (bad : Bool) : Prop := Blk w g #[v, .bool bad] 93
set_option maxRecDepth 100000 in
set_option maxHeartbeats 1000000 in
theorem tookB_any (w0 w : World) (g : Nat) (v : Value) (l : List UInt8) (bad : Bool) (n e : Nat) (h : Rdb w g v bad) (hv : Rd w0 v l) (hn : n ≤ l.length) :
    Calls Try.prog 79 #[.pointer (some ⟨g, 0, none⟩), .int .i64 n, .int .i64 e] w fun en w' => ∃ v', en = .returned (.tuple #[]) ∧ Hid (Rdb w' g v' (bad || decide (e ≠ 0))) ∧ Hid (Rd w0 v' (l.drop n)) ∧ Hid (Only w w' g) := by
  have HB := Lib.hid h
  obtain ⟨a, c, hcut, hrd⟩ := cut_from hv n hn
  have HRD := Lib.hid hrd
  have s1 := fun w' => hcut w' .i64
  obtain ⟨va, vn, vc, rfl, hvn⟩ := rd_len hv
  obtain ⟨zn, hz⟩ : ∃ z, z = l.length - n := ⟨_, rfl⟩
  rw [← hz] at s1 HRD
  clear hcut hrd hz hv hn hvn
  have c0 := Blk.cellv h 0 _ rfl
  have c1 := Blk.cellv h 1 _ rfl
  have f0 := Blk.free h 0
  have f1 := Blk.free h 1
  clear h
  by_cases hb : bad = true
  · subst hb
    go_enter Try.func79, Try.ntmps79
    go_wp2
    go_end0
    refine ⟨.slice a zn c, rfl, ?_, HRD, (Only.set w g 1 _).trans (Only.set _ g 0 _)⟩
    have h2 := Blk.set (Blk.set HB.out 1 (.bool true)) 0 (.slice a zn c)
    exact h2
  · obtain rfl : bad = false := by simpa using hb
    by_cases he : e = 0
    · subst he
      go_enter Try.func79, Try.ntmps79
      go_wp2
      go_end0
      refine ⟨.slice a zn c, rfl, ?_, HRD, (Only.set w g 1 _).trans (Only.set _ g 0 _)⟩
      have h2 := Blk.set (Blk.set HB.out 1 (.bool false)) 0 (.slice a zn c)
      exact h2
    · have hee : ((e : Int) != 0) = true := by simp; omega
      go_enter Try.func79, Try.ntmps79
      go_wp2
      go_end0
      refine ⟨.slice a zn c, rfl, ?_, HRD, (Only.set w g 1 _).trans (Only.set _ g 0 _)⟩
      have h2 := Blk.set (Blk.set HB.out 1 (.bool true)) 0 (.slice a zn c)
      have e4 : (false || decide (e ≠ 0)) = true := by simp; omega
      rw [e4]
      exact h2
theorem vget_len (l : List UInt8) : (vget l).2.1 ≤ l.length := by
  by_cases h : (vget l).2.2 = 0
  · exact (vget_got (l := l) (n := (vget l).1) (k := (vget l).2.1) (by ext <;> simp [h])).2.2.1
  · rcases vget_bad h with ⟨e, _⟩ | ⟨e, _⟩ <;> rw [e] <;> exact Nat.zero_le _
theorem tget_len (l : List UInt8) : (tget l).2.1 ≤ l.length := by
  by_cases h : (tget l).2.2 = 0
  · exact (tget_got (l := l) (s := (tget l).1) (k := (tget l).2.1) (by ext <;> simp [h])).2.1
  · rcases tget_err h with e | e <;> rw [e] <;> exact Nat.zero_le _
set_option maxRecDepth 100000 in
set_option maxHeartbeats 1000000 in
theorem numberB_any (w0 w : World) (g : Nat) (v : Value) (l : List UInt8) (bad : Bool) (h : Rdb w g v bad) (hv : Rd w0 v l) (hbel : Below w0.heap.size w0 w) :
    Calls Try.prog 77 #[.pointer (some ⟨g, 0, none⟩)] w fun en w' => ∃ v', en = .returned (.int .u64 (vget l).1) ∧ Hid (Rdb w' g v' (bad || decide ((vget l).2.2 ≠ 0))) ∧ Hid (Rd w0 v' (l.drop (vget l).2.1)) ∧ Hid (Only w w' g) := by
  have HB := Lib.hid h
  have HK := Lib.hid (vget_len l)
  have HV := Lib.hid hv
  have HG := Lib.hid (intsGet_any v l w (hv.below hbel))
  obtain ⟨va, vn, vc, rfl, hvn⟩ := rd_len hv
  have c0 := Blk.cellv h 0 (.slice va vn vc) rfl
  obtain ⟨N, K, E, hg⟩ : ∃ N K E, vget l = (N, K, E) := ⟨_, _, _, rfl⟩
  have HN := Lib.hid hg
  have HG2 : Hid (Calls Try.prog 82 #[.slice va vn vc] w fun e' w' => e' = .returned (.tuple #[.int .u64 N, .int .i64 K, .int .i64 E]) ∧ w = w') := by
    refine HG.out.mono ?_
    rintro e' w' ⟨rfl, rfl⟩
    rw [HN.out]; exact ⟨rfl, rfl⟩
  rw [HN.out] at HK ⊢
  clear h hv hbel hvn HG hg
  go_enter Try.func77, Try.ntmps77
  go_wp2_with fail
  refine HG2.out.mono ?_
  rintro e' w' ⟨rfl, rfl⟩
  go_wp2_with fail
  refine (tookB_any w0 w g _ l bad K E HB.out HV.out HK.out).mono ?_
  rintro e' w' ⟨v', rfl, h1, h2, h3⟩
  go_wp2
  go_ret
  exact ⟨v', rfl, h1, h2, h3⟩
set_option maxRecDepth 100000 in
set_option maxHeartbeats 1000000 in
theorem textB_any (w0 w : World) (g : Nat) (v : Value) (l : List UInt8) (bad : Bool) (h : Rdb w g v bad) (hv : Rd w0 v l) (hbel : Below w0.heap.size w0 w) :
    Calls Try.prog 78 #[.pointer (some ⟨g, 0, none⟩)] w fun en w' => ∃ v', en = .returned (.string (bs (tget l).1)) ∧ Hid (Rdb w' g v' (bad || decide ((tget l).2.2 ≠ 0))) ∧ Hid (Rd w0 v' (l.drop (tget l).2.1)) ∧ Hid (Only w w' g) := by
  have HB := Lib.hid h
  have HK := Lib.hid (tget_len l)
  have HV := Lib.hid hv
  have HG := Lib.hid (intsGetText_any v l w (hv.below hbel))
  obtain ⟨va, vn, vc, rfl, hvn⟩ := rd_len hv
  have c0 := Blk.cellv h 0 (.slice va vn vc) rfl
  obtain ⟨N, K, E, hg⟩ : ∃ N K E, tget l = (N, K, E) := ⟨_, _, _, rfl⟩
  have HN := Lib.hid hg
  obtain ⟨S, hS⟩ : ∃ S, S = bs N := ⟨_, rfl⟩
  have HG2 : Hid (Calls Try.prog 83 #[.slice va vn vc] w fun e' w' => e' = .returned (.tuple #[.string S, .int .i64 K, .int .i64 E]) ∧ w = w') := by
    refine HG.out.mono ?_
    rintro e' w' ⟨h1, h2⟩
    rw [h1, HN.out, hS]; exact ⟨rfl, h2⟩
  rw [HN.out] at HK ⊢
  rw [← hS]
  clear h hv hbel hvn HG hg hS
  go_enter Try.func78, Try.ntmps78
  go_wp2_with fail
  refine HG2.out.mono ?_
  rintro e' w' ⟨rfl, rfl⟩
  go_wp2_with fail
  refine (tookB_any w0 w g _ l bad K E HB.out HV.out HK.out).mono ?_
  rintro e' w' ⟨v', rfl, h1, h2, h3⟩
  go_wp2
  go_ret
  exact ⟨v', rfl, h1, h2, h3⟩

theorem alike_more (s t : List UInt8) (n : Nat) (h : ∀ i, (hi : i < n) → (h1 : i < s.length) → (h2 : i < t.length) → s[i] = t[i]) (h1 : n ≤ s.length) (h2 : n ≤ t.length) : n ≤ alikeL s t := by
  by_cases hn : alikeL s t < n
  · exact absurd (h _ hn (by omega) (by omega)) (alikeL_stop s t (by omega) (by omega))
  · omega
set_option maxRecDepth 100000 in
set_option maxHeartbeats 1000000 in
theorem alike_any (w : World) (s t : ByteArray) (hs : s.size ≤ 1099511627776) :
    Calls Try.prog 61 #[.string s, .string t] w fun e w' => e = .returned (.int .i64 (alikeL s.data.toList t.data.toList)) ∧ Below w.heap.size w w' := by
  have hle1 := alikeL_le1 s.data.toList t.data.toList
  have hle2 := alikeL_le2 s.data.toList t.data.toList
  rw [size_data] at hle1 hle2
  obtain ⟨n, hn⟩ : ∃ n, n = alikeL s.data.toList t.data.toList := ⟨_, rfl⟩
  have HN := Lib.hid hn
  rw [← hn] at hle1 hle2 ⊢
  clear hn
  obtain ⟨mn, hmn⟩ : ∃ m, m = min s.size t.size := ⟨_, rfl⟩
  have hmin : (if t.size < s.size then ((t.size : Nat) : Int) else ((s.size : Nat) : Int)) = (mn : Int) := by
    rw [hmn]; split <;> omega
  have hnm : n ≤ mn := by omega
  have hm1 : mn ≤ s.size := by omega
  have hm2 : mn ≤ t.size := by omega
  clear hmn
  go_enter Try.func61, Try.ntmps61
  go_wp2_with fail
  show Code.wp _ _ _ _ _
  go_loopw [4] (fun i wr => ∃ k : Nat, k ≤ n ∧ i = .int .i64 k ∧ Below w.heap.size w wr) (fun i _ => n - (intOf i).toNat)
  case atStart => exact ⟨0, Nat.zero_le _, rfl, Below.refl _ _⟩
  case round =>
    obtain ⟨k, hk, rfl, belr⟩ := hrel
    by_cases hlt : k < n
    · have hd : decide (k < mn) = true := by simp; omega
      have hks : ((k : Nat) : Int) < ((s.size : Nat) : Int) := by omega
      have hkt : ((k : Nat) : Int) < ((t.size : Nat) : Int) := by omega
      have heq : (((s[k]'(by omega)).toNat : Int) == ((t[k]'(by omega)).toNat : Int)) = true := by
        have h := alikeL_end s.data.toList t.data.toList k (by rw [← HN.out]; exact hlt) (by rw [size_data]; omega) (by rw [size_data]; omega)
        have h' : s[k]'(by omega) = t[k]'(by omega) := h
        rw [h']; simp
      go_wp2_with fail
      go_quiet (fail)
      clear hd
      have hdw := drewN_below wr nq
      go_wp2_with fail
      go_round
      case rel => exact ⟨k + 1, by omega, by go_num, Below.trans belr (hdw.mono belr.size)⟩
      case measure => simp [intOf]; omega
    · obtain rfl : k = n := by omega
      by_cases hkm : k < mn
      · have hd : decide (k < mn) = true := by simp; omega
        have hks : ((k : Nat) : Int) < ((s.size : Nat) : Int) := by omega
        have hkt : ((k : Nat) : Int) < ((t.size : Nat) : Int) := by omega
        have heq : (((s[k]'(by omega)).toNat : Int) == ((t[k]'(by omega)).toNat : Int)) = false := by
          have h := alikeL_stop s.data.toList t.data.toList (by rw [← HN.out, size_data]; omega) (by rw [← HN.out, size_data]; omega)
          simp only [← HN.out] at h
          have h' : s[k]'(by omega) ≠ t[k]'(by omega) := h
          simp only [beq_eq_false_iff_ne, ne_eq]
          intro e
          exact h' (UInt8.toNat_inj.1 (by omega))
        go_wp2_with fail
        go_quiet (fail)
        clear hd
        have hdw := drewN_below wr nq
        go_wp2_with fail
        go_ret
        exact ⟨rfl, Below.trans belr (hdw.mono belr.size)⟩
      · have hd : decide (k < mn) = false := by simp; omega
        go_wp2_with fail
        go_quiet (fail)
        clear hd
        have hdw := drewN_below wr nq
        go_wp2_with fail
        go_ret
        exact ⟨rfl, Below.trans belr (hdw.mono belr.size)⟩
end Go.Proofs.Ytbcnapkbdbefhaa

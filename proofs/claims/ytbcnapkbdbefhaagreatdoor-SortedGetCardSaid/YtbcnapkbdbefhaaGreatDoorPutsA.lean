/- Walks of the closure that ints.Put hands to digits: one byte more. The condition: fewer than 2^39 bytes. | Walk of slices.Grow of a nil slice of bytes. The condition: at most 2^47 bytes. | Walk of slices.Concat of slices of bytes, and of ints.join. The condition: parts that read as bytes, at most 2^39 bytes in all. | Walk of ints.digits with the closure of Put. The condition: fewer than 2^39 bytes. | Walks of ints.join and ints.Put: the bytes behind some, in memory of the call's own. The condition: a slice that reads as bytes, at most 2^38 of them. | Walks of ints.PutFour and ints.PutText. The condition: a slice that reads as bytes, at most 2^37 of them; a text of at most 2^37 bytes. -/
import Derived.Test.YtbcnapkbdbefhaaGreatDoorMem
import Derived.Lib.AppendZeros
import Derived.Test.YtbcnapkbdbefhaaGreatDoorInts3
namespace Go.Proofs.YtbcnapkbdbefhaaGreatDoor
open Go.RowKit

/-- a block that holds a slice of the call's own, which reads l -/
def Acc (w : World) (g : Nat) (l : List UInt8) : Prop :=
  ∃ v, w.cell? ⟨g, 0, none⟩ = some v ∧ w.frozen? ⟨g, 0, none⟩ = false ∧ v.oneCell' = true ∧ Own w (g + 1) 5 1 v l.length (u8s l)
def RetAcc (b g : Nat) (l : List UInt8) (w : World) (e : Ending) (w' : World) : Prop := e = .returned (.tuple #[]) ∧ Acc w' g l ∧ Below b w w'

theorem own_one {w : World} {base : Nat} {e : TypeId} {size : Nat} {v : Value} {n : Nat} {xs : List Value} (h : Own w base e size v n xs) : v.oneCell' = true := by
  rcases h with ⟨_, _, a, rfl⟩ | ⟨_, g, cap, cur, fr, rfl, _⟩ <;> rfl
theorem own_slice {w : World} {base : Nat} {e : TypeId} {size : Nat} {v : Value} {n : Nat} {xs : List Value} (h : Own w base e size v n xs) : ∃ a c, v = .slice a n c := by
  rcases h with ⟨rfl, _, a, rfl⟩ | ⟨_, g, cap, cur, fr, rfl, _⟩
  · exact ⟨_, _, rfl⟩
  · exact ⟨_, _, rfl⟩
theorem own_set {w : World} {base : Nat} {e : TypeId} {size : Nat} {v : Value} {n : Nat} {xs : List Value} (h : Own w base e size v n xs) (p : Addr) (hp : p.block < base) (u : Value) : Own (w.setCell p u) base e size v n xs := by
  rcases h with h | ⟨h1, g, cap, cur, fr, rfl, h3, h4, h5⟩
  · exact .inl h
  · refine .inr ⟨h1, g, cap, cur, fr, rfl, h3, ?_, h5⟩
    rw [Below.heap_setCell _ _ _ _ (by omega)]; exact h4
theorem cell_lt {w : World} {a : Addr} {v : Value} (h : w.cell? a = some v) : a.block < w.heap.size := by
  unfold World.cell? at h
  split at h
  · rename_i hh; exact (Array.getElem?_eq_some_iff.1 hh).1
  · cases h

set_option maxRecDepth 100000 in
set_option maxHeartbeats 1000000 in
theorem put1_any (w : World) (b g c : Nat) (l : List UInt8) (hc : c < 256) (hb : b ≤ g) (hl : l.length ≤ 549755813888) (ha : Acc w g l) :
    Calls Tryz.prog 139 #[.int .u8 c, .pointer (some ⟨g, 0, none⟩)] w (RetAcc b g (l ++ [UInt8.ofNat c]) w) := by
  obtain ⟨v, hcell, hfr, h1, hown⟩ := ha
  have hlt : g < w.heap.size := cell_lt hcell
  obtain ⟨sa, sc, rfl⟩ := own_slice hown
  have HO := Lib.hid hown
  clear hown
  go_enter Tryz.func139, Tryz.ntmps139
  go_wp2_with (at_builtin; go_loud (refine wp_app rfl _ _ rfl (g + 1) l.length 1 _ _ l [UInt8.ofNat c] rfl rfl (own_below HO.out ((Below.refl _ _).alloc (Nat.le_refl _) _)) (rd_one _ _ _ (by simp; omega) _) rfl (by omega) (by simp; omega) ?_); intro v' w' hown' hg hbel; go_loud (have hcell' := (hbel.cell (Nat.lt_succ_self g)).trans ((((Below.refl w.heap.size w).alloc (Nat.le_refl _) _).cell hlt).trans hcell); have hfr' := (hbel.frozen (Nat.lt_succ_self g)).trans ((((Below.refl w.heap.size w).alloc (Nat.le_refl _) _).frozen hlt).trans hfr); obtain ⟨ta, tc, rfl⟩ := own_slice hown'; have HO2 := Lib.hid hown'; have HG := Lib.hid hg; have HB := Lib.hid hbel; clear hown' hg hbel))
  go_end0
  refine ⟨rfl, ⟨_, World.cell?_setCell_same _ _ _ hcell', by rw [World.frozen?_setCell]; exact hfr', rfl, ?_⟩, ?_⟩
  · have e : (l ++ [UInt8.ofNat c]).length = l.length + 1 := by simp
    rw [e]
    exact own_set HO2.out _ (Nat.lt_succ_self g) _
  · exact Below.setCell (Below.trans ((Below.refl b w).alloc (by omega) _) (HB.out.mono (by omega))) hb _
end Go.Proofs.YtbcnapkbdbefhaaGreatDoor
namespace Go.Proofs.YtbcnapkbdbefhaaGreatDoor
open Go.RowKit

def RetOwn (l : List UInt8) (w : World) (e : Ending) (w' : World) : Prop := ∃ v, e = .returned v ∧ Own w' w.heap.size 5 1 v l.length (u8s l) ∧ Below w.heap.size w w'
theorem under_i64 : Tryz.prog.underlying 3 = some (.int .i64) := by kernel_rfl

set_option maxRecDepth 100000 in
set_option maxHeartbeats 1000000 in
theorem grow_any (w : World) (n : Nat) (hn : n ≤ 140737488355328) :
    Calls Tryz.prog 178 #[.slice none 0 0, .int .i64 n] w (RetOwn [] w) := by
  by_cases h0 : n = 0
  · subst h0
    go_enter Tryz.func178, Tryz.ntmps178
    go_wp2
    go_ret
    exact ⟨_, rfl, own_nil _ _ _ _, Below.refl _ _⟩
  · obtain ⟨i, hi, hz, hz1, hz2⟩ := info_parts info_u8
    have hr := Lib.run_append_nil_zeros (P := Tryz.prog) w 22 3 22 5 i (.int .u8 0) .i64 .i64 Tryz.underlying22 under_i64 hi hz n (by omega) (by omega) (by omega) (by rw [hz2]; omega)
    have hge := grownCap_ge w n 0 5
    have hcm := grownCap_le_maxLen w n 0 5 (by unfold maxLen; omega)
    generalize grownCap w n 0 5 = cap at *
    have HR := Lib.hid hr
    clear hr hi hz hz1 hz2
    have hcm2 : cap ≤ 9223372036854775807 := by unfold maxLen at hcm; omega
    go_enter Tryz.func178, Tryz.ntmps178
    go_wp2_with (at_builtin; go_loud (refine Lib.wpList_append_run _ rfl _ _ 22 3 rfl _ _ rfl rfl _ _ HR.out ?_))
    go_ret
    refine ⟨_, rfl, .inr ⟨rfl, w.heap.size, cap, _, (0, 0), rfl, Nat.le_refl _, heap_alloc_new w.drew _, fun _ _ h => by omega, Nat.zero_le _, hcm, ?_, rfl⟩, (Below.refl _ _).drew.alloc (Nat.le_refl _) _⟩
    simp only [Array.size_append, size_zeroCells]
    show cap * 1 ≤ n * 1 + (cap - n) * 1
    omega
end Go.Proofs.YtbcnapkbdbefhaaGreatDoor
namespace Go.Proofs.YtbcnapkbdbefhaaGreatDoor
open Go.RowKit

/-- the cells of a row of slices, each of which reads as bytes -/
def Parts (w : World) (g : Nat) (ls : List (List UInt8)) : Prop := ∀ j (h : j < ls.length), ∃ v, w.cell? ⟨g, j, none⟩ = some v ∧ Rd w v ls[j]
theorem flat_take (ls : List (List UInt8)) (k : Nat) (h : k < ls.length) : (ls.take (k + 1)).flatten = (ls.take k).flatten ++ ls[k] := by
  rw [List.take_succ_eq_append_getElem h, List.flatten_append]
  simp
theorem flat_le (ls : List (List UInt8)) (k : Nat) : (ls.take k).flatten.length ≤ ls.flatten.length := by
  conv => rhs; rw [← List.take_append_drop k ls, List.flatten_append, List.length_append]
  omega

set_option maxRecDepth 100000 in
set_option maxHeartbeats 2000000 in
theorem concat_any (w : World) (g : Nat) (ls : List (List UInt8)) (hp : Parts w g ls) (hn : ls.length ≤ 1000) (hl : ls.flatten.length ≤ 549755813888) :
    Calls Tryz.prog 164 #[.slice (some ⟨g, 0, none⟩) ls.length ls.length] w (RetOwn ls.flatten w) := by
  have HP := Lib.hid hp
  clear hp
  go_enter Tryz.func164, Tryz.ntmps164
  go_wp2
  go_loop [3, 5, 11] (fun s _ i => ∃ k : Nat, k ≤ ls.length ∧ i = .int .i64 k ∧ s = .int .i64 ((ls.take k).flatten.length : Nat)) (fun _ _ i => ls.length - (intOf i).toNat)
  case atStart => exact ⟨0, Nat.zero_le _, rfl, rfl⟩
  case round =>
    obtain ⟨k, hk, rfl, rfl⟩ := hrel
    by_cases hlt : k < ls.length
    · obtain ⟨v, hc, ⟨a, cap, rfl, h1, h2, h3⟩⟩ := HP.out k hlt
      clear h3
      have hft := congrArg List.length (flat_take ls k hlt)
      have hfl := flat_le ls (k + 1)
      rw [List.length_append] at hft
      have HF := Lib.hid hft
      have hfb : (ls.take k).flatten.length + ls[k].length ≤ 549755813888 := by omega
      clear hft hfl
      generalize hsk : (ls.take k).flatten.length = sk at *
      generalize hlk : ls[k].length = lk at *
      go_wp2
      refine ⟨⟨k + 1, by omega, by go_num, ?_⟩, by simp [intOf]; omega⟩
      rw [HF.out]
      go_num
    · have hkl : k = ls.length := by omega
      subst hkl
      rw [List.take_length]
      obtain ⟨N, hN⟩ : ∃ N : Nat, N = ls.flatten.length := ⟨_, rfl⟩
      rw [← hN]
      have hNl : N ≤ 140737488355328 := by omega
      clear hN
      go_wp2_with fail
      refine (grow_any w N hNl).mono ?_
      rintro e w1 ⟨v, rfl, hown, hbel⟩
      have HO := Lib.hid hown
      clear hown
      go_wp2
      go_loopw [6, 8, 27] (fun v _ i wr => ∃ k : Nat, k ≤ ls.length ∧ i = .int .i64 k ∧ Hid (Own wr w.heap.size 5 1 v (ls.take k).flatten.length (u8s (ls.take k).flatten)) ∧ Below w.heap.size w wr) (fun _ _ i _ => ls.length - (intOf i).toNat)
      case atStart => exact ⟨0, Nat.zero_le _, rfl, HO, hbel⟩
      case round =>
        obtain ⟨k, hk, rfl, HK, hbk⟩ := hrel
        by_cases hlt : k < ls.length
        · obtain ⟨v2, hc0, hrd⟩ := HP.out k hlt
          have hc := Below.keeps hbk _ _ _ hc0
          have hrd2 : Rd _ _ _ := hrd.below hbk
          obtain ⟨a, cap, rfl, h1, h2, h3⟩ := hrd
          clear h3 hc0
          have HR := Lib.hid hrd2
          clear hrd2
          have hft := congrArg List.length (flat_take ls k hlt)
          have hfl := flat_le ls (k + 1)
          rw [List.length_append] at hft
          have hsz := hbk.size
          go_wp2_with (at_builtin; go_loud (refine wp_app rfl _ _ rfl w.heap.size _ ls[k].length _ _ _ ls[k] rfl rfl HK.out HR.out rfl (by omega) hsz ?_); intro v' w' hown' hg' hbel'; have HO2 := Lib.hid hown'; have HB2 := Lib.hid hbel'; clear hown' hg' hbel')
          refine ⟨⟨k + 1, by omega, by go_num, ?_, Below.trans hbk HB2.out⟩, by simp [intOf]; omega⟩
          show Own _ _ _ _ _ _ _
          rw [flat_take ls k hlt, List.length_append]
          exact HO2.out
        · have hkl : k = ls.length := by omega
          subst hkl
          rw [List.take_length] at HK
          go_wp2
          go_ret
          exact ⟨_, rfl, HK.out, hbk⟩
end Go.Proofs.YtbcnapkbdbefhaaGreatDoor
namespace Go.Proofs.YtbcnapkbdbefhaaGreatDoor
open Go.RowKit

set_option maxRecDepth 100000 in
theorem or128 (m : Nat) : bits BinOp.or IntKind.u8 ((m : Int) % 256) 128 = ((m % 128 + 128 : Nat) : Int) := by
  rw [show ((m : Int) % 256) = ((m % 256 : Nat) : Int) from by omega, show (128 : Int) = ((128 : Nat) : Int) from rfl, u8_or_nat _ _ (by omega) (by omega)]
  have key : ∀ j, j < 256 → j ||| 128 = j % 128 + 128 := by decide
  rw [key _ (by omega)]
  omega

set_option maxRecDepth 100000 in
set_option maxHeartbeats 1000000 in
theorem digits_any (w : World) (b g n : Nat) (l : List UInt8) (hn : n < 18446744073709551616) (hb : b ≤ g) (hl : (l ++ vint n).length ≤ 549755813888) (ha : Acc w g l) :
    Calls Tryz.prog 138 #[.int .u64 n, .func (.func 139) #[] #[.pointer (some ⟨g, 0, none⟩)]] w (RetAcc b g (l ++ vint n) w) := by
  have HA := Lib.hid ha
  clear ha
  go_enter Tryz.func138, Tryz.ntmps138
  go_wp2
  go_loopw [0] (fun x wr => ∃ (m : Nat) (k : List UInt8), x = .int .u64 m ∧ m < 18446744073709551616 ∧ Hid (Acc wr g k) ∧ Hid (k ++ vint m = l ++ vint n) ∧ Below b w wr) (fun x _ => (intOf x).toNat)
  case atStart => exact ⟨n, l, rfl, hn, HA, rfl, Below.refl _ _⟩
  case round =>
    obtain ⟨m, k, rfl, hm, HK, HE, hbel⟩ := hrel
    have hkl : k.length + 1 ≤ 549755813888 := by
      have e := congrArg List.length HE.out
      have := vint_pos m
      simp only [List.length_append] at e hl ⊢
      omega
    by_cases h128 : m < 128
    · go_wp2_with fail
      refine (put1_any wr b g m k (by omega) hb (by omega) HK.out).mono ?_
      rintro e w' ⟨rfl, hacc, hb2⟩
      have HC := Lib.hid hacc
      clear hacc
      go_wp2
      go_end0
      refine ⟨rfl, ?_, Below.trans hbel hb2⟩
      rw [← HE.out, vint_small m h128]
      exact HC.out
    · have hor := or128 m
      go_wp2_with fail
      refine (put1_any wr b g (m % 128 + 128) k (by omega) hb (by omega) HK.out).mono ?_
      rintro e w' ⟨rfl, hacc, hb2⟩
      have HC := Lib.hid hacc
      clear hacc
      clear hor
      go_wp2
      go_roundw
      case rel =>
        refine ⟨m / 128, _, by go_num, by omega, HC, ?_, Below.trans hbel hb2⟩
        show _ = _
        rw [← HE.out, vint_step m (by omega) (by omega), List.append_assoc]
        rfl
      case measure => simp [intOf]; omega
end Go.Proofs.YtbcnapkbdbefhaaGreatDoor
namespace Go.Proofs.YtbcnapkbdbefhaaGreatDoor
open Go.RowKit

theorem rd_slice {w : World} {v : Value} {l : List UInt8} (h : Rd w v l) : ∃ a c, v = .slice a l.length c := by
  obtain ⟨a, c, rfl, _⟩ := h
  exact ⟨_, _, rfl⟩
set_option maxRecDepth 100000 in
set_option maxHeartbeats 400000 in
theorem join_any (w : World) (g : Nat) (ls : List (List UInt8)) (hp : Parts w g ls) (hn : ls.length ≤ 1000) (hl : ls.flatten.length ≤ 549755813888) :
    Calls Tryz.prog 140 #[.slice (some ⟨g, 0, none⟩) ls.length ls.length] w (RetOwn ls.flatten w) := by
  go_enter Tryz.func140, Tryz.ntmps140
  go_wp2_with fail
  refine (concat_any w g ls hp hn hl).mono ?_
  rintro e w1 ⟨v, rfl, hown, hbel⟩
  have HO := Lib.hid hown
  clear hown
  go_wp2
  go_ret
  exact ⟨_, rfl, HO.out, hbel⟩

/-- two parts, in one new block -/
theorem join_two (w : World) (v1 v2 : Value) (l m : List UInt8) (h1 : Rd w v1 l) (h2 : Rd w v2 m) (hl : l.length + m.length ≤ 549755813888) (t : TypeId) (g : Nat) (hg : g = w.heap.size) :
    Calls Tryz.prog 140 #[.slice (some ⟨g, 0, none⟩) 2 2] (w.alloc (.cells #[v1, v2] t)) (RetOwn (l ++ m) w) := by
  subst hg
  have hb : Below w.heap.size w (w.alloc (.cells #[v1, v2] t)) := (Below.refl _ _).alloc (Nat.le_refl _) _
  have hj := join_any (w.alloc (.cells #[v1, v2] t)) w.heap.size [l, m] (by
    intro j h
    match j, h with
    | 0, _ => exact ⟨v1, by rw [World.cell?_alloc_at _ _ _ _ rfl]; rfl, h1.below hb⟩
    | 1, _ => exact ⟨v2, by rw [World.cell?_alloc_at _ _ _ _ rfl]; rfl, h2.below hb⟩
    | j + 2, h => exact absurd h (by simp)) (by simp) (by simpa using hl)
  refine hj.mono ?_
  rintro e w' ⟨v, rfl, hown, hbel⟩
  have e : [l, m].flatten = l ++ m := by simp
  rw [e] at hown
  exact ⟨v, rfl, own_mono hown (by simp), Below.trans hb (hbel.mono (by simp))⟩

theorem acc_new (w : World) (t : TypeId) : Acc (w.alloc (.cells #[.slice none 0 0] t)) w.heap.size [] :=
  ⟨.slice none 0 0, by rw [World.cell?_alloc_at _ _ _ _ rfl]; rfl, by simp, rfl, own_nil _ _ _ _⟩
set_option maxRecDepth 100000 in
set_option maxHeartbeats 1000000 in
theorem put_any (w : World) (v : Value) (l : List UInt8) (n : Nat) (hv : Rd w v l) (hn : n < 18446744073709551616) (hl : l.length ≤ 274877906944) :
    Calls Tryz.prog 78 #[v, .int .u64 n] w (RetOwn (l ++ vint n) w) := by
  obtain ⟨va, vc, rfl⟩ := rd_slice hv
  have hb0 : Below w.heap.size w (w.alloc (.cells #[.slice none 0 0] 22)) := (Below.refl _ _).alloc (Nat.le_refl _) _
  have hvl := vint_le n
  have HA := Lib.hid (acc_new w 22)
  go_enter Tryz.func78, Tryz.ntmps78
  go_wp2_with fail
  refine (digits_any _ w.heap.size w.heap.size n [] hn (Nat.le_refl _) (by simp; omega) HA.out).mono ?_
  rintro e w1 ⟨rfl, ⟨x, hc, hfr, h1, hown⟩, hb1⟩
  have hb := Below.trans hb0 hb1
  have hrd := hv.below hb
  have hrx := (rd_of_own hown).2
  rw [List.nil_append] at hrx
  have HR := Lib.hid hrd
  have HX := Lib.hid hrx
  obtain ⟨xa, xc, rfl⟩ := rd_slice hrx
  clear hown hrd hrx hv hb0 hb1 HA
  go_wp2_with fail
  refine (join_two w1 _ _ _ _ HR.out HX.out (by omega) _ _ rfl).mono ?_
  rintro e w2 ⟨y, rfl, hown, hb2⟩
  have HO := Lib.hid hown
  clear hown
  go_wp2
  go_ret
  exact ⟨_, rfl, own_mono HO.out hb.size, Below.trans hb (hb2.mono hb.size)⟩
end Go.Proofs.YtbcnapkbdbefhaaGreatDoor
namespace Go.Proofs.YtbcnapkbdbefhaaGreatDoor
open Go.RowKit

theorem rd_slice3 {w : World} {v : Value} {l : List UInt8} (h : Rd w v l) : ∃ a n c, v = .slice a n c := by
  obtain ⟨a, c, rfl, _⟩ := h
  exact ⟨_, _, _, rfl⟩
/-- the bytes of a literal -/
theorem rd_lit (w : World) (l : List UInt8) (cs : Array Value) (ty : TypeId) (n : Nat) (h : cs = (u8s l).toArray) (hn : n = l.length) (hl : l.length ≤ 9223372036854775807) (fr : Nat × Nat := (0, 0)) : Rd (w.alloc (.cells cs ty fr)) (.slice (some ⟨w.heap.size, 0, none⟩) n n) l := by
  subst h hn
  refine ⟨_, _, rfl, Nat.le_refl _, hl, fun j hj => ⟨_, _, rfl, ?_⟩⟩
  rw [cell_of_row _ w.heap.size _ (u8s l).toArray ty fr (heap_alloc_new w _)]
  simp [u8s, hj]

set_option maxRecDepth 100000 in
set_option maxHeartbeats 1000000 in
theorem putFour_any (w : World) (v : Value) (l : List UInt8) (n : Nat) (hv : Rd w v l) (hn : n < 4294967296) (hl : l.length ≤ 137438953472) :
    Calls Tryz.prog 80 #[v, .int .u32 n] w (RetOwn (l ++ four n) w) := by
  obtain ⟨va, vc, rfl⟩ := rd_slice hv
  have HV := Lib.hid hv
  clear hv
  go_enter Tryz.func80, Tryz.ntmps80
  go_wp2_with fail
  have hb0 : ∀ o, Below w.heap.size w (w.alloc o) := fun o => (Below.refl _ _).alloc (Nat.le_refl _) _
  refine (join_two _ _ _ l (four n) (HV.out.below (hb0 _)) (rd_lit w (four n) _ _ 4 (by
    simp only [four, u8s, List.map_cons, List.map_nil, UInt8.toNat_ofNat']
    refine congrArg List.toArray ?_
    congr 2 <;> (try omega)) rfl (by simp [four])) (by simp [four]; omega) _ _ (by simp)).mono ?_
  rintro e w2 ⟨y, rfl, hown, hb2⟩
  have HO := Lib.hid hown
  clear hown
  go_wp2
  go_ret
  exact ⟨_, rfl, own_mono HO.out (by simp), Below.trans (hb0 _) (hb2.mono (by simp))⟩
set_option maxRecDepth 100000 in
set_option maxHeartbeats 1000000 in
theorem putText_any (w : World) (v : Value) (l : List UInt8) (s : ByteArray) (hv : Rd w v l) (hs : s.size ≤ 137438953472) (hl : l.length ≤ 137438953472) :
    Calls Tryz.prog 136 #[v, .string s] w (RetOwn (l ++ (vint s.size ++ s.data.toList)) w) := by
  have HV := Lib.hid hv
  clear hv
  go_enter Tryz.func136, Tryz.ntmps136
  go_wp2_with fail
  have hvl := vint_le s.size
  refine (put_any w v l s.size HV.out (by omega) (by omega)).mono ?_
  rintro e w1 ⟨x, rfl, hx, hb1⟩
  have hrx := (rd_of_own hx).2
  obtain ⟨xa, xn, xc, rfl⟩ := rd_slice3 hrx
  have HX := Lib.hid hrx
  clear hx hrx
  go_wp2_with (with_reducible refine wp_bytes rfl _ rfl s rfl (by omega) ?_; intro y w2 hy hb2; have hry := (rd_of_own hy).2; have HY := Lib.hid hry; obtain ⟨ya, yn, yc, rfl⟩ := rd_slice3 hry; clear hy hry)
  refine (join_two w2 _ _ _ _ (HX.out.below hb2) HY.out (by
    have : s.data.toList.length = s.size := by rw [Array.length_toList]; rfl
    simp only [List.length_append]; omega) _ _ rfl).mono ?_
  rintro e w3 ⟨z, rfl, hown, hb3⟩
  rw [List.append_assoc] at hown
  have HO := Lib.hid hown
  clear hown
  go_wp2
  go_ret
  exact ⟨_, rfl, own_mono HO.out (Nat.le_trans hb1.size hb2.size), Below.trans hb1 (Below.trans (hb2.mono hb1.size) (hb3.mono (Nat.le_trans hb1.size hb2.size)))⟩
end Go.Proofs.YtbcnapkbdbefhaaGreatDoor

/- Walk of ints.digits with the closure of Put. The condition: fewer than 2^39 bytes. | Walks of ints.join and ints.Put: the bytes behind some, in memory of the call's own. The condition: a slice that reads as bytes, at most 2^38 of them. | Walks of ints.PutFour and ints.PutText. The condition: a slice that reads as bytes, at most 2^37 of them; a text of at most 2^37 bytes. -/
import Derived.Test.YtbcnapkbdbefhaaPuts1
import Derived.Test.YtbcnapkbdbefhaaInts3
import Derived.Test.YtbcnapkbdbefhaaConcatA
namespace Go.Proofs.Ytbcnapkbdbefhaa
open Go.RowKit

set_option maxRecDepth 100000 in
theorem or128 (m : Nat) : bits BinOp.or IntKind.u8 ((m : Int) % 256) 128 = ((m % 128 + 128 : Nat) : Int) := by
  rw [show ((m : Int) % 256) = ((m % 256 : Nat) : Int) from by omega, show (128 : Int) = ((128 : Nat) : Int) from rfl, u8_or_nat _ _ (by omega) (by omega)]
  have key : ∀ j, j < 256 → j ||| 128 = j % 128 + 128 := by decide
  rw [key _ (by omega)]
  omega

set_option maxRecDepth 100000 in
set_option maxHeartbeats 1000000 in
theorem digits_any (w : World) (b g n : Nat) (l : List UInt8) (hn : n < 18446744073709551616) (hb : b ≤ g) (hl : (l ++ vint n).length ≤ 549755813888) (ha : Acc w g l) :
    Calls Try.prog 48 #[.int .u64 n, .func (.func 49) #[] #[.pointer (some ⟨g, 0, none⟩)]] w (RetAcc b g (l ++ vint n) w) := by
  have HA := Lib.hid ha
  clear ha
  go_enter Try.func48, Try.ntmps48
  go_wp2
  go_loopw [0] (fun x wr => ∃ (m : Nat) (k : List UInt8), x = .int .u64 m ∧ m < 18446744073709551616 ∧ Hid (Acc wr g k) ∧ Hid (k ++ vint m = l ++ vint n) ∧ Below b w wr) (fun x _ => (intOf x).toNat)
  case atStart => exact ⟨n, l, rfl, hn, HA, rfl, Below.refl _ _⟩
  case round =>
    obtain ⟨m, k, rfl, hm, HK, HE, hbel⟩ := hrel
    have hkl : k.length + 1 ≤ 549755813888 := by
      have e := congrArg List.length HE.out
      have := vint_pos m
      simp only [List.length_append] at e hl ⊢
      omega
    by_cases h128 : m < 128
    · go_wp2_with fail
      refine (put1_any wr b g m k (by omega) hb (by omega) HK.out).mono ?_
      rintro e w' ⟨rfl, hacc, hb2⟩
      have HC := Lib.hid hacc
      clear hacc
      go_wp2
      go_end0
      refine ⟨rfl, ?_, Below.trans hbel hb2⟩
      rw [← HE.out, vint_small m h128]
      exact HC.out
    · have hor := or128 m
      go_wp2_with fail
      refine (put1_any wr b g (m % 128 + 128) k (by omega) hb (by omega) HK.out).mono ?_
      rintro e w' ⟨rfl, hacc, hb2⟩
      have HC := Lib.hid hacc
      clear hacc
      clear hor
      go_wp2
      go_roundw
      case rel =>
        refine ⟨m / 128, _, by go_num, by omega, HC, ?_, Below.trans hbel hb2⟩
        show _ = _
        rw [← HE.out, vint_step m (by omega) (by omega), List.append_assoc]
        rfl
      case measure => simp [intOf]; omega
end Go.Proofs.Ytbcnapkbdbefhaa
namespace Go.Proofs.Ytbcnapkbdbefhaa
open Go.RowKit

theorem rd_slice {w : World} {v : Value} {l : List UInt8} (h : Rd w v l) : ∃ a c, v = .slice a l.length c := by
  obtain ⟨a, c, rfl, _⟩ := h
  exact ⟨_, _, rfl⟩
set_option maxRecDepth 100000 in
set_option maxHeartbeats 400000 in
theorem join_any (w : World) (g : Nat) (ls : List (List UInt8)) (hp : Parts w g ls) (hn : ls.length ≤ 1000) (hl : ls.flatten.length ≤ 549755813888) :
    Calls Try.prog 50 #[.slice (some ⟨g, 0, none⟩) ls.length ls.length] w (RetOwn ls.flatten w) := by
  go_enter Try.func50, Try.ntmps50
  go_wp2_with fail
  refine (concat_any w g ls hp hn hl).mono ?_
  rintro e w1 ⟨v, rfl, hown, hbel⟩
  have HO := Lib.hid hown
  clear hown
  go_wp2
  go_ret
  exact ⟨_, rfl, HO.out, hbel⟩

/-- two parts, in one new block -/
theorem join_two (w : World) (v1 v2 : Value) (l m : List UInt8) (h1 : Rd w v1 l) (h2 : Rd w v2 m) (hl : l.length + m.length ≤ 549755813888) (t : TypeId) (g : Nat) (hg : g = w.heap.size) :
    Calls Try.prog 50 #[.slice (some ⟨g, 0, none⟩) 2 2] (w.alloc (.cells #[v1, v2] t)) (RetOwn (l ++ m) w) := by
  subst hg
  have hb : Below w.heap.size w (w.alloc (.cells #[v1, v2] t)) := (Below.refl _ _).alloc (Nat.le_refl _) _
  have hj := join_any (w.alloc (.cells #[v1, v2] t)) w.heap.size [l, m] (by
    intro j h
    match j, h with
    | 0, _ => exact ⟨v1, by rw [World.cell?_alloc_at _ _ _ _ rfl]; rfl, h1.below hb⟩
    | 1, _ => exact ⟨v2, by rw [World.cell?_alloc_at _ _ _ _ rfl]; rfl, h2.below hb⟩
    | j + 2, h => exact absurd h (by simp)) (by simp) (by simpa using hl)
  refine hj.mono ?_
  rintro e w' ⟨v, rfl, hown, hbel⟩
  have e : [l, m].flatten = l ++ m := by simp
  rw [e] at hown
  exact ⟨v, rfl, own_mono hown (by simp), Below.trans hb (hbel.mono (by simp))⟩

theorem acc_new (w : World) (t : TypeId) : Acc (w.alloc (.cells #[.slice none 0 0] t)) w.heap.size [] :=
  ⟨.slice none 0 0, by rw [World.cell?_alloc_at _ _ _ _ rfl]; rfl, by simp, rfl, own_nil _ _ _ _⟩
set_option maxRecDepth 100000 in
set_option maxHeartbeats 1000000 in
theorem put_any (w : World) (v : Value) (l : List UInt8) (n : Nat) (hv : Rd w v l) (hn : n < 18446744073709551616) (hl : l.length ≤ 274877906944) :
    Calls Try.prog 20 #[v, .int .u64 n] w (RetOwn (l ++ vint n) w) := by
  obtain ⟨va, vc, rfl⟩ := rd_slice hv
  have hb0 : Below w.heap.size w (w.alloc (.cells #[.slice none 0 0] 26)) := (Below.refl _ _).alloc (Nat.le_refl _) _
  have hvl := vint_le n
  have HA := Lib.hid (acc_new w 26)
  go_enter Try.func20, Try.ntmps20
  go_wp2_with fail
  refine (digits_any _ w.heap.size w.heap.size n [] hn (Nat.le_refl _) (by simp; omega) HA.out).mono ?_
  rintro e w1 ⟨rfl, ⟨x, hc, hfr, h1, hown⟩, hb1⟩
  have hb := Below.trans hb0 hb1
  have hrd := hv.below hb
  have hrx := (rd_of_own hown).2
  rw [List.nil_append] at hrx
  have HR := Lib.hid hrd
  have HX := Lib.hid hrx
  obtain ⟨xa, xc, rfl⟩ := rd_slice hrx
  clear hown hrd hrx hv hb0 hb1 HA
  go_wp2_with fail
  refine (join_two w1 _ _ _ _ HR.out HX.out (by omega) _ _ rfl).mono ?_
  rintro e w2 ⟨y, rfl, hown, hb2⟩
  have HO := Lib.hid hown
  clear hown
  go_wp2
  go_ret
  exact ⟨_, rfl, own_mono HO.out hb.size, Below.trans hb (hb2.mono hb.size)⟩
end Go.Proofs.Ytbcnapkbdbefhaa
namespace Go.Proofs.Ytbcnapkbdbefhaa
open Go.RowKit

theorem rd_slice3 {w : World} {v : Value} {l : List UInt8} (h : Rd w v l) : ∃ a n c, v = .slice a n c := by
  obtain ⟨a, c, rfl, _⟩ := h
  exact ⟨_, _, _, rfl⟩
/-- the bytes of a literal -/
theorem rd_lit (w : World) (l : List UInt8) (cs : Array Value) (ty : TypeId) (n : Nat) (h : cs = (u8s l).toArray) (hn : n = l.length) (hl : l.length ≤ 9223372036854775807) (fr : Nat × Nat := (0, 0)) : Rd (w.alloc (.cells cs ty fr)) (.slice (some ⟨w.heap.size, 0, none⟩) n n) l := by
  subst h hn
  refine ⟨_, _, rfl, Nat.le_refl _, hl, fun j hj => ⟨_, _, rfl, ?_⟩⟩
  rw [cell_of_row _ w.heap.size _ (u8s l).toArray ty fr (heap_alloc_new w _)]
  simp [u8s, hj]

set_option maxRecDepth 100000 in
set_option maxHeartbeats 1000000 in
theorem putFour_any (w : World) (v : Value) (l : List UInt8) (n : Nat) (hv : Rd w v l) (hn : n < 4294967296) (hl : l.length ≤ 137438953472) :
    Calls Try.prog 25 #[v, .int .u32 n] w (RetOwn (l ++ four n) w) := by
  obtain ⟨va, vc, rfl⟩ := rd_slice hv
  have HV := Lib.hid hv
  clear hv
  go_enter Try.func25, Try.ntmps25
  go_wp2_with fail
  have hb0 : ∀ o, Below w.heap.size w (w.alloc o) := fun o => (Below.refl _ _).alloc (Nat.le_refl _) _
  refine (join_two _ _ _ l (four n) (HV.out.below (hb0 _)) (rd_lit w (four n) _ _ 4 (by
    simp only [four, u8s, List.map_cons, List.map_nil, UInt8.toNat_ofNat']
    refine congrArg List.toArray ?_
    congr 2 <;> (try omega)) rfl (by simp [four])) (by simp [four]; omega) _ _ (by simp)).mono ?_
  rintro e w2 ⟨y, rfl, hown, hb2⟩
  have HO := Lib.hid hown
  clear hown
  go_wp2
  go_ret
  exact ⟨_, rfl, own_mono HO.out (by simp), Below.trans (hb0 _) (hb2.mono (by simp))⟩
set_option maxRecDepth 100000 in
set_option maxHeartbeats 1000000 in
theorem putText_any (w : World) (v : Value) (l : List UInt8) (s : ByteArray) (hv : Rd w v l) (hs : s.size ≤ 137438953472) (hl : l.length ≤ 137438953472) :
    Calls Try.prog 23 #[v, .string s] w (RetOwn (l ++ (vint s.size ++ s.data.toList)) w) := by
  have HV := Lib.hid hv
  clear hv
  go_enter Try.func23, Try.ntmps23
  go_wp2_with fail
  have hvl := vint_le s.size
  refine (put_any w v l s.size HV.out (by omega) (by omega)).mono ?_
  rintro e w1 ⟨x, rfl, hx, hb1⟩
  have hrx := (rd_of_own hx).2
  obtain ⟨xa, xn, xc, rfl⟩ := rd_slice3 hrx
  have HX := Lib.hid hrx
  clear hx hrx
  go_wp2_with (with_reducible refine wp_bytes rfl _ rfl s rfl (by omega) ?_; intro y w2 hy hb2; have hry := (rd_of_own hy).2; have HY := Lib.hid hry; obtain ⟨ya, yn, yc, rfl⟩ := rd_slice3 hry; clear hy hry)
  refine (join_two w2 _ _ _ _ (HX.out.below hb2) HY.out (by
    have : s.data.toList.length = s.size := by rw [Array.length_toList]; rfl
    simp only [List.length_append]; omega) _ _ rfl).mono ?_
  rintro e w3 ⟨z, rfl, hown, hb3⟩
  rw [List.append_assoc] at hown
  have HO := Lib.hid hown
  clear hown
  go_wp2
  go_ret
  exact ⟨_, rfl, own_mono HO.out (Nat.le_trans hb1.size hb2.size), Below.trans hb1 (Below.trans (hb2.mono hb1.size) (hb3.mono (Nat.le_trans hb1.size hb2.size)))⟩
end Go.Proofs.Ytbcnapkbdbefhaa

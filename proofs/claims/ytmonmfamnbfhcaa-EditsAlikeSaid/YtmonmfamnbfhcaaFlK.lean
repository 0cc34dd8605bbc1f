/- Walks of the reader of package edits. The condition: bytes that a slice holds. -/
import Derived.Test.YtmonmfamnbfhcaaFlJ
import Derived.Test.YtmonmfamnbfhcaaInts3
namespace Go.Proofs.Ytmonmfamnbfhcaa
open Go.RowKit

theorem vget_len (l : List UInt8) : (vget l).2.1 ≤ l.length := by
  by_cases h : (vget l).2.2 = 0
  · exact (vget_got (l := l) (n := (vget l).1) (k := (vget l).2.1) (by ext <;> simp [h])).2.2.1
  · rcases vget_bad h with ⟨e, _⟩ | ⟨e, _⟩ <;> rw [e] <;> exact Nat.zero_le _
theorem vget_lt (l : List UInt8) : (vget l).1 < 18446744073709551616 := by
  by_cases h : (vget l).2.2 = 0
  · exact (vget_got (l := l) (n := (vget l).1) (k := (vget l).2.1) (by ext <;> simp [h])).1
  · rcases vget_bad h with ⟨e, _⟩ | ⟨e, _⟩ <;> rw [e] <;> decide
theorem tget_len (l : List UInt8) : (tget l).2.1 ≤ l.length := by
  by_cases h : (tget l).2.2 = 0
  · exact (tget_got (l := l) (s := (tget l).1) (k := (tget l).2.1) (by ext <;> simp [h])).2.1
  · rcases tget_err h with e | e <;> rw [e] <;> exact Nat.zero_le _

/-- a reader of package edits in block g -/
def RS (w0 w : World) (g : Nat) (bad : Bool) (l : List UInt8) : Prop :=
  ∃ a n c, Blk w g #[.slice a n c, .bool bad] 65 ∧ Rd w0 (.slice a n c) l ∧ Below w0.heap.size w0 w ∧ w0.heap.size ≤ g
theorem RS.other {w0 w w' : World} {g : Nat} {bad : Bool} {l : List UInt8} (h : RS w0 w g bad l) (hb : Below w.heap.size w w') : RS w0 w' g bad l := by
  obtain ⟨a, n, c, h1, h2, h3, h4⟩ := h
  exact ⟨a, n, c, h1.below hb, h2, h3.trans (hb.mono h3.size), h4⟩
set_option maxRecDepth 100000 in
set_option maxHeartbeats 1000000 in
theorem tookE_any (w0 w : World) (g : Nat) (bad : Bool) (l : List UInt8) (n : Nat) (ok : Bool) (h : RS w0 w g bad l) (hn : n ≤ l.length) :
    Calls Try.prog 63 #[.pointer (some ⟨g, 0, none⟩), .int .i64 n, .bool ok] w fun en w' => en = .returned (.tuple #[]) ∧ Hid (RS w0 w' g (bad || !ok) (l.drop n)) ∧ Hid (Only w w' g) := by
  obtain ⟨va, vn, vc, hB, hv, hbel, hg⟩ := h
  have HB := Lib.hid hB
  have HBE := Lib.hid hbel
  have HGG := Lib.hid hg
  obtain ⟨a, c, hcut, hrd⟩ := cut_from hv n hn
  have HRD := Lib.hid hrd
  have s1 := fun w' => hcut w' .i64
  obtain ⟨va', vn', vc', hve, hvn⟩ := rd_len hv
  obtain ⟨zn, hz⟩ : ∃ z, z = l.length - n := ⟨_, rfl⟩
  rw [← hz] at s1 HRD
  have c0 := Blk.cellv hB 0 _ rfl
  have c1 := Blk.cellv hB 1 _ rfl
  have f0 := Blk.free hB 0
  have f1 := Blk.free hB 1
  clear hcut hrd hz hv hn hvn hve hB hbel hg
  have HFIN : Hid (∀ b : Bool, RS w0 ((w.setCell ⟨g, 1, none⟩ (.bool b)).setCell ⟨g, 0, none⟩ (.slice a zn c)) g b (l.drop n) ∧ Only w ((w.setCell ⟨g, 1, none⟩ (.bool b)).setCell ⟨g, 0, none⟩ (.slice a zn c)) g) := Lib.hid fun b => by
    have h2 := Blk.set (Blk.set HB.out 1 (.bool b)) 0 (.slice a zn c)
    have hO := (Only.set w g 1 (.bool b)).trans (Only.set _ g 0 (.slice a zn c))
    exact ⟨⟨a, zn, c, h2, HRD.out, Only.below HBE.out hO HGG.out HBE.out.size, HGG.out⟩, hO⟩
  cases bad with
  | true =>
    go_enter Try.func63, Try.ntmps63
    go_wp2
    go_end0
    exact ⟨rfl, (HFIN.out true).1, (HFIN.out true).2⟩
  | false =>
    cases ok with
    | true =>
      go_enter Try.func63, Try.ntmps63
      go_wp2
      go_end0
      exact ⟨rfl, (HFIN.out false).1, (HFIN.out false).2⟩
    | false =>
      go_enter Try.func63, Try.ntmps63
      go_wp2
      go_end0
      exact ⟨rfl, (HFIN.out true).1, (HFIN.out true).2⟩

set_option maxRecDepth 100000 in
set_option maxHeartbeats 1000000 in
theorem numberE_any (w0 w : World) (g : Nat) (bad : Bool) (l : List UInt8) (most : Nat) (h : RS w0 w g bad l) (hm : most < 18446744073709551616) :
    Calls Try.prog 39 #[.pointer (some ⟨g, 0, none⟩), .int .u64 most] w fun en w' => ∃ (n : Nat) (bad' : Bool) (l' : List UInt8), en = .returned (.int .u64 n) ∧ n < 18446744073709551616 ∧ Hid (RS w0 w' g bad' l') ∧ Hid (Only w w' g) ∧ Hid (Step vint (fun n => n ≤ most) bad l n bad' l') := by
  have HR := Lib.hid h
  obtain ⟨va, vn, vc, hB, hv, hbel, hg⟩ := h
  have HG := Lib.hid (intsGet_any _ l w (hv.below hbel))
  have HST := Lib.hid (number_step l bad most hm)
  have hlt := vget_lt l
  have HK := Lib.hid (vget_len l)
  have c0 := Blk.cellv hB 0 _ rfl
  obtain ⟨N, K, E, hgt⟩ : ∃ N K E, vget l = (N, K, E) := ⟨_, _, _, rfl⟩
  have HN := Lib.hid hgt
  have HG2 : Hid (Calls Try.prog 62 #[.slice va vn vc] w fun e' w' => e' = .returned (.tuple #[.int .u64 N, .int .i64 K, .int .i64 E]) ∧ w = w') := by
    refine HG.out.mono ?_
    rintro e' w' ⟨rfl, rfl⟩
    rw [HN.out]; exact ⟨rfl, rfl⟩
  rw [hgt] at HST HK hlt
  dsimp only at hlt HST
  clear hB hv hbel hg hgt HG
  by_cases hE : E = 0
  · subst hE
    by_cases hle : N ≤ most
    · have hd : decide ((N : Int) ≤ most) = true := by simp; omega
      have HT := Lib.hid (tookE_any w0 w g bad l K true HR.out HK.out)
      have e1 : (bad || !decide ((0 : Nat) = 0 ∧ N ≤ most)) = (bad || !true) := by simp [hle]
      rw [e1] at HST
      clear e1
      go_enter Try.func39, Try.ntmps39
      go_wp2_with fail
      refine HG2.out.mono ?_
      rintro e' w' ⟨rfl, rfl⟩
      go_wp2_with fail
      refine HT.out.mono ?_
      rintro e' w' ⟨rfl, h1, h2⟩
      go_wp2
      go_ret
      exact ⟨N, _, _, rfl, hlt, h1, h2, HST⟩
    · have hd : decide ((N : Int) ≤ most) = false := by simp; omega
      have HT := Lib.hid (tookE_any w0 w g bad l K false HR.out HK.out)
      have e1 : (bad || !decide ((0 : Nat) = 0 ∧ N ≤ most)) = (bad || !false) := by simp [hle]
      rw [e1] at HST
      clear e1
      go_enter Try.func39, Try.ntmps39
      go_wp2_with fail
      refine HG2.out.mono ?_
      rintro e' w' ⟨rfl, rfl⟩
      go_wp2_with fail
      refine HT.out.mono ?_
      rintro e' w' ⟨rfl, h1, h2⟩
      go_wp2
      go_ret
      exact ⟨N, _, _, rfl, hlt, h1, h2, HST⟩
  · have hd : ((E : Int) == 0) = false := by simp; omega
    have HT := Lib.hid (tookE_any w0 w g bad l K false HR.out HK.out)
    have e1 : (bad || !decide (E = 0 ∧ N ≤ most)) = (bad || !false) := by simp [hE]
    rw [e1] at HST
    clear e1 hE
    go_enter Try.func39, Try.ntmps39
    go_wp2_with fail
    refine HG2.out.mono ?_
    rintro e' w' ⟨rfl, rfl⟩
    go_wp2_with fail
    refine HT.out.mono ?_
    rintro e' w' ⟨rfl, h1, h2⟩
    go_wp2
    go_ret
    exact ⟨N, _, _, rfl, hlt, h1, h2, HST⟩

set_option maxRecDepth 100000 in
theorem numE_any (w0 w : World) (g : Nat) (bad : Bool) (l : List UInt8) (h : RS w0 w g bad l) :
    Calls Try.prog 38 #[.pointer (some ⟨g, 0, none⟩)] w fun en w' => ∃ (n : Nat) (bad' : Bool) (l' : List UInt8), en = .returned (.int .u32 n) ∧ n < 4294967296 ∧ Hid (RS w0 w' g bad' l') ∧ Hid (Only w w' g) ∧ Hid (Step vint (fun n => n ≤ 4294967295) bad l n bad' l') := by
  have HT := Lib.hid (numberE_any w0 w g bad l 4294967295 h (by omega))
  clear h
  go_enter Try.func38, Try.ntmps38
  go_wp2_with fail
  refine HT.out.mono ?_
  rintro e' w' ⟨N, bad', l', rfl, hN, h1, h2, h3⟩
  obtain ⟨m, hm⟩ : ∃ m, m = N % 4294967296 := ⟨_, rfl⟩
  have hw1 : (N : Int) % 4294967296 = m := by omega
  go_wp2
  go_ret
  refine ⟨m, bad', l', congrArg (fun z : Int => Ending.returned (.int .u32 z)) hw1, by omega, h1, h2, ?_⟩
  refine h3.out.map m (fun hp => ?_) (fun y hy => ⟨y, hy, rfl, fun e => ?_⟩)
  · have hp' : N ≤ 4294967295 := hp
    have : m = N := by omega
    rw [this]; exact ⟨hp, rfl⟩
  · have hy' : y ≤ 4294967295 := hy
    omega

set_option maxRecDepth 100000 in
set_option maxHeartbeats 1000000 in
theorem textE_any (w0 w : World) (g : Nat) (bad : Bool) (l : List UInt8) (h : RS w0 w g bad l) :
    Calls Try.prog 61 #[.pointer (some ⟨g, 0, none⟩)] w fun en w' => ∃ (s : ByteArray) (bad' : Bool) (l' : List UInt8), en = .returned (.string s) ∧ Hid (RS w0 w' g bad' l') ∧ Hid (Only w w' g) ∧ Hid (Step tx (fun s => s.size < 18446744073709551616) bad l s bad' l') := by
  have HR := Lib.hid h
  obtain ⟨va, vn, vc, hB, hv, hbel, hg⟩ := h
  have HG := Lib.hid (intsGetText_any _ l w (hv.below hbel))
  have HST := Lib.hid (text_step l bad)
  have HK := Lib.hid (tget_len l)
  have c0 := Blk.cellv hB 0 _ rfl
  obtain ⟨N, K, E, hgt⟩ : ∃ N K E, tget l = (N, K, E) := ⟨_, _, _, rfl⟩
  have HN := Lib.hid hgt
  obtain ⟨S, hS⟩ : ∃ S, S = bs N := ⟨_, rfl⟩
  have HG2 : Hid (Calls Try.prog 69 #[.slice va vn vc] w fun e' w' => e' = .returned (.tuple #[.string S, .int .i64 K, .int .i64 E]) ∧ w = w') := by
    refine HG.out.mono ?_
    rintro e' w' ⟨h1, h2⟩
    rw [h1, HN.out, hS]; exact ⟨rfl, h2⟩
  rw [hgt] at HST HK
  dsimp only at HST
  rw [← hS] at HST
  clear hB hv hbel hg hgt HG hS
  by_cases hE : E = 0
  · subst hE
    have HT := Lib.hid (tookE_any w0 w g bad l K true HR.out HK.out)
    have e1 : (bad || !decide ((0 : Nat) = 0)) = (bad || !true) := by simp
    rw [e1] at HST
    clear e1
    go_enter Try.func61, Try.ntmps61
    go_wp2_with fail
    refine HG2.out.mono ?_
    rintro e' w' ⟨rfl, rfl⟩
    go_wp2_with fail
    refine HT.out.mono ?_
    rintro e' w' ⟨rfl, h1, h2⟩
    go_wp2
    go_ret
    exact ⟨S, _, _, rfl, h1, h2, HST⟩
  · have hd : ((E : Int) == 0) = false := by simp; omega
    have HT := Lib.hid (tookE_any w0 w g bad l K false HR.out HK.out)
    have e1 : (bad || !decide (E = 0)) = (bad || !false) := by simp [hE]
    rw [e1] at HST
    clear e1 hE
    go_enter Try.func61, Try.ntmps61
    go_wp2_with fail
    refine HG2.out.mono ?_
    rintro e' w' ⟨rfl, rfl⟩
    go_wp2_with fail
    refine HT.out.mono ?_
    rintro e' w' ⟨rfl, h1, h2⟩
    go_wp2
    go_ret
    exact ⟨S, _, _, rfl, h1, h2, HST⟩
end Go.Proofs.Ytmonmfamnbfhcaa

/- Walks of the reader of package order: took, text, byte. The condition: a reader in a block of its own, bytes of less than 2^47. -/
import Derived.Test.YtafgioidneohhaaBlk
import Derived.Test.YtafgioidneohhaaPlain2
namespace Go.Proofs.Ytafgioidneohhaa
open Go.RowKit

/-- a reader in block g: its bytes, where it is, its error -/
def Rdr (w : World) (g : Nat) (v : Value) (k e : Nat) : Prop := Blk w g #[v, .int .i64 k, .int .i64 e] 65
def RetTook (g : Nat) (v : Value) (k e : Nat) (w : World) (en : Ending) (w' : World) : Prop := en = .returned (.tuple #[]) ∧ Rdr w' g v k e ∧ Only w w' g
def RetStr (s : List UInt8) (g : Nat) (v : Value) (k e : Nat) (w : World) (en : Ending) (w' : World) : Prop := en = .returned (.string (bs s)) ∧ Rdr w' g v k e ∧ Only w w' g
def RetByte (c : Nat) (g : Nat) (v : Value) (k e : Nat) (w : World) (en : Ending) (w' : World) : Prop := en = .returned (.int .u8 c) ∧ Rdr w' g v k e ∧ Only w w' g

set_option maxRecDepth 100000 in
set_option maxHeartbeats 400000 in
theorem took_any (w : World) (g : Nat) (v : Value) (k n e : Nat) (h : Rdr w g v k 0) (hb : k + n ≤ 281474976710656) :
    Calls Try.prog 32 #[.pointer (some ⟨g, 0, none⟩), .int .i64 n, .int .i64 e] w (RetTook g v (k + n) e w) := by
  have c1 := Blk.cellv h 1 _ rfl
  have c2 := Blk.cellv h 2 _ rfl
  have f1 := Blk.free h 1
  have f2 := Blk.free h 2
  have HB := Lib.hid h
  clear h
  go_enter Try.func32, Try.ntmps32
  go_wp2
  go_end0
  refine ⟨rfl, ?_, (Only.set w g 1 _).trans (Only.set _ g 2 _)⟩
  have h2 := Blk.set (Blk.set HB.out 1 (.int .i64 ((k : Int) + (n : Int)))) 2 (.int .i64 e)
  exact h2

set_option maxRecDepth 100000 in
set_option maxHeartbeats 2000000 in
theorem text_check (w : World) (g : Nat) (v : Value) (l : List UInt8) (k : Nat) (h : Rdr w g v k 0) (hv : Rd w v l) (hk : k ≤ l.length) (hl : l.length ≤ 140737488351232) (s : List UInt8) (n e : Nat) (ht : tget (l.drop k) = (s, n, e)) :
    Calls Try.prog 30 #[.pointer (some ⟨g, 0, none⟩), .func (.func 14) #[] #[]] w (RetStr s g v (k + n) (if e = 0 then (if checkK s = true then 0 else 4) else e) w) := by
  obtain ⟨va, vn, vc, rfl, hvn⟩ := rd_len hv
  have c0 := Blk.cellv h 0 (.slice va vn vc) rfl
  have c1 := Blk.cellv h 1 (.int .i64 k) rfl
  obtain ⟨a, c, hcut, hrd⟩ := cut_from hv k hk
  have hnb : n ≤ l.length := by
    by_cases he : e = 0
    · subst he; have := (tget_got ht).2.1; simp at this; omega
    · have hx : (tget (l.drop k)).2.2 ≠ 0 := by rw [ht]; exact he
      rcases tget_err hx with h1 | h1 <;> rw [h1] at ht <;> cases ht <;> omega
  rw [← hvn] at hcut hk hrd hnb hl
  have HC := Lib.hid hvn
  have HG := Lib.hid (fun w' (hr : Rd w' (.slice a (vn - k) c) (l.drop k)) => (intsGetText_any _ (l.drop k) w' hr))
  have HT := Lib.hid ht
  have hsb : s.length ≤ 140737488351232 := by
    by_cases he : e = 0
    · subst he; have := (tget_got ht).2.2.2.1; omega
    · have hx : (tget (l.drop k)).2.2 ≠ 0 := by rw [ht]; exact he
      rcases tget_err hx with h1 | h1 <;> rw [h1] at ht <;> cases ht <;> simp
  obtain ⟨S, hS⟩ : ∃ S : ByteArray, S = bs s := ⟨_, rfl⟩
  have HS := Lib.hid hS
  have hSd : S.data.toList = s := by rw [hS]; exact bs_data s
  have HSD := Lib.hid hSd
  have hSz : S.size ≤ 140737488351232 := by rw [hS, bs_size]; exact hsb
  have HH := Lib.hid h
  have HR := Lib.hid hrd
  have HG2 : ∀ w', Rd w' (.slice a (vn - k) c) (l.drop k) → Calls Try.prog 56 #[.slice a (vn - k) c] w' fun e' w'' => e' = .returned (.tuple #[.string S, .int .i64 n, .int .i64 e]) ∧ w'' = w' := by
    intro w' hr
    refine (HG.out w' hr).mono ?_
    rintro e' w'' ⟨h1, h2⟩
    exact ⟨by rw [h1, HT.out, HS.out], h2.symm⟩
  have HG3 := Lib.hid HG2
  clear h hv hvn ht hrd hS hSd HG hsb HG2 HC HT
  by_cases he : e = 0
  · subst he
    by_cases hp : checkK s = true
    · rw [if_pos rfl, if_pos hp]
      have HP := Lib.hid hp
      clear hp
      go_enter Try.func30, Try.ntmps30
      go_wp2_with fail
      go_quiet ((go_at_call 56; exact Calls.quiet_of_same (HG3.out _ (HR.out.drewN _))))
      go_wp2_with fail
      refine (check_any S _).mono ?_
      rintro e' w' ⟨rfl, rfl⟩
      rw [HSD.out]
      first | rw [HP.out] | rw [show checkK s = false from by simpa using HP.out]
      go_wp2_with fail
      refine (took_any _ g _ k n 0 (HH.out.drewN nq) (by omega)).mono ?_
      rintro e' w' ⟨rfl, hr, ho⟩
      go_wp2
      go_ret
      exact ⟨show Ending.returned (.string S) = _ by rw [HS.out], hr, (Only.of_below (drewN_below w nq)).trans ho⟩
    · rw [if_pos rfl, if_neg hp]
      have HP := Lib.hid hp
      clear hp
      go_enter Try.func30, Try.ntmps30
      go_wp2_with fail
      go_quiet ((go_at_call 56; exact Calls.quiet_of_same (HG3.out _ (HR.out.drewN _))))
      go_wp2_with fail
      refine (check_any S _).mono ?_
      rintro e' w' ⟨rfl, rfl⟩
      rw [HSD.out]
      first | rw [HP.out] | rw [show checkK s = false from by simpa using HP.out]
      go_wp2_with fail
      refine (took_any _ g _ k n 4 (HH.out.drewN nq) (by omega)).mono ?_
      rintro e' w' ⟨rfl, hr, ho⟩
      go_wp2
      go_ret
      exact ⟨show Ending.returned (.string S) = _ by rw [HS.out], hr, (Only.of_below (drewN_below w nq)).trans ho⟩
  · rw [if_neg he]
    go_enter Try.func30, Try.ntmps30
    go_wp2_with fail
    go_quiet ((go_at_call 56; exact Calls.quiet_of_same (HG3.out _ (HR.out.drewN _))))
    go_wp2_with fail
    refine (took_any _ g _ k n e (HH.out.drewN nq) (by omega)).mono ?_
    rintro e' w' ⟨rfl, hr, ho⟩
    go_wp2
    go_ret
    exact ⟨show Ending.returned (.string S) = _ by rw [HS.out], hr, (Only.of_below (drewN_below w nq)).trans ho⟩

set_option maxRecDepth 100000 in
theorem short_any (s : ByteArray) (w : World) (hs : s.size ≤ 140737488351232) : Calls Try.prog 34 #[.string s] w fun e w' => e = .returned (.bool (decide (s.size ≤ 256))) ∧ w = w' := by
  go_enter Try.func34, Try.ntmps34
  go_wp2
  go_ret
  exact ⟨ret_bool (by simp; omega), rfl⟩

set_option maxRecDepth 100000 in
set_option maxHeartbeats 2000000 in
theorem text_short (w : World) (g : Nat) (v : Value) (l : List UInt8) (k : Nat) (h : Rdr w g v k 0) (hv : Rd w v l) (hk : k ≤ l.length) (hl : l.length ≤ 140737488351232) (s : List UInt8) (n e : Nat) (ht : tget (l.drop k) = (s, n, e)) :
    Calls Try.prog 30 #[.pointer (some ⟨g, 0, none⟩), .func (.func 34) #[] #[]] w (RetStr s g v (k + n) (if e = 0 then (if s.length ≤ 256 then 0 else 4) else e) w) := by
  obtain ⟨va, vn, vc, rfl, hvn⟩ := rd_len hv
  have c0 := Blk.cellv h 0 (.slice va vn vc) rfl
  have c1 := Blk.cellv h 1 (.int .i64 k) rfl
  obtain ⟨a, c, hcut, hrd⟩ := cut_from hv k hk
  have hnb : n ≤ l.length := by
    by_cases he : e = 0
    · subst he; have := (tget_got ht).2.1; simp at this; omega
    · have hx : (tget (l.drop k)).2.2 ≠ 0 := by rw [ht]; exact he
      rcases tget_err hx with h1 | h1 <;> rw [h1] at ht <;> cases ht <;> omega
  rw [← hvn] at hcut hk hrd hnb hl
  have HC := Lib.hid hvn
  have HG := Lib.hid (fun w' (hr : Rd w' (.slice a (vn - k) c) (l.drop k)) => (intsGetText_any _ (l.drop k) w' hr))
  have HT := Lib.hid ht
  have hsb : s.length ≤ 140737488351232 := by
    by_cases he : e = 0
    · subst he; have := (tget_got ht).2.2.2.1; omega
    · have hx : (tget (l.drop k)).2.2 ≠ 0 := by rw [ht]; exact he
      rcases tget_err hx with h1 | h1 <;> rw [h1] at ht <;> cases ht <;> simp
  obtain ⟨S, hS⟩ : ∃ S : ByteArray, S = bs s := ⟨_, rfl⟩
  have HS := Lib.hid hS
  have hSd : S.data.toList = s := by rw [hS]; exact bs_data s
  have HSD := Lib.hid hSd
  have hSz : S.size ≤ 140737488351232 := by rw [hS, bs_size]; exact hsb
  have HH := Lib.hid h
  have HR := Lib.hid hrd
  have HG2 : ∀ w', Rd w' (.slice a (vn - k) c) (l.drop k) → Calls Try.prog 56 #[.slice a (vn - k) c] w' fun e' w'' => e' = .returned (.tuple #[.string S, .int .i64 n, .int .i64 e]) ∧ w'' = w' := by
    intro w' hr
    refine (HG.out w' hr).mono ?_
    rintro e' w'' ⟨h1, h2⟩
    exact ⟨by rw [h1, HT.out, HS.out], h2.symm⟩
  have HG3 := Lib.hid HG2
  clear h hv hvn ht hrd hS hSd HG hsb HG2 HC HT
  by_cases he : e = 0
  · subst he
    by_cases hp : s.length ≤ 256
    · rw [if_pos rfl, if_pos hp]
      have HP := Lib.hid hp
      clear hp
      go_enter Try.func30, Try.ntmps30
      go_wp2_with fail
      go_quiet ((go_at_call 56; exact Calls.quiet_of_same (HG3.out _ (HR.out.drewN _))))
      go_wp2_with fail
      refine (short_any S _ hSz).mono ?_
      rintro e' w' ⟨rfl, rfl⟩
      rw [← size_data, HSD.out]
      first | rw [decide_eq_true HP.out] | rw [decide_eq_false HP.out]
      go_wp2_with fail
      refine (took_any _ g _ k n 0 (HH.out.drewN nq) (by omega)).mono ?_
      rintro e' w' ⟨rfl, hr, ho⟩
      go_wp2
      go_ret
      exact ⟨show Ending.returned (.string S) = _ by rw [HS.out], hr, (Only.of_below (drewN_below w nq)).trans ho⟩
    · rw [if_pos rfl, if_neg hp]
      have HP := Lib.hid hp
      clear hp
      go_enter Try.func30, Try.ntmps30
      go_wp2_with fail
      go_quiet ((go_at_call 56; exact Calls.quiet_of_same (HG3.out _ (HR.out.drewN _))))
      go_wp2_with fail
      refine (short_any S _ hSz).mono ?_
      rintro e' w' ⟨rfl, rfl⟩
      rw [← size_data, HSD.out]
      first | rw [decide_eq_true HP.out] | rw [decide_eq_false HP.out]
      go_wp2_with fail
      refine (took_any _ g _ k n 4 (HH.out.drewN nq) (by omega)).mono ?_
      rintro e' w' ⟨rfl, hr, ho⟩
      go_wp2
      go_ret
      exact ⟨show Ending.returned (.string S) = _ by rw [HS.out], hr, (Only.of_below (drewN_below w nq)).trans ho⟩
  · rw [if_neg he]
    go_enter Try.func30, Try.ntmps30
    go_wp2_with fail
    go_quiet ((go_at_call 56; exact Calls.quiet_of_same (HG3.out _ (HR.out.drewN _))))
    go_wp2_with fail
    refine (took_any _ g _ k n e (HH.out.drewN nq) (by omega)).mono ?_
    rintro e' w' ⟨rfl, hr, ho⟩
    go_wp2
    go_ret
    exact ⟨show Ending.returned (.string S) = _ by rw [HS.out], hr, (Only.of_below (drewN_below w nq)).trans ho⟩
end Go.Proofs.Ytafgioidneohhaa

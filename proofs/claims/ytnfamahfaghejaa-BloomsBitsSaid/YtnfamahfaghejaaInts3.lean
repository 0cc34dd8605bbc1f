/- Walks that only read: GetText and GetFour, of package ints and of its reference. The condition: a slice that reads as bytes. -/
import Derived.Test.YtnfamahfaghejaaInts2
namespace Go.Proofs.Ytnfamahfaghejaa
open Go.RowKit

set_option maxRecDepth 100000 in
set_option maxHeartbeats 1000000 in
theorem intsGetText_any (v : Value) (l : List UInt8) (w : World) (hv : Rd w v l) : Calls Try.prog 72 #[v] w (RetText l w) := by
  have hv0 := hv
  obtain ⟨a, cap, rfl, h1, h2, h3⟩ := hv
  have HG := Lib.hid (intsGet_any _ l w hv0)
  clear h3
  rcases hg : vget l with ⟨n, k, e⟩
  have H0 := Lib.hid hg
  have HG2 : Hid (Calls Try.prog 43 #[.slice a l.length cap] w fun e' w' => e' = .returned (.tuple #[.int .u64 n, .int .i64 k, .int .i64 e]) ∧ w = w') := by
    refine HG.out.mono ?_
    rintro e' w' ⟨rfl, rfl⟩
    rw [H0.out]; exact ⟨rfl, rfl⟩
  clear HG
  by_cases he : e = 0
  · subst he
    have hb := vget_got hg
    clear hg
    obtain ⟨hn, hk1, hk2, hk3, _⟩ := hb
    by_cases hs : l.length - k < n
    · have HT := Lib.hid (tget_short H0.out hs)
      go_enter Try.func72, Try.ntmps72
      go_wp2_with fail
      refine HG2.out.mono ?_
      rintro e' w' ⟨rfl, rfl⟩
      go_wp2
      go_ret3
      exact ret_text HT.out rfl rfl rfl
    · have HT := Lib.hid (tget_ok H0.out hs)
      have hkn : k + n ≤ l.length := by omega
      obtain ⟨a', cap', hcut, hrd⟩ := run_cut hv0 k (k + n) (by omega) hkn
      rw [Nat.add_sub_cancel_left] at hrd
      have hcut2 : ∀ w', (Instr.slice 25 (.slice a l.length cap) (some (.int .i64 k)) (some (.int .i64 ((k : Int) + (n : Int)))) none).run Try.prog w' = .ok (.slice a' n cap') w' := by
        intro w'
        have := hcut w' .i64 .i64
        rwa [Nat.add_sub_cancel_left, show ((k + n : Nat) : Int) = (k : Int) + (n : Int) from by omega] at this
      have hstr := run_str hrd
      clear hcut hrd hv0
      go_enter Try.func72, Try.ntmps72
      go_wp2_with fail
      refine HG2.out.mono ?_
      rintro e' w' ⟨rfl, rfl⟩
      go_wp2
      go_ret3
      exact ret_text HT.out (by rw [List.drop_take, Nat.add_sub_cancel_left]) (by omega) rfl
  · have HT := Lib.hid (tget_bad H0.out he)
    clear hg
    go_enter Try.func72, Try.ntmps72
    go_wp2_with fail
    refine HG2.out.mono ?_
    rintro e' w' ⟨rfl, rfl⟩
    go_wp2
    go_ret3
    exact ret_text HT.out rfl rfl rfl
/-- a number of four bytes, the highest first -/
def fval (l : List UInt8) : Nat := l.foldl (fun n c => n * 256 + c.toNat) 0
def fget (l : List UInt8) : Nat × Nat := if l.length < 4 then (0, 5) else (fval (l.take 4), 0)
def four (n : Nat) : List UInt8 := [UInt8.ofNat (n / 16777216), UInt8.ofNat (n / 65536), UInt8.ofNat (n / 256), UInt8.ofNat n]
def RetFour (l : List UInt8) (w : World) (e : Ending) (w' : World) : Prop :=
  e = .returned (.tuple #[.int .u32 (fget l).1, .int .i64 (fget l).2]) ∧ w = w'
theorem ret_four {l : List UInt8} {w : World} {n e : Nat} {x z : Int} (h : fget l = (n, e)) (h1 : x = n) (h3 : z = e) :
    RetFour l w (.returned (.tuple #[.int .u32 x, .int .i64 z])) w := by
  subst h1 h3
  exact ⟨by rw [h], rfl⟩
theorem fval_snoc (l : List UInt8) (c : UInt8) : fval (l ++ [c]) = fval l * 256 + c.toNat := by simp [fval]
theorem fval_lt (l : List UInt8) : fval l < 256 ^ l.length := by
  have key : ∀ (r : List UInt8), fval r.reverse < 256 ^ r.length := by
    intro r
    induction r with
    | nil => simp [fval]
    | cons c t ih =>
      have := c.toNat_lt
      rw [List.reverse_cons, fval_snoc, List.length_cons, Nat.pow_succ]; omega
  have := key l.reverse
  simpa using this
/-- 'n<<8 | uint32(c)' -/
theorem eight_more (x d : Nat) (hx : x < 16777216) (hd : d < 256) :
    bits BinOp.or IntKind.u32 ((x : Int) * 256) (d : Int) = ((x * 256 + d : Nat) : Int) := by
  rw [show ((x : Int) * 256) = ((x * 256 : Nat) : Int) from by omega]
  rw [u32_or_nat _ _ (by omega) (by omega)]
  rw [show x * 256 = x * 2 ^ 8 from rfl, or_low x d 8 (by omega)]

theorem fval_four (l : List UInt8) (h : 4 ≤ l.length) : fval (l.take 4) = 16777216 * l[0].toNat + 65536 * l[1].toNat + 256 * l[2].toNat + l[3].toNat := by
  match l, h with
  | a :: b :: c :: d :: t, _ => simp [fval]; omega

end Go.Proofs.Ytnfamahfaghejaa

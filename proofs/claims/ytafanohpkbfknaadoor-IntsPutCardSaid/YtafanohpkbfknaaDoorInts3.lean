/- Walks of package ints and of its reference that only read: Get, GetFour, GetText. The condition: a slice that reads as bytes. | Walks that only read: the reference's Get; GetFour and GetText, both. The condition: a slice that reads as bytes. | Walks that only read: GetText and GetFour, of package ints and of its reference. The condition: a slice that reads as bytes. -/
import Derived.Test.YtafanohpkbfknaaDoorBase
import Derived.Test.YtafanohpkbfknaaDoorBits
namespace Go.Proofs.YtafanohpkbfknaaDoor
open Go.RowKit

/-- what IndexFunc tells of bytes: the first one below 128 -/
def FirstEnd (l : List UInt8) (r : Int) : Prop :=
  (r = -1 ∧ ∀ j (h : j < l.length), 128 ≤ l[j].toNat) ∨ ∃ i : Nat, r = i ∧ ∃ h : i < l.length, l[i].toNat < 128 ∧ ∀ j (h : j < l.length), j < i → 128 ≤ l[j].toNat
def RetEnd (l : List UInt8) (w : World) (e : Ending) (w' : World) : Prop := ∃ r, e = .returned (.int .i64 r) ∧ FirstEnd l r ∧ w = w'

def RetGet (l : List UInt8) (w : World) (e : Ending) (w' : World) : Prop :=
  e = .returned (.tuple #[.int .u64 (vget l).1, .int .i64 (vget l).2.1, .int .i64 (vget l).2.2]) ∧ w = w'
theorem ret_get {l : List UInt8} {w : World} {n k e : Nat} {x y z : Int} (h : vget l = (n, k, e)) (h1 : x = n) (h2 : y = k) (h3 : z = e) :
    RetGet l w (.returned (.tuple #[.int .u64 x, .int .i64 y, .int .i64 z])) w := by
  subst h1 h2 h3
  exact ⟨by rw [h], rfl⟩

theorem i64_next (m : Nat) (h : 0 < m) : Value.int .i64 ((m : Int) - 1 - 1) = .int .i64 (((m - 1 : Nat) : Int) - 1) := by
  congr 1; omega

/-- the first bytes of ints.Get, as IndexFunc tells of them -/
theorem first_none {l : List UInt8} (h : ∀ j (h : j < (l.take 10).length), 128 ≤ (l.take 10)[j].toNat) : ∀ j (hj : j < l.length), j < 10 → 128 ≤ l[j].toNat := by
  intro j hj h10
  have := h j (by simp; omega)
  simpa using this

end Go.Proofs.YtafanohpkbfknaaDoor
namespace Go.Proofs.YtafanohpkbfknaaDoor
open Go.RowKit

def RetText (l : List UInt8) (w : World) (e : Ending) (w' : World) : Prop :=
  e = .returned (.tuple #[.string (bs (tget l).1), .int .i64 (tget l).2.1, .int .i64 (tget l).2.2]) ∧ w = w'
theorem ret_text {l : List UInt8} {w : World} {s : List UInt8} {k e : Nat} {t : ByteArray} {y z : Int} (h : tget l = (s, k, e)) (h1 : t = bs s) (h2 : y = k) (h3 : z = e) :
    RetText l w (.returned (.tuple #[.string t, .int .i64 y, .int .i64 z])) w := by
  subst h1 h2 h3
  exact ⟨by rw [h], rfl⟩
theorem tget_bad {l : List UInt8} {n k e : Nat} (h : vget l = (n, k, e)) (he : e ≠ 0) : tget l = ([], 0, e) := by
  unfold tget; rw [h]; simp [he]
theorem tget_short {l : List UInt8} {n k : Nat} (h : vget l = (n, k, 0)) (he : l.length - k < n) : tget l = ([], 0, 5) := by
  unfold tget; rw [h]; simp [he]
theorem tget_ok {l : List UInt8} {n k : Nat} (h : vget l = (n, k, 0)) (he : ¬ l.length - k < n) : tget l = ((l.drop k).take n, k + n, 0) := by
  unfold tget; rw [h]; simp [he]
end Go.Proofs.YtafanohpkbfknaaDoor
namespace Go.Proofs.YtafanohpkbfknaaDoor
open Go.RowKit

/-- a number of four bytes, the highest first -/
def fval (l : List UInt8) : Nat := l.foldl (fun n c => n * 256 + c.toNat) 0
def fget (l : List UInt8) : Nat × Nat := if l.length < 4 then (0, 5) else (fval (l.take 4), 0)
def four (n : Nat) : List UInt8 := [UInt8.ofNat (n / 16777216), UInt8.ofNat (n / 65536), UInt8.ofNat (n / 256), UInt8.ofNat n]
def RetFour (l : List UInt8) (w : World) (e : Ending) (w' : World) : Prop :=
  e = .returned (.tuple #[.int .u32 (fget l).1, .int .i64 (fget l).2]) ∧ w = w'
theorem ret_four {l : List UInt8} {w : World} {n e : Nat} {x z : Int} (h : fget l = (n, e)) (h1 : x = n) (h3 : z = e) :
    RetFour l w (.returned (.tuple #[.int .u32 x, .int .i64 z])) w := by
  subst h1 h3
  exact ⟨by rw [h], rfl⟩
theorem fval_snoc (l : List UInt8) (c : UInt8) : fval (l ++ [c]) = fval l * 256 + c.toNat := by simp [fval]
theorem fval_lt (l : List UInt8) : fval l < 256 ^ l.length := by
  have key : ∀ (r : List UInt8), fval r.reverse < 256 ^ r.length := by
    intro r
    induction r with
    | nil => simp [fval]
    | cons c t ih =>
      have := c.toNat_lt
      rw [List.reverse_cons, fval_snoc, List.length_cons, Nat.pow_succ]; omega
  have := key l.reverse
  simpa using this
/-- 'n<<8 | uint32(c)' -/
theorem eight_more (x d : Nat) (hx : x < 16777216) (hd : d < 256) :
    bits BinOp.or IntKind.u32 ((x : Int) * 256) (d : Int) = ((x * 256 + d : Nat) : Int) := by
  rw [show ((x : Int) * 256) = ((x * 256 : Nat) : Int) from by omega]
  rw [u32_or_nat _ _ (by omega) (by omega)]
  rw [show x * 256 = x * 2 ^ 8 from rfl, or_low x d 8 (by omega)]

theorem fval_four (l : List UInt8) (h : 4 ≤ l.length) : fval (l.take 4) = 16777216 * l[0].toNat + 65536 * l[1].toNat + 256 * l[2].toNat + l[3].toNat := by
  match l, h with
  | a :: b :: c :: d :: t, _ => simp [fval]; omega

end Go.Proofs.YtafanohpkbfknaaDoor

/- Walks that only read: the reference's Get; GetFour and GetText, both. The condition: a slice that reads as bytes. -/
import Derived.Test.YtnfamahfaghejaaInts1
namespace Go.Proofs.Ytnfamahfaghejaa
open Go.RowKit

def RetText (l : List UInt8) (w : World) (e : Ending) (w' : World) : Prop :=
  e = .returned (.tuple #[.string (bs (tget l).1), .int .i64 (tget l).2.1, .int .i64 (tget l).2.2]) ∧ w = w'
theorem ret_text {l : List UInt8} {w : World} {s : List UInt8} {k e : Nat} {t : ByteArray} {y z : Int} (h : tget l = (s, k, e)) (h1 : t = bs s) (h2 : y = k) (h3 : z = e) :
    RetText l w (.returned (.tuple #[.string t, .int .i64 y, .int .i64 z])) w := by
  subst h1 h2 h3
  exact ⟨by rw [h], rfl⟩
theorem tget_bad {l : List UInt8} {n k e : Nat} (h : vget l = (n, k, e)) (he : e ≠ 0) : tget l = ([], 0, e) := by
  unfold tget; rw [h]; simp [he]
theorem tget_short {l : List UInt8} {n k : Nat} (h : vget l = (n, k, 0)) (he : l.length - k < n) : tget l = ([], 0, 5) := by
  unfold tget; rw [h]; simp [he]
theorem tget_ok {l : List UInt8} {n k : Nat} (h : vget l = (n, k, 0)) (he : ¬ l.length - k < n) : tget l = ((l.drop k).take n, k + n, 0) := by
  unfold tget; rw [h]; simp [he]
end Go.Proofs.Ytnfamahfaghejaa

/- The walks' answers with lengths as variables: what a law's walk asks. The conditions as in the walks. -/
import Derived.Test.YtbcnapkbdbefhaaGreatDoorCut
namespace Go.Proofs.YtbcnapkbdbefhaaGreatDoor
open Go.RowKit

/-- a slice that reads as bytes -/
def RetRd (l : List UInt8) (w : World) (e : Ending) (w' : World) : Prop :=
  ∃ a n c, e = .returned (.slice a n c) ∧ Hid (n = l.length) ∧ Hid (Rd w' (.slice a n c) l) ∧ Below w.heap.size w w'
/-- .. in memory of the call's own -/
def RetMy (l : List UInt8) (w : World) (e : Ending) (w' : World) : Prop :=
  ∃ a n c, e = .returned (.slice a n c) ∧ Hid (n = l.length) ∧ Hid (Own w' w.heap.size 5 1 (.slice a n c) n (u8s l)) ∧ Below w.heap.size w w'
theorem my_of_own {l : List UInt8} {w : World} {e : Ending} {w' : World} (h : RetOwn l w e w') : RetMy l w e w' := by
  obtain ⟨v, rfl, hown, hb⟩ := h
  obtain ⟨a, n, c, rfl, hn⟩ := rd_len (rd_of_own hown).2
  subst hn
  exact ⟨a, _, c, rfl, rfl, hown, hb⟩
theorem rd_of_my {l : List UInt8} {w : World} {e : Ending} {w' : World} (h : RetMy l w e w') : RetRd l w e w' := by
  obtain ⟨a, n, c, rfl, hn, hown, hb⟩ := h
  exact ⟨a, n, c, rfl, hn, (rd_of_own hown.out).2, hb⟩

theorem put_rd (w : World) (v : Value) (l : List UInt8) (n : Nat) (hv : Rd w v l) (hn : n < 18446744073709551616) (hl : l.length ≤ 137438953472) :
    Calls Tryz.prog 78 #[v, .int .u64 n] w (RetRd (l ++ vint n) w) := (put_any w v l n hv hn (by omega)).mono fun _ _ h => rd_of_my (my_of_own h)
theorem putFour_rd (w : World) (v : Value) (l : List UInt8) (n : Nat) (hv : Rd w v l) (hn : n < 4294967296) (hl : l.length ≤ 137438953472) :
    Calls Tryz.prog 80 #[v, .int .u32 n] w (RetRd (l ++ four n) w) := (putFour_any w v l n hv hn hl).mono fun _ _ h => rd_of_my (my_of_own h)
theorem putText_rd (w : World) (v : Value) (l : List UInt8) (s : ByteArray) (hv : Rd w v l) (hs : s.size ≤ 137438953472) (hl : l.length ≤ 137438953472) :
    Calls Tryz.prog 136 #[v, .string s] w (RetRd (l ++ (vint s.size ++ s.data.toList)) w) := (putText_any w v l s hv hs hl).mono fun _ _ h => rd_of_my (my_of_own h)
theorem twin_own {w : World} {base : Nat} {v : Value} {l : List UInt8} (h : Twin w base v l) : Own w base 5 1 v l.length (u8s l) := by
  obtain ⟨g, rfl, h0, h1, h2⟩ := h
  refine .inr ⟨by rw [u8s_length]; omega, g, _, _, (0, 0), rfl, h1, h2, fun _ _ h => by omega, by omega, by unfold maxLen; omega, by simp [u8s], ?_⟩
  simp only [u8s, List.map_append, Nat.mul_one]
  rw [List.take_append_of_le_length (by simp), List.take_of_length_le (by simp)]
theorem twin_my (v : Value) (l : List UInt8) (w : World) (hv : Rd w v l) (hlen : l.length ≤ 1099511627776) :
    Calls Tryz.prog 5 #[v] w (RetMy l w) := (twinBytes_any v l w hv hlen).mono fun _ _ h => by
  obtain ⟨v, rfl, ht, hb⟩ := h
  exact my_of_own ⟨v, rfl, twin_own ht, hb⟩
/-- append of bytes onto bytes, lengths as variables -/
theorem wp_app_my {w : World} {ops : Array Oper} {rest : List Oper} {o : Oper} {a : Act} {Q : Exit → Act → World → Prop} (hgd : o.guard = none) (s x : Operand)
    (ho : o.op = .call { callee := .builtin .append, args := #[s, x], argTypes := #[22, 22] })
    (base n : Nat) (v v2 : Value) (l m : List UInt8) (hs : a.eval s = v) (hx : a.eval x = v2) (hown : Own w base 5 1 v n (u8s l)) (hrd : Rd w v2 m)
    (hlen : l.length + m.length ≤ 1099511627776) (hbase : base ≤ w.heap.size)
    (h : ∀ b k c w', Hid (k = (l ++ m).length) → Hid (Own w' base 5 1 (.slice b k c) k (u8s (l ++ m))) → Below base w w' → wpList Tryz.prog ops Q rest (a.put o.dst (.slice b k c)) w') : wpList Tryz.prog ops Q (o :: rest) a w := by
  have hn := (rd_of_own hown).1
  subst hn
  refine wp_app hgd s x ho base _ m.length v v2 l m hs hx hown hrd rfl hlen hbase ?_
  intro v' w' h1 _ h3
  rw [← List.length_append] at h1
  obtain ⟨b, k, c, rfl, hk⟩ := rd_len (rd_of_own h1).2
  subst hk
  exact h b _ c w' rfl h1 h3
/-- v[k:], its length as a variable -/
theorem cut_rest {w : World} {v : Value} {l : List UInt8} (h : Rd w v l) (k n : Nat) (hk : l.length = k + n) :
    ∃ a c, (∀ (w' : World) (kl : IntKind), (Instr.slice 22 v (some (.int kl k)) none none).run Tryz.prog w' = .ok (.slice a n c) w') ∧ Rd w (.slice a n c) (l.drop k) := by
  have e : n = l.length - k := by omega
  subst e
  exact cut_from h k (by omega)
end Go.Proofs.YtbcnapkbdbefhaaGreatDoor

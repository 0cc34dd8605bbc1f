/- Small helpers of several laws: worlds named, texts' lengths, SameBytes of the same bytes, appends of texts as steps of a region that draws. -/
import Derived.Test.YtnfamahfaghejaaTexts
import Derived.Test.YtnfamahfaghejaaSize
import Derived.Deep.RegionHeld3
namespace Go.Proofs.Ytnfamahfaghejaa
open Go.RowKit
theorem the_world {n : Nat} {w w' : World} (_ : Below n w w') : ∃ x, x = w' := ⟨_, rfl⟩
theorem textsLen_mem {l : List ByteArray} {x : ByteArray} (h : x ∈ l) : x.size ≤ textsLen l := by
  induction l with
  | nil => cases h
  | cons y l ih =>
    simp only [textsLen]
    rcases List.mem_cons.1 h with rfl | h
    · omega
    · have := ih h; omega
theorem same_bt (w : World) (v v2 : Value) (l : List UInt8) (hv : Rd w v l) (hv2 : Rd w v2 l) : Calls Try.prog 19 #[v, v2] w fun e w' => e = .returned (.bool true) ∧ Below w.heap.size w w' := by
  refine (sameBytes_any v v2 l l w hv hv2).mono ?_
  rintro e w' ⟨rfl, n, rfl⟩
  exact ⟨by simp, drewN_below _ _⟩
/-- append of texts, as a step of a region that draws -/
theorem step_app_txt {ops : Array Oper} {o : Oper} {a : Act} {w : World} {K : Act → World → Prop} {Q : Exit → Act → World → Prop} {E : Prop} (hgd : o.guard = none) (s x : Operand)
    (ho : o.op = .call { callee := .builtin .append, args := #[s, x], argTypes := #[22, 22] })
    (base n m : Nat) (v v2 : Value) (l k : List ByteArray) (hs : a.eval s = v) (hx : a.eval x = v2) (hown : Own w base 9 1 v n (txs l)) (hrd : RdT w v2 k) (hk : m = k.length)
    (r : Nat) (lk : List ByteArray) (hr : n + m = r) (hlk : l ++ k = lk) (hlen : r ≤ 1073741824) (hbase : base ≤ w.heap.size)
    (h : ∀ b c w', Hid (Own w' base 9 1 (.slice b r c) r (txs lk)) → Below base w w' → K (a.put o.dst (.slice b r c)) w') :
    if Region.wanted o (yielded ops a.tmps) = true then Oper.wp Try.prog o a w K Q else E := by
  have hw : Region.wanted o (yielded ops a.tmps) = true := by simp [Region.wanted, hgd]
  rw [if_pos hw]
  obtain ⟨i, hi, hz, hz1, hz2⟩ := info_parts info_str
  subst hk hlk hr
  obtain ⟨v', w', hr, h2, _, h4⟩ := run_app (P := Try.prog) w base 22 o.type 9 i (.string .empty) 1 16 Try.underlying22 hi hz hz1 hz2 rfl (by omega) v n (txs l) hown v2 k.length (txs k) (rdT_reads hrd) (one_txs k) (by omega) (by omega) hbase
  unfold Oper.wp execOp
  simp only [ho, resolve, invoke, builtin, Sem.run_bind, Sem.run_pure, Result.andThen_ok, List.map_toArray, List.map_cons, List.map_nil, hs, hx, hr]
  rw [← txs_app] at h2
  obtain ⟨b, c, rfl⟩ := (reads_of_own h2).slice
  exact h b c w' h2 h4
theorem wp_app_txt2 {w : World} {ops : Array Oper} {rest : List Oper} {o : Oper} {a : Act} {Q : Exit → Act → World → Prop} (hgd : Region.wanted o (yielded ops a.tmps) = true) (s x : Operand)
    (ho : o.op = .call { callee := .builtin .append, args := #[s, x], argTypes := #[22, 22] })
    (base n m : Nat) (v v2 : Value) (l k : List ByteArray) (hs : a.eval s = v) (hx : a.eval x = v2) (hown : Own w base 9 1 v n (txs l)) (hrd : RdT w v2 k) (hk : m = k.length)
    (r : Nat) (lk : List ByteArray) (hr : n + m = r) (hlk : l ++ k = lk) (hlen : r ≤ 1073741824) (hbase : base ≤ w.heap.size)
    (h : ∀ b c w', Hid (Own w' base 9 1 (.slice b r c) r (txs lk)) → Below base w w' → wpList Try.prog ops Q rest (a.put o.dst (.slice b r c)) w') : wpList Try.prog ops Q (o :: rest) a w := by
  subst hr hlk
  exact wp_app_txt hgd s x ho base n m v v2 l k hs hx hown hrd hk hlen hbase h
theorem own_none (w : World) (base : Nat) (e : TypeId) (sz : Nat) : Own w base e sz (.slice none 0 0) 0 [] := .inl ⟨rfl, rfl, none, rfl⟩
theorem rdT_own {w : World} {base : Nat} {v : Value} {n : Nat} {l : List ByteArray} (h : Own w base 9 1 v n (txs l)) : RdT w v l := (rdT_of (reads_of_own h)).2
theorem rdT_one (w : World) (s : ByteArray) (ty : TypeId) : RdT (w.alloc (.cells #[.string s] ty)) (.slice (some ⟨w.heap.size, 0, none⟩) 1 1) [s] := by
  refine ⟨_, 1, rfl, by simp, by omega, fun j hj => ⟨_, _, rfl, ?_⟩⟩
  have : j = 0 := by simp at hj; omega
  subst this
  rw [World.cell?_alloc_at _ _ _ _ rfl]
  rfl
end Go.Proofs.Ytnfamahfaghejaa

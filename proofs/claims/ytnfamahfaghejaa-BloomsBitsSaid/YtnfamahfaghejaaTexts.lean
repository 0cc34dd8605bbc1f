/- Slices of texts: what they read as, cuts, appends. The condition of append: as many bytes as the model's append bears. -/
import Derived.Test.YtnfamahfaghejaaReads
import Derived.Test.YtnfamahfaghejaaLists
namespace Go.Proofs.Ytnfamahfaghejaa
open Go.RowKit

def txs (l : List ByteArray) : List Value := l.map .string
theorem txs_length (l : List ByteArray) : (txs l).length = l.length := by simp [txs]
theorem txs_app (l m : List ByteArray) : txs (l ++ m) = txs l ++ txs m := by simp [txs]
theorem one_txs (l : List ByteArray) : ∀ u ∈ txs l, u.oneCell' = true := by
  intro u hu
  obtain ⟨c, _, rfl⟩ := List.mem_map.1 hu
  rfl
theorem rdT_of {w : World} {v : Value} {n : Nat} {l : List ByteArray} (h : Reads w 1 v n (txs l)) : n = l.length ∧ RdT w v l := by
  obtain ⟨a, cap, rfl, hl, hc, hm, hr⟩ := h
  rw [txs_length, Nat.mul_one] at hl
  subst hl
  refine ⟨rfl, a, cap, rfl, hc, hm, fun j hj => ?_⟩
  obtain ⟨b, off, e, hc⟩ := hr j (by rw [txs_length]; exact hj)
  exact ⟨b, off, e, by rw [hc]; simp [txs]⟩
theorem rdT_reads {w : World} {v : Value} {l : List ByteArray} (h : RdT w v l) : Reads w 1 v l.length (txs l) := by
  obtain ⟨a, cap, rfl, h1, h2, h3⟩ := h
  refine ⟨a, cap, rfl, by simp [txs], h1, h2, fun j hj => ?_⟩
  obtain ⟨b, off, e, hc⟩ := h3 j (by simpa [txs] using hj)
  exact ⟨b, off, e, by rw [hc]; simp [txs]⟩
set_option maxRecDepth 100000 in
theorem info_str : (Try.prog.info? 9).map (fun i => (i.zero, i.size, i.bytes)) = some (some (.string .empty), 1, 16) := by kernel_rfl
theorem wp_app_txt {w : World} {ops : Array Oper} {rest : List Oper} {o : Oper} {a : Act} {Q : Exit → Act → World → Prop} (hgd : Region.wanted o (yielded ops a.tmps) = true) (s x : Operand)
    (ho : o.op = .call { callee := .builtin .append, args := #[s, x], argTypes := #[22, 22] })
    (base n m : Nat) (v v2 : Value) (l k : List ByteArray) (hs : a.eval s = v) (hx : a.eval x = v2) (hown : Own w base 9 1 v n (txs l)) (hrd : RdT w v2 k) (hk : m = k.length)
    (hlen : n + m ≤ 1073741824) (hbase : base ≤ w.heap.size)
    (h : ∀ b c w', Hid (Own w' base 9 1 (.slice b (n + m) c) (n + m) (txs (l ++ k))) → Below base w w' → wpList Try.prog ops Q rest (a.put o.dst (.slice b (n + m) c)) w') : wpList Try.prog ops Q (o :: rest) a w := by
  obtain ⟨i, hi, hz, hz1, hz2⟩ := info_parts info_str
  subst hk
  refine wp_app_el hgd s x ho Try.underlying22 hi hz hz1 hz2 rfl (by omega) base n k.length v v2 (txs l) (txs k) hs hx hown (rdT_reads hrd) (one_txs k) (by omega) (by omega) hbase ?_
  rw [← txs_app]; exact h
theorem wp_app_txt_grow {w : World} {ops : Array Oper} {rest : List Oper} {o : Oper} {a : Act} {Q : Exit → Act → World → Prop} (hgd : Region.wanted o (yielded ops a.tmps) = true) (s x : Operand)
    (ho : o.op = .call { callee := .builtin .append, args := #[s, x], argTypes := #[22, 22] })
    (n m cap : Nat) (ad : Addr) (v v2 : Value) (l k : List ByteArray) (hv : v = .slice (some ad) n cap) (hs : a.eval s = v) (hx : a.eval x = v2) (hrd0 : RdT w v l) (hl : n = l.length) (hrd : RdT w v2 k) (hk : m = k.length)
    (hcap : cap < n + m) (hlen : n + m ≤ 1073741824)
    (h : ∀ b c w', Hid (Own w' w.heap.size 9 1 (.slice b (n + m) c) (n + m) (txs (l ++ k))) → Below w.heap.size w w' → wpList Try.prog ops Q rest (a.put o.dst (.slice b (n + m) c)) w') : wpList Try.prog ops Q (o :: rest) a w := by
  obtain ⟨i, hi, hz, hz1, hz2⟩ := info_parts info_str
  subst hk hl
  refine wp_app_el_grow hgd s x ho Try.underlying22 hi hz hz1 hz2 rfl (by omega) l.length k.length cap ad v v2 (txs l) (txs k) hv hs hx (rdT_reads hrd0) (rdT_reads hrd) hcap (by omega) (by omega) ?_
  rw [← txs_app]; exact h
theorem wpo_app_txt_grow {w : World} {o : Oper} {a : Act} {K : Act → World → Prop} {Q : Exit → Act → World → Prop} (s x : Operand)
    (ho : o.op = .call { callee := .builtin .append, args := #[s, x], argTypes := #[22, 22] })
    (n m cap : Nat) (ad : Addr) (v v2 : Value) (l k : List ByteArray) (hv : v = .slice (some ad) n cap) (hs : a.eval s = v) (hx : a.eval x = v2) (hrd0 : RdT w v l) (hl : n = l.length) (hrd : RdT w v2 k) (hk : m = k.length)
    (hcap : cap < n + m) (hlen : n + m ≤ 1073741824)
    (h : ∀ b c w', Hid (Own w' w.heap.size 9 1 (.slice b (n + m) c) (n + m) (txs (l ++ k))) → Below w.heap.size w w' → K (a.put o.dst (.slice b (n + m) c)) w') : o.wp Try.prog a w K Q := by
  obtain ⟨i, hi, hz, hz1, hz2⟩ := info_parts info_str
  subst hk hl
  refine wpo_app_el_grow s x ho Try.underlying22 hi hz hz1 hz2 rfl (by omega) l.length k.length cap ad v v2 (txs l) (txs k) hv hs hx (rdT_reads hrd0) (rdT_reads hrd) hcap (by omega) (by omega) ?_
  rw [← txs_app]; exact h
/-- v[lo:], v[:hi] -/
theorem cutT_to {w : World} {v : Value} {l : List ByteArray} (h : RdT w v l) (k : Nat) (hk : k ≤ l.length) :
    ∃ a c, (∀ (w' : World) (kh : IntKind), (Instr.slice 22 v none (some (.int kh k)) none).run Try.prog w' = .ok (.slice a k c) w') ∧ RdT w (.slice a k c) (l.take k) := by
  obtain ⟨i, hi, hz, hz1, hz2⟩ := info_parts info_str
  obtain ⟨a, c, _, h2, _, h4⟩ := reads_cut Try.underlying22 hi hz1 (by omega) (rdT_reads h) 0 k (Nat.zero_le _) hk
  refine ⟨a, c, fun w' kh => by have := h2 rfl w' kh; rwa [Nat.sub_zero] at this, ?_⟩
  simp only [Nat.sub_zero, Nat.mul_one, List.drop_zero] at h4
  have e : (txs l).take k = txs (l.take k) := by simp [txs]
  rw [e] at h4
  have := (rdT_of h4).2
  exact this
theorem cutT_rest {w : World} {v : Value} {l : List ByteArray} (h : RdT w v l) (k n : Nat) (hk : l.length = k + n) :
    ∃ a c, (∀ (w' : World) (kl : IntKind), (Instr.slice 22 v (some (.int kl k)) none none).run Try.prog w' = .ok (.slice a n c) w') ∧ RdT w (.slice a n c) (l.drop k) := by
  obtain ⟨i, hi, hz, hz1, hz2⟩ := info_parts info_str
  obtain ⟨a, c, _, _, h3, h4⟩ := reads_cut Try.underlying22 hi hz1 (by omega) (rdT_reads h) k l.length (by omega) (Nat.le_refl _)
  have en : l.length - k = n := by omega
  rw [en] at h3 h4
  refine ⟨a, c, fun w' kh => h3 rfl w' kh, ?_⟩
  rw [Nat.mul_one, Nat.mul_one, List.take_of_length_le (by rw [txs_length]; omega)] at h4
  have e : (txs l).drop k = txs (l.drop k) := by simp [txs]
  rw [e] at h4
  exact (rdT_of h4).2
end Go.Proofs.Ytnfamahfaghejaa

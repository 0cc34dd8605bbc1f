/- append onto a slice without room: a new block. The condition: as many bytes as the model's append bears. -/
import Derived.Test.YtdamfcldkaidjaaRet
namespace Go.Proofs.Ytdamfcldkaidjaa
open Go.RowKit

theorem run_app_grow (w : World) (ty : TypeId) (v v2 : Value) (l m : List UInt8) (ad : Addr) (cap : Nat) (hv : v = .slice (some ad) l.length cap) (hrd : Rd w v l) (hrd2 : Rd w v2 m) (hcap : cap < l.length + m.length) (hlen : l.length + m.length ≤ 1099511627776) :
    ∃ v' w', (Builtin.append_ #[22, 22] ty #[v, v2]).run Try.prog w = .ok v' w' ∧ Own w' w.heap.size 5 1 v' (l.length + m.length) (u8s (l ++ m)) ∧ Below w.heap.size w w' := by
  obtain ⟨i, hi, hz, hz1, hz2⟩ := info_parts info_u8
  subst hv
  have hm : 0 < m.length := by obtain ⟨_, _, e, h1, _⟩ := hrd; simp only [Value.slice.injEq] at e; omega
  have hc1 := reads_cells (rd_reads hrd)
  obtain ⟨a2, cap2, rfl, hl2, hmc, hcm⟩ := rd_reads hrd2
  have hc2 := reads_cells (rd_reads hrd2)
  cases a2 with
  | none => have := hc2.1 rfl; omega
  | some ad2 =>
    · have hr := run_append_grow (P := Try.prog) w 22 ty 5 i (.int .u8 0) Try.underlying22 hi hz ad l.length cap (u8s l) (by rw [u8s_length, hz1]; omega) (hc1.2 ad rfl) ad2 m.length cap2 (u8s m) (by rw [u8s_length, hz1]; omega) (hc2.2 ad2 rfl) (by omega) (by omega) (growslice_fits (by omega) (by rw [hz2]; omega))
      have hge := grownCap_ge w (l.length + m.length) cap 5
      have hcm' : grownCap w (l.length + m.length) cap 5 ≤ maxLen := grownCap_le_maxLen w (l.length + m.length) cap 5 (by unfold maxLen; omega)
      refine ⟨_, _, hr, .inr ⟨by simp [u8s], w.heap.size, _, _, (0, 0), rfl, Nat.le_refl _, heap_alloc_new w.drew _, fun _ _ h => by omega, hge, hcm', ?_, ?_⟩, (Below.refl _ _).drew.alloc (Nat.le_refl _) _⟩
      · simp only [Array.size_append, List.size_toArray, size_zeroCells, u8s_length]
        show _ ≤ l.length + m.length + (grownCap w (l.length + m.length) cap 5 - (l.length + m.length)) * 1
        omega
      · simp only [Array.toList_append, List.append_assoc]
        rw [← List.append_assoc, ← u8s_append]
        exact List.take_left' (by simp [u8s])
/-- .. as a step of the walk -/
theorem wp_app_grow {w : World} {ops : Array Oper} {rest : List Oper} {o : Oper} {a : Act} {Q : Exit → Act → World → Prop} (hgd : o.guard = none) (s x : Operand)
    (ho : o.op = .call { callee := .builtin .append, args := #[s, x], argTypes := #[22, 22] })
    (v v2 : Value) (l m : List UInt8) (ad : Addr) (cap : Nat) (hv : v = .slice (some ad) l.length cap) (hs : a.eval s = v) (hx : a.eval x = v2) (hrd : Rd w v l) (hrd2 : Rd w v2 m) (hcap : cap < l.length + m.length)
    (hlen : l.length + m.length ≤ 1099511627776)
    (h : ∀ b k c w', Hid (k = (l ++ m).length) → Hid (Own w' w.heap.size 5 1 (.slice b k c) k (u8s (l ++ m))) → Below w.heap.size w w' → wpList Try.prog ops Q rest (a.put o.dst (.slice b k c)) w') : wpList Try.prog ops Q (o :: rest) a w := by
  refine wpList_plain hgd fun K hK => ?_
  obtain ⟨v', w', hr, h2, h3⟩ := run_app_grow w o.type v v2 l m ad cap hv hrd hrd2 hcap hlen
  unfold Oper.wp execOp
  simp only [ho, resolve, invoke, builtin, Sem.run_bind, Sem.run_pure, Result.andThen_ok, List.map_toArray, List.map_cons, List.map_nil, hs, hx, hr]
  rw [← List.length_append] at h2
  obtain ⟨b, k, c, rfl, hk⟩ := rd_len (rd_of_own h2).2
  subst hk
  exact hK _ _ (h b _ c w' rfl h2 h3)
end Go.Proofs.Ytdamfcldkaidjaa

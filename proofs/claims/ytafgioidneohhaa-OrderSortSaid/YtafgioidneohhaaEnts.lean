/- Slices of entries; law01.EntriesSize. The condition: keys and values of at most 2^47 bytes. -/
import Derived.Test.YtafgioidneohhaaMore
namespace Go.Proofs.Ytafgioidneohhaa
open Go.RowKit

/-- an entry of the program -/
structure PE where
  k : ByteArray
  s : Nat
  g : Bool
  u : ByteArray
def PE.ok (x : PE) : Prop := x.k.size ≤ 140737488351232 ∧ x.s < 18446744073709551616 ∧ x.u.size ≤ 140737488351232
def PE.ent (x : PE) : Ent := entOf x.k x.s x.g x.u
/-- a slice that reads as entries -/
def RdE (w : World) (v : Value) (l : List PE) : Prop :=
  ∃ a cap, v = .slice a l.length cap ∧ l.length ≤ cap ∧ cap ≤ 9223372036854775807 ∧
    ∀ j, (h : j < l.length) → ∃ b off, a = some ⟨b, off, none⟩ ∧ w.cell? ⟨b, off + j * 4, none⟩ = some (.string l[j].k) ∧ w.cell? ⟨b, off + j * 4 + 1, none⟩ = some (.int .u64 l[j].s) ∧
      w.cell? ⟨b, off + j * 4 + 2, none⟩ = some (.bool l[j].g) ∧ w.cell? ⟨b, off + j * 4 + 3, none⟩ = some (.string l[j].u)
theorem RdE.below {w w' : World} {v : Value} {l : List PE} (h : RdE w v l) (hb : Below w.heap.size w w') : RdE w' v l := by
  obtain ⟨a, cap, h1, h2, h3, h4⟩ := h
  refine ⟨a, cap, h1, h2, h3, fun j hj => ?_⟩
  obtain ⟨b, off, e, c0, c1, c2, c3⟩ := h4 j hj
  exact ⟨b, off, e, Below.keeps hb _ _ _ c0, Below.keeps hb _ _ _ c1, Below.keeps hb _ _ _ c2, Below.keeps hb _ _ _ c3⟩
def entsLen : List PE → Nat
  | [] => 0
  | x :: l => x.k.size + x.u.size + entsLen l
theorem entsLen_app (l m : List PE) : entsLen (l ++ m) = entsLen l + entsLen m := by
  induction l with
  | nil => simp [entsLen]
  | cons x l ih => simp only [List.cons_append, entsLen, ih]; omega
theorem entsLen_take (l : List PE) (k : Nat) (h : k < l.length) : entsLen (l.take (k + 1)) = entsLen (l.take k) + (l[k].k.size + l[k].u.size) := by
  rw [List.take_succ_eq_append_getElem h, entsLen_app]
  simp [entsLen]
theorem entsLen_le (l : List PE) (k : Nat) : entsLen (l.take k) ≤ entsLen l := by
  have := entsLen_app (l.take k) (l.drop k)
  rw [List.take_append_drop] at this
  omega
theorem entsLen_mem {l : List PE} {x : PE} (h : x ∈ l) : x.k.size + x.u.size ≤ entsLen l := by
  induction l with
  | nil => cases h
  | cons y l ih =>
    simp only [entsLen]
    rcases List.mem_cons.1 h with rfl | h
    · omega
    · have := ih h; omega
set_option maxRecDepth 100000 in
set_option maxHeartbeats 1000000 in
theorem entriesSize_any (w : World) (v : Value) (l : List PE) (hv : RdE w v l) (hn : l.length ≤ 140737488351232) (hk : ∀ x ∈ l, x.ok) :
    Calls Try.prog 21 #[v] w fun e w' => ∃ n : Nat, e = .returned (.int .i64 n) ∧ (n ≤ 1048576 → n = l.length + entsLen l) ∧ Below w.heap.size w w' := by
  have HV := Lib.hid hv
  obtain ⟨a, cap, rfl, h1, h2, h3⟩ := hv
  have HK := Lib.hid hk
  clear h3 hk
  obtain ⟨n, hnn⟩ : ∃ n, n = l.length := ⟨_, rfl⟩
  have HN := Lib.hid hnn
  rw [← hnn] at h1 hn HV ⊢
  clear hnn
  go_enter Try.func21, Try.ntmps21
  go_wp2
  go_loopw [3, 4] (fun t i wr => ∃ k : Nat, k ≤ n ∧ i = .int .i64 k ∧ t = .int .i64 ((n + entsLen (l.take k) : Nat) : Int) ∧ (entsLen (l.take k) ≤ 4 * 140737488351232) ∧ Below w.heap.size w wr) (fun _ i _ => n - (intOf i).toNat)
  case atStart => exact ⟨0, Nat.zero_le _, rfl, by simp [entsLen], by simp [entsLen], Below.refl _ _⟩
  case round =>
    obtain ⟨k, hk, rfl, rfl, hb, bel⟩ := hrel
    by_cases hlt : k < n
    · have hkl : k < l.length := by rw [← HN.out]; exact hlt
      by_cases hbig : n + entsLen (l.take k) ≤ 1048576
      · obtain ⟨a', c', hve, _, _, hcell⟩ := HV.out.below bel
        obtain ⟨b, off, hae, c0, c1, c2, c3⟩ := hcell k hkl
        cases hve
        subst hae
        have HT := Lib.hid (entsLen_take l k hkl)
        have hsz := HK.out _ (List.getElem_mem (l := l) (n := k) hkl)
        generalize entsLen (l.take k) = S at hb hbig HT ⊢
        obtain ⟨x, hx⟩ : ∃ x, x = l[k] := ⟨_, rfl⟩
        rw [← hx] at c0 c1 c2 c3 hsz HT
        clear hx hcell
        obtain ⟨s1, s2, s3⟩ := hsz
        obtain ⟨xk, xs, xg, xu⟩ := x
        simp only at c0 c1 c2 c3 s1 s2 s3 HT
        clear c1 c2
        go_wp2
        go_quiet (fail)
        go_wp2
        go_round
        case rel => exact ⟨k + 1, by omega, by go_num, by rw [HT.out]; go_num, by rw [HT.out]; omega, Below.trans bel ((drewN_below _ _).mono bel.size)⟩
        case measure => simp [intOf]; omega
      · generalize entsLen (l.take k) = S at hb hbig ⊢
        go_wp2
        go_ret
        exact ⟨n + S, by first | rfl | go_num, fun h => absurd h hbig, bel⟩
    · have hkn : k = n := by omega
      subst hkn
      have e : l.take k = l := List.take_of_length_le (by rw [← HN.out]; exact Nat.le_refl _)
      rw [e] at hb ⊢
      go_wp2
      go_ret
      exact ⟨_, rfl, fun _ => rfl, bel⟩
end Go.Proofs.Ytafgioidneohhaa

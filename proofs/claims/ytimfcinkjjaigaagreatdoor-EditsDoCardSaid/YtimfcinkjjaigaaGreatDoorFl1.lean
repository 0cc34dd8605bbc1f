/- Walks of law01.FilesSize, SameFiles, SameIds, SameEdit and law11.in. The condition: slices that read as files, as numbers. -/
import Derived.Test.YtimfcinkjjaigaaGreatDoorFl0
import Derived.Test.YtimfcinkjjaigaaGreatDoorHeld
namespace Go.Proofs.YtimfcinkjjaigaaGreatDoor
open Go.RowKit

def filesLen : List PF → Nat
  | [] => 0
  | x :: l => x.a.size + x.b.size + filesLen l
theorem filesLen_app (l m : List PF) : filesLen (l ++ m) = filesLen l + filesLen m := by
  induction l with
  | nil => simp [filesLen]
  | cons x l ih => simp only [List.cons_append, filesLen, ih]; omega
theorem filesLen_take (l : List PF) (k : Nat) (h : k < l.length) : filesLen (l.take (k + 1)) = filesLen (l.take k) + (l[k].a.size + l[k].b.size) := by
  rw [List.take_succ_eq_append_getElem h, filesLen_app]
  simp [filesLen]
theorem filesLen_le (l : List PF) (k : Nat) : filesLen (l.take k) ≤ filesLen l := by
  have := filesLen_app (l.take k) (l.drop k)
  rw [List.take_append_drop] at this
  omega
theorem filesLen_mem {l : List PF} {x : PF} (h : x ∈ l) : x.a.size + x.b.size ≤ filesLen l := by
  induction l with
  | nil => cases h
  | cons y l ih =>
    simp only [filesLen]
    rcases List.mem_cons.1 h with rfl | h
    · omega
    · have := ih h; omega
set_option maxRecDepth 100000 in
set_option maxHeartbeats 1000000 in
theorem filesSize_any (w : World) (v : Value) (l : List PF) (hv : RdF w v l) (hn : l.length ≤ 140737488351232) (hk : ∀ x ∈ l, x.ok) :
    Calls Tryz.prog 45 #[v] w fun e w' => ∃ n : Nat, e = .returned (.int .i64 n) ∧ (n ≤ 1048576 → n = l.length + filesLen l) ∧ n ≤ 1125899906842624 ∧ Below w.heap.size w w' := by
  have HV := Lib.hid hv
  obtain ⟨a, cap, rfl, h1, h2, h3⟩ := hv
  have HK := Lib.hid hk
  clear h3 hk
  obtain ⟨n, hnn⟩ : ∃ n, n = l.length := ⟨_, rfl⟩
  have HN := Lib.hid hnn
  rw [← hnn] at h1 hn HV ⊢
  clear hnn
  go_enter Tryz.func45, Tryz.ntmps45
  go_wp2
  go_loopw [3, 4] (fun t i wr => ∃ k : Nat, k ≤ n ∧ i = .int .i64 k ∧ t = .int .i64 ((n + filesLen (l.take k) : Nat) : Int) ∧ (filesLen (l.take k) ≤ 4 * 140737488351232) ∧ Below w.heap.size w wr) (fun _ i _ => n - (intOf i).toNat)
  case atStart => exact ⟨0, Nat.zero_le _, rfl, by simp [filesLen], by simp [filesLen], Below.refl _ _⟩
  case round =>
    obtain ⟨k, hk, rfl, rfl, hb, bel⟩ := hrel
    by_cases hlt : k < n
    · have hkl : k < l.length := by rw [← HN.out]; exact hlt
      by_cases hbig : n + filesLen (l.take k) ≤ 1048576
      · obtain ⟨a', c', hve, _, _, hcell⟩ := HV.out.below bel
        obtain ⟨b, off, hae, c0, c1, c2, c3⟩ := hcell k hkl
        cases hve
        subst hae
        have HT := Lib.hid (filesLen_take l k hkl)
        have hsz := HK.out _ (List.getElem_mem (l := l) (n := k) hkl)
        generalize filesLen (l.take k) = S at hb hbig HT ⊢
        obtain ⟨x, hx⟩ : ∃ x, x = l[k] := ⟨_, rfl⟩
        rw [← hx] at c0 c1 c2 c3 hsz HT
        clear hx hcell
        obtain ⟨_, _, s1, s3⟩ := hsz
        obtain ⟨xs, xg, xk, xu⟩ := x
        simp only at c0 c1 c2 c3 s1 s3 HT
        clear c0 c1
        go_wp2
        go_quiet (fail)
        go_wp2
        go_round
        case rel => exact ⟨k + 1, by omega, by go_num, by rw [HT.out]; go_num, by rw [HT.out]; omega, Below.trans bel ((drewN_below _ _).mono bel.size)⟩
        case measure => simp [intOf]; omega
      · generalize filesLen (l.take k) = S at hb hbig ⊢
        go_wp2
        go_ret
        exact ⟨n + S, by first | rfl | go_num, fun h => absurd h hbig, by omega, bel⟩
    · have hkn : k = n := by omega
      subst hkn
      have e : l.take k = l := List.take_of_length_le (by rw [← HN.out]; exact Nat.le_refl _)
      rw [e] at hb ⊢
      go_wp2
      go_ret
      exact ⟨_, rfl, fun _ => rfl, by omega, bel⟩
set_option maxRecDepth 100000 in
set_option maxHeartbeats 2000000 in
theorem sameF_any (w : World) (v v2 : Value) (l : List PF) (hv : RdF w v l) (hv2 : RdF w v2 l) :
    Calls Tryz.prog 13 #[v, v2] w fun e w' => e = .returned (.bool true) ∧ Below w.heap.size w w' := by
  obtain ⟨a, cap, rfl, h1, h2, h3⟩ := hv
  obtain ⟨a2, cap2, rfl, g1, g2, g3⟩ := hv2
  have HC := Lib.hid h3
  have HG := Lib.hid g3
  clear h3 g3
  obtain ⟨n, hn⟩ : ∃ n, n = l.length := ⟨_, rfl⟩
  have HN := Lib.hid hn
  rw [← hn] at h1 g1 ⊢
  clear hn
  have hb : ((n : Int) != (n : Int)) = false := by simp
  go_enter Tryz.func13, Tryz.ntmps13
  go_wp2
  go_loopw [5] (fun i wr => ∃ k : Nat, k ≤ n ∧ i = .int .i64 k ∧ ∃ q, wr = w.drewN q) (fun i _ => n - (intOf i).toNat)
  case atStart => exact ⟨0, Nat.zero_le _, rfl, 0, rfl⟩
  case round =>
    obtain ⟨k, hk, rfl, q, rfl⟩ := hrel
    by_cases hlt : k < n
    · obtain ⟨b, off, rfl, c0, c1, c2, c3⟩ := HC.out k (by rw [← HN.out]; exact hlt)
      obtain ⟨b2, off2, rfl, d0, d1, d2, d3⟩ := HG.out k (by rw [← HN.out]; exact hlt)
      obtain ⟨x, hx⟩ : ∃ x, x = l[k]'(by rw [← HN.out]; exact hlt) := ⟨_, rfl⟩
      rw [← hx] at c0 c1 c2 c3 d0 d1 d2 d3
      clear hx
      obtain ⟨xk, xs, xg, xu⟩ := x
      simp only at c0 c1 c2 c3 d0 d1 d2 d3
      go_wp2
      go_quiet (fail)
      go_wp2
      go_roundw
      case rel => exact ⟨k + 1, by omega, by go_num, _, rfl⟩
      case measure => simp [intOf]; omega
    · go_wp2
      go_ret
      exact ⟨rfl, drewN_below _ _⟩
set_option maxRecDepth 100000 in
set_option maxHeartbeats 2000000 in
theorem sameU_any (w : World) (v v2 : Value) (l : List Nat) (hv : RdU w v l) (hv2 : RdU w v2 l) :
    Calls Tryz.prog 138 #[v, v2] w fun e w' => e = .returned (.bool true) ∧ Below w.heap.size w w' := by
  obtain ⟨a, cap, rfl, h1, h2, h3⟩ := hv
  obtain ⟨a2, cap2, rfl, g1, g2, g3⟩ := hv2
  have HC := Lib.hid h3
  have HG := Lib.hid g3
  clear h3 g3
  obtain ⟨n, hn⟩ : ∃ n, n = l.length := ⟨_, rfl⟩
  have HN := Lib.hid hn
  rw [← hn] at h1 g1 ⊢
  clear hn
  have hb : ((n : Int) != (n : Int)) = false := by simp
  go_enter Tryz.func138, Tryz.ntmps138
  go_wp2
  go_loopw [5] (fun i wr => ∃ k : Nat, k ≤ n ∧ i = .int .i64 k ∧ ∃ q, wr = w.drewN q) (fun i _ => n - (intOf i).toNat)
  case atStart => exact ⟨0, Nat.zero_le _, rfl, 0, rfl⟩
  case round =>
    obtain ⟨k, hk, rfl, q, rfl⟩ := hrel
    by_cases hlt : k < n
    · obtain ⟨b, off, rfl, c0⟩ := HC.out k (by rw [← HN.out]; exact hlt)
      obtain ⟨b2, off2, rfl, d0⟩ := HG.out k (by rw [← HN.out]; exact hlt)
      obtain ⟨x, hx⟩ : ∃ x, x = l[k]'(by rw [← HN.out]; exact hlt) := ⟨_, rfl⟩
      rw [← hx] at c0 d0
      clear hx
      go_wp2
      go_quiet (fail)
      go_wp2
      go_roundw
      case rel => exact ⟨k + 1, by omega, by go_num, _, rfl⟩
      case measure => simp [intOf]; omega
    · go_wp2
      go_ret
      exact ⟨rfl, drewN_below _ _⟩
end Go.Proofs.YtimfcinkjjaigaaGreatDoor

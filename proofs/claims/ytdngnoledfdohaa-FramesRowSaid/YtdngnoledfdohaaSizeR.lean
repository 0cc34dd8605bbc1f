/- law01.RecordsSize: how many bytes records have, if these are not too many. The condition: records of at most 2^47 bytes. -/
import Derived.Test.YtdngnoledfdohaaRecs
import Derived.Test.YtdngnoledfdohaaHelp1
namespace Go.Proofs.Ytdngnoledfdohaa
open Go.RowKit

def recsLen : List (List UInt8) → Nat
  | [] => 0
  | x :: l => x.length + recsLen l
theorem recsLen_app (l m : List (List UInt8)) : recsLen (l ++ m) = recsLen l + recsLen m := by
  induction l with
  | nil => simp [recsLen]
  | cons x l ih => simp only [List.cons_append, recsLen, ih]; omega
theorem recsLen_take (l : List (List UInt8)) (k : Nat) (h : k < l.length) : recsLen (l.take (k + 1)) = recsLen (l.take k) + l[k].length := by
  rw [List.take_succ_eq_append_getElem h, recsLen_app]
  simp [recsLen]
theorem recsLen_le (l : List (List UInt8)) (k : Nat) : recsLen (l.take k) ≤ recsLen l := by
  have := recsLen_app (l.take k) (l.drop k)
  rw [List.take_append_drop] at this
  omega
set_option maxRecDepth 100000 in
set_option maxHeartbeats 1000000 in
theorem bytesSize_any (w : World) (v : Value) (l : List UInt8) (hv : Rd w v l) : Calls Try.prog 47 #[v] w fun e w' => e = .returned (.int .i64 (l.length : Nat)) ∧ w = w' := by
  obtain ⟨a, cap, rfl, h1, h2, h3⟩ := hv
  clear h3
  go_enter Try.func47, Try.ntmps47
  go_wp2
  go_ret
  exact ⟨rfl, rfl⟩
set_option maxRecDepth 100000 in
set_option maxHeartbeats 1000000 in
theorem recordsSize_any (w : World) (v : Value) (l : List (List UInt8)) (hv : RdR w v l) (hn : l.length ≤ 1000) (hk : ∀ x ∈ l, x.length ≤ 140737488351232) :
    Calls Try.prog 24 #[v] w fun e w' => ∃ n : Nat, e = .returned (.int .i64 n) ∧ (n ≤ 1048576 → n = l.length + recsLen l) ∧ w = w' := by
  obtain ⟨a, cap, rfl, h1, h2, h3⟩ := hv
  have HC := Lib.hid h3
  have HK := Lib.hid hk
  clear h3 hk
  obtain ⟨n, hnn⟩ : ∃ n, n = l.length := ⟨_, rfl⟩
  have HN := Lib.hid hnn
  rw [← hnn] at h1 hn ⊢
  clear hnn
  go_enter Try.func24, Try.ntmps24
  go_wp2
  go_loop [3, 4] (fun t i => ∃ k : Nat, k ≤ n ∧ i = .int .i64 k ∧ t = .int .i64 ((n + recsLen (l.take k) : Nat) : Int) ∧ recsLen (l.take k) ≤ 140737488351232 + 1048576) (fun _ i => n - (intOf i).toNat)
  case atStart => exact ⟨0, Nat.zero_le _, rfl, by simp [recsLen], by simp [recsLen]⟩
  case round =>
    obtain ⟨k, hk, rfl, rfl, hb⟩ := hrel
    by_cases hlt : k < n
    · have hkl : k < l.length := by rw [← HN.out]; exact hlt
      by_cases hbig : n + recsLen (l.take k) ≤ 1048576
      · obtain ⟨b, off, x, rfl, c0, c1⟩ := HC.out k hkl
        have HT := Lib.hid (recsLen_take l k hkl)
        have hsz := HK.out _ (List.getElem_mem (l := l) (n := k) hkl)
        generalize recsLen (l.take k) = S at hb hbig HT ⊢
        obtain ⟨K, hK⟩ : ∃ K, K = l[k] := ⟨_, rfl⟩
        rw [← hK] at c1 hsz HT
        clear hK
        have HB := Lib.hid (bytesSize_any w x K c1)
        clear c1
        obtain ⟨z, hzz⟩ : ∃ z, z = K.length := ⟨_, rfl⟩
        rw [← hzz] at HB hsz HT
        clear hzz
        go_wp2_with fail
        refine HB.out.mono ?_
        rintro e w' ⟨rfl, rfl⟩
        go_wp2
        go_round
        case rel => exact ⟨k + 1, by omega, by go_num, by rw [HT.out]; go_num, by rw [HT.out]; omega⟩
        case measure => simp [intOf]; omega
      · generalize recsLen (l.take k) = S at hb hbig ⊢
        go_wp2
        go_ret
        exact ⟨n + S, by first | rfl | go_num, fun h => absurd h hbig, rfl⟩
    · have hkn : k = n := by omega
      subst hkn
      have e : l.take k = l := List.take_of_length_le (by rw [← HN.out]; exact Nat.le_refl _)
      rw [e] at hb ⊢
      go_wp2
      go_ret
      exact ⟨_, rfl, fun _ => rfl, rfl⟩
end Go.Proofs.Ytdngnoledfdohaa

/- law01.TextsSize: how many bytes texts have, if these are not too many. The condition: texts of at most 2^47 bytes. -/
import Derived.Test.YtimfcinkjjaigaaGreatDoorListsA
import Derived.Test.YtimfcinkjjaigaaGreatDoorHelp1
namespace Go.Proofs.YtimfcinkjjaigaaGreatDoor
open Go.RowKit

def textsLen : List ByteArray → Nat
  | [] => 0
  | x :: l => x.size + textsLen l
theorem textsLen_app (l m : List ByteArray) : textsLen (l ++ m) = textsLen l + textsLen m := by
  induction l with
  | nil => simp [textsLen]
  | cons x l ih => simp only [List.cons_append, textsLen, ih]; omega
theorem textsLen_take (l : List ByteArray) (k : Nat) (h : k < l.length) : textsLen (l.take (k + 1)) = textsLen (l.take k) + l[k].size := by
  rw [List.take_succ_eq_append_getElem h, textsLen_app]
  simp [textsLen]
theorem textsLen_le (l : List ByteArray) (k : Nat) : textsLen (l.take k) ≤ textsLen l := by
  have := textsLen_app (l.take k) (l.drop k)
  rw [List.take_append_drop] at this
  omega
set_option maxRecDepth 100000 in
set_option maxHeartbeats 1000000 in
theorem textsSize_any (w : World) (v : Value) (l : List ByteArray) (hv : RdT w v l) (hn : l.length ≤ 1000) (hk : ∀ x ∈ l, x.size ≤ 140737488351232) :
    Calls Tryz.prog 19 #[v] w fun e w' => ∃ n : Nat, e = .returned (.int .i64 n) ∧ (n ≤ 1048576 → n = l.length + textsLen l) ∧ w = w' := by
  obtain ⟨a, cap, rfl, h1, h2, h3⟩ := hv
  have HC := Lib.hid h3
  have HK := Lib.hid hk
  clear h3 hk
  obtain ⟨n, hnn⟩ : ∃ n, n = l.length := ⟨_, rfl⟩
  have HN := Lib.hid hnn
  rw [← hnn] at h1 hn ⊢
  clear hnn
  go_enter Tryz.func19, Tryz.ntmps19
  go_wp2
  go_loop [3, 4] (fun t i => ∃ k : Nat, k ≤ n ∧ i = .int .i64 k ∧ t = .int .i64 ((n + textsLen (l.take k) : Nat) : Int) ∧ textsLen (l.take k) ≤ 140737488351232 + 1048576) (fun _ i => n - (intOf i).toNat)
  case atStart => exact ⟨0, Nat.zero_le _, rfl, by simp [textsLen], by simp [textsLen]⟩
  case round =>
    obtain ⟨k, hk, rfl, rfl, hb⟩ := hrel
    by_cases hlt : k < n
    · have hkl : k < l.length := by rw [← HN.out]; exact hlt
      by_cases hbig : n + textsLen (l.take k) ≤ 1048576
      · obtain ⟨b, off, rfl, c0⟩ := HC.out k hkl
        have HT := Lib.hid (textsLen_take l k hkl)
        have hsz := HK.out _ (List.getElem_mem (l := l) (n := k) hkl)
        generalize textsLen (l.take k) = S at hb hbig HT ⊢
        obtain ⟨K, hK⟩ : ∃ K, K = l[k] := ⟨_, rfl⟩
        rw [← hK] at c0 hsz HT
        clear hK
        go_wp2
        go_round
        case rel => exact ⟨k + 1, by omega, by go_num, by rw [HT.out]; go_num, by rw [HT.out]; omega⟩
        case measure => simp [intOf]; omega
      · generalize textsLen (l.take k) = S at hb hbig ⊢
        go_wp2
        go_ret
        exact ⟨n + S, by first | rfl | go_num, fun h => absurd h hbig, rfl⟩
    · have hkn : k = n := by omega
      subst hkn
      have e : l.take k = l := List.take_of_length_le (by rw [← HN.out]; exact Nat.le_refl _)
      rw [e] at hb ⊢
      go_wp2
      go_ret
      exact ⟨_, rfl, fun _ => rfl, rfl⟩
end Go.Proofs.YtimfcinkjjaigaaGreatDoor

/- Walk of slices.Grow of a nil slice of bytes. The condition: at most 2^47 bytes. | Walk of slices.Concat of slices of bytes, and of ints.join. The condition: parts that read as bytes, at most 2^39 bytes in all. -/
import Derived.Test.YtbcnapkbdbefhaaMem
import Derived.Lib.AppendZeros
namespace Go.Proofs.Ytbcnapkbdbefhaa
open Go.RowKit

def RetOwn (l : List UInt8) (w : World) (e : Ending) (w' : World) : Prop := ∃ v, e = .returned v ∧ Own w' w.heap.size 5 1 v l.length (u8s l) ∧ Below w.heap.size w w'
theorem under_i64 : Try.prog.underlying 3 = some (.int .i64) := by kernel_rfl

set_option maxRecDepth 100000 in
set_option maxHeartbeats 1000000 in
theorem grow_any (w : World) (n : Nat) (hn : n ≤ 140737488355328) :
    Calls Try.prog 81 #[.slice none 0 0, .int .i64 n] w (RetOwn [] w) := by
  by_cases h0 : n = 0
  · subst h0
    go_enter Try.func81, Try.ntmps81
    go_wp2
    go_ret
    exact ⟨_, rfl, own_nil _ _ _ _, Below.refl _ _⟩
  · obtain ⟨i, hi, hz, hz1, hz2⟩ := info_parts info_u8
    have hr := Lib.run_append_nil_zeros (P := Try.prog) w 26 3 26 5 i (.int .u8 0) .i64 .i64 Try.underlying26 under_i64 hi hz n (by omega) (by omega) (by omega) (by rw [hz2]; omega)
    have hge := grownCap_ge w n 0 5
    have hcm := grownCap_le_maxLen w n 0 5 (by unfold maxLen; omega)
    generalize grownCap w n 0 5 = cap at *
    have HR := Lib.hid hr
    clear hr hi hz hz1 hz2
    have hcm2 : cap ≤ 9223372036854775807 := by unfold maxLen at hcm; omega
    go_enter Try.func81, Try.ntmps81
    go_wp2_with (at_builtin; go_loud (refine Lib.wpList_append_run _ rfl _ _ 26 3 rfl _ _ rfl rfl _ _ HR.out ?_))
    go_ret
    refine ⟨_, rfl, .inr ⟨rfl, w.heap.size, cap, _, (0, 0), rfl, Nat.le_refl _, heap_alloc_new w.drew _, fun _ _ h => by omega, Nat.zero_le _, hcm, ?_, rfl⟩, (Below.refl _ _).drew.alloc (Nat.le_refl _) _⟩
    simp only [Array.size_append, size_zeroCells]
    show cap * 1 ≤ n * 1 + (cap - n) * 1
    omega
end Go.Proofs.Ytbcnapkbdbefhaa
namespace Go.Proofs.Ytbcnapkbdbefhaa
open Go.RowKit

/-- the cells of a row of slices, each of which reads as bytes -/
def Parts (w : World) (g : Nat) (ls : List (List UInt8)) : Prop := ∀ j (h : j < ls.length), ∃ v, w.cell? ⟨g, j, none⟩ = some v ∧ Rd w v ls[j]
theorem flat_take (ls : List (List UInt8)) (k : Nat) (h : k < ls.length) : (ls.take (k + 1)).flatten = (ls.take k).flatten ++ ls[k] := by
  rw [List.take_succ_eq_append_getElem h, List.flatten_append]
  simp
theorem flat_le (ls : List (List UInt8)) (k : Nat) : (ls.take k).flatten.length ≤ ls.flatten.length := by
  conv => rhs; rw [← List.take_append_drop k ls, List.flatten_append, List.length_append]
  omega

set_option maxRecDepth 100000 in
set_option maxHeartbeats 2000000 in
theorem concat_any (w : World) (g : Nat) (ls : List (List UInt8)) (hp : Parts w g ls) (hn : ls.length ≤ 1000) (hl : ls.flatten.length ≤ 549755813888) :
    Calls Try.prog 73 #[.slice (some ⟨g, 0, none⟩) ls.length ls.length] w (RetOwn ls.flatten w) := by
  have HP := Lib.hid hp
  clear hp
  go_enter Try.func73, Try.ntmps73
  go_wp2
  go_loop [3, 5, 11] (fun s _ i => ∃ k : Nat, k ≤ ls.length ∧ i = .int .i64 k ∧ s = .int .i64 ((ls.take k).flatten.length : Nat)) (fun _ _ i => ls.length - (intOf i).toNat)
  case atStart => exact ⟨0, Nat.zero_le _, rfl, rfl⟩
  case round =>
    obtain ⟨k, hk, rfl, rfl⟩ := hrel
    by_cases hlt : k < ls.length
    · obtain ⟨v, hc, ⟨a, cap, rfl, h1, h2, h3⟩⟩ := HP.out k hlt
      clear h3
      have hft := congrArg List.length (flat_take ls k hlt)
      have hfl := flat_le ls (k + 1)
      rw [List.length_append] at hft
      have HF := Lib.hid hft
      have hfb : (ls.take k).flatten.length + ls[k].length ≤ 549755813888 := by omega
      clear hft hfl
      generalize hsk : (ls.take k).flatten.length = sk at *
      generalize hlk : ls[k].length = lk at *
      go_wp2
      refine ⟨⟨k + 1, by omega, by go_num, ?_⟩, by simp [intOf]; omega⟩
      rw [HF.out]
      go_num
    · have hkl : k = ls.length := by omega
      subst hkl
      rw [List.take_length]
      obtain ⟨N, hN⟩ : ∃ N : Nat, N = ls.flatten.length := ⟨_, rfl⟩
      rw [← hN]
      have hNl : N ≤ 140737488355328 := by omega
      clear hN
      go_wp2_with fail
      refine (grow_any w N hNl).mono ?_
      rintro e w1 ⟨v, rfl, hown, hbel⟩
      have HO := Lib.hid hown
      clear hown
      go_wp2
      go_loopw [6, 8, 27] (fun v _ i wr => ∃ k : Nat, k ≤ ls.length ∧ i = .int .i64 k ∧ Hid (Own wr w.heap.size 5 1 v (ls.take k).flatten.length (u8s (ls.take k).flatten)) ∧ Below w.heap.size w wr) (fun _ _ i _ => ls.length - (intOf i).toNat)
      case atStart => exact ⟨0, Nat.zero_le _, rfl, HO, hbel⟩
      case round =>
        obtain ⟨k, hk, rfl, HK, hbk⟩ := hrel
        by_cases hlt : k < ls.length
        · obtain ⟨v2, hc0, hrd⟩ := HP.out k hlt
          have hc := Below.keeps hbk _ _ _ hc0
          have hrd2 : Rd _ _ _ := hrd.below hbk
          obtain ⟨a, cap, rfl, h1, h2, h3⟩ := hrd
          clear h3 hc0
          have HR := Lib.hid hrd2
          clear hrd2
          have hft := congrArg List.length (flat_take ls k hlt)
          have hfl := flat_le ls (k + 1)
          rw [List.length_append] at hft
          have hsz := hbk.size
          go_wp2_with (at_builtin; go_loud (refine wp_app rfl _ _ rfl w.heap.size _ ls[k].length _ _ _ ls[k] rfl rfl HK.out HR.out rfl (by omega) hsz ?_); intro v' w' hown' hg' hbel'; have HO2 := Lib.hid hown'; have HB2 := Lib.hid hbel'; clear hown' hg' hbel')
          refine ⟨⟨k + 1, by omega, by go_num, ?_, Below.trans hbk HB2.out⟩, by simp [intOf]; omega⟩
          show Own _ _ _ _ _ _ _
          rw [flat_take ls k hlt, List.length_append]
          exact HO2.out
        · have hkl : k = ls.length := by omega
          subst hkl
          rw [List.take_length] at HK
          go_wp2
          go_ret
          exact ⟨_, rfl, HK.out, hbk⟩
end Go.Proofs.Ytbcnapkbdbefhaa

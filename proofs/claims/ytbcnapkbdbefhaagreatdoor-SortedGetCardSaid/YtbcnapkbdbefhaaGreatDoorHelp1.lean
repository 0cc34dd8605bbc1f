/- The laws' helpers over bytes: Beyond, TwinBytes, LeftBytes, SameBytes. The condition of TwinBytes: fewer than 2^40 bytes. -/
import Derived.Test.YtbcnapkbdbefhaaGreatDoorMem
namespace Go.Proofs.YtbcnapkbdbefhaaGreatDoor
open Go.RowKit

/-- a call that only reads -/
def RetQ (v : Value) (w : World) (e : Ending) (w' : World) : Prop := e = .returned v ∧ ∃ n, w' = w.drewN n
theorem retq {v v' : Value} {w : World} {n : Nat} (h : v' = v) : RetQ v w (.returned v') (w.drewN n) := ⟨by rw [h], n, rfl⟩
theorem retq0 {v v' : Value} {w : World} (h : v' = v) : RetQ v w (.returned v') w := ⟨by rw [h], 0, rfl⟩

theorem take_same {l m : List UInt8} {k : Nat} (h : ∀ j, j < k → l[j]? = m[j]?) (hl : l.length = k) (hm : m.length = k) : l = m := by
  apply List.ext_getElem?
  intro j
  by_cases hj : j < k
  · exact h j hj
  · rw [List.getElem?_eq_none (by omega), List.getElem?_eq_none (by omega)]
theorem same_snoc {l m : List UInt8} {k : Nat} (h : ∀ j, j < k → l[j]? = m[j]?) (hl : k < l.length) (hm : k < m.length) (he : l[k] = m[k]) : ∀ j, j < k + 1 → l[j]? = m[j]? := by
  intro j hj
  by_cases e : j = k
  · subst e; rw [List.getElem?_eq_getElem hl, List.getElem?_eq_getElem hm, he]
  · exact h j (by omega)

set_option maxRecDepth 100000 in
set_option maxHeartbeats 1000000 in
theorem sameBytes_any (v v2 : Value) (l m : List UInt8) (w : World) (hv : Rd w v l) (hv2 : Rd w v2 m) :
    Calls Tryz.prog 21 #[v, v2] w (RetQ (.bool (decide (l = m))) w) := by
  obtain ⟨a, cap, rfl, h1, h2, h3⟩ := hv
  obtain ⟨a2, cap2, rfl, g1, g2, g3⟩ := hv2
  by_cases hlen : l.length = m.length
  · have HL := Lib.hid hlen
    have HC := Lib.hid h3
    have HG := Lib.hid g3
    clear h3 g3
    have hb : ((l.length : Int) != (m.length : Int)) = false := by simp; omega
    clear hlen
    go_enter Tryz.func21, Tryz.ntmps21
    go_wp2
    go_loopw [5] (fun i wr => ∃ k : Nat, k ≤ l.length ∧ i = .int .i64 k ∧ (∀ j, j < k → l[j]? = m[j]?) ∧ ∃ n, wr = w.drewN n) (fun i _ => l.length - (intOf i).toNat)
    case atStart => exact ⟨0, Nat.zero_le _, rfl, fun j hj => absurd hj (by omega), 0, rfl⟩
    case round =>
      obtain ⟨k, hk, rfl, hpre, n, rfl⟩ := hrel
      have HP := Lib.hid hpre
      clear hpre
      by_cases hlt : k < l.length
      · have hlt2 : k < m.length := by have := HL.out; omega
        obtain ⟨b, off, rfl, hc⟩ := HC.out k hlt
        obtain ⟨b2, off2, rfl, hc2⟩ := HG.out k hlt2
        have HE := Lib.hid (UInt8.toNat_inj (a := l[k]) (b := m[k]))
        generalize l[k].toNat = x at *
        generalize m[k].toNat = y at *
        by_cases he : x = y
        · subst he
          have HE2 := Lib.hid (HE.out.1 rfl)
          go_wp2
          go_quiet (fail)
          go_wp2
          go_roundw
          case rel => exact ⟨k + 1, by omega, by go_num, same_snoc HP.out hlt hlt2 HE2.out, _, rfl⟩
          case measure => simp [intOf]; omega
        · have hb2 : ((x : Int) != (y : Int)) = true := by simp; omega
          have HN : Hid (¬ l = m) := fun e => he (HE.out.2 (by subst e; rfl))
          clear he
          go_wp2
          go_quiet (fail)
          go_wp2
          go_ret
          exact ⟨ret_bool (by simp [HN.out]), n + nq, by rw [World.drewN_drewN]⟩
      · go_wp2
        go_ret
        exact ⟨ret_bool (by simp; exact take_same (k := k) HP.out (by omega) (by have := HL.out; omega)), _, rfl⟩
  · have hb : ((l.length : Int) != (m.length : Int)) = true := by simp; omega
    have HN : Hid (¬ l = m) := fun e => hlen (by rw [e])
    clear hlen
    go_enter Tryz.func21, Tryz.ntmps21
    go_wp2
    go_ret
    exact ⟨ret_bool (by simp [HN.out]), 0, rfl⟩

/-- a copy with a mark in the room behind -/
def Twin (w : World) (base : Nat) (v : Value) (l : List UInt8) : Prop :=
  ∃ g, v = .slice (some ⟨g, 0, none⟩) l.length (l.length + 1) ∧ l.length ≤ 1099511627776 ∧ base ≤ g ∧ w.heap[g]? = some (.cells (u8s (l ++ [77])).toArray 5 (0, 0))
def RetTwin (l : List UInt8) (w : World) (e : Ending) (w' : World) : Prop := ∃ v, e = .returned v ∧ Twin w' w.heap.size v l ∧ Below w.heap.size w w'

theorem twin_rd {w : World} {base : Nat} {v : Value} {l : List UInt8} (h : Twin w base v l) : Rd w v l := by
  obtain ⟨g, rfl, _, _, hg⟩ := h
  refine ⟨_, _, rfl, by omega, by omega, fun j hj => ⟨_, _, rfl, ?_⟩⟩
  rw [cell_of_row w g (0 + j) _ _ (0, 0) hg, Nat.zero_add]
  have : (l ++ [77])[j]? = some l[j] := by rw [List.getElem?_append_left hj, List.getElem?_eq_getElem hj]
  simp only [u8s, List.getElem?_toArray, List.getElem?_map, this]
  rfl
theorem twin_below {w w' : World} {base : Nat} {v : Value} {l : List UInt8} (h : Twin w base v l) (hb : Below w.heap.size w w') : Twin w' base v l := by
  obtain ⟨g, e, h0, h1, h2⟩ := h
  exact ⟨g, e, h0, h1, by rw [hb.block g (Array.getElem?_eq_some_iff.1 h2).1]; exact h2⟩

theorem twin_drewN {w : World} {base : Nat} {v : Value} {l : List UInt8} (h : Twin w base v l) (n : Nat) : Twin (w.drewN n) base v l := h

set_option maxRecDepth 100000 in
set_option maxHeartbeats 1000000 in
theorem twinBytes_any (v : Value) (l : List UInt8) (w : World) (hv : Rd w v l) (hlen : l.length ≤ 1099511627776) :
    Calls Tryz.prog 5 #[v] w (RetTwin l w) := by
  obtain ⟨a, cap, rfl, h1, h2, h3⟩ := hv
  obtain ⟨i0, hi, hz, hz1, hz2⟩ := info_parts info_u8
  have hmk := run_make (P := Tryz.prog) w 22 5 i0 (.int .u8 0) Tryz.underlying22 hi hz .i64 .i64 0 ((l.length : Int) + 1) (by omega) (by omega) (by rw [hz2]; omega) (by omega)
  go_enter Tryz.func5, Tryz.ntmps5
  go_wp2
  clear hmk
  have HC := Lib.hid h3
  clear h3
  have hown0 := World.ownsRow_made w (madeCells #[Value.int .u8 0] (l.length + 1)) (e := 5) (size := 1) (base := w.heap.size) (l.length + 1) (Nat.le_refl _) (by unfold maxLen; omega) (by rw [size_madeCells]; omega)
  go_loopw [3, 4] (fun t i wr => ∃ k : Nat, k ≤ l.length ∧ i = .int .i64 k ∧ t = .slice (some ⟨w.heap.size, 0, none⟩) k (l.length + 1) ∧ wr.ownsRow w.heap.size 5 1 t k (u8s (l.take k)) ∧ Below w.heap.size w wr ∧ w.heap.size < wr.heap.size) (fun _ i _ => l.length - (intOf i).toNat)
  case atStart => exact ⟨0, Nat.zero_le _, rfl, rfl, hown0, (Below.refl _ _).alloc (Nat.le_refl _) _, by simp⟩
  case round =>
    obtain ⟨k, hk, rfl, rfl, hown, hbel, hsz⟩ := hrel
    by_cases hlt : k < l.length
    · obtain ⟨b, off, rfl, hc0⟩ := HC.out k hlt
      have hc := Below.keeps hbel _ _ _ hc0
      clear hc0
      obtain ⟨x, hx⟩ : ∃ x : Nat, x = l[k].toNat := ⟨_, rfl⟩
      have HX := Lib.hid hx
      rw [← hx] at hc
      clear hx
      have hone : Rd (wr.alloc (.cells #[.int .u8 x] 5)) (.slice (some ⟨wr.heap.size, 0, none⟩) 1 1) [l[k]] := rd_one _ _ _ (by rw [HX.out]) _
      have hal := hown.alloc (.cells #[.int .u8 x] 5)
      go_wp2_with (at_builtin; go_loud (refine wp_fits rfl _ _ rfl w.heap.size w.heap.size k 1 (l.length + 1) _ (l.take k) [l[k]] rfl rfl hal hone rfl (by omega) ?_); intro w1 hown1 hg1)
      have e1 : l.take k ++ [l[k]] = l.take (k + 1) := (List.take_succ_eq_append_getElem hlt).symm
      rw [e1] at hown1
      refine ⟨⟨k + 1, by omega, by go_num, rfl, hown1, (hbel.alloc (by omega) _).grown hg1 (by simp; omega) (fun j e => by cases e; omega), ?_⟩, by simp [intOf]; omega⟩
      have := hg1.size
      simp at this
      omega
    · obtain rfl : k = l.length := by omega
      rw [List.take_length] at hown
      have hone : Rd (wr.alloc (.cells #[.int .u8 77] 5)) (.slice (some ⟨wr.heap.size, 0, none⟩) 1 1) [77] := rd_one _ _ _ rfl _
      have hal := hown.alloc (.cells #[.int .u8 77] 5)
      go_wp2_with (at_builtin; go_loud (refine wp_fits rfl _ _ rfl w.heap.size w.heap.size l.length 1 (l.length + 1) _ l [77] rfl rfl hal hone rfl (by omega) ?_); intro w1 hown1 hg1)
      go_ret
      refine ⟨_, rfl, ⟨_, rfl, hlen, Nat.le_refl _, ?_⟩, (hbel.alloc (by omega) _).grown hg1 (by simp; omega) (fun j e => by cases e; omega)⟩
      obtain ⟨q1, (⟨q2, _⟩ | ⟨g, cp, cur, q2, q3, q4, q5, q6, q7, q8⟩)⟩ := hown1
      · cases q2
      · cases q2
        rw [q4]
        congr 2
        rw [List.take_of_length_le (by simp; omega)] at q8
        rw [← q8]

set_option maxRecDepth 100000 in
set_option maxHeartbeats 1000000 in
theorem leftBytes_any (base : Nat) (vt v : Value) (l : List UInt8) (w : World) (ht : Twin w base vt l) (hv : Rd w v l) :
    Calls Tryz.prog 13 #[vt, v] w (RetQ (.bool true) w) := by
  have htr := twin_rd ht
  obtain ⟨g, rfl, hlen, _, hg⟩ := ht
  obtain ⟨a, cap, rfl, h1, h2, h3⟩ := hv
  obtain ⟨a', cap', e', _, _, t3⟩ := htr
  cases e'
  have hlast : w.cell? ⟨g, 0 + l.length, none⟩ = some (.int .u8 77) := by
    rw [cell_of_row w g (0 + l.length) _ _ (0, 0) hg, Nat.zero_add]
    simp [u8s]
  have HC := Lib.hid h3
  have HT := Lib.hid t3
  clear h3 t3 hg
  rw [Nat.zero_add] at hlast
  go_enter Tryz.func13, Tryz.ntmps13
  go_wp2
  go_loopw [5] (fun i wr => ∃ k : Nat, k ≤ l.length ∧ i = .int .i64 k ∧ ∃ n, wr = w.drewN n) (fun i _ => l.length - (intOf i).toNat)
  case atStart => exact ⟨0, Nat.zero_le _, rfl, 0, rfl⟩
  case round =>
    obtain ⟨k, hk, rfl, n, rfl⟩ := hrel
    by_cases hlt : k < l.length
    · obtain ⟨b, off, rfl, hc⟩ := HC.out k hlt
      obtain ⟨b2, off2, e2, hc2⟩ := HT.out k hlt
      cases e2
      generalize l[k].toNat = x at *
      rw [Nat.zero_add] at hc2
      go_wp2
      go_quiet (fail)
      go_wp2
      go_roundw
      case rel => exact ⟨k + 1, by omega, by go_num, n + nq, rfl⟩
      case measure => simp [intOf]; omega
    · obtain rfl : k = l.length := by omega
      go_wp2
      go_ret
      exact ⟨rfl, n, rfl⟩
end Go.Proofs.YtbcnapkbdbefhaaGreatDoor

/- Walk of law09.BloomsThere. The condition: texts of at most 2^47 bytes. -/
import Derived.Test.YtnfamahfaghejaaAlive9
import Derived.Test.YtnfamahfaghejaaSize
namespace Go.Proofs.Ytnfamahfaghejaa
open Go.RowKit
theorem the_world {n : Nat} {w w' : World} (_ : Below n w w') : ∃ x, x = w' := ⟨_, rfl⟩
theorem textsLen_mem {l : List ByteArray} {x : ByteArray} (h : x ∈ l) : x.size ≤ textsLen l := by
  induction l with
  | nil => cases h
  | cons y l ih =>
    simp only [textsLen]
    rcases List.mem_cons.1 h with rfl | h
    · omega
    · have := ih h; omega

set_option maxRecDepth 100000 in
set_option maxHeartbeats 4000000 in
theorem bloomsThere_walk (w : World) (v : Value) (l : List ByteArray) (hv : RdT w v l) (hl : ∀ x ∈ l, x.size ≤ 140737488351232) :
    Calls Try.prog 3 #[v] w (RetTrue w) := by
  have hend : ∀ (w5 : World), Hid (Calls Try.prog 15 #[] w5 (RetTrue w5)) := fun w5 => alive09_any w5
  have HV := Lib.hid hv
  have HS := Lib.hid hl
  obtain ⟨va, vc, rfl, h1, h2, h3⟩ := hv
  clear h3 hl
  obtain ⟨vn, hvn⟩ : ∃ n, n = l.length := ⟨_, rfl⟩
  have HVN := Lib.hid hvn
  rw [← hvn] at h1 HV ⊢
  clear hvn
  by_cases hb : 500 < vn
  · go_enter Try.func3, Try.ntmps3
    go_wp2_with fail
    refine (hend _).out.mono ?_
    rintro e w1 ⟨rfl, bel⟩
    go_wp2_with fail
    refine (hend _).out.mono ?_
    rintro e w3 ⟨rfl, bel3⟩
    replace bel := Below.trans bel (bel3.mono bel.size)
    clear bel3
    go_wp2
    go_ret
    exact ⟨rfl, bel⟩
  go_enter Try.func3, Try.ntmps3
  go_wp2_with fail
  refine (hend _).out.mono ?_
  rintro e w1 ⟨rfl, bel⟩
  replace HV := Lib.hid (HV.out.below bel)
  have hz := textsSize_any w1 _ l HV.out (by rw [← HVN.out]; omega) HS.out
  rw [← HVN.out] at hz
  have HZ := Lib.hid hz
  clear hz
  go_wp2_with fail
  refine HZ.out.mono ?_
  rintro e w' ⟨z, rfl, hz, rfl⟩
  clear HZ
  by_cases hb3 : 20000 < z
  · clear hz
    go_wp2_with fail
    refine (hend _).out.mono ?_
    rintro e w3 ⟨rfl, bel3⟩
    replace bel := Below.trans bel (bel3.mono bel.size)
    clear bel3
    go_wp2
    go_ret
    exact ⟨rfl, bel⟩
  have hzz := hz (by omega)
  have HT : Hid (textsLen l ≤ 20000) := by show _ ≤ _; omega
  clear hz hzz
  replace HS : Hid (∀ x ∈ l, x.size ≤ 20000) := fun x hx => Nat.le_trans (textsLen_mem hx) HT.out
  obtain ⟨n, hn⟩ : ∃ n, n = bloomN vn := ⟨_, rfl⟩
  have hn8 : 8 ≤ n := by rw [hn]; exact bloomN_pos vn
  have hnb : n ≤ 1000 := by rw [hn]; unfold bloomN; omega
  have hnm : (64 < 10 * vn ∧ n = (10 * vn + 7) / 8) ∨ (10 * vn ≤ 64 ∧ n = 8) := by rw [hn]; unfold bloomN; omega
  have HN := Lib.hid hn
  clear hn
  obtain ⟨m, hm1⟩ : ∃ m, m = n + 1 := ⟨_, rfl⟩
  have HM1 := Lib.hid hm1
  rcases hnm with ⟨hm, hn⟩ | ⟨hm, hn⟩
  · have hq : 1 + (10 * (vn : Int) + 7) / 8 = (m : Int) := by omega
    have hnm1 : n < m := by omega
    have hn9 : n + 1 = m := hm1.symm
    have ei : IntKind.i64.wrap ((m : Int) - 1) = (n : Int) := by rw [IntWalk.i64_in _ (by omega)]; omega
    have ei2 : ((m : Int) - 1) = (n : Int) := by omega
    clear hn hm1 hn9
    go_upto_region 3 with (fail)
    go_wp2_with fail
    refine (put_var9 w1 _ l m (by rw [← HVN.out, ← HN.out]; exact HM1.out.symm) HV.out (by rw [← HVN.out]; omega) (fun s hs => Nat.le_trans (HS.out s hs) (by omega))).mono ?_
    rintro e w2 ⟨a, c, rfl, HB, bel2⟩
    replace HV := Lib.hid (HV.out.below bel2)
    replace bel := Below.trans bel (bel2.mono bel.size)
    clear bel2
    obtain ⟨B, hB⟩ : ∃ B, B = bloomPut (l.map fun s => s.data.toList) := ⟨_, rfl⟩
    have HM : Hid (∀ s ∈ l, mayB B s.data.toList = true) := fun s hs => by rw [hB]; exact mayB_put (List.mem_map.2 ⟨s, hs, rfl⟩)
    have HBL : Hid (B.length = m) := by show _ = _; rw [hB, bloomPut_length, List.length_map, ← HVN.out, ← HN.out]; exact HM1.out.symm
    have hb6 : B[n]'(by rw [HBL.out]; omega) = 6 := by
      have := bloomPut_last (l.map fun s => s.data.toList)
      rw [List.length_map, ← HVN.out, ← HN.out, ← hB, List.getD_eq_getElem?_getD, List.getElem?_eq_getElem (by rw [HBL.out]; omega)] at this
      exact this
    rw [← hB] at HB
    clear hB
    have HR := Lib.hid (rd_of_own HB.out).2
    obtain ⟨a', c', e1, _, _, hcell⟩ := HR.out
    obtain ⟨bb, off, hae, c0⟩ := hcell n (by rw [HBL.out]; omega)
    rw [hb6] at c0
    simp only [Value.slice.injEq] at e1
    obtain ⟨rfl, el, rfl⟩ := e1
    clear el
    subst hae
    replace c0 : w2.cell? ⟨bb, off + n, none⟩ = some (.int .u8 6) := c0
    clear hcell hb6
    go_upto_region 4 with (fail)
    go_upto_region 6 with (fail)
    clear c0 ei ei2
    go_wp2_with fail
    have hb0 : Below w2.heap.size w2 w2 := Below.refl _ _
    show Code.wp _ _ _ _ _
    go_loopw [4] (fun i wr => ∃ k : Nat, k ≤ vn ∧ i = .int .i64 k ∧ Below w2.heap.size w2 wr) (fun i _ => vn - (intOf i).toNat)
    case atStart => exact ⟨0, Nat.zero_le _, rfl, hb0⟩
    case round =>
      obtain ⟨k, hk, rfl, belr⟩ := hrel
      by_cases hlt : k < vn
      · have hkl : k < l.length := by rw [← HVN.out]; exact hlt
        obtain ⟨a', c', hve, _, _, hcell⟩ := HV.out.below belr
        obtain ⟨b3, off3, hae, x0⟩ := hcell k hkl
        cases hve
        subst hae
        clear hcell
        have hmem := List.getElem_mem (l := l) (n := k) hkl
        have hks := HS.out _ hmem
        have hmb := HM.out _ hmem
        obtain ⟨x, hx⟩ : ∃ x, x = l[k] := ⟨_, rfl⟩
        rw [← hx] at x0 hks hmb
        have HMB := Lib.hid hmb
        clear hx hmem hmb
        obtain ⟨wr, hwr⟩ := the_world belr
        subst hwr
        go_wp2_with fail
        refine (may9_any wr _ B x true HMB.out (by omega) (by rw [HBL.out]; omega) (HR.out.below belr)).mono ?_
        rintro e w5 ⟨rfl, bel5⟩
        have belz := Below.trans belr (bel5.mono belr.size)
        go_wp2
        exact ⟨⟨k + 1, by omega, by go_num, belz⟩, by simp [intOf]; omega⟩
      · have hbelw := Below.trans bel (belr.mono bel.size)
        go_wp2
        go_ret
        exact ⟨rfl, hbelw⟩
  · subst hn
    have hm9 : m = 9 := by omega
    subst hm9
    clear hm1
    go_upto_region 3 with (fail)
    go_wp2_with fail
    refine (put_var9 w1 _ l 9 (by rw [← HVN.out, ← HN.out]) HV.out (by rw [← HVN.out]; omega) (fun s hs => Nat.le_trans (HS.out s hs) (by omega))).mono ?_
    rintro e w2 ⟨a, c, rfl, HB, bel2⟩
    replace HV := Lib.hid (HV.out.below bel2)
    replace bel := Below.trans bel (bel2.mono bel.size)
    clear bel2
    obtain ⟨B, hB⟩ : ∃ B, B = bloomPut (l.map fun s => s.data.toList) := ⟨_, rfl⟩
    have HM : Hid (∀ s ∈ l, mayB B s.data.toList = true) := fun s hs => by rw [hB]; exact mayB_put (List.mem_map.2 ⟨s, hs, rfl⟩)
    have HBL : Hid (B.length = 9) := by show _ = _; rw [hB, bloomPut_length, List.length_map, ← HVN.out, ← HN.out]
    have hb6 : B[8]'(by rw [HBL.out]; omega) = 6 := by
      have := bloomPut_last (l.map fun s => s.data.toList)
      rw [List.length_map, ← HVN.out, ← HN.out, ← hB, List.getD_eq_getElem?_getD, List.getElem?_eq_getElem (by rw [HBL.out]; omega)] at this
      exact this
    rw [← hB] at HB
    clear hB
    have HR := Lib.hid (rd_of_own HB.out).2
    obtain ⟨a', c', e1, _, _, hcell⟩ := HR.out
    obtain ⟨bb, off, hae, c0⟩ := hcell 8 (by rw [HBL.out]; omega)
    rw [hb6] at c0
    simp only [Value.slice.injEq] at e1
    obtain ⟨rfl, el, rfl⟩ := e1
    clear el
    subst hae
    replace c0 : w2.cell? ⟨bb, off + 8, none⟩ = some (.int .u8 6) := c0
    clear hcell hb6
    go_upto_region 4 with (fail)
    go_upto_region 6 with (fail)
    clear c0
    go_wp2_with fail
    have hb0 : Below w2.heap.size w2 w2 := Below.refl _ _
    show Code.wp _ _ _ _ _
    go_loopw [4] (fun i wr => ∃ k : Nat, k ≤ vn ∧ i = .int .i64 k ∧ Below w2.heap.size w2 wr) (fun i _ => vn - (intOf i).toNat)
    case atStart => exact ⟨0, Nat.zero_le _, rfl, hb0⟩
    case round =>
      obtain ⟨k, hk, rfl, belr⟩ := hrel
      by_cases hlt : k < vn
      · have hkl : k < l.length := by rw [← HVN.out]; exact hlt
        obtain ⟨a', c', hve, _, _, hcell⟩ := HV.out.below belr
        obtain ⟨b3, off3, hae, x0⟩ := hcell k hkl
        cases hve
        subst hae
        clear hcell
        have hmem := List.getElem_mem (l := l) (n := k) hkl
        have hks := HS.out _ hmem
        have hmb := HM.out _ hmem
        obtain ⟨x, hx⟩ : ∃ x, x = l[k] := ⟨_, rfl⟩
        rw [← hx] at x0 hks hmb
        have HMB := Lib.hid hmb
        clear hx hmem hmb
        obtain ⟨wr, hwr⟩ := the_world belr
        subst hwr
        go_wp2_with fail
        refine (may9_any wr _ B x true HMB.out (by omega) (by rw [HBL.out]; omega) (HR.out.below belr)).mono ?_
        rintro e w5 ⟨rfl, bel5⟩
        have belz := Below.trans belr (bel5.mono belr.size)
        go_wp2
        exact ⟨⟨k + 1, by omega, by go_num, belz⟩, by simp [intOf]; omega⟩
      · have hbelw := Below.trans bel (belr.mono bel.size)
        go_wp2
        go_ret
        exact ⟨rfl, hbelw⟩
end Go.Proofs.Ytnfamahfaghejaa

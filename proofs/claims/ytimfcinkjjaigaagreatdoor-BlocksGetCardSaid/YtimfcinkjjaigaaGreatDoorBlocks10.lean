/- Walks of package blocks: Seek. The condition: bytes of at most 2^28. -/
import Derived.Test.YtimfcinkjjaigaaGreatDoorBlocks9
namespace Go.Proofs.YtimfcinkjjaigaaGreatDoor
open Go.RowKit

/-- the first entry whose mark is not ahead of one -/
def seekAt (k : List UInt8) (s : Nat) (g : Bool) : List Ent → Nat
  | [] => 0
  | x :: l => if cmpM x.key x.seq x.gone k s g ≥ 0 then 0 else seekAt k s g l + 1
theorem seekAt_le (k : List UInt8) (s : Nat) (g : Bool) (l : List Ent) : seekAt k s g l ≤ l.length := by
  induction l with
  | nil => exact Nat.le_refl _
  | cons x l ih => simp only [seekAt, List.length_cons]; split <;> omega
theorem seekAt_lt (k : List UInt8) (s : Nat) (g : Bool) (l : List Ent) (i : Nat) (hi : i < seekAt k s g l) : cmpM (atE l i).key (atE l i).seq (atE l i).gone k s g < 0 := by
  induction l generalizing i with
  | nil => simp [seekAt] at hi
  | cons x l ih =>
    simp only [seekAt] at hi
    split at hi
    · omega
    · rename_i h
      cases i with
      | zero => show cmpM x.key x.seq x.gone k s g < 0; omega
      | succ i => exact ih i (by omega)
theorem seekAt_at (k : List UInt8) (s : Nat) (g : Bool) (l : List Ent) (h : seekAt k s g l < l.length) : cmpM (atE l (seekAt k s g l)).key (atE l (seekAt k s g l)).seq (atE l (seekAt k s g l)).gone k s g ≥ 0 := by
  induction l with
  | nil => simp at h
  | cons x l ih =>
    simp only [seekAt] at h ⊢
    split
    · rename_i hx; exact hx
    · rename_i hx
      rw [if_neg hx] at h
      exact ih (by simpa using h)

set_option maxRecDepth 100000 in
set_option maxHeartbeats 1000000 in
theorem seek1_any (w : World) (c : Nat) (mk : ByteArray) (ms : Nat) (mg : Bool) (x : PE) (n : Int) (hn : cmpM x.k.data.toList x.s x.g mk.data.toList ms mg = n) (h : Blk w c #[.string mk, .int .u64 ms, .bool mg] 78) :
    Calls Tryz.prog 141 #[x.agg, .pointer (some ⟨c, 0, none⟩)] w fun e w' => e = .returned (.bool (decide (n ≥ 0))) ∧ Below w.heap.size w w' := by
  obtain ⟨xk, xs, xg, xu⟩ := x
  simp only [PE.agg]
  obtain ⟨W, hW⟩ : ∃ W, W = w.alloc (.cells #[.string xk, .int .u64 xs, .bool xg, .string xu] 106) := ⟨_, rfl⟩
  have hX : Blk W w.heap.size #[.string xk, .int .u64 xs, .bool xg, .string xu] 106 := by rw [hW]; exact Blk.new _ _ _
  have hbW : Below w.heap.size w W := by rw [hW]; exact (Below.refl _ _).alloc (Nat.le_refl _) _
  have HW := Lib.hid hW
  have hM := h.below hbW
  have x0 := hX.cellv 0 (.string xk) rfl
  have x1 := hX.cellv 1 (.int .u64 xs) rfl
  have x2 := hX.cellv 2 (.bool xg) rfl
  have m0 := hM.cellv 0 (.string mk) rfl
  have m1 := hM.cellv 1 (.int .u64 ms) rfl
  have m2 := hM.cellv 2 (.bool mg) rfl
  have HC : Hid (Calls Tryz.prog 142 #[.agg #[.string xk, .int .u64 xs, .bool xg], .agg #[.string mk, .int .u64 ms, .bool mg]] W fun e w' => e = .returned (.int .i64 n) ∧ Below W.heap.size W w') := by
    subst hn; exact orderCmp_any _ _ _ _ _ _ W
  clear hW hX hM h hn
  go_enter Tryz.func141, Tryz.ntmps141
  go_upto_region 1 with (fail)
  rw [← HW.out]
  go_wp2_with fail
  refine HC.out.mono ?_
  rintro e w2 ⟨rfl, bel2⟩
  have belf := hbW.trans (bel2.mono hbW.size)
  go_wp2
  go_ret
  exact ⟨rfl, belf⟩

set_option maxRecDepth 100000 in
set_option maxHeartbeats 2000000 in
theorem indexE_any (w : World) (v : Value) (l : List PE) (c : Nat) (mk : ByteArray) (ms : Nat) (mg : Bool) (hv : RdE w v l) (h : Blk w c #[.string mk, .int .u64 ms, .bool mg] 78) :
    Calls Tryz.prog 140 #[v, .func (.func 141) #[] #[.pointer (some ⟨c, 0, none⟩)]] w fun e w' =>
      e = .returned (.int .i64 (if seekAt mk.data.toList ms mg (entsOf l) < l.length then (seekAt mk.data.toList ms mg (entsOf l) : Int) else -1)) ∧ Below w.heap.size w w' := by
  have HV := Lib.hid hv
  have HM := Lib.hid h
  obtain ⟨va, vc, rfl, h1, h2, _⟩ := hv
  clear h
  obtain ⟨vn, hvn⟩ : ∃ n, n = l.length := ⟨_, rfl⟩
  have HVN := Lib.hid hvn
  obtain ⟨q, hq⟩ : ∃ q, q = seekAt mk.data.toList ms mg (entsOf l) := ⟨_, rfl⟩
  have HQ := Lib.hid hq
  have hqn : q ≤ vn := by rw [hq, hvn, ← entsOf_length]; exact seekAt_le _ _ _ _
  rw [← hvn] at h1 HV ⊢
  rw [← hq]
  clear hvn hq
  go_enter Tryz.func140, Tryz.ntmps140
  go_wp2_with fail
  show Code.wp _ _ _ _ _
  go_loopw [8] (fun i wr => ∃ k : Nat, k ≤ q ∧ i = .int .i64 k ∧ Below w.heap.size w wr) (fun i _ => vn - (intOf i).toNat)
  case atStart => exact ⟨0, Nat.zero_le _, rfl, Below.refl _ _⟩
  case round =>
    obtain ⟨k, hk, rfl, belr⟩ := hrel
    by_cases hlt : k < vn
    · have hkl : k < l.length := by rw [← HVN.out]; exact hlt
      have hae := entsOf_at l k hkl
      obtain ⟨a', c', hve, _, _, hcell⟩ := HV.out.below belr
      obtain ⟨b3, off3, hae2, c0, c1, c2, c3⟩ := hcell k hkl
      simp only [Value.slice.injEq] at hve
      obtain ⟨e1, el, ec⟩ := hve
      rw [hae2] at e1
      subst e1
      clear el ec hcell hae2
      obtain ⟨x, hx⟩ : ∃ x, x = l[k] := ⟨_, rfl⟩
      rw [← hx] at c0 c1 c2 c3 hae
      obtain ⟨n, hn⟩ : ∃ n, n = cmpM x.k.data.toList x.s x.g mk.data.toList ms mg := ⟨_, rfl⟩
      have hs1 := seek1_any wr c mk ms mg x n hn.symm (HM.out.below belr)
      have hdir : (k < q ∧ n < 0) ∨ (k = q ∧ n ≥ 0) := by
        by_cases hkq : k < q
        · refine .inl ⟨hkq, ?_⟩
          have := seekAt_lt mk.data.toList ms mg (entsOf l) k (by rw [← HQ.out]; exact hkq)
          rw [hae] at this
          rw [hn]; exact this
        · have hkq' : k = q := by omega
          refine .inr ⟨hkq', ?_⟩
          have := seekAt_at mk.data.toList ms mg (entsOf l) (by rw [← HQ.out, ← hkq', entsOf_length]; exact hkl)
          rw [← HQ.out, ← hkq', hae] at this
          rw [hn]; exact this
      clear hn hx hae
      obtain ⟨xk, xs, xg, xu⟩ := x
      simp only [PE.agg] at c0 c1 c2 c3 hs1
      have HS1 := Lib.hid hs1
      clear hs1
      obtain ⟨wr, hwr⟩ := the_world belr
      subst hwr
      go_wp2_with fail
      refine HS1.out.mono ?_
      rintro e w2 ⟨rfl, bel2⟩
      have belz := belr.trans (bel2.mono belr.size)
      clear c0 c1 c2 c3 bel2
      rcases hdir with ⟨hd1, hd2⟩ | ⟨rfl, hd2⟩
      · have hd : decide (n ≥ 0) = false := by simp; omega
        rw [hd]
        go_wp2_with fail
        exact ⟨⟨k + 1, by omega, by go_num, belz⟩, by simp [intOf]; omega⟩
      · have hd : decide (n ≥ 0) = true := by simp; omega
        rw [hd]
        go_wp2_with fail
        go_ret
        exact ⟨by first | rfl | (rw [if_pos hlt]; rfl) | (rw [if_pos hlt]) | simp [hlt], belz⟩
    · obtain rfl : k = q := by omega
      go_wp2_with fail
      go_ret
      exact ⟨by first | rfl | (rw [if_neg hlt]; rfl) | (rw [if_neg hlt]) | simp [hlt], belr⟩

set_option maxRecDepth 100000 in
set_option maxHeartbeats 1000000 in
theorem cloneE_any (w : World) (ad : Addr) (n c : Nat) (l : List PE) (hv : Reads w 4 (.slice (some ad) n c) n (pcells l)) (hl : n ≤ 1000000) :
    Calls Tryz.prog 143 #[.slice (some ad) n c] w fun e w' => ∃ b c', e = .returned (.slice b n c') ∧ Hid (Own w' w.heap.size 106 4 (.slice b n c') n (pcells l)) ∧ Below w.heap.size w w' := by
  have HV := Lib.hid hv
  clear hv
  have hnn := Lib.run_eql_slice_nil (P := Tryz.prog) w 64 106 (some ad) n c 0 0 Tryz.underlying64
  obtain ⟨i0, hi0, hz, hz1, hz2⟩ := info_parts info_ent
  have HG : Hid (∀ o, Below w.heap.size w (w.alloc o)) := fun o => (Below.refl _ _).alloc (Nat.le_refl _) _
  go_enter Tryz.func143, Tryz.ntmps143
  go_wp2_with (at_builtin; go_loud (refine wp_app_el2 rfl _ _ rfl Tryz.underlying64 hi0 hz hz1 hz2 rfl (by omega) w.heap.size 0 n _ _ [] (pcells l) (pcells l) n rfl rfl (.inl ⟨rfl, rfl, _, rfl⟩) (Reads.later HV.out (HG.out _)) (one_pcells l) (by omega) (by simp) (by omega) (by omega) (by simp) ?_); intro b cc w' HO HGR)
  have hb := HGR.out.below
  have hbb := (HG.out _).trans hb
  go_ret
  exact ⟨b, cc, rfl, HO, hbb⟩

def RetSeek (b : List UInt8) (k : List UInt8) (s : Nat) (g : Bool) (w : World) (e : Ending) (w' : World) : Prop :=
  Below w.heap.size w w' ∧ ((∃ E, mayL E = true ∧ (∀ x ∈ E, x.seq < 18446744073709551616) ∧ blkPut E = b ∧ ∃ a n c, e = .returned (.tuple #[.slice a n c, .int .i64 0]) ∧ Hid (n = E.length - seekAt k s g E) ∧ Hid (Own w' w.heap.size 106 4 (.slice a n c) n (pcells ((E.drop (seekAt k s g E)).map toPE))) ∧ Hid (∀ b, (Value.slice a n c).ownBlock = some b → w.heap.size ≤ b ∧ b < w'.heap.size)) ∨
    ((∀ E, mayL E = true → (∀ x ∈ E, x.seq < 18446744073709551616) → blkPut E ≠ b) ∧ e = .returned (.tuple #[.slice none 0 0, .int .i64 4])))
theorem pcells_drop (l : List PE) (k : Nat) (hk : k ≤ l.length) : (pcells l).drop (k * 4) = pcells (l.drop k) := flatM_drop pcell 4 (fun _ => rfl) l k hk
set_option maxRecDepth 100000 in
set_option maxHeartbeats 2000000 in
theorem blocksSeek_any (w : World) (v : Value) (b : List UInt8) (mk : ByteArray) (ms : Nat) (mg : Bool) (hv : Rd w v b) (hl : b.length ≤ 268435456) :
    Calls Tryz.prog 41 #[v, .agg #[.string mk, .int .u64 ms, .bool mg]] w (RetSeek b mk.data.toList ms mg w) := by
  obtain ⟨k, hk⟩ : ∃ k, k = mk.data.toList := ⟨_, rfl⟩
  have HK := Lib.hid hk
  rw [← hk]
  clear hk
  obtain ⟨W, hW⟩ : ∃ W, W = w.alloc (.cells #[.string mk, .int .u64 ms, .bool mg] 78) := ⟨_, rfl⟩
  have hM : Blk W w.heap.size #[.string mk, .int .u64 ms, .bool mg] 78 := by rw [hW]; exact Blk.new _ _ _
  have hbW : Below w.heap.size w W := by rw [hW]; exact (Below.refl _ _).alloc (Nat.le_refl _) _
  have hG := blocksGet_any W v b (hv.below hbW) hl
  have HG := Lib.hid hG
  have HW := Lib.hid hW
  have HM := Lib.hid hM
  have HBW := Lib.hid hbW
  clear hW hM hbW hG hv hl
  go_enter Tryz.func41, Tryz.ntmps41
  go_upto_region 1 with (fail)
  rw [← HW.out]
  go_wp2_with fail
  refine HG.out.mono ?_
  rintro e w2 ⟨bel2, ⟨E, hm, hs, hb, la, n, lc, rfl, HN, HO⟩ | ⟨hno, rfl⟩⟩
  · have belf := HBW.out.trans (bel2.mono HBW.out.size)
    have HB := Lib.hid belf
    have HF : Hid (mayL E = true ∧ (∀ x ∈ E, x.seq < 18446744073709551616) ∧ blkPut E = b) := ⟨hm, hs, hb⟩
    have hE64 : E.length ≤ 64 := ((mayL_iff E).1 hm).1.2
    have hn64 : n ≤ 64 := by rw [HN.out]; exact hE64
    have HRE := Lib.hid (rdE_of (reads_of_own HO.out)).2
    have HIX := Lib.hid (indexE_any w2 (.slice la n lc) (E.map toPE) w.heap.size mk ms mg HRE.out (HM.out.below bel2))
    obtain ⟨q, hq⟩ : ∃ q, q = seekAt k ms mg E := ⟨_, rfl⟩
    have HQ := Lib.hid hq
    have hqn : q ≤ n := by rw [hq, HN.out]; exact seekAt_le _ _ _ _
    have HIX2 : Hid (Calls Tryz.prog 140 #[.slice la n lc, .func (.func 141) #[] #[.pointer (some ⟨w.heap.size, 0, none⟩)]] w2 fun e w' =>
        e = .returned (.int .i64 (if q < n then (q : Int) else -1)) ∧ Below w2.heap.size w2 w') := by
      have h := HIX.out
      rw [entsOf_toPE, List.length_map, ← HN.out, ← HK.out, ← hq] at h
      exact h
    clear hm hs hb hE64 bel2 belf HG HIX hq HBW HM
    by_cases hlt : q < n
    · rw [if_pos hlt] at HIX2
      go_wp2_with fail
      refine HIX2.out.mono ?_
      rintro e w3 ⟨rfl, bel3⟩
      have hR := reads_of_own HO.out
      obtain ⟨i0, hi0, hz, hz1, hz2⟩ := info_parts info_ent
      obtain ⟨a2, c2, _, _, hcut, hcr⟩ := reads_cut Tryz.underlying64 hi0 hz1 (by omega) hR q n (Nat.le_of_lt hlt) (Nat.le_refl _)
      have hcut := hcut rfl
      have hcr2 : Reads w2 4 (.slice a2 (n - q) c2) (n - q) (pcells ((E.drop q).map toPE)) := by
        have h4 : (pcells (E.map toPE)).take (n * 4) = pcells (E.map toPE) := List.take_of_length_le (by rw [pcells_length, List.length_map, HN.out]; exact Nat.le_refl _)
        rw [h4, pcells_drop _ _ (by rw [List.length_map]; have := HN.out; omega), ← List.map_drop] at hcr
        exact hcr
      obtain ⟨ad, had⟩ : ∃ ad, a2 = some ad := by
        cases a2 with
        | some ad => exact ⟨ad, rfl⟩
        | none => exact absurd ((reads_cells hcr2).1 rfl) (by omega)
      subst had
      have HCL := Lib.hid (cloneE_any w3 ad (n - q) c2 ((E.drop q).map toPE) (Reads.later hcr2 bel3) (by omega))
      have hB3 := HB.out.trans (bel3.mono HB.out.size)
      have HB3 := Lib.hid hB3
      clear hR hcr hcr2 bel3 hB3 HRE HIX2 HB hi0 hz hz1 hz2
      go_wp2_with fail
      refine HCL.out.mono ?_
      rintro e w4 ⟨b4, c4, rfl, HO4, bel4⟩
      have hB4 := HB3.out.trans (bel4.mono HB3.out.size)
      go_wp2
      go_ret2
      exact ⟨hB4, .inl ⟨E, HF.out.1, HF.out.2.1, HF.out.2.2, b4, n - q, c4, rfl, by rw [← HQ.out, HN.out]; exact rfl, by rw [← HQ.out]; exact own_mono HO4.out HB3.out.size, fun b hb => own_lt (own_mono HO4.out HB3.out.size) (by omega) b hb⟩⟩
    · rw [if_neg hlt] at HIX2
      go_wp2_with fail
      refine HIX2.out.mono ?_
      rintro e w3 ⟨rfl, bel3⟩
      have hB3 := HB.out.trans (bel3.mono HB.out.size)
      go_wp2
      go_ret2
      have hqE : seekAt k ms mg E = E.length := by rw [← HQ.out, ← HN.out]; omega
      exact ⟨hB3, .inl ⟨E, HF.out.1, HF.out.2.1, HF.out.2.2, none, 0, 0, rfl, by rw [hqE]; show 0 = _; omega, by rw [hqE, List.drop_length]; exact own_none _ _ _ _, fun b hb => by simp [Value.ownBlock] at hb⟩⟩
  · have belf := HBW.out.trans (bel2.mono HBW.out.size)
    have HNO := Lib.hid hno
    clear hno bel2
    go_wp2
    go_ret2
    exact ⟨belf, .inr ⟨HNO.out, rfl⟩⟩
end Go.Proofs.YtimfcinkjjaigaaGreatDoor

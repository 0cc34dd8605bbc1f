/- What the reference's reader of blocks finds, if the bytes are a block's; in plain Lean. No condition. | Walk of the reference's Get of blocks. The condition: bytes of at most 2^28. | Plain facts of entries, marks and blocks: what stands from a mark on; one block, one list. No condition. | Walks of the reference's From and Seek of blocks. The condition: bytes of at most 2^28, keys of at most 2^63. -/
import Derived.Test.YtbcnapkbdbefhaaGreatDoorBlkV
import Derived.Test.YtbcnapkbdbefhaaGreatDoorRefBlk2
import Derived.Deep.CutRange
import Derived.Test.YtbcnapkbdbefhaaGreatDoorListsA
import Derived.Test.YtbcnapkbdbefhaaGreatDoorSCut
import Derived.Test.YtbcnapkbdbefhaaGreatDoorSeekP
namespace Go.Proofs.YtbcnapkbdbefhaaGreatDoor
open Go.RowKit

/-- no entries have these bytes -/
def NoB (b : List UInt8) : Prop := ∀ E, mayL E = true → (∀ x ∈ E, x.seq < 18446744073709551616) → blkPut E ≠ b
/-- where the places begin -/
def endB (b : List UInt8) : Nat := b.length - 2 - 2 * numB b
/-- the bytes of entries, from a place on -/
def restB (b : List UInt8) (i : Nat) : List UInt8 := (b.take (endB b)).drop i
theorem restB_add (b : List UInt8) (i k : Nat) : (restB b i).drop k = restB b (i + k) := by unfold restB; rw [List.drop_drop]
theorem restB_step {b r s : List UInt8} {i : Nat} (h : restB b i = r ++ s) : restB b (i + r.length) = s := by
  rw [← restB_add, h, List.drop_left]
/-- what the reader holds, if the bytes are those of some entries -/
def GotB (b : List UInt8) (L : List Ent) (i : Nat) (last : List UInt8) : Prop := ∀ E, mayL E = true → (∀ x ∈ E, x.seq < 18446744073709551616) → blkPut E = b →
  L.length ≤ E.length ∧ L = E.take L.length ∧ i = (bodyN E L.length).length ∧ (0 < L.length → last = (atE E (L.length - 1)).key)
theorem gotB_start (b : List UInt8) : GotB b [] 0 [] := fun E _ _ _ => ⟨Nat.zero_le _, by simp, by simp [bodyN], fun h => absurd h (by simp)⟩
theorem gotB_next {b : List UInt8} {L : List Ent} {i : Nat} {last : List UInt8} {E : List Ent} (h : GotB b L i last) (hm : mayL E = true) (hs : ∀ x ∈ E, x.seq < 18446744073709551616) (hb : blkPut E = b) (hlt : i < endB b) :
    ∃ n k1 t k2 s k3 c, vget (restB b i) = (n, k1, 0) ∧ n ≤ last.length ∧ tget (restB b (i + k1)) = (t, k2, 0) ∧ vget (restB b (i + k1 + k2)) = (s, k3, 0) ∧ i + k1 + k2 + k3 < endB b ∧ (∃ r, restB b (i + k1 + k2 + k3) = c :: r) ∧
      L.length + 1 ≤ E.length ∧ E.take (L.length + 1) = L ++ [atE E L.length] ∧ (atE E L.length).key = last.take n ++ t ∧ (atE E L.length).seq = s ∧
      (((atE E L.length).gone = true ∧ c = 1 ∧ (atE E L.length).val = [] ∧ (bodyN E (L.length + 1)).length = i + k1 + k2 + k3 + 1) ∨
       ((atE E L.length).gone = false ∧ c = 0 ∧ ∃ k4, tget (restB b (i + k1 + k2 + k3 + 1)) = ((atE E L.length).val, k4, 0) ∧ (bodyN E (L.length + 1)).length = i + k1 + k2 + k3 + 1 + k4)) := by
  obtain ⟨h1, h2, h3, h4⟩ := h E hm hs hb
  obtain ⟨c1, c2, c3⟩ := blk_cut hm hb
  have hen : (bodyN E E.length).length = endB b := by
    rw [← c3, List.length_take]
    unfold endB
    omega
  obtain ⟨k, hk⟩ : ∃ k, k = L.length := ⟨_, rfl⟩
  rw [← hk] at h1 h2 h3 h4 ⊢
  have hkl : k < E.length := by
    rcases Nat.lt_or_ge k E.length with h | h
    · exact h
    · have : k = E.length := by omega
      rw [this, hen] at h3; omega
  obtain ⟨rest, hr⟩ := body_split E (k + 1) E.length hkl
  have hD : restB b i = encAt E k ++ rest := by
    unfold restB endB
    rw [c3, hr, bodyN, List.append_assoc, h3, List.drop_left]
  have hok := ((mayL_iff E).1 hm).2 k hkl
  unfold okAt at hok
  rw [Bool.and_eq_true] at hok
  obtain ⟨f1, f2, f3⟩ := (fitE_iff _).1 hok.1
  have hsx : (atE E k).seq < 18446744073709551616 := by rw [atE_get E k hkl]; exact hs _ (List.getElem_mem hkl)
  have hk1 : 1 ≤ (atE E k).key.length ∧ (atE E k).key.length ≤ 32 := by simpa [checkK] using f1
  have hlast : k % 4 ≠ 0 → last = (atE E (k - 1)).key := fun h => h4 (by omega)
  have hn2 : alikeAt E k ≤ (atE E k).key.length := by
    unfold alikeAt; split
    · omega
    · exact alikeL_le2 _ _
  have hn1 : alikeAt E k ≤ last.length := by
    unfold alikeAt; split
    · omega
    · rename_i h; rw [hlast h]; exact alikeL_le1 _ _
  have htk : last.take (alikeAt E k) = (atE E k).key.take (alikeAt E k) := by
    unfold alikeAt; split
    · simp
    · rename_i h; rw [hlast h]; exact alikeL_take _ _
  have htake : E.take (k + 1) = L ++ [atE E k] := by
    rw [List.take_succ_eq_append_getElem hkl, ← h2, atE_get E k hkl]
  have hbody : (bodyN E (k + 1)).length = i + (encAt E k).length := by rw [bodyN, List.length_append, h3]
  unfold encAt at hD hbody
  obtain ⟨n, hn⟩ : ∃ n, n = alikeAt E k := ⟨_, rfl⟩
  rw [← hn] at hn1 hn2 htk hD hbody
  obtain ⟨x, hx⟩ : ∃ x, x = atE E k := ⟨_, rfl⟩
  rw [← hx] at hsx f1 f2 f3 hk1 hn2 htk hD htake hbody ⊢
  have hlim : (bodyN E (k + 1)).length ≤ endB b := by
    rw [← hen, hr, List.length_append]; omega
  unfold eput cutE at hD hbody
  simp only [List.append_assoc, List.cons_append] at hD
  have d1 := restB_step hD
  have d2 := restB_step d1
  have d3 := restB_step d2
  have v1 : vget (restB b i) = (n, (vint n).length, 0) := by rw [hD]; exact vget_put n (by omega) _
  have v2 : tget (restB b (i + (vint n).length)) = (x.key.drop n, (tput (x.key.drop n)).length, 0) := by rw [d1]; exact tget_tput _ _ (by rw [List.length_drop]; omega)
  have v3 : vget (restB b (i + (vint n).length + (tput (x.key.drop n)).length)) = (x.seq, (vint x.seq).length, 0) := by rw [d2]; exact vget_put _ hsx _
  simp only [List.length_append, List.length_cons] at hbody
  refine ⟨n, _, _, _, _, _, flagB x.gone, v1, hn1, v2, v3, by omega, ⟨_, d3⟩, hkl, htake, by rw [htk, List.take_append_drop], rfl, ?_⟩
  have d4 : restB b (i + (vint n).length + (tput (x.key.drop n)).length + (vint x.seq).length + 1) = (if x.gone = true then [] else tput x.val) ++ rest := by
    have := restB_step (r := [flagB x.gone]) (s := (if x.gone = true then [] else tput x.val) ++ rest) (by rw [d3]; rfl)
    exact this
  cases hg : x.gone
  · right
    rw [hg] at d4 hbody
    simp only [Bool.false_eq_true, if_false] at d4 hbody
    exact ⟨rfl, rfl, _, by rw [d4]; exact tget_tput _ _ (by omega), by rw [hbody]; omega⟩
  · left
    rw [hg] at hbody
    simp only [if_true, List.length_nil] at hbody
    exact ⟨rfl, rfl, f3 hg, by rw [hbody]; omega⟩
section
variable {b : List UInt8} {L : List Ent} {i : Nat} {last : List UInt8}
theorem noB_1 (h : GotB b L i last) (hlt : i < endB b) (hbad : (vget (restB b i)).2.2 ≠ 0 ∨ last.length < (vget (restB b i)).1) : NoB b := fun E hm hs hb => by
  obtain ⟨n, k1, t, k2, s, k3, c, a1, a2, _⟩ := gotB_next h hm hs hb hlt
  rw [a1] at hbad
  simp only [ne_eq, not_true_eq_false, false_or] at hbad
  omega
theorem noB_2 (h : GotB b L i last) (hlt : i < endB b) {n k : Nat} (h1 : vget (restB b i) = (n, k, 0)) (hbad : (tget (restB b (i + k))).2.2 ≠ 0) : NoB b := fun E hm hs hb => by
  obtain ⟨n', k1, t, k2, s, k3, c, a1, a2, a3, _⟩ := gotB_next h hm hs hb hlt
  rw [h1] at a1
  simp only [Prod.mk.injEq] at a1
  obtain ⟨rfl, rfl, _⟩ := a1
  rw [a3] at hbad
  exact hbad rfl
theorem noB_3 (h : GotB b L i last) (hlt : i < endB b) {n k : Nat} (h1 : vget (restB b i) = (n, k, 0)) {t : List UInt8} {q : Nat} (h2 : tget (restB b (i + k)) = (t, q, 0))
    (hbad : (vget (restB b (i + k + q))).2.2 ≠ 0 ∨ endB b ≤ i + k + q + (vget (restB b (i + k + q))).2.1) : NoB b := fun E hm hs hb => by
  obtain ⟨n', k1, t', k2, s, k3, c, a1, a2, a3, a4, a5, _⟩ := gotB_next h hm hs hb hlt
  rw [h1] at a1
  simp only [Prod.mk.injEq] at a1
  obtain ⟨rfl, rfl, _⟩ := a1
  rw [h2] at a3
  simp only [Prod.mk.injEq] at a3
  obtain ⟨rfl, rfl, _⟩ := a3
  rw [a4] at hbad
  simp only [ne_eq, not_true_eq_false, false_or] at hbad
  omega
theorem noB_4 (h : GotB b L i last) (hlt : i < endB b) {n k : Nat} (h1 : vget (restB b i) = (n, k, 0)) {t : List UInt8} {q : Nat} (h2 : tget (restB b (i + k)) = (t, q, 0)) {s p : Nat} (h3 : vget (restB b (i + k + q)) = (s, p, 0))
    {c : UInt8} {r : List UInt8} (hc : restB b (i + k + q + p) = c :: r) (hc1 : c ≠ 1) (hbad : (tget (restB b (i + k + q + p + 1))).2.2 ≠ 0) : NoB b := fun E hm hs hb => by
  obtain ⟨n', k1, t', k2, s', k3, c', a1, a2, a3, a4, a5, ⟨r', a6⟩, _, _, _, _, a7⟩ := gotB_next h hm hs hb hlt
  rw [h1] at a1
  simp only [Prod.mk.injEq] at a1
  obtain ⟨rfl, rfl, _⟩ := a1
  rw [h2] at a3
  simp only [Prod.mk.injEq] at a3
  obtain ⟨rfl, rfl, _⟩ := a3
  rw [h3] at a4
  simp only [Prod.mk.injEq] at a4
  obtain ⟨rfl, rfl, _⟩ := a4
  rw [hc] at a6
  simp only [List.cons.injEq] at a6
  rcases a7 with ⟨_, e, _⟩ | ⟨_, _, k4, e, _⟩
  · exact hc1 (a6.1.trans e)
  · rw [e] at hbad; exact hbad rfl
theorem gotB_more (h : GotB b L i last) (hlt : i < endB b) {n k : Nat} (h1 : vget (restB b i) = (n, k, 0)) {t : List UInt8} {q : Nat} (h2 : tget (restB b (i + k)) = (t, q, 0)) {s p : Nat} (h3 : vget (restB b (i + k + q)) = (s, p, 0))
    {c : UInt8} {r : List UInt8} (hc : restB b (i + k + q + p) = c :: r) (g : Bool) (u : List UInt8) (z : Nat) (hg : (c = 1 ∧ g = true ∧ u = [] ∧ z = 0) ∨ (c ≠ 1 ∧ g = false ∧ tget (restB b (i + k + q + p + 1)) = (u, z, 0))) :
    GotB b (L ++ [⟨last.take n ++ t, s, g, u⟩]) (i + k + q + p + 1 + z) (last.take n ++ t) := fun E hm hs hb => by
  obtain ⟨n', k1, t', k2, s', k3, c', a1, a2, a3, a4, a5, ⟨r', a6⟩, b1, b2, b3, b4, a7⟩ := gotB_next h hm hs hb hlt
  rw [h1] at a1
  simp only [Prod.mk.injEq] at a1
  obtain ⟨rfl, rfl, _⟩ := a1
  rw [h2] at a3
  simp only [Prod.mk.injEq] at a3
  obtain ⟨rfl, rfl, _⟩ := a3
  rw [h3] at a4
  simp only [Prod.mk.injEq] at a4
  obtain ⟨rfl, rfl, _⟩ := a4
  rw [hc] at a6
  simp only [List.cons.injEq] at a6
  have hx : atE E L.length = ⟨last.take n ++ t, s, g, u⟩ ∧ (bodyN E (L.length + 1)).length = i + k + q + p + 1 + z := by
    rcases hg with ⟨g1, g2, g3, g4⟩ | ⟨g1, g2, g3⟩ <;> rcases a7 with ⟨e1, e2, e3, e4⟩ | ⟨e1, e2, k4, e3, e4⟩
    · refine ⟨?_, by rw [e4, g4]⟩
      rw [← b3, ← b4, g2, g3, ← e1, ← e3]
    · exact absurd (g1.symm.trans (a6.1.trans e2)) (by decide)
    · exact absurd (a6.1.trans e2) g1
    · rw [g3] at e3
      simp only [Prod.mk.injEq] at e3
      obtain ⟨q1, q2, _⟩ := e3
      refine ⟨?_, by rw [e4, q2]⟩
      rw [← b3, ← b4, g2, q1, ← e1]
  have hlen : (L ++ [(⟨last.take n ++ t, s, g, u⟩ : Ent)]).length = L.length + 1 := by simp
  rw [hlen]
  refine ⟨b1, by rw [b2, hx.1], hx.2.symm, fun _ => ?_⟩
  show _ = (atE E (L.length + 1 - 1)).key
  rw [Nat.add_sub_cancel, hx.1]
/-- all read: these are the entries -/
theorem gotB_end (h : GotB b L i last) (hend : endB b ≤ i ∨ 64 < L.length) : (mayL L = true ∧ blkPut L = b) ∨ NoB b := by
  by_cases hy : mayL L = true ∧ blkPut L = b
  · exact .inl hy
  · right
    intro E hm hs hb
    obtain ⟨h1, h2, h3, _⟩ := h E hm hs hb
    obtain ⟨⟨_, h64⟩, _⟩ := (mayL_iff E).1 hm
    obtain ⟨c1, c2, c3⟩ := blk_cut hm hb
    have hen : (bodyN E E.length).length = endB b := by
      rw [← c3, List.length_take]
      unfold endB
      omega
    have hl : L.length = E.length := by
      rcases Nat.lt_or_ge L.length E.length with h | h
      · have := body_grows E L.length E.length h
        omega
      · omega
    rw [hl, List.take_length] at h2
    exact hy (by rw [h2]; exact ⟨hm, hb⟩)
end
end Go.Proofs.YtbcnapkbdbefhaaGreatDoor
namespace Go.Proofs.YtbcnapkbdbefhaaGreatDoor
open Go.RowKit

theorem still_all3 {P : Program} {id : Nat} {Q : Exit → Act → World → Prop} {a : Act} {w wd : World} {l : List Oper} (hm : P.follows .mixedOrders = true) (hB : Region.lexB .any l.toArray = true) (hwd : wd = w.drew)
    (h : wpStill P l.toArray wd (fun a' => Q .normal a' wd) l a) : (Code.region id l.toArray true).wp P Q a w := by
  subst hwd
  exact wp_region_still_lit hm hB h
theorem toPE_ents (l : List PE) : (entsOf l).map toPE = l := by
  unfold entsOf
  rw [List.map_map]
  conv => rhs; rw [← List.map_id l]
  refine List.map_congr_left fun x _ => ?_
  obtain ⟨k, s, g, u⟩ := x
  simp [toPE, PE.ent, entOf, bs]
theorem ents_seqs {l : List PE} (h : ∀ x ∈ l, x.s < 18446744073709551616) : ∀ x ∈ entsOf l, x.seq < 18446744073709551616 := by
  intro y hy
  obtain ⟨x, hx, rfl⟩ := List.mem_map.1 hy
  exact h x hx
theorem rd_range {w : World} {b off n c : Nat} {l : List UInt8} (h : Rd w (.slice (some ⟨b, off, none⟩) n c) l) (i j : Nat) (hij : i ≤ j) (hj : j ≤ n) : Rd w (.slice (some ⟨b, off + i, none⟩) (j - i) (c - i)) ((l.take j).drop i) := by
  obtain ⟨a', cap, e, h1, h2, h3⟩ := h
  simp only [Value.slice.injEq] at e
  obtain ⟨rfl, rfl, rfl⟩ := e
  have hlen : ((l.take j).drop i).length = j - i := by rw [List.length_drop, List.length_take]; omega
  refine ⟨_, c - i, by rw [hlen], by rw [hlen]; omega, by omega, fun k hk => ?_⟩
  rw [hlen] at hk
  obtain ⟨b', off', e, hc⟩ := h3 (i + k) (by omega)
  simp only [Option.some.injEq, Addr.mk.injEq, and_true] at e
  obtain ⟨rfl, rfl⟩ := e
  refine ⟨_, _, rfl, ?_⟩
  rw [show off + i + k = off + (i + k) from by omega, hc]
  simp
set_option maxRecDepth 100000 in
set_option maxHeartbeats 8000000 in
theorem refBlkGet_any (w : World) (v : Value) (b : List UInt8) (hv : Rd w v b) (hl : b.length ≤ 268435456) : Calls Tryz.prog 29 #[v] w (RetGetB b w) := by
  have HV := Lib.hid hv
  obtain ⟨e0, ei, ez, ez1, ez2⟩ := info_parts info_ent
  obtain ⟨va, vn, vc, rfl, hvn⟩ := rd_len hv
  have HVN := Lib.hid hvn
  rw [← hvn] at hl
  clear hvn hv
  by_cases hs : vn < 4
  · have HF : Hid (NoB b) := fun E hm _ hb => by
      have h1 := (blkPut_length E)
      obtain ⟨⟨h2, _⟩, h3⟩ := (mayL_iff E).1 hm
      have h4 := body_grows E 0 E.length h2
      rw [hb, ← HVN.out] at h1
      omega
    go_enter Tryz.func29, Tryz.ntmps29
    go_wp2
    go_ret2
    exact ⟨Below.refl _ _, .inr ⟨HF.out, rfl⟩⟩
  obtain ⟨en, hen⟩ : ∃ n, n = vn - 2 := ⟨_, rfl⟩
  have he1 : ((vn : Int) - 2) = (en : Int) := by omega
  have he2 : ((vn : Int) - 1) = ((en : Int) + 1) := by omega
  obtain ⟨a', c', e1, hvc, _, hcell⟩ := HV.out
  obtain ⟨bb, off, hae, d0⟩ := hcell en (by have := HVN.out; omega)
  obtain ⟨b2, off2, hae2, d1⟩ := hcell (en + 1) (by have := HVN.out; omega)
  simp only [Value.slice.injEq] at e1
  obtain ⟨e1, el, ec⟩ := e1
  rw [hae] at hae2
  cases hae2
  rw [hae] at e1
  subst e1
  rw [← el, ← ec] at hvc
  clear el ec hcell hae
  obtain ⟨X, hX⟩ : ∃ X, X = (b[en]'(by have := HVN.out; omega)).toNat := ⟨_, rfl⟩
  obtain ⟨Y, hY⟩ : ∃ X, X = (b[en + 1]'(by have := HVN.out; omega)).toNat := ⟨_, rfl⟩
  rw [← hX] at d0
  rw [← hY] at d1
  have hX256 : X < 256 := by rw [hX]; exact UInt8.toNat_lt _
  have hY256 : Y < 256 := by rw [hY]; exact UInt8.toNat_lt _
  have hnum : numB b = X * 256 + Y := by
    unfold numB
    rw [show b.length - 2 = en from by have := HVN.out; omega, show b.length - 1 = en + 1 from by have := HVN.out; omega, getD_at _ _ (by have := HVN.out; omega), getD_at _ _ (by have := HVN.out; omega), hX, hY]
  clear hX hY
  have HEN := Lib.hid hen
  clear hen
  obtain ⟨num, hnu⟩ : ∃ n, n = X * 256 + Y := ⟨_, rfl⟩
  rw [← hnu] at hnum
  have hnl : num < 65536 := by omega
  have HNUM := Lib.hid hnum
  clear hnum
  have hb1 : ((en : Int) + 1) < (vn : Int) := by omega
  have hb0 : ((en : Int)) < (vn : Int) := by omega
  have hwx : IntKind.i64.wrap (X : Int) = (X : Int) := IntWalk.i64_in _ (by omega)
  have hwy : IntKind.i64.wrap (Y : Int) = (Y : Int) := IntWalk.i64_in _ (by omega)
  go_enter Tryz.func29, Tryz.ntmps29
  go_upto_region 3 with (fail)
  go_quiet (fail)
  rw [show (256 : Int) * (X : Int) + (Y : Int) = (num : Int) from by omega]
  have hdw := drewN_below w nq
  have HVd := Lib.hid (HV.out.below hdw)
  have HBd := Lib.hid hdw
  generalize w.drewN nq = wd at HVd HBd ⊢
  clear hnu hX256 hY256 d0 d1 hwx hwy hdw
  obtain ⟨EI, hEI⟩ : ∃ e : Int, e = (en : Int) - 2 * (num : Int) := ⟨_, rfl⟩
  have hEw : IntKind.i64.wrap EI = EI := IntWalk.i64_in _ (by omega)
  have hEend : ∀ i : Nat, (i : Int) < EI → EI = ((endB b : Nat) : Int) ∧ i < endB b ∧ endB b + 2 ≤ vn := fun i hi => by
    unfold endB
    rw [← HVN.out, HNUM.out]
    have := HEN.out
    omega
  have hEge : ∀ i : Nat, ¬ (i : Int) < EI → endB b ≤ i := fun i hi => by
    unfold endB
    rw [← HVN.out, HNUM.out]
    have := HEN.out
    omega
  have HEE := Lib.hid hEend
  have HEG := Lib.hid hEge
  have HEI := Lib.hid hEI
  clear hEend hEge
  go_upto_region 5 with (fail)
  try rw [← hEI]
  clear hEI
  go_upto_region 8 with (fail)
  try show Code.wp _ _ _ _ _
  go_loopw [6, 7, 8] (fun o s a wr => ∃ (l : List PE) (la : Option Addr) (ln lc : Nat) (last : ByteArray) (i : Nat), o = .slice la ln lc ∧ s = .string last ∧ a = .int .i64 (i : Int) ∧ ln ≤ 65 ∧ last.size ≤ ln * 268435456 ∧ i ≤ 268435456 ∧ Hid (ln = l.length) ∧
    Hid (Own wr wd.heap.size 34 4 (.slice la ln lc) ln (pcells l)) ∧ Hid (GotB b (entsOf l) i last.data.toList) ∧ Hid (∀ x ∈ l, x.k.size ≤ 17448304640 ∧ x.s < 18446744073709551616) ∧ Hid (Below wd.heap.size wd wr) ∧ Hid (∀ q, (Value.slice la ln lc).ownBlock = some q → q < wr.heap.size)) (fun o _ _ _ => 66 - lenV o)
  case atStart => exact ⟨[], none, 0, 0, ⟨#[]⟩, 0, rfl, rfl, rfl, by omega, by simp [ByteArray.size], by omega, rfl, own_none _ _ _ _, gotB_start b, Lib.hid (fun x hx => by cases hx), Below.refl _ _, Lib.hid (fun q hq => by simp [Value.ownBlock] at hq)⟩
  case round =>
    obtain ⟨l, la, ln, lc, last, i, rfl, rfl, rfl, hl65, hlast, hi28, HLN, HOW, HGO, HXS, HBR, HLW⟩ := hrel
    by_cases hgo : (i : Int) < EI ∧ ln ≤ 64
    · obtain ⟨hg1, hg2⟩ := hgo
      obtain ⟨hEr, hir, hrv⟩ := HEE.out i hg1
      obtain ⟨r, hr⟩ : ∃ r, r = endB b := ⟨_, rfl⟩
      rw [← hr] at hEr hir hrv
      subst hEr
      have HRB := Lib.hid hr
      clear hr
      have HRDS : Hid (∀ (j : Nat), j ≤ r → ∀ w', Below wd.heap.size wd w' → Rd w' (.slice (some ⟨bb, off + j, none⟩) (r - j) (vc - j)) (restB b j)) := Lib.hid fun j hj w' hb => by
        have := rd_range (HVd.out.below hb) j r hj (by omega)
        unfold restB
        rw [← HRB.out]
        exact this
      have HRLN : Hid (∀ j, (restB b j).length = r - j) := Lib.hid fun j => by
        unfold restB
        rw [List.length_drop, List.length_take, ← HRB.out]
        have := HVN.out
        omega
      have HIR : Hid (i < endB b) := Lib.hid (by rw [← HRB.out]; exact hir)
      have hd1 : decide ((i : Int) < (r : Int)) = true := by simp; omega
      have hd1n : decide (i < r) = true := by simp; omega
      have hd2 : decide ((ln : Int) ≤ 64) = true := by simp; omega
      have hd2n : decide (ln ≤ 64) = true := by simp; omega
      have hi0 : (0 : Int) ≤ (i : Int) := by omega
      have hil : (i : Int) ≤ (r : Int) := by omega
      have hrc : (r : Int) ≤ (vc : Int) := by omega
      have hwl : IntKind.u64.wrap (last.size : Int) = (last.size : Int) := IntWalk.u64_in _ (by omega)
      obtain ⟨n, k, er, hget⟩ : ∃ n k e, vget (restB b i) = (n, k, e) := ⟨_, _, _, rfl⟩
      have HC1 : Hid (Calls Tryz.prog 97 #[.slice (some ⟨bb, off + i, none⟩) (r - i) (vc - i)] wr fun e w' => e = .returned (.tuple #[.int .u64 n, .int .i64 k, .int .i64 er]) ∧ wr = w') := Lib.hid (by
        have h := refGet_any _ (restB b i) wr (HRDS.out i (by omega) wr HBR.out)
        unfold RetGet at h
        rwa [hget] at h)
      have HGET := Lib.hid hget
      clear hget
      go_wp2_with fail
      refine HC1.out.mono ?_
      rintro e w' ⟨rfl, rfl⟩
      clear HC1 hd1 hd1n hd2 hd2n
      by_cases her : er = 0
      case neg =>
        have hde : ((er : Int) != 0) = true := by simp; omega
        have HF : Hid (NoB b) := Lib.hid (noB_1 HGO.out HIR.out (.inl (by rw [HGET.out]; exact her)))
        have HBF : Hid (Below w.heap.size w _) := Lib.hid (HBd.out.trans (HBR.out.mono HBd.out.size))
        go_wp2_with fail
        go_ret2
        exact ⟨HBF.out, .inr ⟨HF.out, rfl⟩⟩
      subst her
      by_cases hln : last.size < n
      · have hdn : decide ((last.size : Int) < (n : Int)) = true := by simp; omega
        have hdnn : decide (last.size < n) = true := by simp; omega
        have HF : Hid (NoB b) := Lib.hid (noB_1 HGO.out HIR.out (.inr (by rw [HGET.out, size_data]; exact hln)))
        have HBF : Hid (Below w.heap.size w _) := Lib.hid (HBd.out.trans (HBR.out.mono HBd.out.size))
        go_wp2_with fail
        go_ret2
        exact ⟨HBF.out, .inr ⟨HF.out, rfl⟩⟩
      have hdn : decide ((last.size : Int) < (n : Int)) = false := by simp; omega
      have hdnn : decide (last.size < n) = false := by simp; omega
      obtain ⟨hn64, hk1, hkr, hk10, -⟩ := vget_got HGET.out
      rw [HRLN.out] at hkr
      obtain ⟨i1, hi1⟩ : ∃ j, j = i + k := ⟨_, rfl⟩
      have hi1r : i1 ≤ r := by omega
      have hi1e : (i : Int) + (k : Int) = (i1 : Int) := by omega
      have hi1w : IntKind.i64.wrap (i1 : Int) = (i1 : Int) := IntWalk.i64_in _ (by omega)
      have hi10 : (0 : Int) ≤ (i1 : Int) := by omega
      have hi1l : (i1 : Int) ≤ (r : Int) := by omega
      have hi1c : (i1 : Int) < (vc : Int) := by omega
      have hi1n : i1 < vc := by omega
      have hi1z : ¬ vc - i1 = 0 := by omega
      obtain ⟨t, q, et, htg⟩ : ∃ n k e, tget (restB b i1) = (n, k, e) := ⟨_, _, _, rfl⟩
      have HC2 : Hid (Calls Tryz.prog 98 #[.slice (some ⟨bb, off + i1, none⟩) (r - i1) (vc - i1)] wr fun e w' => e = .returned (.tuple #[.string (bs t), .int .i64 q, .int .i64 et]) ∧ wr = w') := Lib.hid (by
        have h := refGetText_any _ (restB b i1) wr (HRDS.out i1 hi1r wr HBR.out)
        unfold RetText at h
        rwa [htg] at h)
      have HTG := Lib.hid htg
      have HI1 := Lib.hid hi1
      clear htg hi1
      go_wp2_with fail
      refine HC2.out.mono ?_
      rintro e w' ⟨rfl, rfl⟩
      clear HC2 hdn hdnn hi1e
      by_cases het : et = 0
      case neg =>
        have hde : ((et : Int) != 0) = true := by simp; omega
        have HF : Hid (NoB b) := Lib.hid (noB_2 HGO.out HIR.out HGET.out (by rw [← HI1.out, HTG.out]; exact het))
        have HBF : Hid (Below w.heap.size w _) := Lib.hid (HBd.out.trans (HBR.out.mono HBd.out.size))
        go_wp2_with fail
        go_ret2
        exact ⟨HBF.out, .inr ⟨HF.out, rfl⟩⟩
      subst het
      obtain ⟨hq1, hqr, ht64, htq, -⟩ := tget_got HTG.out
      rw [HRLN.out] at hqr
      obtain ⟨i2, hi2⟩ : ∃ j, j = i1 + q := ⟨_, rfl⟩
      have hi2r : i2 ≤ r := by omega
      have hi2e : (i1 : Int) + (q : Int) = (i2 : Int) := by omega
      have hi2w : IntKind.i64.wrap (i2 : Int) = (i2 : Int) := IntWalk.i64_in _ (by omega)
      have hi20 : (0 : Int) ≤ (i2 : Int) := by omega
      have hi2l : (i2 : Int) ≤ (r : Int) := by omega
      have hi2c : (i2 : Int) < (vc : Int) := by omega
      have hi2n : i2 < vc := by omega
      have hi2z : ¬ vc - i2 = 0 := by omega
      have hn0 : (0 : Int) ≤ (n : Int) := by omega
      have hnls : (n : Int) ≤ (last.size : Int) := by omega
      have HI2 := Lib.hid hi2
      clear hi2
      have hts : (bs t).size ≤ 268435456 := by rw [bs_size]; omega
      have hcat : min n last.size + (bs t).size ≤ 9223372036854775807 := by omega
      go_upto_region 18 with (fail)
      clear hcat
      obtain ⟨K, hK⟩ : ∃ x, x = last.extract 0 n ++ bs t := ⟨_, rfl⟩
      have hKD : K.data.toList = last.data.toList.take n ++ t := by
        rw [hK]
        have h1 : (last.extract 0 n).data.toList = last.data.toList.take n := by simp
        rw [ByteArray.data_append, Array.toList_append, h1, bs_data]
      have hKS : K.size ≤ (ln + 1) * 268435456 := by
        rw [hK, ByteArray.size_append, ByteArray.size_extract]; omega
      have HKD := Lib.hid hKD
      rw [← hK]
      clear hK hKD
      have hX : Blk (wr.alloc (.cells #[.string K, .int .u64 0, .bool false, .string ⟨#[]⟩] 34)) wr.heap.size #[.string K, .int .u64 0, .bool false, .string ⟨#[]⟩] 34 := Blk.new _ _ _
      have hBW : Below wr.heap.size wr (wr.alloc (.cells #[.string K, .int .u64 0, .bool false, .string ⟨#[]⟩] 34)) := (Below.refl _ _).alloc (Nat.le_refl _) _
      have HX := Lib.hid hX
      have HBW := Lib.hid (HBR.out.trans (hBW.mono HBR.out.size))
      have HOX := Lib.hid (own_below HOW.out hBW)
      have HWS : Hid (wd.heap.size ≤ wr.heap.size) := HBR.out.size
      have HGX : Hid (wr.heap.size < (wr.alloc (.cells #[.string K, .int .u64 0, .bool false, .string ⟨#[]⟩] 34)).heap.size) := HX.out.lt
      clear hX hBW
      generalize wr.alloc (.cells #[.string K, .int .u64 0, .bool false, .string ⟨#[]⟩] 34) = W at HX HBW HOX HGX ⊢
      obtain ⟨g, hg⟩ : ∃ g, g = wr.heap.size := ⟨_, rfl⟩
      rw [← hg] at HX HGX HWS HLW ⊢
      clear hg
      obtain ⟨s, p, es, hsg⟩ : ∃ n k e, vget (restB b i2) = (n, k, e) := ⟨_, _, _, rfl⟩
      have HC3 : Hid (Calls Tryz.prog 97 #[.slice (some ⟨bb, off + i2, none⟩) (r - i2) (vc - i2)] W fun e w' => e = .returned (.tuple #[.int .u64 s, .int .i64 p, .int .i64 es]) ∧ W = w') := Lib.hid (by
        have h := refGet_any _ (restB b i2) W (HRDS.out i2 hi2r W HBW.out)
        unfold RetGet at h
        rwa [hsg] at h)
      have HSG := Lib.hid hsg
      clear hsg hi2e
      have f0 := HX.out.free 1
      have x1 := HX.out.cellv 1 (.int .u64 0) rfl
      go_wp2_with fail
      refine HC3.out.mono ?_
      rintro e w' ⟨rfl, rfl⟩
      clear HC3
      go_upto_region 19 with (fail)
      clear f0 x1
      have hO1 := Only.set W g 1 (.int .u64 (s : Nat))
      have HX1 : Hid (Blk (W.setCell ⟨g, 1, none⟩ (.int .u64 (s : Nat))) g #[.string K, .int .u64 s, .bool false, .string ⟨#[]⟩] 34) := Lib.hid (HX.out.set 1 _)
      have HOX1 : Hid (Own (W.setCell ⟨g, 1, none⟩ (.int .u64 (s : Nat))) wd.heap.size 34 4 (.slice la ln lc) ln (pcells l)) := Lib.hid (own_kept HOX.out hO1 (.inr fun e => by have := HLW.out _ e; omega))
      have HBW1 : Hid (Below wd.heap.size wd (W.setCell ⟨g, 1, none⟩ (.int .u64 (s : Nat)))) := Lib.hid (Only.below HBW.out hO1 HWS.out HBW.out.size)
      clear hO1 HX HOX HBW HGX
      generalize W.setCell ⟨g, 1, none⟩ (.int .u64 (s : Nat)) = W1 at HX1 HOX1 HBW1 ⊢
      by_cases hes : es = 0
      case neg =>
        have hde : ((es : Int) != 0) = true := by simp; omega
        have HF : Hid (NoB b) := Lib.hid (noB_3 HGO.out HIR.out HGET.out (by rw [← HI1.out]; exact HTG.out) (.inl (by rw [← HI1.out, ← HI2.out, HSG.out]; exact hes)))
        have HBF : Hid (Below w.heap.size w _) := Lib.hid (HBd.out.trans (HBW1.out.mono HBd.out.size))
        go_wp2_with fail
        go_ret2
        exact ⟨HBF.out, .inr ⟨HF.out, rfl⟩⟩
      subst hes
      by_cases hpe : r ≤ i2 + p
      · have hpe1 : (r : Int) ≤ (i2 : Int) + (p : Int) := by omega
        have hpw : IntKind.i64.wrap ((i2 : Int) + (p : Int)) = (i2 : Int) + (p : Int) := IntWalk.i64_in _ (by obtain ⟨_, _, h, _⟩ := vget_got HSG.out; rw [HRLN.out] at h; omega)
        have hpd : decide ((r : Int) ≤ (i2 : Int) + (p : Int)) = true := decide_eq_true hpe1
        have HF : Hid (NoB b) := Lib.hid (noB_3 HGO.out HIR.out HGET.out (by rw [← HI1.out]; exact HTG.out) (.inr (by rw [← HI1.out, ← HI2.out, HSG.out, ← HRB.out]; exact hpe)))
        have HBF : Hid (Below w.heap.size w _) := Lib.hid (HBd.out.trans (HBW1.out.mono HBd.out.size))
        go_wp2_with fail
        go_ret2
        exact ⟨HBF.out, .inr ⟨HF.out, rfl⟩⟩
      obtain ⟨hs64, hp1, hpr, hp10, -⟩ := vget_got HSG.out
      rw [HRLN.out] at hpr
      obtain ⟨i3, hi3⟩ : ∃ j, j = i2 + p := ⟨_, rfl⟩
      have hi3r : i3 < r := by omega
      have hi3e : (i2 : Int) + (p : Int) = (i3 : Int) := by omega
      have hi3w : IntKind.i64.wrap (i3 : Int) = (i3 : Int) := IntWalk.i64_in _ (by omega)
      have hi3d : decide ((r : Int) ≤ (i3 : Int)) = false := by simp; omega
      have hi3d2 : decide (r ≤ i3) = false := by simp; omega
      have hi30 : (0 : Int) ≤ (i3 : Int) := by omega
      have hi3v : (i3 : Int) < (vn : Int) := by omega
      have HI3 := Lib.hid hi3
      clear hi3 hpe
      obtain ⟨c, hcc, hcb⟩ : ∃ c : UInt8, (∃ rest, restB b i3 = c :: rest) ∧ ∀ w', Below wd.heap.size wd w' → w'.cell? ⟨bb, off + i3, none⟩ = some (.int .u8 (c.toNat : Nat)) := by
        have hlb : i3 < b.length := by rw [← HVN.out]; omega
        refine ⟨b[i3], ⟨_, by unfold restB; rw [← HRB.out, List.drop_eq_getElem_cons (by rw [List.length_take]; omega), List.getElem_take]⟩, fun w' hb => ?_⟩
        obtain ⟨a2, c2, e2, _, _, hc2⟩ := HVd.out.below hb
        obtain ⟨b3, off3, e3, hc3⟩ := hc2 i3 hlb
        simp only [Value.slice.injEq] at e2
        rw [e3] at e2
        simp only [Option.some.injEq, Addr.mk.injEq, and_true] at e2
        obtain ⟨⟨rfl, rfl⟩, _⟩ := e2
        exact hc3
      have HCC := Lib.hid hcc
      obtain ⟨crest, hcr⟩ := hcc
      have HCR := Lib.hid hcr
      have HCB := Lib.hid hcb
      have hbyte := hcb W1 HBW1.out
      clear hcr hcb
      obtain ⟨d, hdc⟩ : ∃ d, d = c.toNat := ⟨_, rfl⟩
      rw [← hdc] at hbyte
      have hd256 : d < 256 := by rw [hdc]; exact UInt8.toNat_lt _
      have HDC := Lib.hid hdc
      clear hdc
      have x2 := HX1.out.cellv 2 (.bool false) rfl
      have f2 := HX1.out.free 2
      obtain ⟨gg, hgg⟩ : ∃ gg : Bool, ((d : Int) == 1) = gg := ⟨_, rfl⟩
      have HGG := Lib.hid hgg
      go_upto_region 23 with (fail)
      clear hi3e hi3d hi3d2 hbyte x2 f2 hgg
      have hO2 := Only.set W1 g 2 (.bool gg)
      have HX2 : Hid (Blk (W1.setCell ⟨g, 2, none⟩ (.bool gg)) g #[.string K, .int .u64 s, .bool gg, .string ⟨#[]⟩] 34) := Lib.hid (HX1.out.set 2 _)
      have HOX2 : Hid (Own (W1.setCell ⟨g, 2, none⟩ (.bool gg)) wd.heap.size 34 4 (.slice la ln lc) ln (pcells l)) := Lib.hid (own_kept HOX1.out hO2 (.inr fun e => by have := HLW.out _ e; omega))
      have HBW2 : Hid (Below wd.heap.size wd (W1.setCell ⟨g, 2, none⟩ (.bool gg))) := Lib.hid (Only.below HBW1.out hO2 HWS.out HBW1.out.size)
      clear hO2 HX1 HOX1 HBW1
      generalize W1.setCell ⟨g, 2, none⟩ (.bool gg) = W2 at HX2 HOX2 HBW2 ⊢
      obtain ⟨i4, hi4⟩ : ∃ j, j = i3 + 1 := ⟨_, rfl⟩
      have hi4r : i4 ≤ r := by omega
      have hi4e : (i3 : Int) + 1 = (i4 : Int) := by omega
      have hi4w : IntKind.i64.wrap (i4 : Int) = (i4 : Int) := IntWalk.i64_in _ (by omega)
      have hi40 : (0 : Int) ≤ (i4 : Int) := by omega
      have hi4l : (i4 : Int) ≤ (r : Int) := by omega
      have hi4c : (i4 : Int) < (vc : Int) := by omega
      have hi4n : i4 < vc := by omega
      have hi4z : ¬ vc - i4 = 0 := by omega
      have HI4 := Lib.hid hi4
      clear hi4
      have g2 := HX2.out.cellv 2 (.bool gg) rfl
      have q0 := HX2.out.cellv 0 (.string K) rfl
      cases gg
      case true =>
        have hc1 : c = 1 := by
          have h := HGG.out
          rw [beq_iff_eq] at h
          refine UInt8.toNat_inj.1 ?_
          rw [← HDC.out]
          show d = 1
          omega
        have HC1 := Lib.hid hc1
        clear hc1
        go_upto_region 30 with (fail)
        have HGB : Hid (GotB b (entsOf (l ++ [⟨K, s, true, ⟨#[]⟩⟩])) i4 K.data.toList) := Lib.hid (by
          obtain ⟨rest, hrest⟩ := HCC.out
          have h := gotB_more HGO.out HIR.out HGET.out (by rw [← HI1.out]; exact HTG.out) (by rw [← HI1.out, ← HI2.out]; exact HSG.out) (by rw [← HI1.out, ← HI2.out, ← HI3.out]; exact hrest) true [] 0 (.inl ⟨HC1.out, rfl, rfl, rfl⟩)
          rw [← HKD.out] at h
          have e : entsOf (l ++ [⟨K, s, true, ⟨#[]⟩⟩]) = entsOf l ++ [⟨K.data.toList, s, true, []⟩] := by simp [entsOf, PE.ent, entOf]
          have hi : i + k + q + p + 1 + 0 = i4 := by have := HI4.out; have := HI1.out; have := HI2.out; have := HI3.out; omega
          rw [e, ← hi]
          exact h)
        have y0 := HX2.out.cellv 0 (.string K) rfl
        have y1 := HX2.out.cellv 1 (.int .u64 (s : Nat)) rfl
        have y2 := HX2.out.cellv 2 (.bool true) rfl
        have y3 := HX2.out.cellv 3 (.string ⟨#[]⟩) rfl
        have hal : Below W2.heap.size W2 (W2.alloc (.cells #[.string K, .int .u64 s, .bool true, .string ⟨#[]⟩] 34)) := (Below.refl _ _).alloc (Nat.le_refl _) _
        have HOY := Lib.hid (own_below HOX2.out hal)
        have HBY := Lib.hid (HBW2.out.trans (hal.mono HBW2.out.size))
        have HRY := Lib.hid (reads_ent W2 ⟨K, s, true, ⟨#[]⟩⟩ 34)
        have HXN : Hid (∀ x ∈ l ++ [(⟨K, s, true, ⟨#[]⟩⟩ : PE)], x.k.size ≤ 17448304640 ∧ x.s < 18446744073709551616) := Lib.hid fun x hx => by
          rcases List.mem_append.1 hx with h | h
          · exact HXS.out x h
          · rw [List.mem_singleton.1 h]; exact ⟨by show K.size ≤ _; omega, hs64⟩
        have HLN2 : Hid (ln + 1 = (l ++ [(⟨K, s, true, ⟨#[]⟩⟩ : PE)]).length) := Lib.hid (by rw [List.length_append, ← HLN.out]; rfl)
        clear hal
        go_wp2_with (at_builtin; go_loud (refine wp_app_el2 rfl _ _ rfl Tryz.underlying29 ei ez ez1 ez2 rfl (by omega) wd.heap.size ln 1 (.slice la ln lc) _ (pcells l) (pcell ⟨K, s, true, ⟨#[]⟩⟩) (pcells (l ++ [⟨K, s, true, ⟨#[]⟩⟩])) (ln + 1) rfl rfl HOY.out HRY.out (fun u hu => one_pcells [⟨K, s, true, ⟨#[]⟩⟩] u (by simpa [pcells] using hu)) rfl (by rw [pcells_app]; simp [pcells]) (by omega) (by omega) HBY.out.size ?_); intro ua uc w9 HX9 HG9)
        have HBZ := Lib.hid (HBY.out.trans HG9.out.below)
        have HLZ : Hid (∀ q, (Value.slice ua (ln + 1) uc).ownBlock = some q → q < w9.heap.size) := Lib.hid fun q hq => (own_lt HX9.out (Nat.succ_pos _) q hq).2
        go_roundw
        case rel => exact ⟨l ++ [⟨K, s, true, ⟨#[]⟩⟩], ua, ln + 1, uc, K, i4, rfl, rfl, rfl, by omega, hKS, by omega, HLN2, HX9, HGB, HXN, HBZ, HLZ⟩
        case measure => simp [lenV]; omega
      case false =>
        have hc1 : c ≠ 1 := by
          intro h
          have h2 := HGG.out
          rw [HDC.out, h] at h2
          exact absurd h2 (by decide)
        have HC1 := Lib.hid hc1
        clear hc1
        obtain ⟨u, z, eu, hug⟩ : ∃ n k e, tget (restB b i4) = (n, k, e) := ⟨_, _, _, rfl⟩
        have HC4 : Hid (Calls Tryz.prog 98 #[.slice (some ⟨bb, off + i4, none⟩) (r - i4) (vc - i4)] W2 fun e w' => e = .returned (.tuple #[.string (bs u), .int .i64 z, .int .i64 eu]) ∧ W2 = w') := Lib.hid (by
          have h := refGetText_any _ (restB b i4) W2 (HRDS.out i4 hi4r W2 HBW2.out)
          unfold RetText at h
          rwa [hug] at h)
        have HUG := Lib.hid hug
        have x3 := HX2.out.cellv 3 (.string ⟨#[]⟩) rfl
        have f3 := HX2.out.free 3
        clear hug
        go_wp2_with fail
        refine HC4.out.mono ?_
        rintro e w' ⟨rfl, rfl⟩
        clear HC4
        go_upto_region 26 with (fail)
        clear x3 f3 q0 g2 hi4e
        have hO3 := Only.set W2 g 3 (.string (bs u))
        have HX3 : Hid (Blk (W2.setCell ⟨g, 3, none⟩ (.string (bs u))) g #[.string K, .int .u64 s, .bool false, .string (bs u)] 34) := Lib.hid (HX2.out.set 3 _)
        have HOX3 : Hid (Own (W2.setCell ⟨g, 3, none⟩ (.string (bs u))) wd.heap.size 34 4 (.slice la ln lc) ln (pcells l)) := Lib.hid (own_kept HOX2.out hO3 (.inr fun e => by have := HLW.out _ e; omega))
        have HBW3 : Hid (Below wd.heap.size wd (W2.setCell ⟨g, 3, none⟩ (.string (bs u)))) := Lib.hid (Only.below HBW2.out hO3 HWS.out HBW2.out.size)
        clear hO3 HX2 HOX2 HBW2
        generalize W2.setCell ⟨g, 3, none⟩ (.string (bs u)) = W3 at HX3 HOX3 HBW3 ⊢
        by_cases heu : eu = 0
        case neg =>
          have hde : ((eu : Int) != 0) = true := by simp; omega
          have HF : Hid (NoB b) := Lib.hid (noB_4 HGO.out HIR.out HGET.out (by rw [← HI1.out]; exact HTG.out) (by rw [← HI1.out, ← HI2.out]; exact HSG.out) (by rw [← HI1.out, ← HI2.out, ← HI3.out]; exact HCR.out) HC1.out (by rw [← HI1.out, ← HI2.out, ← HI3.out, ← HI4.out, HUG.out]; exact heu))
          have HBF : Hid (Below w.heap.size w _) := Lib.hid (HBd.out.trans (HBW3.out.mono HBd.out.size))
          go_wp2_with fail
          go_ret2
          exact ⟨HBF.out, .inr ⟨HF.out, rfl⟩⟩
        subst heu
        obtain ⟨hz1, hzr, hu64, huz, -⟩ := tget_got HUG.out
        rw [HRLN.out] at hzr
        obtain ⟨i5, hi5⟩ : ∃ j, j = i4 + z := ⟨_, rfl⟩
        have hi5r : i5 ≤ r := by omega
        have hi5e : (i4 : Int) + (z : Int) = (i5 : Int) := by omega
        have hi5w : IntKind.i64.wrap (i5 : Int) = (i5 : Int) := IntWalk.i64_in _ (by omega)
        have HI5 := Lib.hid hi5
        have q0 := HX3.out.cellv 0 (.string K) rfl
        clear hi5
        go_upto_region 30 with (fail)
        have HGB : Hid (GotB b (entsOf (l ++ [⟨K, s, false, (bs u)⟩])) i5 K.data.toList) := Lib.hid (by
          obtain ⟨rest, hrest⟩ := HCC.out
          have h := gotB_more HGO.out HIR.out HGET.out (by rw [← HI1.out]; exact HTG.out) (by rw [← HI1.out, ← HI2.out]; exact HSG.out) (by rw [← HI1.out, ← HI2.out, ← HI3.out]; exact hrest) false u z (.inr ⟨HC1.out, rfl, by rw [← HI1.out, ← HI2.out, ← HI3.out, ← HI4.out]; exact HUG.out⟩)
          rw [← HKD.out] at h
          have e : entsOf (l ++ [⟨K, s, false, (bs u)⟩]) = entsOf l ++ [⟨K.data.toList, s, false, u⟩] := by simp [entsOf, PE.ent, entOf, bs_data]
          have hi : i + k + q + p + 1 + z = i5 := by have := HI5.out; have := HI4.out; have := HI1.out; have := HI2.out; have := HI3.out; omega
          rw [e, ← hi]
          exact h)
        have y0 := HX3.out.cellv 0 (.string K) rfl
        have y1 := HX3.out.cellv 1 (.int .u64 (s : Nat)) rfl
        have y2 := HX3.out.cellv 2 (.bool false) rfl
        have y3 := HX3.out.cellv 3 (.string (bs u)) rfl
        have hal : Below W3.heap.size W3 (W3.alloc (.cells #[.string K, .int .u64 s, .bool false, .string (bs u)] 34)) := (Below.refl _ _).alloc (Nat.le_refl _) _
        have HOY := Lib.hid (own_below HOX3.out hal)
        have HBY := Lib.hid (HBW3.out.trans (hal.mono HBW3.out.size))
        have HRY := Lib.hid (reads_ent W3 ⟨K, s, false, (bs u)⟩ 34)
        have HXN : Hid (∀ x ∈ l ++ [(⟨K, s, false, (bs u)⟩ : PE)], x.k.size ≤ 17448304640 ∧ x.s < 18446744073709551616) := Lib.hid fun x hx => by
          rcases List.mem_append.1 hx with h | h
          · exact HXS.out x h
          · rw [List.mem_singleton.1 h]; exact ⟨by show K.size ≤ _; omega, hs64⟩
        have HLN2 : Hid (ln + 1 = (l ++ [(⟨K, s, false, (bs u)⟩ : PE)]).length) := Lib.hid (by rw [List.length_append, ← HLN.out]; rfl)
        clear hal
        go_wp2_with (at_builtin; go_loud (refine wp_app_el2 rfl _ _ rfl Tryz.underlying29 ei ez ez1 ez2 rfl (by omega) wd.heap.size ln 1 (.slice la ln lc) _ (pcells l) (pcell ⟨K, s, false, (bs u)⟩) (pcells (l ++ [⟨K, s, false, (bs u)⟩])) (ln + 1) rfl rfl HOY.out HRY.out (fun y hy => one_pcells [⟨K, s, false, (bs u)⟩] y (by simpa [pcells] using hy)) rfl (by rw [pcells_app]; simp [pcells]) (by omega) (by omega) HBY.out.size ?_); intro ua uc w9 HX9 HG9)
        have HBZ := Lib.hid (HBY.out.trans HG9.out.below)
        have HLZ : Hid (∀ q, (Value.slice ua (ln + 1) uc).ownBlock = some q → q < w9.heap.size) := Lib.hid fun q hq => (own_lt HX9.out (Nat.succ_pos _) q hq).2
        go_roundw
        case rel => exact ⟨l ++ [⟨K, s, false, (bs u)⟩], ua, ln + 1, uc, K, i5, rfl, rfl, rfl, by omega, hKS, by omega, HLN2, HX9, HGB, HXN, HBZ, HLZ⟩
        case measure => simp [lenV]; omega
    · by_cases hlt : (i : Int) < EI
      · have hg2 : ¬ ln ≤ 64 := fun h => hgo ⟨hlt, h⟩
        have hd1 : decide ((i : Int) < EI) = true := by simp; omega
        have hd2 : decide ((ln : Int) ≤ 64) = false := by simp; omega
        have hd2n : decide (ln ≤ 64) = false := by simp; omega
        clear hgo
        have HEND : Hid ((mayL (entsOf l) = true ∧ blkPut (entsOf l) = b) ∨ NoB b) := Lib.hid (gotB_end HGO.out (.inr (by rw [entsOf_length, ← HLN.out]; omega)))
        have HPUT := Lib.hid (refBlkPut_any wr _ l (rdE_of (reads_of_own HOW.out)).2 (fun x hx => Nat.le_trans (HXS.out x hx).1 (by decide)) (fun x hx => (HXS.out x hx).2))
        go_wp2_with fail
        refine HPUT.out.mono ?_
        rintro e w4 ⟨bel4, ⟨hm, fa, fn, fc, rfl, HFN, HFO⟩ | ⟨hm, rfl⟩⟩
        · have HB4 := Lib.hid (HBd.out.trans ((HBR.out.trans (bel4.mono HBR.out.size)).mono HBd.out.size))
          have HV4 := Lib.hid (HVd.out.below (HBR.out.trans (bel4.mono HBR.out.size)))
          have HO4 := Lib.hid (own_below HOW.out bel4)
          have HM := Lib.hid hm
          clear bel4 hm HPUT HOW
          have kx := run_str (rd_of_own HFO.out).2
          have ky := run_str HV4.out
          clear HFO HV4
          by_cases hsame : blkPut (entsOf l) = b
          · have HSA := Lib.hid hsame
            rw [hsame] at kx
            clear hsame HEND
            generalize bs b = sx at kx ky
            go_upto_region 32 with (fail)
            go_wp2_with fail
            go_ret2
            have HPC : Hid (pcells ((entsOf l).map toPE) = pcells l) := Lib.hid (by rw [toPE_ents])
            exact ⟨HB4.out, .inl ⟨entsOf l, HM.out, ents_seqs (fun x hx => (HXS.out x hx).2), HSA.out, la, ln, lc, rfl, by rw [entsOf_length]; exact HLN.out, by rw [HPC.out]; exact own_mono HO4.out HBd.out.size⟩⟩
          · have HF : Hid (NoB b) := Lib.hid (HEND.out.elim (fun h => absurd h.2 hsame) id)
            have hne : ((bs (blkPut (entsOf l))).toList == (bs b).toList) = false := by
              rw [Lib.toList_data, Lib.toList_data, bs_data, bs_data, beq_eq_false_iff_ne]
              exact hsame
            clear hsame HEND
            generalize bs b = sx at kx ky hne
            generalize bs (blkPut (entsOf l)) = sy at kx hne
            go_upto_region 32 with (fail)
            go_wp2_with fail
            go_ret2
            exact ⟨HB4.out, .inr ⟨HF.out, rfl⟩⟩
        · have HB4 := Lib.hid (HBd.out.trans ((HBR.out.trans (bel4.mono HBR.out.size)).mono HBd.out.size))
          have HF : Hid (NoB b) := Lib.hid (HEND.out.elim (fun h => by rw [hm] at h; exact absurd h.1 (by decide)) id)
          clear bel4 hm HPUT HEND
          go_wp2_with fail
          go_ret2
          exact ⟨HB4.out, .inr ⟨HF.out, rfl⟩⟩
      · have hd1 : decide ((i : Int) < EI) = false := by simp; omega
        clear hgo
        have HEND : Hid ((mayL (entsOf l) = true ∧ blkPut (entsOf l) = b) ∨ NoB b) := Lib.hid (gotB_end HGO.out (.inl (HEG.out i (by omega))))
        have HPUT := Lib.hid (refBlkPut_any wr _ l (rdE_of (reads_of_own HOW.out)).2 (fun x hx => Nat.le_trans (HXS.out x hx).1 (by decide)) (fun x hx => (HXS.out x hx).2))
        go_wp2_with fail
        refine HPUT.out.mono ?_
        rintro e w4 ⟨bel4, ⟨hm, fa, fn, fc, rfl, HFN, HFO⟩ | ⟨hm, rfl⟩⟩
        · have HB4 := Lib.hid (HBd.out.trans ((HBR.out.trans (bel4.mono HBR.out.size)).mono HBd.out.size))
          have HV4 := Lib.hid (HVd.out.below (HBR.out.trans (bel4.mono HBR.out.size)))
          have HO4 := Lib.hid (own_below HOW.out bel4)
          have HM := Lib.hid hm
          clear bel4 hm HPUT HOW
          have kx := run_str (rd_of_own HFO.out).2
          have ky := run_str HV4.out
          clear HFO HV4
          by_cases hsame : blkPut (entsOf l) = b
          · have HSA := Lib.hid hsame
            rw [hsame] at kx
            clear hsame HEND
            generalize bs b = sx at kx ky
            go_upto_region 32 with (fail)
            go_wp2_with fail
            go_ret2
            have HPC : Hid (pcells ((entsOf l).map toPE) = pcells l) := Lib.hid (by rw [toPE_ents])
            exact ⟨HB4.out, .inl ⟨entsOf l, HM.out, ents_seqs (fun x hx => (HXS.out x hx).2), HSA.out, la, ln, lc, rfl, by rw [entsOf_length]; exact HLN.out, by rw [HPC.out]; exact own_mono HO4.out HBd.out.size⟩⟩
          · have HF : Hid (NoB b) := Lib.hid (HEND.out.elim (fun h => absurd h.2 hsame) id)
            have hne : ((bs (blkPut (entsOf l))).toList == (bs b).toList) = false := by
              rw [Lib.toList_data, Lib.toList_data, bs_data, bs_data, beq_eq_false_iff_ne]
              exact hsame
            clear hsame HEND
            generalize bs b = sx at kx ky hne
            generalize bs (blkPut (entsOf l)) = sy at kx hne
            go_upto_region 32 with (fail)
            go_wp2_with fail
            go_ret2
            exact ⟨HB4.out, .inr ⟨HF.out, rfl⟩⟩
        · have HB4 := Lib.hid (HBd.out.trans ((HBR.out.trans (bel4.mono HBR.out.size)).mono HBd.out.size))
          have HF : Hid (NoB b) := Lib.hid (HEND.out.elim (fun h => by rw [hm] at h; exact absurd h.1 (by decide)) id)
          clear bel4 hm HPUT HEND
          go_wp2_with fail
          go_ret2
          exact ⟨HB4.out, .inr ⟨HF.out, rfl⟩⟩
end Go.Proofs.YtbcnapkbdbefhaaGreatDoor
namespace Go.Proofs.YtbcnapkbdbefhaaGreatDoor
open Go.RowKit

theorem rise_from {E : List Ent} (hm : mayL E = true) (m : Mk) (q : Nat) (hq : 0 ≤ cmpK (mkOf (atE E q)) m) (i : Nat) (h1 : q ≤ i) (h2 : i < E.length) : 0 ≤ cmpK (mkOf (atE E i)) m := by
  induction i with
  | zero => obtain rfl : q = 0 := by omega
            exact hq
  | succ i ih =>
    by_cases e : q = i + 1
    · rw [← e]; exact hq
    · have hi := ih (by omega) (by omega)
      have hok := ((mayL_iff E).1 hm).2 (i + 1) h2
      unfold okAt at hok
      simp only [Bool.and_eq_true, Bool.or_eq_true, beq_iff_eq, decide_eq_true_eq, Nat.add_sub_cancel] at hok
      have hlt : cmpK (mkOf (atE E i)) (mkOf (atE E (i + 1))) < 0 := by
        rcases hok.2 with h | h
        · omega
        · exact h
      by_cases hn : cmpK (mkOf (atE E (i + 1))) m < 0
      · have := cmpK_tr (mkOf (atE E i)) (mkOf (atE E (i + 1))) m (by omega) (by omega)
        have h0 := this.2.1 (by omega)
        omega
      · omega
theorem seek_all {E : List Ent} (hm : mayL E = true) (k : List UInt8) (s : Nat) (g : Bool) (i : Nat) (hi : i < E.length) : (cmpM (atE E i).key (atE E i).seq (atE E i).gone k s g < 0) ↔ i < seekAt k s g E := by
  constructor
  · intro h
    by_cases hq : i < seekAt k s g E
    · exact hq
    · have h1 := seekAt_at k s g E (by omega)
      have := rise_from hm ⟨k, s, g⟩ (seekAt k s g E) h1 i (by omega) hi
      have h2 : cmpK (mkOf (atE E i)) ⟨k, s, g⟩ < 0 := h
      omega
  · exact seekAt_lt k s g E i
theorem fromE_seek {E : List Ent} (hm : mayL E = true) (k : List UInt8) (s : Nat) (g : Bool) : E.filter (fromE k s g) = E.drop (seekAt k s g E) := by
  have hq := seekAt_le k s g E
  have h := seek_all hm k s g
  generalize seekAt k s g E = q at hq h
  conv => lhs; rw [← List.take_append_drop q E]
  rw [List.filter_append]
  have h1 : (E.take q).filter (fromE k s g) = [] := by
    rw [List.filter_eq_nil_iff]
    intro x hx
    obtain ⟨i, hi, rfl⟩ := List.getElem_of_mem hx
    rw [List.length_take] at hi
    rw [List.getElem_take, fromE, ← atE_get E i (by omega)]
    have := (h i (by omega)).2 (by omega)
    simp; omega
  have h2 : (E.drop q).filter (fromE k s g) = E.drop q := by
    rw [List.filter_eq_self]
    intro x hx
    obtain ⟨i, hi, rfl⟩ := List.getElem_of_mem hx
    rw [List.length_drop] at hi
    rw [List.getElem_drop, fromE, ← atE_get E (q + i) (by omega)]
    have := mt (h (q + i) (by omega)).1 (by omega)
    simp; omega
  rw [h1, h2, List.nil_append]
end Go.Proofs.YtbcnapkbdbefhaaGreatDoor
namespace Go.Proofs.YtbcnapkbdbefhaaGreatDoor
open Go.RowKit

def fromP (k : List UInt8) (s : Nat) (g : Bool) (x : PE) : Bool := fromE k s g x.ent
theorem filter_toPE (k : List UInt8) (s : Nat) (g : Bool) (E : List Ent) : (E.map toPE).filter (fromP k s g) = (E.filter (fromE k s g)).map toPE := by
  rw [List.filter_map]
  refine congrArg (List.map toPE) (List.filter_congr fun x _ => ?_)
  show fromE k s g (toPE x).ent = _
  rw [toPE_ent]
set_option maxRecDepth 100000 in
set_option maxHeartbeats 4000000 in
theorem refFrom_any (w : World) (v : Value) (l : List PE) (mk : ByteArray) (ms : Nat) (mg : Bool) (hv : RdE w v l) (hks : ∀ x ∈ l, x.k.size ≤ 9223372036854775807) (hmk : mk.size ≤ 9223372036854775807) (hl : l.length ≤ 1000000) :
    Calls Tryz.prog 30 #[v, .agg #[.string mk, .int .u64 ms, .bool mg]] w fun e w' => ∃ a n c, e = .returned (.slice a n c) ∧ Hid (n = (l.filter (fromP mk.data.toList ms mg)).length) ∧ Hid (Own w' w.heap.size 34 4 (.slice a n c) n (pcells (l.filter (fromP mk.data.toList ms mg)))) ∧
      Hid (∀ b, (Value.slice a n c).ownBlock = some b → w.heap.size ≤ b ∧ b < w'.heap.size) ∧ Below w.heap.size w w' := by
  have HV0 := Lib.hid hv
  have HKS := Lib.hid hks
  obtain ⟨va, vc, rfl, h1, h2, h3⟩ := hv
  clear h3 hks
  obtain ⟨vn, hvn⟩ : ∃ n, n = l.length := ⟨_, rfl⟩
  have HVN := Lib.hid hvn
  rw [← hvn] at h1 hl HV0 ⊢
  clear hvn
  obtain ⟨P, hP⟩ : ∃ P, P = fromP mk.data.toList ms mg := ⟨_, rfl⟩
  have HPP := Lib.hid hP
  rw [← hP]
  clear hP
  obtain ⟨e0, ei, ez, ez1, ez2⟩ := info_parts info_ent
  obtain ⟨W, hW⟩ : ∃ W, W = w.alloc (.cells #[.string mk, .int .u64 ms, .bool mg] 25) := ⟨_, rfl⟩
  have HM : Hid (Blk W w.heap.size #[.string mk, .int .u64 ms, .bool mg] 25) := Lib.hid (by rw [hW]; exact Blk.new _ _ _)
  have HBW : Hid (Below w.heap.size w W) := Lib.hid (by rw [hW]; exact (Below.refl _ _).alloc (Nat.le_refl _) _)
  obtain ⟨gm, hgm⟩ : ∃ g, g = w.heap.size := ⟨_, rfl⟩
  have HGM : Hid (gm < W.heap.size) := Lib.hid (by rw [hgm]; exact HM.out.lt)
  go_enter Tryz.func30, Tryz.ntmps30
  go_upto_region 1 with (fail)
  rw [← hW, ← hgm]
  rw [← hgm] at HM
  clear hW hgm
  go_wp2_with fail
  try show Code.wp _ _ _ _ _
  go_loopw [5, 6] (fun o i wr => ∃ (k : Nat) (oa : Option Addr) (on oc : Nat), k ≤ vn ∧ i = .int .i64 k ∧ o = .slice oa on oc ∧ on ≤ k ∧ Hid (on = ((l.take k).filter P).length) ∧ Hid (Own wr W.heap.size 34 4 (.slice oa on oc) on (pcells ((l.take k).filter P))) ∧
    Hid (∀ b, (Value.slice oa on oc).ownBlock = some b → w.heap.size ≤ b ∧ b < wr.heap.size) ∧ Hid (Below W.heap.size W wr)) (fun _ i _ => vn - (intOf i).toNat)
  case atStart => exact ⟨0, none, 0, 0, Nat.zero_le _, rfl, rfl, by omega, rfl, own_none _ _ _ _, Lib.hid (fun b hb => by simp [Value.ownBlock] at hb), Below.refl _ _⟩
  case round =>
    obtain ⟨k, oa, on, oc, hk, rfl, rfl, hok, HON, HOW, HIN, HBR⟩ := hrel
    by_cases hlt : k < vn
    · have hkl : k < l.length := by rw [← HVN.out]; exact hlt
      have hk0 : (0 : Int) ≤ (k : Int) := by omega
      have hkn : (k : Int) < (vn : Int) := by omega
      have hxs := HKS.out _ (List.getElem_mem hkl)
      obtain ⟨b, off, hab⟩ : ∃ b off, va = some ⟨b, off, none⟩ := by
        obtain ⟨a', c', hve, _, _, hcell⟩ := HV0.out
        obtain ⟨b, off, hae, _⟩ := hcell k hkl
        simp only [Value.slice.injEq] at hve
        exact ⟨b, off, by rw [hve.1, hae]⟩
      subst hab
      have HCK : Hid (∀ (w' : World), Below w.heap.size w w' → w'.cell? ⟨b, off + k * 4, none⟩ = some (.string l[k].k) ∧ w'.cell? ⟨b, off + k * 4 + 1, none⟩ = some (.int .u64 l[k].s) ∧ w'.cell? ⟨b, off + k * 4 + 2, none⟩ = some (.bool l[k].g) ∧ w'.cell? ⟨b, off + k * 4 + 3, none⟩ = some (.string l[k].u)) := Lib.hid fun w' hb => by
        obtain ⟨a', c', hve, _, _, hcell⟩ := HV0.out.below hb
        obtain ⟨b', off', hae, c0, c1, c2, c3⟩ := hcell k hkl
        simp only [Value.slice.injEq] at hve
        rw [hae] at hve
        simp only [Option.some.injEq, Addr.mk.injEq, and_true] at hve
        obtain ⟨⟨rfl, rfl⟩, _⟩ := hve
        exact ⟨c0, c1, c2, c3⟩
      have HTK := Lib.hid (List.take_succ_eq_append_getElem hkl)
      obtain ⟨x, hx⟩ : ∃ x, x = l[k] := ⟨_, rfl⟩
      rw [← hx] at HCK hxs HTK
      clear hx hkl
      obtain ⟨xk, xs, xg, xu⟩ := x
      simp only at HCK hxs
      obtain ⟨n, hn⟩ : ∃ n, n = cmpM xk.data.toList xs xg mk.data.toList ms mg := ⟨_, rfl⟩
      have HPX : Hid (P ⟨xk, xs, xg, xu⟩ = decide (0 ≤ n)) := Lib.hid (by rw [HPP.out, hn]; rfl)
      have HCM : Hid (∀ wd, Calls Tryz.prog 99 #[.agg #[.string xk, .int .u64 xs, .bool xg], .agg #[.string mk, .int .u64 ms, .bool mg]] wd fun e w' => e = .returned (.int .i64 n) ∧ Below wd.heap.size wd w') := Lib.hid fun wd => by
        rw [hn]; exact refCmp_any _ _ _ _ _ _ wd hxs hmk
      clear hn hxs
      have HMC : Hid (∀ w', Below W.heap.size W w' → (w'.cell? ⟨gm, 0, none⟩ = some (.string mk) ∧ w'.cell? ⟨gm, 1, none⟩ = some (.int .u64 ms) ∧ w'.cell? ⟨gm, 2, none⟩ = some (.bool mg))) := Lib.hid fun w' hb =>
        have h := HM.out.below hb
        ⟨h.cellv 0 _ rfl, h.cellv 1 _ rfl, h.cellv 2 _ rfl⟩
      have HS : Hid (∀ w', Below W.heap.size W w' → (w'.cell? ⟨b, off + k * 4, none⟩ = some (.string xk) ∧ w'.cell? ⟨b, off + k * 4 + 1, none⟩ = some (.int .u64 xs) ∧ w'.cell? ⟨b, off + k * 4 + 2, none⟩ = some (.bool xg) ∧ w'.cell? ⟨gm, 0, none⟩ = some (.string mk) ∧ w'.cell? ⟨gm, 1, none⟩ = some (.int .u64 ms) ∧ w'.cell? ⟨gm, 2, none⟩ = some (.bool mg) ∧ Below W.heap.size W w')) := Lib.hid fun w' hb =>
        have h := HCK.out w' (HBW.out.trans (hb.mono HBW.out.size))
        have h2 := HMC.out w' hb
        ⟨h.1, h.2.1, h.2.2.1, h2.1, h2.2.1, h2.2.2, hb⟩
      have hBR := HBR.out
      go_upto_region 5 with (fail)
      go_region_held3 (fun w' => w'.cell? ⟨b, off + k * 4, none⟩ = some (.string xk) ∧ w'.cell? ⟨b, off + k * 4 + 1, none⟩ = some (.int .u64 xs) ∧ w'.cell? ⟨b, off + k * 4 + 2, none⟩ = some (.bool xg) ∧ w'.cell? ⟨gm, 0, none⟩ = some (.string mk) ∧ w'.cell? ⟨gm, 1, none⟩ = some (.int .u64 ms) ∧ w'.cell? ⟨gm, 2, none⟩ = some (.bool mg) ∧ Below W.heap.size W w')
        ((go_split_ands; refine HS.out _ ?_; first | assumption | exact Below.drew hBR | exact Below.trans (by assumption) (bel9.mono (Below.size (by assumption)))))
        ((go_at_call 99; refine (HCM.out _).mono ?_; rintro e w9 ⟨rfl, bel9⟩))
      have B9 : Hid (Below W.heap.size W w9) := Lib.hid (by go_split_ands; assumption)
      have B89 : Hid (Below wr.heap.size wr w9) := Lib.hid (((Below.refl _ _).drew : Below wr.heap.size wr wr.drew).trans bel9)
      clear hBR HS HMC
      have HIN9 : Hid (∀ b, (Value.slice oa on oc).ownBlock = some b → w.heap.size ≤ b ∧ b < w9.heap.size) := Lib.hid fun q hq => ⟨(HIN.out q hq).1, Nat.lt_of_lt_of_le (HIN.out q hq).2 B89.out.size⟩
      by_cases hneg : n < 0
      · have hn2 : decide (n ≥ 0) = false := by simp; omega
        have hn3 : decide (0 ≤ n) = false := by simp; omega
        have HF : Hid ((l.take (k + 1)).filter P = (l.take k).filter P) := Lib.hid (by
          rw [HTK.out, List.filter_append, List.filter_cons_of_neg (by rw [HPX.out, hn3]; decide), List.filter_nil, List.append_nil])
        have HO9 := Lib.hid (own_below HOW.out B89.out)
        rw [← HF.out] at HO9 HON
        go_wp2_with fail
        go_roundw
        case rel => exact ⟨k + 1, oa, on, oc, by omega, by go_num, rfl, by omega, HON, HO9, HIN9, B9⟩
        case measure => simp [intOf]; omega
      · have hn2 : decide (n ≥ 0) = true := by simp; omega
        have hn3 : decide (0 ≤ n) = true := by simp; omega
        have HF : Hid ((l.take (k + 1)).filter P = (l.take k).filter P ++ [⟨xk, xs, xg, xu⟩]) := Lib.hid (by
          rw [HTK.out, List.filter_append, List.filter_cons_of_pos (by rw [HPX.out, hn3]), List.filter_nil])
        obtain ⟨c0, c1, c2, c3⟩ := HCK.out w9 (HBW.out.trans (B9.out.mono HBW.out.size))
        have hal : Below w9.heap.size w9 (w9.alloc (.cells #[.string xk, .int .u64 xs, .bool xg, .string xu] 34)) := (Below.refl _ _).alloc (Nat.le_refl _) _
        have HOY := Lib.hid (own_below HOW.out (B89.out.trans (hal.mono B89.out.size)))
        have HBY := Lib.hid (B9.out.trans (hal.mono B9.out.size))
        have HRY := Lib.hid (reads_ent w9 ⟨xk, xs, xg, xu⟩ 34)
        have HN2 : Hid (on + 1 = ((l.take (k + 1)).filter P).length) := Lib.hid (by rw [HF.out, List.length_append, ← HON.out]; rfl)
        have HF2 : Hid (pcells ((l.take (k + 1)).filter P) = pcells ((l.take k).filter P) ++ pcell ⟨xk, xs, xg, xu⟩) := Lib.hid (by rw [HF.out, pcells_app]; simp [pcells])
        clear hal
        go_wp2_with (at_builtin; go_loud (refine wp_app_el2 rfl _ _ rfl Tryz.underlying29 ei ez ez1 ez2 rfl (by omega) W.heap.size on 1 (.slice oa on oc) _ (pcells ((l.take k).filter P)) (pcell ⟨xk, xs, xg, xu⟩) (pcells ((l.take (k + 1)).filter P)) (on + 1) rfl rfl HOY.out HRY.out (fun u hu => one_pcells [⟨xk, xs, xg, xu⟩] u (by simpa [pcells] using hu)) rfl HF2.out.symm (by omega) (by omega) HBY.out.size ?_); intro ua uc w8 HX9 HG9)
        have HBZ := Lib.hid (HBY.out.trans HG9.out.below)
        have HLZ : Hid (∀ q, (Value.slice ua (on + 1) uc).ownBlock = some q → w.heap.size ≤ q ∧ q < w8.heap.size) := Lib.hid fun q hq => own_lt (own_mono HX9.out HBW.out.size) (Nat.succ_pos _) q hq
        go_roundw
        case rel => exact ⟨k + 1, ua, on + 1, uc, by omega, by go_num, rfl, by omega, HN2, HX9, HLZ, HBZ⟩
        case measure => simp [intOf]; omega
    · obtain rfl : k = vn := by omega
      have e : l.take k = l := List.take_of_length_le (by rw [← HVN.out]; exact Nat.le_refl _)
      rw [e] at HON HOW
      clear e
      go_wp2_with fail
      go_ret
      exact ⟨oa, on, oc, rfl, HON, own_mono HOW.out HBW.out.size, HIN, HBW.out.trans (HBR.out.mono HBW.out.size)⟩
end Go.Proofs.YtbcnapkbdbefhaaGreatDoor

/- Memory that a call makes: a slice of the call's own, and append onto it from whatever source. The condition of append: as many bytes as the model's append bears. -/
import Derived.Test.YtbcnapkbdbefhaaGreatDoorBase
namespace Go.Proofs.YtbcnapkbdbefhaaGreatDoor
open Go.RowKit

/-- a slice of the call's own, from block base on, none of whose cells is frozen; or an empty one without room -/
def Own (w : World) (base : Nat) (e : TypeId) (size : Nat) (v : Value) (n : Nat) (xs : List Value) : Prop :=
  (n = 0 ∧ xs = [] ∧ ∃ a, v = .slice a 0 0) ∨
  (xs.length = n * size ∧ ∃ (g cap : Nat) (cur : Array Value) (fr : Nat × Nat), v = .slice (some ⟨g, 0, none⟩) n cap ∧ base ≤ g ∧ w.heap[g]? = some (.cells cur e fr) ∧
    (∀ i, i < cur.size → ¬ (fr.1 ≤ i ∧ i < fr.2)) ∧ n ≤ cap ∧ cap ≤ maxLen ∧ cap * size ≤ cur.size ∧ cur.toList.take (n * size) = xs)
theorem own_of {w : World} {base : Nat} {e : TypeId} {size : Nat} {v : Value} {n : Nat} {xs : List Value} (h : w.ownsRow base e size v n xs) : Own w base e size v n xs := by
  obtain ⟨h1, h2⟩ := h
  rcases h2 with ⟨rfl, rfl⟩ | ⟨g, cap, cur, rfl, hb, hg, hn, hc, hs, ht⟩
  · exact .inl ⟨rfl, List.eq_nil_of_length_eq_zero (by simpa using h1), none, rfl⟩
  · exact .inr ⟨h1, g, cap, cur, (0, 0), rfl, hb, hg, fun i _ h => by omega, hn, hc, by omega, ht⟩
theorem own_nil (w : World) (base : Nat) (e : TypeId) (size : Nat) : Own w base e size (.slice none 0 0) 0 [] := .inl ⟨rfl, rfl, none, rfl⟩
theorem own_mono {w : World} {base base' : Nat} {e : TypeId} {size : Nat} {v : Value} {n : Nat} {xs : List Value} (h : Own w base e size v n xs) (hb : base' ≤ base) : Own w base' e size v n xs := by
  rcases h with h | ⟨h1, g, cap, cur, fr, h2, h3, h4⟩
  · exact .inl h
  · exact .inr ⟨h1, g, cap, cur, fr, h2, by omega, h4⟩
/-- while no block that was there is written -/
theorem own_below {w w' : World} {base : Nat} {e : TypeId} {size : Nat} {v : Value} {n : Nat} {xs : List Value} (h : Own w base e size v n xs) (hb : Below w.heap.size w w') : Own w' base e size v n xs := by
  rcases h with h | ⟨h1, g, cap, cur, fr, h2, h3, h4, h5⟩
  · exact .inl h
  · exact .inr ⟨h1, g, cap, cur, fr, h2, h3, by rw [hb.block g (Array.getElem?_eq_some_iff.1 h4).1]; exact h4, h5⟩
/-- while another row is written -/
theorem own_kept {w w' : World} {base : Nat} {e : TypeId} {size : Nat} {v : Value} {n : Nat} {xs : List Value} {row : Option Nat} (h : Own w base e size v n xs) (hg : w.grownBy w' row) (hne : v.ownBlock = none ∨ v.ownBlock ≠ row) : Own w' base e size v n xs := by
  rcases h with h | ⟨h1, g, cap, cur, fr, rfl, h3, h4, h5⟩
  · exact .inl h
  · refine .inr ⟨h1, g, cap, cur, fr, rfl, h3, ?_, h5⟩
    rw [hg.block g (Array.getElem?_eq_some_iff.1 h4).1 (by simpa [Value.ownBlock] using hne)]; exact h4
theorem own_lt {w : World} {base : Nat} {e : TypeId} {size : Nat} {v : Value} {n : Nat} {xs : List Value} (h : Own w base e size v n xs) (hn : 0 < n) : ∀ k, v.ownBlock = some k → base ≤ k ∧ k < w.heap.size := by
  intro k hk
  rcases h with ⟨rfl, _⟩ | ⟨h1, g, cap, cur, fr, rfl, h3, h4, h5⟩
  · omega
  · simp [Value.ownBlock] at hk
    subst hk
    exact ⟨h3, (Array.getElem?_eq_some_iff.1 h4).1⟩

/-- stores into cells that are not frozen, whatever else the block's mark says -/
theorem run_storeCells_fr {P : Program} (g : Nat) (t : TypeId) (fr : Nat × Nat) : ∀ (vs : List Value) (o i : Nat) (cur : Array Value) (w : World), w.heap[g]? = some (.cells cur t fr) → (∀ k, k < cur.size → ¬ (fr.1 ≤ k ∧ k < fr.2)) → o + i + vs.length ≤ cur.size → (∀ v ∈ vs, v.oneCell' = true) →
    (storeCells ⟨g, o, none⟩ vs i).run P w = .ok () (w.setRow g (cur.toList.take (o + i) ++ vs ++ cur.toList.drop (o + i + vs.length)).toArray)
  | [], o, i, cur, w, hg, _, _, _ => by
    simp only [storeCells, List.append_nil, List.length_nil, Nat.add_zero, List.take_append_drop, Array.toArray_toList]
    rw [setRow_self w g cur t fr hg]
    rfl
  | v :: rest, o, i, cur, w, hg, hfr, hl, h1 => by
    have hi : o + i < cur.size := by simp at hl; omega
    have hadd : (⟨g, o, none⟩ : Addr).add i = ⟨g, o + i, none⟩ := by unfold Addr.add; split <;> simp_all
    have hcell : w.cell? ⟨g, o + i, none⟩ = some cur[o + i] := by simp [World.cell?, hg, hi]
    have hfro : w.frozen? ⟨g, o + i, none⟩ = false := by
      have := hfr (o + i) hi
      simp only [World.frozen?, hg]
      simp
      omega
    have hst : (store ((⟨g, o, none⟩ : Addr).add i) v).run P w = .ok () (w.setRow g (cur.setIfInBounds (o + i) v)) := by
      rw [hadd, run_store P w _ v _ (h1 v (by simp)), hcell]
      simp [hfro, setCell_eq_setRow w g (o + i) cur t fr v hg]
    have ih := run_storeCells_fr (P := P) g t fr rest o (i + 1) (cur.setIfInBounds (o + i) v) (w.setRow g (cur.setIfInBounds (o + i) v)) (setRow_heap w g cur _ t _ hg) (by simpa using hfr) (by simp at hl ⊢; omega) (fun x hx => h1 x (by simp [hx]))
    simp only [storeCells, Sem.run_bind, hst, Result.andThen_ok, ih, setRow_setRow]
    congr 3
    have e := list_seg_step cur.toList (o + i) v rest (by simp at hl ⊢; omega)
    simpa [Array.toList_setIfInBounds, Nat.add_assoc] using e
theorem run_append_fr {P : Program} (w : World) (t ty e : TypeId) (i : TypeInfo) (ht : P.underlying t = some (.slice e)) (hi : P.info? e = some i)
    (g sLen sCap : Nat) (cur : Array Value) (fr : Nat × Nat) (hg : w.heap[g]? = some (.cells cur e fr)) (hfr : ∀ k, k < cur.size → ¬ (fr.1 ≤ k ∧ k < fr.2))
    (a : Addr) (m c : Nat) (news : List Value) (hl : news.length = m * i.size) (hnews : ∀ j u, news[j]? = some u → w.cell? (a.add j) = some u) (h1 : ∀ u ∈ news, u.oneCell' = true)
    (hroom : sLen + m ≤ sCap) (hfit : sLen * i.size + news.length ≤ cur.size) :
    (Builtin.append_ #[t, t] ty #[.slice (some ⟨g, 0, none⟩) sLen sCap, .slice (some a) m c]).run P w =
      .ok (.slice (some ⟨g, 0, none⟩) (sLen + m) sCap) (w.setRow g (cur.toList.take (sLen * i.size) ++ news ++ cur.toList.drop (sLen * i.size + news.length)).toArray) := by
  have hf := run_firstCells_some (P := P) w i.size m a m c news hl hnews
  have hst := run_storeCells_fr (P := P) g e fr news (sLen * i.size) 0 cur w hg hfr (by simpa using hfit) h1
  simp only [Nat.add_zero] at hst
  simp [Builtin.append_, run_underlying ht, sizeOf, typeInfo, hi, Builtin.lenOf, hroom, hf, Addr.add_lit, hst]

/-- a slice that reads, of elements of whatever size, as the cells xs -/
theorem reads_cells {w : World} {sz : Nat} {a : Option Addr} {n cap : Nat} {xs : List Value} (h : Reads w sz (.slice a n cap) n xs) :
    (a = none → n * sz = 0) ∧ ∀ ad, a = some ad → ∀ j u, xs[j]? = some u → w.cell? (ad.add j) = some u := by
  obtain ⟨a', cap', e, h1, h2, h3, h4⟩ := h
  simp only [Value.slice.injEq, true_and] at e
  obtain ⟨rfl, rfl⟩ := e
  refine ⟨fun e => ?_, fun ad e j u hj => ?_⟩
  · rw [← h1]
    apply Nat.eq_zero_of_not_pos
    intro hp
    obtain ⟨b, off, e', _⟩ := h4 0 hp
    rw [e] at e'; cases e'
  · have hj' : j < xs.length := (List.getElem?_eq_some_iff.1 hj).1
    obtain ⟨b, off, e', hc⟩ := h4 j hj'
    rw [e] at e'
    cases e'
    have : xs[j] = u := (List.getElem?_eq_some_iff.1 hj).2
    rw [← this, ← hc]
    congr 1
    unfold Addr.add
    split <;> simp_all

theorem rd_reads {w : World} {v : Value} {l : List UInt8} (h : Rd w v l) : Reads w 1 v l.length (u8s l) := by
  obtain ⟨a, cap, rfl, h1, h2, h3⟩ := h
  refine ⟨a, cap, rfl, by simp [u8s], h1, h2, fun j hj => ?_⟩
  obtain ⟨b, off, e, hc⟩ := h3 j (by simpa [u8s] using hj)
  exact ⟨b, off, e, by rw [hc]; simp [u8s]⟩
theorem one_u8s (l : List UInt8) : ∀ u ∈ u8s l, u.oneCell' = true := by
  intro u hu
  obtain ⟨c, _, rfl⟩ := List.mem_map.1 hu
  rfl

/-- append onto what the call owns, from whatever can be read: 'append(out, src...)' -/
theorem run_app {P : Program} (w : World) (base : Nat) (t ty e : TypeId) (i : TypeInfo) (z : Value) (size bytes : Nat) (ht : P.underlying t = some (.slice e)) (hi : P.info? e = some i) (hz : i.zero = some z)
    (hsize : i.size = size) (hby : i.bytes = bytes) (hzs : z.cells.size = size) (hsz : 0 < size)
    (v : Value) (n : Nat) (xs : List Value) (hown : Own w base e size v n xs)
    (x : Value) (m : Nat) (news : List Value) (hx : Reads w size x m news) (h1 : ∀ u ∈ news, u.oneCell' = true)
    (hbytes : (n + m) * bytes ≤ 140737488355328) (hm : n + m ≤ 9223372036854775807) (hbase : base ≤ w.heap.size) :
    ∃ v' w', (Builtin.append_ #[t, t] ty #[v, x]).run P w = .ok v' w' ∧ Own w' base e size v' (n + m) (xs ++ news) ∧ w.grownBy w' v.ownBlock ∧ Below base w w' := by
  obtain ⟨a, cap, rfl, hl, hmc, hcm, hcells⟩ := hx
  have hrc := reads_cells (w := w) (sz := size) ⟨a, cap, rfl, hl, hmc, hcm, hcells⟩
  have refl : ∀ row, w.grownBy w row := fun row => ⟨rfl, rfl, rfl, Nat.le_refl _, fun _ _ _ => rfl⟩
  cases a with
  | none =>
    have hm0 : m = 0 := by
      have := hrc.1 rfl
      rcases Nat.eq_zero_or_pos m with h | h
      · exact h
      · have := Nat.mul_pos h hsz; omega
    subst hm0
    have hn0 : news = [] := List.eq_nil_of_length_eq_zero (by simpa using hl)
    subst hn0
    refine ⟨v, w, ?_, by simpa using hown, refl _, Below.refl _ _⟩
    rcases hown with ⟨rfl, rfl, ad, rfl⟩ | ⟨_, g, cp, cur, fr, rfl, _, _, _, hnc, _⟩
    · cases ad <;> simp [Builtin.append_, run_underlying ht, sizeOf, typeInfo, hi, Builtin.lenOf, Builtin.firstCells, storeCells]
    · simp [Builtin.append_, run_underlying ht, sizeOf, typeInfo, hi, Builtin.lenOf, Builtin.firstCells, hnc, storeCells]
  | some ad =>
    have hnews := hrc.2 ad rfl
    subst hsize hby
    have gbel : ∀ (o : Obj), Below base w (w.drew.alloc o) := fun o => (Below.refl _ _).drew.alloc hbase _
    have grown : ∀ (old : Nat), old < n + m → xs.length = n * i.size → ∀ row,
        Own (w.drew.alloc (.cells (xs.toArray ++ news.toArray ++ Builtin.zeroCells z.cells (grownCap w (n + m) old e - (n + m))) e)) base e i.size (.slice (some ⟨w.heap.size, 0, none⟩) (n + m) (grownCap w (n + m) old e)) (n + m) (xs ++ news) ∧
        w.grownBy (w.drew.alloc (.cells (xs.toArray ++ news.toArray ++ Builtin.zeroCells z.cells (grownCap w (n + m) old e - (n + m))) e)) row := by
      intro old ho hxl row
      have hge := grownCap_ge w (n + m) old e
      have hcm' : grownCap w (n + m) old e ≤ maxLen := grownCap_le_maxLen w (n + m) old e (by unfold maxLen; omega)
      have hlen : (xs ++ news).length = (n + m) * i.size := by rw [List.length_append, hxl, hl, Nat.add_mul]
      refine ⟨.inr ⟨hlen, w.heap.size, _, _, (0, 0), rfl, hbase, heap_alloc_new w.drew _, fun _ _ h => by omega, hge, hcm', ?_, ?_⟩, ⟨rfl, rfl, rfl, by simp, fun k hk _ => heap_alloc_old w.drew _ hk⟩⟩
      · simp only [Array.size_append, List.size_toArray, size_zeroCells, hzs, hxl, hl, ← Nat.add_mul]
        apply Nat.le_of_eq
        congr 1
        omega
      · simp only [Array.toList_append, List.append_assoc]
        rw [← List.append_assoc, ← hlen]
        exact List.take_left
    rcases hown with ⟨rfl, rfl, ad', rfl⟩ | ⟨hxl, g, cp, cur, fr, rfl, hbg, hg, hfr, hnc, hcm2, hcs, htake⟩
    · by_cases hm0 : m = 0
      · subst hm0
        have hn0 : news = [] := List.eq_nil_of_length_eq_zero (by simpa using hl)
        subst hn0
        refine ⟨_, w, ?_, .inl ⟨rfl, rfl, ad', rfl⟩, refl _, Below.refl _ _⟩
        cases ad' <;> simp [Builtin.append_, run_underlying ht, sizeOf, typeInfo, hi, Builtin.lenOf, Builtin.firstCells, loadCells, loadCellsFrom, storeCells]
      · have hgr := grown 0 (by omega) (by simp) (Value.ownBlock (.slice ad' 0 0))
        cases ad' with
        | none =>
          have hr := run_append_nil (P := P) w t ty e i z ht hi hz ad m cap news hl hnews (by omega) (by omega) (by have hb := hbytes; simp only [Nat.zero_add] at hb; omega)
          simp only [Nat.zero_add, List.nil_append, Array.empty_append] at hgr ⊢
          exact ⟨_, _, hr, hgr.1, hgr.2, gbel _⟩
        | some ad' =>
          have hr := run_append_grow (P := P) w t ty e i z ht hi hz ad' 0 0 [] (by simp) (by simp) ad m cap news hl hnews (by omega) (by omega) (growslice_fits (by omega) hbytes)
          exact ⟨_, _, hr, hgr.1, hgr.2, gbel _⟩
    · by_cases hroom : n + m ≤ cp
      · have hfit : n * i.size + news.length ≤ cur.size := by
          rw [hl, ← Nat.add_mul]
          exact Nat.le_trans (Nat.mul_le_mul_right _ hroom) hcs
        have hr := run_append_fr (P := P) w t ty e i ht hi g n cp cur fr hg hfr ad m cap news hl hnews h1 hroom hfit
        have hlen : (xs ++ news).length = (n + m) * i.size := by rw [List.length_append, hxl, hl, Nat.add_mul]
        refine ⟨_, _, hr, .inr ⟨hlen, g, cp, _, fr, rfl, hbg, setRow_heap w g cur _ e _ hg, ?_, hroom, hcm2, ?_, ?_⟩, ⟨rfl, rfl, rfl, by simp, fun k hk hne => setRow_other w g k _ (fun e => hne (by simp [Value.ownBlock, e]))⟩, ⟨rfl, rfl, rfl, by simp, fun k hk => setRow_other w g k _ (by omega)⟩⟩
        · intro k hk
          apply hfr
          simp only [List.size_toArray, List.length_append, List.length_take, List.length_drop, Array.length_toList] at hk
          omega
        · simp only [List.size_toArray, List.length_append, List.length_take, List.length_drop, Array.length_toList]
          omega
        · rw [htake, ← hlen]
          exact List.take_left
      · have holds : ∀ j u, xs[j]? = some u → w.cell? ((⟨g, 0, none⟩ : Addr).add j) = some u := by
          intro j u hu
          have hadd : (⟨g, 0, none⟩ : Addr).add j = ⟨g, j, none⟩ := by unfold Addr.add; split <;> simp_all
          rw [hadd, cell_of_row w g j cur e fr hg]
          rw [← htake, List.getElem?_take] at hu
          split at hu
          · simpa using hu
          · cases hu
        have hr := run_append_grow (P := P) w t ty e i z ht hi hz ⟨g, 0, none⟩ n cp xs hxl holds ad m cap news hl hnews (by omega) (by omega) (growslice_fits (by omega) hbytes)
        have hgr := grown cp (by omega) hxl (Value.ownBlock (.slice (some ⟨g, 0, none⟩) n cp))
        exact ⟨_, _, hr, hgr.1, hgr.2, gbel _⟩

theorem info_u8 : (Tryz.prog.info? 5).map (fun i => (i.zero, i.size, i.bytes)) = some (some (.int .u8 0), 1, 1) := by kernel_rfl

/-- .. of bytes, as a step of the walk -/
theorem wp_app {w : World} {ops : Array Oper} {rest : List Oper} {o : Oper} {a : Act} {Q : Exit → Act → World → Prop} (hgd : o.guard = none) (s x : Operand)
    (ho : o.op = .call { callee := .builtin .append, args := #[s, x], argTypes := #[22, 22] })
    (base n k : Nat) (v v2 : Value) (l m : List UInt8) (hs : a.eval s = v) (hx : a.eval x = v2) (hown : Own w base 5 1 v n (u8s l)) (hrd : Rd w v2 m) (hk : m.length = k)
    (hlen : n + k ≤ 1099511627776) (hbase : base ≤ w.heap.size)
    (h : ∀ v' w', Own w' base 5 1 v' (n + k) (u8s (l ++ m)) → w.grownBy w' v.ownBlock → Below base w w' → wpList Tryz.prog ops Q rest (a.put o.dst v') w') : wpList Tryz.prog ops Q (o :: rest) a w := by
  subst hk
  refine wpList_plain hgd fun K hK => ?_
  obtain ⟨i, hi, hz, hz1, hz2⟩ := info_parts info_u8
  obtain ⟨v', w', hr, h2, h3, h4⟩ := run_app (P := Tryz.prog) w base 22 o.type 5 i (.int .u8 0) 1 1 Tryz.underlying22 hi hz hz1 hz2 rfl (by omega) v n (u8s l) hown v2 m.length (u8s m) (rd_reads hrd) (one_u8s m) (by omega) (by omega) hbase
  unfold Oper.wp execOp
  simp only [ho, resolve, invoke, builtin, Sem.run_bind, Sem.run_pure, Result.andThen_ok, List.map_toArray, List.map_cons, List.map_nil, hs, hx, hr]
  rw [← u8s_append] at h2
  exact hK _ _ (h v' w' h2 h3 h4)

/-- an owned slice reads -/
theorem rd_of_own {w : World} {base : Nat} {v : Value} {n : Nat} {l : List UInt8} (h : Own w base 5 1 v n (u8s l)) : n = l.length ∧ Rd w v l := by
  rcases h with ⟨rfl, h1, a, rfl⟩ | ⟨h1, g, cap, cur, fr, rfl, _, hg, _, hn, hc, hs, ht⟩
  · have : l = [] := by simpa [u8s] using h1
    subst this
    exact ⟨rfl, a, 0, rfl, by simp, by omega, fun j hj => absurd hj (by simp)⟩
  · have hl : l.length = n := by rw [u8s_length] at h1; omega
    subst hl
    refine ⟨rfl, _, cap, rfl, hn, by unfold maxLen at hc; omega, fun j hj => ⟨g, 0, rfl, ?_⟩⟩
    rw [cell_of_row w g (0 + j) cur _ fr hg, Nat.zero_add]
    have e : (u8s l)[j]? = some (.int .u8 l[j].toNat) := by simp [u8s, hj]
    rw [← ht, List.getElem?_take] at e
    split at e
    · simpa using e
    · cases e
/-- one new cell, as append's operand -/
theorem rd_one (w : World) (c : UInt8) (x : Int) (hx : x = c.toNat) (ty : TypeId) : Rd (w.alloc (.cells #[.int .u8 x] ty)) (.slice (some ⟨w.heap.size, 0, none⟩) 1 1) [c] := by
  subst hx
  refine ⟨_, 1, rfl, by simp, by omega, fun j hj => ⟨_, _, rfl, ?_⟩⟩
  have : j = 0 := by simp at hj; omega
  subst this
  rw [World.cell?_alloc_at _ _ _ _ rfl]
  rfl

/-- append of bytes within the capacity -/
theorem wp_fits {w : World} {ops : Array Oper} {rest : List Oper} {o : Oper} {a : Act} {Q : Exit → Act → World → Prop} (hgd : o.guard = none) (s x : Operand)
    (ho : o.op = .call { callee := .builtin .append, args := #[s, x], argTypes := #[22, 22] })
    (base g n k cap : Nat) (v2 : Value) (l m : List UInt8) (hs : a.eval s = .slice (some ⟨g, 0, none⟩) n cap) (hx : a.eval x = v2) (hown : w.ownsRow base 5 1 (.slice (some ⟨g, 0, none⟩) n cap) n (u8s l)) (hrd : Rd w v2 m)
    (hk : m.length = k) (hlen : n + k ≤ cap)
    (h : ∀ w', w'.ownsRow base 5 1 (.slice (some ⟨g, 0, none⟩) (n + k) cap) (n + k) (u8s (l ++ m)) → w.grownBy w' (some g) → wpList Tryz.prog ops Q rest (a.put o.dst (.slice (some ⟨g, 0, none⟩) (n + k) cap)) w') : wpList Tryz.prog ops Q (o :: rest) a w := by
  subst hk
  obtain ⟨i, hi, hz, hz1, hz2⟩ := info_parts info_u8
  obtain ⟨a2, c2, rfl, hl, hmc, hcm, hcells⟩ := rd_reads hrd
  have hrc := reads_cells (w := w) (sz := 1) ⟨a2, c2, rfl, hl, hmc, hcm, hcells⟩
  cases a2 with
  | some ad =>
    refine wpList_append_fits w hgd s x 22 ho base 5 i 1 Tryz.underlying22 hi hz1 g n cap (u8s l) hs hown ad m.length c2 (u8s m) hx (by simp [u8s]) (hrc.2 ad rfl) (one_u8s m) hlen ?_
    intro w' h1 h2
    rw [← u8s_append] at h1
    exact h w' h1 h2
  | none =>
    have hm0 : m = [] := List.eq_nil_of_length_eq_zero (by have := hrc.1 rfl; omega)
    subst hm0
    refine wpList_plain hgd fun K hK => ?_
    have hnc : n ≤ cap := by omega
    have hrun : (Builtin.append_ #[22, 22] o.type #[.slice (some ⟨g, 0, none⟩) n cap, .slice none 0 c2]).run Tryz.prog w = .ok (.slice (some ⟨g, 0, none⟩) n cap) w := by
      simp [Builtin.append_, run_underlying Tryz.underlying22, sizeOf, typeInfo, hi, Builtin.lenOf, Builtin.firstCells, hnc, storeCells]
    unfold Oper.wp execOp
    simp only [ho, resolve, invoke, builtin, Sem.run_bind, Sem.run_pure, Result.andThen_ok, List.map_toArray, List.map_cons, List.map_nil, hs, hx, List.length_nil, hrun]
    have := h w (by simpa using hown) ⟨rfl, rfl, rfl, Nat.le_refl _, fun _ _ _ => rfl⟩
    simp only [List.length_nil, Nat.add_zero] at this
    exact hK _ _ this

theorem bytesRow_size (s : ByteArray) (cap : Nat) (h : s.size ≤ cap) : (bytesRow s cap).size = cap := by
  have : s.data.size = s.size := rfl
  simp [bytesRow]; omega
/-- '[]byte(s)' -/
theorem run_bytes (w : World) (s : ByteArray) (hs : s.size ≤ 9223372036854775807) :
    ∃ v w', (convert 9 22 (.string s)).run Tryz.prog w = .ok v w' ∧ Own w' w.heap.size 5 1 v s.size (u8s s.data.toList) ∧ Below w.heap.size w w' := by
  have hr := run_bytes_of_string (P := Tryz.prog) w 9 22 5 s Tryz.underlying9 Tryz.underlying22 Tryz.underlying5
  have hge := grownCap_ge w s.size 0 5
  have hcm := grownCap_le_maxLen w s.size 0 5 (by unfold maxLen; omega)
  refine ⟨_, _, hr, .inr ⟨by rw [u8s_length, Array.length_toList]; simp, w.heap.size, _, _, _, rfl, Nat.le_refl _, heap_alloc_new w.drew _, fun i hi h => by omega, hge, hcm, ?_, ?_⟩, (Below.refl _ _).drew.alloc (Nat.le_refl _) _⟩
  · rw [bytesRow_size _ _ hge]; omega
  · have hsz : s.data.toList.length = s.size := by rw [Array.length_toList]; rfl
    simp only [bytesRow, Array.toList_append, Array.toList_map, Nat.mul_one]
    rw [List.take_append_of_le_length (by simp [hsz]), List.take_of_length_le (by simp [hsz])]
    rfl
theorem wp_bytes {w : World} {ops : Array Oper} {rest : List Oper} {o : Oper} {a : Act} {Q : Exit → Act → World → Prop} (hgd : o.guard = none) (x : Operand) (ho : o.op = .convert 9 22 x)
    (s : ByteArray) (hx : a.eval x = .string s) (hs : s.size ≤ 9223372036854775807)
    (h : ∀ v w', Own w' w.heap.size 5 1 v s.size (u8s s.data.toList) → Below w.heap.size w w' → wpList Tryz.prog ops Q rest (a.put o.dst v) w') : wpList Tryz.prog ops Q (o :: rest) a w := by
  refine wpList_plain hgd fun K hK => ?_
  obtain ⟨v', w', hr, h2, h3⟩ := run_bytes w s hs
  unfold Oper.wp execOp
  simp only [ho, Sem.run_bind, Sem.run_pure, Result.andThen_ok, hx, hr]
  exact hK _ _ (h v' w' h2 h3)
end Go.Proofs.YtbcnapkbdbefhaaGreatDoor

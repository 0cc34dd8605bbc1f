/- The book of lists, for lists of any kind: what a kind's lists hold, what a step on them leaves of all others. No condition. | The book of lists, for lists of any kind: what is written into one of them; the marks' texts. No condition. | The book of lists: lists of all kinds are told, one by one; what stays apart. No condition. | The book of lists: what is said of a few lists, one by one. No condition. -/
import Derived.Test.YtbcnapkbdbefhaaGreatDoorMemB
import Derived.Deep.RegionHeld3
import Derived.Deep.Cut
import Derived.Deep.QuietTactic
namespace Go.Proofs.YtbcnapkbdbefhaaGreatDoor
open Go.RowKit

/-- nothing that was there changed but blocks of S -/
structure Fr (S : Nat → Prop) (w w' : World) : Prop where
  os : w'.os = w.os
  tape : w'.tape = w.tape
  output : w'.output = w.output
  size : w.heap.size ≤ w'.heap.size
  block : ∀ k, k < w.heap.size → ¬ S k → w'.heap[k]? = w.heap[k]?
theorem Fr.refl (S : Nat → Prop) (w : World) : Fr S w w := ⟨rfl, rfl, rfl, Nat.le_refl _, fun _ _ _ => rfl⟩
theorem Fr.trans' {S S' : Nat → Prop} {w w1 w2 : World} (h : Fr S w w1) (h2 : Fr S' w1 w2) (hs : ∀ b, S' b → S b ∨ w.heap.size ≤ b) : Fr S w w2 :=
  ⟨h2.os.trans h.os, h2.tape.trans h.tape, h2.output.trans h.output, Nat.le_trans h.size h2.size, fun k hk hn => (h2.block k (Nat.lt_of_lt_of_le hk h.size) (fun e => by
    rcases hs k e with e | e
    · exact hn e
    · omega)).trans (h.block k hk hn)⟩
theorem Fr.trans {S : Nat → Prop} {w w1 w2 : World} (h : Fr S w w1) (h2 : Fr S w1 w2) : Fr S w w2 := h.trans' h2 fun _ e => .inl e
theorem Fr.of_below {S : Nat → Prop} {w w' : World} (h : Below w.heap.size w w') : Fr S w w' := ⟨h.os, h.tape, h.output, h.size, fun k hk _ => h.block k hk⟩
theorem Fr.of_grown {S : Nat → Prop} {w w' : World} {r : Option Nat} (h : w.grownBy w' r) (hs : ∀ b, r = some b → S b) : Fr S w w' :=
  ⟨h.os, h.tape, h.output, h.size, fun k hk hn => h.block k hk (fun e => hn (hs k e.symm))⟩
theorem Fr.of_only {S : Nat → Prop} {w w' : World} {g : Nat} (h : Only w w' g) (hs : S g) : Fr S w w' := Fr.of_grown h fun b e => by cases e; exact hs
theorem Fr.below {S : Nat → Prop} {w w' : World} {base : Nat} (h : Fr S w w') (hs : ∀ b, S b → base ≤ b) (hb : base ≤ w.heap.size) : Below base w w' :=
  ⟨h.os, h.tape, h.output, h.size, fun k hk => h.block k (by omega) (fun e => by have := hs k e; omega)⟩
theorem Fr.wide {S S' : Nat → Prop} {w w' : World} (h : Fr S w w') (hs : ∀ b, S b → S' b) : Fr S' w w' := ⟨h.os, h.tape, h.output, h.size, fun k hk hn => h.block k hk (fun e => hn (hs k e))⟩
theorem Fr.blk {S : Nat → Prop} {w w' : World} {g : Nat} {cs : Array Value} {t : TypeId} (h : Fr S w w') (hb : Blk w g cs t) (hg : ¬ S g) : Blk w' g cs t := by
  have := hb.lt
  unfold Blk at *
  rw [h.block g this hg]; exact hb
theorem Fr.own {S : Nat → Prop} {w w' : World} {base : Nat} {e : TypeId} {sz n : Nat} {v : Value} {xs : List Value} (h : Fr S w w') (ho : Own w base e sz v n xs) (hv : ∀ b, rowOf v = some b → ¬ S b) : Own w' base e sz v n xs := by
  by_cases h0 : rowOf v = none
  · exact own_noroom ho h0
  · obtain ⟨k, hk⟩ := Option.ne_none_iff_exists'.1 h0
    rcases ho with h1 | ⟨h1, g, cap, cur, fr, rfl, h3, h4, h5⟩
    · exact .inl h1
    · have hkg : k = g := by have := rowOf_own hk; simpa [Value.ownBlock] using this.symm
      subst hkg
      refine .inr ⟨h1, k, cap, cur, fr, rfl, h3, ?_, h5⟩
      rw [h.block k (Array.getElem?_eq_some_iff.1 h4).1 (hv k hk)]; exact h4

/-- the book's cells: how many lists, and of each kind -/
def bkF (m : Nat) (f : Nat → Value) : Array Value := #[.int .i64 (m : Int), f 1, f 2, f 3, f 4, f 5, f 6, f 7, f 8, f 9, f 10, f 11, f 12, f 13]
def upd (f : Nat → Value) (i : Nat) (v : Value) : Nat → Value := fun j => if j = i then v else f j
/-- a list that is held -/
def hcell (l g : Value) (n : Nat) : List Value := [l, g, .int .i64 (n : Int)]
def helds (m : Nat) (L G : Nat → Value) (num : Nat → Nat) : List Value := (List.range m).flatMap fun j => hcell (L j) (G j) (num j)
theorem helds_length (m : Nat) (L G : Nat → Value) (num : Nat → Nat) : (helds m L G num).length = m * 3 := by
  have := flatM_length (fun j => hcell (L j) (G j) (num j)) 3 (fun _ => rfl) (List.range m)
  rw [List.length_range] at this
  exact this
theorem helds_next (m : Nat) (L G : Nat → Value) (num : Nat → Nat) : helds (m + 1) L G num = helds m L G num ++ hcell (L m) (G m) (num m) := by
  unfold helds
  rw [List.range_succ, List.flatMap_append]
  simp
theorem helds_congr (m : Nat) {L L' G G' : Nat → Value} {num num' : Nat → Nat} (h1 : ∀ j, j < m → L j = L' j) (h2 : ∀ j, j < m → G j = G' j) (h3 : ∀ j, j < m → num j = num' j) : helds m L G num = helds m L' G' num' := by
  induction m with
  | zero => rfl
  | succ m ih => rw [helds_next, helds_next, ih (fun j hj => h1 j (by omega)) (fun j hj => h2 j (by omega)) (fun j hj => h3 j (by omega)), h1 m (by omega), h2 m (by omega), h3 m (by omega)]
theorem helds_at (m : Nat) (L G : Nat → Value) (num : Nat → Nat) (q : Nat) (h : q < m * 3) : (helds m L G num)[q]? = (hcell (L (q / 3)) (G (q / 3)) (num (q / 3)))[q % 3]? := by
  have hj : q / 3 < (List.range m).length := by rw [List.length_range]; omega
  have hg := flatM_get (fun j => hcell (L j) (G j) (num j)) 3 (fun _ => rfl) (List.range m) (q / 3) (q % 3) hj (by omega)
  simp only [List.getElem_range] at hg
  rw [show q / 3 * 3 + q % 3 = q from by omega] at hg
  exact hg
theorem helds_set (m : Nat) (L G : Nat → Value) (num : Nat → Nat) (i : Nat) (x : Value) : (helds m L G num).set (i * 3 + 1) x = helds m L (fun j => if j = i then x else G j) num := by
  apply List.ext_getElem?
  intro q
  by_cases hq : q < m * 3
  · rw [helds_at _ _ _ _ q hq]
    by_cases e : q = i * 3 + 1
    · subst e
      rw [List.getElem?_set_self (by rw [helds_length]; omega), show (i * 3 + 1) / 3 = i from by omega, show (i * 3 + 1) % 3 = 1 from by omega]
      simp [hcell]
    · rw [List.getElem?_set_ne (fun e2 => e e2.symm), helds_at _ _ _ _ q hq]
      by_cases e3 : q / 3 = i
      · have h3 : q % 3 = 0 ∨ q % 3 = 2 := by omega
        rcases h3 with h | h <;> rw [h] <;> rfl
      · rw [if_neg e3]
  · rw [List.getElem?_eq_none (by rw [List.length_set, helds_length]; omega), List.getElem?_eq_none (by rw [helds_length]; omega)]
theorem one_hcell (l g : Value) (n : Nat) (h1 : l.oneCell' = true) (h2 : g.oneCell' = true) : ∀ u ∈ hcell l g n, u.oneCell' = true := by
  intro u hu
  simp only [hcell, List.mem_cons, List.not_mem_nil, or_false] at hu
  rcases hu with rfl | rfl | rfl
  · exact h1
  · exact h2
  · rfl
/-- n marks one behind the other -/
def marks (mk : List Value) (n : Nat) : List Value := (List.replicate n mk).flatten
theorem marks_next (mk : List Value) (n : Nat) : marks mk (n + 1) = marks mk n ++ mk := by
  unfold marks
  rw [List.replicate_succ', List.flatten_append]
  simp
theorem marks_length (mk : List Value) (n : Nat) : (marks mk n).length = n * mk.length := by
  unfold marks
  rw [List.length_flatten, List.map_replicate, List.sum_replicate_nat]
theorem marks_get (mk : List Value) (n k r : Nat) (hk : k < n) (hr : r < mk.length) : (marks mk n)[k * mk.length + r]? = mk[r]? := by
  have h := flatM_get (fun _ : Nat => mk) mk.length (fun _ => rfl) (List.range n) k r (by rw [List.length_range]; exact hk) hr
  rw [← h]
  congr 1
  unfold marks
  rw [List.flatMap_def, List.map_const', List.length_range]

/-- m lists of one kind, each in memory of its own; S: the blocks of these lists, and of the row that holds them -/
structure KSt (w : World) (base g : Nat) (ht et : TypeId) (sz m : Nat) (bv : Value) (L G : Nat → Value) (num n : Nat → Nat) (C : Nat → List Value) (S : Nat → Prop) : Prop where
  own : Own w base ht 3 bv m (helds m L G num)
  held : ∀ j, j < m → Own w base et sz (L j) (n j) (C j)
  bs : ∀ b, rowOf bv = some b → S b
  ls : ∀ j, j < m → ∀ b, rowOf (L j) = some b → S b
  lb : ∀ j, j < m → ∀ b, rowOf (L j) = some b → rowOf bv ≠ some b
  ap : ∀ j k, j < m → k < m → j ≠ k → ∀ b, rowOf (L j) = some b → rowOf (L k) ≠ some b
  sg : ¬ S g
  sb : ∀ b, S b → base ≤ b ∧ b < w.heap.size
section
variable {w w' : World} {base g : Nat} {ht et : TypeId} {sz m : Nat} {bv : Value} {L G : Nat → Value} {num n : Nat → Nat} {C : Nat → List Value} {S : Nat → Prop}
theorem KSt.fr {S' : Nat → Prop} (h : KSt w base g ht et sz m bv L G num n C S) (hf : Fr S' w w') (hd : ∀ b, S b → ¬ S' b) : KSt w' base g ht et sz m bv L G num n C S :=
  ⟨hf.own h.own fun b e => hd b (h.bs b e), fun j hj => hf.own (h.held j hj) fun b e => hd b (h.ls j hj b e), h.bs, h.ls, h.lb, h.ap, h.sg, fun b e => ⟨(h.sb b e).1, Nat.lt_of_lt_of_le (h.sb b e).2 hf.size⟩⟩
theorem KSt.below (h : KSt w base g ht et sz m bv L G num n C S) (hb : Below w.heap.size w w') : KSt w' base g ht et sz m bv L G num n C S := h.fr (Fr.of_below (S := fun _ => False) hb) fun _ _ e => e
theorem KSt.lw (h : KSt w base g ht et sz m bv L G num n C S) (j : Nat) (hj : j < m) (b : Nat) (e : rowOf (L j) = some b) : b < w.heap.size := (h.sb b (h.ls j hj b e)).2
theorem KSt.bg (h : KSt w base g ht et sz m bv L G num n C S) : rowOf bv ≠ some g := fun e => h.sg (h.bs g e)
theorem KSt.lg (h : KSt w base g ht et sz m bv L G num n C S) (j : Nat) (hj : j < m) : rowOf (L j) ≠ some g := fun e => h.sg (h.ls j hj g e)
/-- the list i in the book -/
theorem KSt.cells (h : KSt w base g ht et sz m bv L G num n C S) (i : Nat) (hi : i < m) :
    ∃ b off c, bv = .slice (some ⟨b, off, none⟩) m c ∧ w.cell? ⟨b, off + i * 3, none⟩ = some (L i) ∧ w.cell? ⟨b, off + i * 3 + 1, none⟩ = some (G i) ∧ w.cell? ⟨b, off + i * 3 + 2, none⟩ = some (.int .i64 ((num i : Nat) : Int)) := by
  obtain ⟨a, cap, rfl, hl, hc, hm, hr⟩ := reads_of_own h.own
  have key : ∀ r, r < 3 → ∃ b off, a = some ⟨b, off, none⟩ ∧ w.cell? ⟨b, off + (i * 3 + r), none⟩ = (hcell (L i) (G i) (num i))[r]? := fun r h3 => by
    have hlt : i * 3 + r < (helds m L G num).length := by rw [helds_length]; omega
    obtain ⟨b, off, e, c⟩ := hr (i * 3 + r) hlt
    refine ⟨b, off, e, ?_⟩
    have h4 := helds_at m L G num (i * 3 + r) (by omega)
    rw [show (i * 3 + r) / 3 = i from by omega, show (i * 3 + r) % 3 = r from by omega] at h4
    rw [c, ← h4]
    exact (List.getElem?_eq_getElem hlt).symm
  obtain ⟨b, off, e, c0⟩ := key 0 (by omega)
  obtain ⟨b1, off1, e1, c1⟩ := key 1 (by omega)
  obtain ⟨b2, off2, e2, c2⟩ := key 2 (by omega)
  rw [e] at e1 e2
  cases e1; cases e2
  subst e
  exact ⟨b, off, cap, rfl, c0, by rw [Nat.add_assoc]; exact c1, by rw [Nat.add_assoc]; exact c2⟩
theorem own_len {e : TypeId} {v : Value} {k : Nat} {xs : List Value} (h : Own w base e sz v k xs) : xs.length = k * sz := by
  rcases h with ⟨rfl, rfl, _⟩ | ⟨h1, _⟩
  · simp
  · exact h1
/-- an append leaves every slice that is no longer than the one that grows (the walk's step) -/
theorem run_app_le {P : Program} (w : World) (base : Nat) (t ty e : TypeId) (i : TypeInfo) (z : Value) (size bytes : Nat) (ht : P.underlying t = some (.slice e)) (hi : P.info? e = some i) (hz : i.zero = some z)
    (hsize : i.size = size) (hby : i.bytes = bytes) (hzs : z.cells.size = size) (hsz : 0 < size)
    (v : Value) (n : Nat) (xs : List Value) (hown : Own w base e size v n xs)
    (a : Addr) (cap m : Nat) (news : List Value) (hl : news.length = m * size) (hnews : ∀ j u, news[j]? = some u → w.cell? (a.add j) = some u) (h1 : ∀ u ∈ news, u.oneCell' = true) (hm1 : 0 < m)
    (hbytes : (n + m) * bytes ≤ 140737488355328) (hm : n + m ≤ 9223372036854775807) (v' : Value) (w' : World)
    (hrun : (Builtin.append_ #[t, t] ty #[v, .slice (some a) m cap]).run P w = .ok v' w')
    (base2 : Nat) (u : Value) (n2 : Nat) (ys : List Value) (hu : Own w base2 e size u n2 ys) (hle : n2 ≤ n) : Own w' base2 e size u n2 ys := by
  subst hsize hby
  rcases hown with ⟨rfl, rfl, ad', rfl⟩ | ⟨hxl, g, cp, cur, fr, rfl, hbg, hg, hfr, hnc, hcm2, hcs, htake⟩
  · obtain rfl : n2 = 0 := by omega
    rcases hu with h | ⟨hyl, g2, cp2, cur2, fr2, rfl, hb2, hg2, hf2, hn2, hc2, hs2, ht2⟩
    · exact .inl h
    · have hnil : ∃ o, w' = w.drew.alloc o := by
        cases ad' with
        | none =>
          have hr := run_append_nil (P := P) w t ty e i z ht hi hz a m cap news hl hnews hm1 (by omega) (by have hb := hbytes; simp only [Nat.zero_add] at hb; omega)
          rw [hr] at hrun
          cases hrun
          exact ⟨_, rfl⟩
        | some ad' =>
          have hr := run_append_grow (P := P) w t ty e i z ht hi hz ad' 0 0 [] (by simp) (by simp) a m cap news hl hnews (by omega) (by omega) (growslice_fits (by omega) hbytes)
          rw [hr] at hrun
          cases hrun
          exact ⟨_, rfl⟩
      obtain ⟨o, rfl⟩ := hnil
      exact own_below (.inr ⟨hyl, g2, cp2, cur2, fr2, rfl, hb2, hg2, hf2, hn2, hc2, hs2, ht2⟩) ((Below.refl _ _).drew.alloc (Nat.le_refl _) _)
  · by_cases hroom : n + m ≤ cp
    · have hfit : n * i.size + news.length ≤ cur.size := by
        rw [hl, ← Nat.add_mul]
        exact Nat.le_trans (Nat.mul_le_mul_right _ hroom) hcs
      have hr := run_append_fr (P := P) w t ty e i ht hi g n cp cur fr hg hfr a m cap news hl hnews h1 hroom hfit
      rw [hr] at hrun
      cases hrun
      rcases hu with h | ⟨hyl, g2, cp2, cur2, fr2, rfl, hb2, hg2, hf2, hn2, hc2, hs2, ht2⟩
      · exact .inl h
      · by_cases e2 : g2 = g
        · subst e2
          rw [hg] at hg2
          simp only [Option.some.injEq, Obj.cells.injEq] at hg2
          obtain ⟨rfl, _, rfl⟩ := hg2
          have hnl : n2 * i.size ≤ n * i.size := Nat.mul_le_mul_right _ hle
          refine .inr ⟨hyl, g2, cp2, _, fr, rfl, hb2, setRow_heap w g2 cur _ e _ hg, ?_, hn2, hc2, ?_, ?_⟩
          · intro k hk
            apply hfr
            simp only [List.size_toArray, List.length_append, List.length_take, List.length_drop, Array.length_toList] at hk
            omega
          · simp only [List.size_toArray, List.length_append, List.length_take, List.length_drop, Array.length_toList]
            omega
          · simp only [List.append_assoc]
            rw [List.take_append_of_le_length (by rw [List.length_take, Array.length_toList]; omega), List.take_take, Nat.min_eq_left hnl]
            exact ht2
        · exact .inr ⟨hyl, g2, cp2, cur2, fr2, rfl, hb2, by rw [setRow_other w g g2 _ e2]; exact hg2, hf2, hn2, hc2, hs2, ht2⟩
    · have holds : ∀ j u, xs[j]? = some u → w.cell? ((⟨g, 0, none⟩ : Addr).add j) = some u := by
        intro j u hu
        have hadd : (⟨g, 0, none⟩ : Addr).add j = ⟨g, j, none⟩ := by unfold Addr.add; split <;> simp_all
        rw [hadd, cell_of_row w g j cur e fr hg]
        rw [← htake, List.getElem?_take] at hu
        split at hu
        · simpa using hu
        · cases hu
      have hr := run_append_grow (P := P) w t ty e i z ht hi hz ⟨g, 0, none⟩ n cp xs hxl holds a m cap news hl hnews (by omega) (by omega) (growslice_fits (by omega) hbytes)
      rw [hr] at hrun
      cases hrun
      exact own_below hu ((Below.refl _ _).drew.alloc (Nat.le_refl _) _)
theorem own_free {w : World} {base : Nat} {e : TypeId} {sz g n c : Nat} {xs : List Value} (h : Own w base e sz (.slice (some ⟨g, 0, none⟩) n c) n xs) (i : Nat) (hi : i < n * sz) : w.frozen? ⟨g, i, none⟩ = false := by
  rcases h with ⟨rfl, _⟩ | ⟨h1, g', cap, cur, fr, e2, hb, hg, hf, hnc, hm, hcs, ht⟩
  · omega
  · simp only [Value.slice.injEq, Option.some.injEq, Addr.mk.injEq, and_true, true_and] at e2
    obtain ⟨rfl, rfl⟩ := e2
    have hle : n * sz ≤ c * sz := Nat.mul_le_mul_right _ hnc
    have := hf i (by omega)
    simp only [World.frozen?, hg]
    simp
    omega
theorem own_storeG {w : World} {base : Nat} {e : TypeId} {sz g n c : Nat} {xs : List Value} (h : Own w base e sz (.slice (some ⟨g, 0, none⟩) n c) n xs) (i : Nat) (hi : i < n * sz) (x : Value) :
    Own (w.setCell ⟨g, i, none⟩ x) base e sz (.slice (some ⟨g, 0, none⟩) n c) n (xs.set i x) := by
  rcases h with ⟨rfl, _⟩ | ⟨h1, g', cap, cur, fr, e2, hb, hg, hf, hnc, hm, hcs, ht⟩
  · omega
  · simp only [Value.slice.injEq, Option.some.injEq, Addr.mk.injEq, and_true, true_and] at e2
    obtain ⟨rfl, rfl⟩ := e2
    refine .inr ⟨by simpa using h1, g, c, cur.setIfInBounds i x, fr, rfl, hb, ?_, by simpa using hf, hnc, hm, by simpa using hcs, ?_⟩
    · rw [setCell_eq_setRow w g i cur e fr _ hg, setRow_heap w g cur _ _ fr hg]
    · rw [← ht]
      simp [List.take_set]
/-- one element more -/
theorem wp_app_oneG {w : World} {ops : Array Oper} {rest : List Oper} {o : Oper} {a : Act} {Q : Exit → Act → World → Prop} (hgd : Region.wanted o (yielded ops a.tmps) = true) (s x : Operand) {t e : TypeId} {i : TypeInfo} {z : Value} {sz by_ : Nat}
    (ho : o.op = .call { callee := .builtin .append, args := #[s, x], argTypes := #[t, t] }) (ht : Tryz.prog.underlying t = some (.slice e)) (hi : Tryz.prog.info? e = some i) (hz : i.zero = some z) (hs : i.size = sz) (hb : i.bytes = by_) (hzs : z.cells.size = sz) (hsz : 0 < sz)
    (base n : Nat) (v : Value) (ad : Addr) (cap : Nat) (xs ys zs : List Value) (r : Nat) (hs' : a.eval s = v) (hx : a.eval x = .slice (some ad) 1 cap) (hown : Own w base e sz v n xs) (hrd : Reads w sz (.slice (some ad) 1 cap) 1 ys) (h1 : ∀ u ∈ ys, u.oneCell' = true)
    (hr : n + 1 = r) (hzz : xs ++ ys = zs) (hlen : r * by_ ≤ 140737488355328) (hnm : r ≤ 9223372036854775807) (hbase : base ≤ w.heap.size)
    (h : ∀ b c w', Hid (Own w' base e sz (.slice b r c) r zs) → Hid (GrewR w w' base v (.slice b r c)) → Hid (∀ (base2 : Nat) (u : Value) (n2 : Nat) (ws : List Value), Own w base2 e sz u n2 ws → n2 ≤ n → Own w' base2 e sz u n2 ws) → wpList Tryz.prog ops Q rest (a.put o.dst (.slice b r c)) w') : wpList Tryz.prog ops Q (o :: rest) a w := by
  subst hr hzz
  refine wpList_want hgd fun K hK => ?_
  obtain ⟨v', w', hr, h2, h3, h4, h5⟩ := run_appR (P := Tryz.prog) w base t o.type e i z sz by_ ht hi hz hs hb hzs hsz v n xs hown _ 1 ys hrd h1 hlen hnm hbase
  have hle := run_app_le (P := Tryz.prog) w base t o.type e i z sz by_ ht hi hz hs hb hzs hsz v n xs hown ad cap 1 ys (by obtain ⟨_, _, _, hl, _⟩ := hrd; exact hl) ((reads_cells hrd).2 ad rfl) h1 (by omega) hlen hnm v' w' hr
  unfold Oper.wp execOp
  simp only [ho, resolve, invoke, builtin, Sem.run_bind, Sem.run_pure, Result.andThen_ok, List.map_toArray, List.map_cons, List.map_nil, hs', hx, hr]
  obtain ⟨b, c, rfl⟩ := (reads_of_own h2).slice
  exact hK _ _ (h b c w' h2 (grewR_of h4 h3 h5) hle)
/-- what stands beside the list that grows -/
def Oth (g hb m i : Nat) (bv : Value) (L G : Nat → Value) (u : Value) : Prop :=
  u = .slice (some ⟨g, 0, none⟩) 0 1 ∨ u = .slice (some ⟨hb, 0, none⟩) 0 1 ∨ u = bv ∨ (∃ j, j < m ∧ j ≠ i ∧ u = L j) ∨ (∃ j, j < i ∧ u = G j)
/-- the kind's lists, i of them grown -/
structure KGw (w : World) (base g : Nat) (ht et : TypeId) (sz m : Nat) (bv : Value) (L G : Nat → Value) (num n : Nat → Nat) (mk : Nat → List Value) (S : Nat → Prop) (i : Nat) : Prop where
  bk : KSt w base g ht et sz m bv L G num n (fun j => marks (mk j) (n j)) S
  own : ∀ j, j < i → Own w base et sz (G j) (n j + 40) (marks (mk j) (n j + 40))
  nil : ∀ j, i ≤ j → G j = .slice none 0 0
  gg : ∀ j, j < i → rowOf (G j) ≠ some g
  gb : ∀ j, j < i → ∀ b, rowOf (G j) = some b → rowOf bv ≠ some b
  gl : ∀ j k, j < i → k < m → j ≠ k → ∀ b, rowOf (G j) = some b → rowOf (L k) ≠ some b
  gm : ∀ j k, j < i → k < i → j ≠ k → ∀ b, rowOf (G j) = some b → rowOf (G k) ≠ some b
variable {mk : Nat → List Value} {hb i : Nat}
theorem KGw.fr {S' : Nat → Prop} (h : KGw w base g ht et sz m bv L G num n mk S i) (hf : Fr S' w w') (hd : ∀ b, S b → ¬ S' b) (hg : ∀ j, j < i → ∀ b, rowOf (G j) = some b → ¬ S' b) : KGw w' base g ht et sz m bv L G num n mk S i :=
  ⟨h.bk.fr hf hd, fun j hj => hf.own (h.own j hj) (hg j hj), h.nil, h.gg, h.gb, h.gl, h.gm⟩
theorem KGw.below (h : KGw w base g ht et sz m bv L G num n mk S i) (hb : Below w.heap.size w w') : KGw w' base g ht et sz m bv L G num n mk S i :=
  h.fr (Fr.of_below (S := fun _ => False) hb) (fun _ _ e => e) (fun _ _ _ _ e => e)
theorem KGw.app {nn : Nat} {v v' : Value} (h : KGw w base g ht et sz m bv L G num n mk S i) (hG : GrewR w w' base v v')
    (hle : ∀ (base2 : Nat) (u : Value) (n2 : Nat) (ws : List Value), Own w base2 et sz u n2 ws → n2 ≤ nn → Own w' base2 et sz u n2 ws) (hnn : n i ≤ nn) (hO : ∀ u, Oth g hb m i bv L G u → ApartR w u v) : KGw w' base g ht et sz m bv L G num n mk S i := by
  have hsz : w.heap.size ≤ w'.heap.size := hG.rows.size
  refine ⟨⟨hG.keep _ _ _ _ _ _ h.bk.own (hO _ (.inr (.inr (.inl rfl)))), fun j hj => ?_, h.bk.bs, h.bk.ls, h.bk.lb, h.bk.ap, h.bk.sg, fun b e => ⟨(h.bk.sb b e).1, Nat.lt_of_lt_of_le (h.bk.sb b e).2 hsz⟩⟩, fun j hj => ?_, h.nil, h.gg, h.gb, h.gl, h.gm⟩
  · by_cases e : j = i
    · subst e
      exact hle _ _ _ _ (h.bk.held j hj) hnn
    · exact hG.keep _ _ _ _ _ _ (h.bk.held j hj) (hO _ (.inr (.inr (.inr (.inl ⟨j, hj, e, rfl⟩)))))
  · exact hG.keep _ _ _ _ _ _ (h.own j hj) (hO _ (.inr (.inr (.inr (.inr ⟨j, hj, rfl⟩)))))
theorem KGw.start (h : KGw w base g ht et sz m bv L G num n mk S i) (hi : i < m) (hgw : g < w.heap.size) (hhb : hb < w.heap.size) (hne : rowOf (L i) ≠ some hb) : ∀ u, Oth g hb m i bv L G u → ApartR w u (L i) := by
  rintro u (rfl | rfl | rfl | ⟨j, hj, hji, rfl⟩ | ⟨j, hj, rfl⟩) k hk
  · simp only [rowOf_one, Option.some.injEq] at hk
    subst hk
    exact ⟨hgw, h.bk.lg i hi⟩
  · simp only [rowOf_one, Option.some.injEq] at hk
    subst hk
    exact ⟨hhb, hne⟩
  · exact ⟨(h.bk.sb k (h.bk.bs k hk)).2, fun e => h.bk.lb i hi k e hk⟩
  · exact ⟨h.bk.lw j hj k hk, h.bk.ap j i hj hi hji k hk⟩
  · exact ⟨(own_ltR (h.own j hj) k hk).2, h.gl j i hj hi (by omega) k hk⟩
theorem KGw.next {b2 c2 : Nat} {long : Value} (h : KGw w base g ht et sz m (.slice (some ⟨b2, 0, none⟩) m c2) L G num n mk S i) (hi : i < m)
    (hl : Own w base et sz long (n i + 40) (marks (mk i) (n i + 40))) (hO : ∀ u, Oth g hb m i (.slice (some ⟨b2, 0, none⟩) m c2) L G u → ApartR w u long) :
    KGw (w.setCell ⟨b2, i * 3 + 1, none⟩ long) base g ht et sz m (.slice (some ⟨b2, 0, none⟩) m c2) L (fun j => if j = i then long else G j) num n mk S (i + 1) := by
  have hs := Only.set w b2 (i * 3 + 1) long
  have hrb : rowOf (.slice (some ⟨b2, 0, none⟩) m c2) = some b2 := rowOf_pos (by
    rcases h.bk.own with ⟨h0, _⟩ | ⟨_, g', cap, cur, fr, e2, _, _, _, hnc, _⟩
    · omega
    · simp only [Value.slice.injEq] at e2; omega)
  have hlb : rowOf long ≠ some b2 := (hO _ (.inr (.inr (.inl rfl))) b2 hrb).2
  have hlL : ∀ k, k < m → k ≠ i → ∀ b, rowOf long = some b → rowOf (L k) ≠ some b := fun k hk hki b e e2 => (hO _ (.inr (.inr (.inr (.inl ⟨k, hk, hki, rfl⟩)))) b e2).2 e
  have hlG : ∀ k, k < i → ∀ b, rowOf long = some b → rowOf (G k) ≠ some b := fun k hk b e e2 => (hO _ (.inr (.inr (.inr (.inr ⟨k, hk, rfl⟩)))) b e2).2 e
  refine ⟨⟨?_, fun j hj => own_keptR (h.bk.held j hj) hs (.inr (fun e => h.bk.lb j hj b2 e hrb)), h.bk.bs, h.bk.ls, h.bk.lb, h.bk.ap, h.bk.sg, fun b e => ⟨(h.bk.sb b e).1, Nat.lt_of_lt_of_le (h.bk.sb b e).2 hs.size⟩⟩, fun j hj => ?_, fun j hj => ?_, fun j hj => ?_, fun j hj b e => ?_, fun j k hj hk hjk b e => ?_, fun j k hj hk hjk b e => ?_⟩
  · rw [← helds_set]
    exact own_storeG h.bk.own (i * 3 + 1) (by omega) long
  · by_cases e : j = i
    · subst e
      simp only [if_true]
      exact own_keptR hl hs (.inr hlb)
    · simp only [if_neg e]
      exact own_keptR (h.own j (by omega)) hs (.inr (fun e2 => h.gb j (by omega) b2 e2 hrb))
  · simp only [if_neg (by omega : ¬ j = i)]
    exact h.nil j (by omega)
  · by_cases e : j = i
    · simp only [if_pos e]
      exact (hO _ (.inl rfl) g rfl).2
    · simp only [if_neg e]
      exact h.gg j (by omega)
  · by_cases e2 : j = i
    · simp only [if_pos e2] at e
      intro e3
      exact (hO _ (.inr (.inr (.inl rfl))) b e3).2 e
    · simp only [if_neg e2] at e
      exact h.gb j (by omega) b e
  · by_cases e2 : j = i
    · simp only [if_pos e2] at e
      exact hlL k hk (fun e3 => hjk (by rw [e2, e3])) b e
    · simp only [if_neg e2] at e
      exact h.gl j k (by omega) hk hjk b e
  · by_cases e2 : j = i
    · simp only [if_pos e2] at e
      simp only [if_neg (fun e3 => hjk (by rw [e2, e3]) : ¬ k = i)]
      exact hlG k (by omega) b e
    · simp only [if_neg e2] at e
      by_cases e3 : k = i
      · simp only [if_pos e3]
        intro e4
        exact hlG j (by omega) b e4 e
      · simp only [if_neg e3]
        exact h.gm j k (by omega) (by omega) hjk b e
end
end Go.Proofs.YtbcnapkbdbefhaaGreatDoor
namespace Go.Proofs.YtbcnapkbdbefhaaGreatDoor
open Go.RowKit

section
variable {w w' : World} {base g : Nat} {ht et : TypeId} {sz m : Nat} {bv : Value} {L G : Nat → Value} {num n : Nat → Nat} {C C2 : Nat → List Value} {S : Nat → Prop}
theorem KSt.len (h : KSt w base g ht et sz m bv L G num n C S) (j : Nat) (hj : j < m) : (C j).length = n j * sz := own_len (h.held j hj)
/-- cells of the list i are written -/
theorem KSt.write (h : KSt w base g ht et sz m bv L G num n C S) (i : Nat) (hi : i < m) {b : Nat} (hL : rowOf (L i) = some b) (hO : Only w w' b) (ho : Own w' base et sz (L i) (n i) (C2 i)) (hC : ∀ j, j ≠ i → C2 j = C j) :
    KSt w' base g ht et sz m bv L G num n C2 S := by
  refine ⟨own_keptR h.own hO (.inr (h.lb i hi b hL)), fun j hj => ?_, h.bs, h.ls, h.lb, h.ap, h.sg, fun q e => ⟨(h.sb q e).1, Nat.lt_of_lt_of_le (h.sb q e).2 hO.size⟩⟩
  by_cases e : j = i
  · subst e; exact ho
  · rw [hC j e]
    exact own_keptR (h.held j hj) hO (.inr (h.ap i j hi hj (fun e2 => e e2.symm) b hL))
end
theorem own_ptr {w : World} {base : Nat} {e : TypeId} {sz n k c : Nat} {a : Option Addr} {xs : List Value} (h : Own w base e sz (.slice a k c) n xs) (hn : 0 < n) : ∃ g, a = some ⟨g, 0, none⟩ ∧ k = n ∧ base ≤ g ∧ g < w.heap.size := by
  rcases h with ⟨h0, _⟩ | ⟨_, g, cap, cur, fr, e2, hb, hg, _⟩
  · omega
  · simp only [Value.slice.injEq] at e2
    exact ⟨g, e2.1, e2.2.1, hb, (Array.getElem?_eq_some_iff.1 hg).1⟩
theorem own_cellv {w : World} {base : Nat} {e : TypeId} {sz n b c : Nat} {xs : List Value} (h : Own w base e sz (.slice (some ⟨b, 0, none⟩) n c) n xs) (q : Nat) (hq : q < n * sz) : ∃ v, xs[q]? = some v ∧ w.cell? ⟨b, q, none⟩ = some v := by
  have hl := own_len h
  obtain ⟨a', c', e1, _, _, _, hr⟩ := reads_of_own h
  obtain ⟨b', off, e2, hc⟩ := hr q (by omega)
  simp only [Value.slice.injEq] at e1
  rw [e2] at e1
  simp only [Option.some.injEq, Addr.mk.injEq, and_true] at e1
  obtain ⟨⟨rfl, rfl⟩, _⟩ := e1
  rw [Nat.zero_add] at hc
  exact ⟨_, List.getElem?_eq_getElem (by omega), hc⟩
theorem mark_cell {w : World} {base : Nat} {e : TypeId} {sz n b c : Nat} {mk : List Value} (h : Own w base e sz (.slice (some ⟨b, 0, none⟩) n c) n (marks mk n)) (hl : mk.length = sz) (k r : Nat) (hk : k < n) (hr : r < sz) (v : Value) (hv : mk[r]? = some v) : w.cell? ⟨b, k * sz + r, none⟩ = some v := by
  have hlt : k * sz + r < n * sz := by
    have : (k + 1) * sz ≤ n * sz := Nat.mul_le_mul_right _ hk
    rw [Nat.add_mul] at this
    omega
  obtain ⟨u, hu, hc⟩ := own_cellv h (k * sz + r) hlt
  subst hl
  rw [marks_get mk n k r hk hr, hv] at hu
  rw [hc, hu]
theorem take_setV (l : List Value) (k : Nat) (x : Value) (h : k < l.length) : (l.set k x).take (k + 1) = l.take k ++ [x] := by
  rw [List.take_succ_eq_append_getElem (by rw [List.length_set]; exact h), List.getElem_set_self]
  congr 1
  apply List.ext_getElem?
  intro j
  simp only [List.getElem?_take]
  split
  · rw [List.getElem?_set_ne (by omega)]
  · rfl
theorem take_setV_lt (l : List Value) (k j : Nat) (x : Value) (h : j ≤ k) : (l.set k x).take j = l.take j := by
  apply List.ext_getElem?
  intro q
  simp only [List.getElem?_take]
  split
  · rw [List.getElem?_set_ne (by omega)]
  · rfl
def set4 (l : List Value) (k : Nat) (a b c d : Value) : List Value := (((l.set k a).set (k + 1) b).set (k + 2) c).set (k + 3) d
theorem set4_length (l : List Value) (k : Nat) (a b c d : Value) : (set4 l k a b c d).length = l.length := by simp [set4]
theorem take_set4 (l : List Value) (k : Nat) (a b c d : Value) (h : k * 4 + 4 ≤ l.length) : (set4 l (k * 4) a b c d).take ((k + 1) * 4) = l.take (k * 4) ++ [a, b, c, d] := by
  unfold set4
  rw [show (k + 1) * 4 = k * 4 + 3 + 1 from by omega, take_setV _ _ _ (by simp only [List.length_set]; omega), show k * 4 + 3 = k * 4 + 2 + 1 from rfl, take_setV _ _ _ (by simp only [List.length_set]; omega),
    show k * 4 + 2 = k * 4 + 1 + 1 from rfl, take_setV _ _ _ (by simp only [List.length_set]; omega), take_setV _ _ _ (by omega)]
  simp
theorem only4 (w : World) (g k : Nat) (a b c d : Value) : Only w ((((w.setCell ⟨g, k, none⟩ a).setCell ⟨g, k + 1, none⟩ b).setCell ⟨g, k + 2, none⟩ c).setCell ⟨g, k + 3, none⟩ d) g :=
  (((Only.set _ _ _ _).trans (Only.set _ _ _ _)).trans (Only.set _ _ _ _)).trans (Only.set _ _ _ _)
theorem own_store4 {w : World} {base : Nat} {e : TypeId} {g n c : Nat} {xs : List Value} (h : Own w base e 4 (.slice (some ⟨g, 0, none⟩) n c) n xs) (k : Nat) (hk : k < n) (p q r s : Value) :
    Own ((((w.setCell ⟨g, k * 4, none⟩ p).setCell ⟨g, k * 4 + 1, none⟩ q).setCell ⟨g, k * 4 + 2, none⟩ r).setCell ⟨g, k * 4 + 3, none⟩ s) base e 4 (.slice (some ⟨g, 0, none⟩) n c) n (set4 xs (k * 4) p q r s) :=
  own_storeG (own_storeG (own_storeG (own_storeG h (k * 4) (by omega) p) (k * 4 + 1) (by omega) q) (k * 4 + 2) (by omega) r) (k * 4 + 3) (by omega) s
theorem marks_full {l c : List Value} {n sz k : Nat} (hl : l.length = n * sz) (hk : k = n) (h : l.take (k * sz) = marks c k) : l = marks c n := by
  subst hk
  rwa [List.take_of_length_le (by omega)] at h
/-- what keeping a list leaves of the others -/
structure Kept (w w' : World) (base g : Nat) (bv bv' : Value) : Prop where
  below : Below base w w'
  keep : ∀ (base2 : Nat) (e : TypeId) (sz n : Nat) (u : Value) (xs : List Value), Own w base2 e sz u n xs → ApartR w u bv → rowOf u ≠ some g → Own w' base2 e sz u n xs
  apart : ∀ u, ApartR w u bv → ApartR w' u bv'
theorem step_app_el2 {ops : Array Oper} {o : Oper} {a : Act} {w : World} {K : Act → World → Prop} {Q : Exit → Act → World → Prop} {E : Prop} (hgd : o.guard = none) (s x : Operand) {t e : TypeId} {i : TypeInfo} {z : Value} {sz by_ : Nat}
    (ho : o.op = .call { callee := .builtin .append, args := #[s, x], argTypes := #[t, t] }) (ht : Tryz.prog.underlying t = some (.slice e)) (hi : Tryz.prog.info? e = some i) (hz : i.zero = some z) (hs : i.size = sz) (hb : i.bytes = by_) (hzs : z.cells.size = sz) (hsz : 0 < sz)
    (base n m : Nat) (v v2 : Value) (xs ys zs : List Value) (r : Nat) (hs' : a.eval s = v) (hx : a.eval x = v2) (hown : Own w base e sz v n xs) (hrd : Reads w sz v2 m ys) (h1 : ∀ u ∈ ys, u.oneCell' = true)
    (hr : n + m = r) (hzz : xs ++ ys = zs) (hlen : r * by_ ≤ 140737488355328) (hnm : r ≤ 9223372036854775807) (hbase : base ≤ w.heap.size)
    (h : ∀ b c w', Hid (Own w' base e sz (.slice b r c) r zs) → Hid (Grew w w' base v (.slice b r c)) → K (a.put o.dst (.slice b r c)) w') : if Region.wanted o (yielded ops a.tmps) = true then Oper.wp Tryz.prog o a w K Q else E := by
  subst hr hzz
  have hw : Region.wanted o (yielded ops a.tmps) = true := by simp [Region.wanted, hgd]
  rw [if_pos hw]
  obtain ⟨v', w', hr, h2, h3, h4, h5⟩ := run_app2 (P := Tryz.prog) w base t o.type e i z sz by_ ht hi hz hs hb hzs hsz v n xs hown v2 m ys hrd h1 hlen hnm hbase
  unfold Oper.wp execOp
  simp only [ho, resolve, invoke, builtin, Sem.run_bind, Sem.run_pure, Result.andThen_ok, List.map_toArray, List.map_cons, List.map_nil, hs', hx, hr]
  obtain ⟨b, c, rfl⟩ := (reads_of_own h2).slice
  exact h b c w' h2 (grew_of h4 h3 h5)
theorem step_app_elR {ops : Array Oper} {o : Oper} {a : Act} {w : World} {K : Act → World → Prop} {Q : Exit → Act → World → Prop} {E : Prop} (hgd : o.guard = none) (s x : Operand) {t e : TypeId} {i : TypeInfo} {z : Value} {sz by_ : Nat}
    (ho : o.op = .call { callee := .builtin .append, args := #[s, x], argTypes := #[t, t] }) (ht : Tryz.prog.underlying t = some (.slice e)) (hi : Tryz.prog.info? e = some i) (hz : i.zero = some z) (hs : i.size = sz) (hb : i.bytes = by_) (hzs : z.cells.size = sz) (hsz : 0 < sz)
    (base n m : Nat) (v v2 : Value) (xs ys zs : List Value) (r : Nat) (hs' : a.eval s = v) (hx : a.eval x = v2) (hown : Own w base e sz v n xs) (hrd : Reads w sz v2 m ys) (h1 : ∀ u ∈ ys, u.oneCell' = true)
    (hr : n + m = r) (hzz : xs ++ ys = zs) (hlen : r * by_ ≤ 140737488355328) (hnm : r ≤ 9223372036854775807) (hbase : base ≤ w.heap.size)
    (h : ∀ b c w', Hid (Own w' base e sz (.slice b r c) r zs) → Hid (GrewR w w' base v (.slice b r c)) → K (a.put o.dst (.slice b r c)) w') : if Region.wanted o (yielded ops a.tmps) = true then Oper.wp Tryz.prog o a w K Q else E := by
  subst hr hzz
  have hw : Region.wanted o (yielded ops a.tmps) = true := by simp [Region.wanted, hgd]
  rw [if_pos hw]
  obtain ⟨v', w', hr, h2, h3, h4, h5⟩ := run_appR (P := Tryz.prog) w base t o.type e i z sz by_ ht hi hz hs hb hzs hsz v n xs hown v2 m ys hrd h1 hlen hnm hbase
  unfold Oper.wp execOp
  simp only [ho, resolve, invoke, builtin, Sem.run_bind, Sem.run_pure, Result.andThen_ok, List.map_toArray, List.map_cons, List.map_nil, hs', hx, hr]
  obtain ⟨b, c, rfl⟩ := (reads_of_own h2).slice
  exact h b c w' h2 (grewR_of h4 h3 h5)
/-- what grew lies where it lay, or in new memory -/
theorem grew_from {w w' : World} {base : Nat} {v v' : Value} (h : GrewR w w' base v v') : ∀ b, rowOf v' = some b → rowOf v = some b ∨ w.heap.size ≤ b := by
  intro b hb
  by_cases h2 : rowOf v = some b
  · exact .inl h2
  · by_cases h1 : b < w.heap.size
    · exact absurd hb (h.apart (.slice (some ⟨b, 0, none⟩) 0 1) (fun k hk => by
        simp only [rowOf_one, Option.some.injEq] at hk
        subst hk
        exact ⟨h1, h2⟩) b rfl).2
    · exact .inr (by omega)
/-- a digit; the mark of a number as a text -/
def digB (n : Nat) : ByteArray := ⟨#[UInt8.ofNat (48 + n)]⟩
def wordB (n : Nat) : ByteArray := ⟨#[35]⟩ ++ digB n
theorem wordB_size (n : Nat) : (wordB n).size = 2 := by
  show ((⟨#[35]⟩ : ByteArray) ++ digB n).size = 2
  rw [ByteArray.size_append]; rfl
theorem digs : ∀ n, n < 10 → (⟨#[48, 49, 50, 51, 52, 53, 54, 55, 56, 57, 97, 98, 99, 100, 101, 102, 103, 104, 105, 106, 107, 108, 109, 110, 111, 112, 113, 114, 115, 116, 117, 118, 119, 120, 121, 122]⟩ : ByteArray).extract n (n + 1) = digB n := by
  intro n hn
  have : n = 0 ∨ n = 1 ∨ n = 2 ∨ n = 3 ∨ n = 4 ∨ n = 5 ∨ n = 6 ∨ n = 7 ∨ n = 8 ∨ n = 9 := by omega
  rcases this with h | h | h | h | h | h | h | h | h | h <;> subst h <;> rfl
theorem ret_str {a b : ByteArray} (h : a = b) : Ending.returned (.string a) = Ending.returned (.string b) := by rw [h]
set_option maxRecDepth 100000 in
set_option maxHeartbeats 1000000 in
theorem small_any (n : Nat) (hn : n < 10) (w : World) : Calls Tryz.prog 185 #[.int .i64 n] w fun e w' => e = .returned (.string (digB n)) ∧ w = w' := by
  have HD := Lib.hid (digs n hn)
  go_enter Tryz.func185, Tryz.ntmps185
  go_wp2
  go_ret
  exact ⟨ret_str HD.out, rfl⟩
set_option maxRecDepth 100000 in
set_option maxHeartbeats 1000000 in
theorem word_any (n : Nat) (hn : n < 10) (w : World) : Calls Tryz.prog 162 #[.int .i64 n] w fun e w' => e = .returned (.string (wordB n)) ∧ w = w' := by
  have h1 : Calls Tryz.prog 184 #[.int .i64 n, .int .i64 10] w fun e w' => e = .returned (.string (digB n)) ∧ w = w' := by
    go_enter Tryz.func184, Tryz.ntmps184
    go_wp2_with fail
    refine (small_any n hn w).mono ?_
    rintro e w' ⟨rfl, rfl⟩
    go_wp2
    go_ret
    exact ⟨rfl, rfl⟩
  have h2 : Calls Tryz.prog 181 #[.int .i64 n] w fun e w' => e = .returned (.string (digB n)) ∧ w = w' := by
    go_enter Tryz.func181, Tryz.ntmps181
    go_wp2_with fail
    refine h1.mono ?_
    rintro e w' ⟨rfl, rfl⟩
    go_wp2
    go_ret
    exact ⟨rfl, rfl⟩
  have h3 : Calls Tryz.prog 177 #[.int .i64 n] w fun e w' => e = .returned (.string (digB n)) ∧ w = w' := by
    go_enter Tryz.func177, Tryz.ntmps177
    go_wp2_with fail
    refine h2.mono ?_
    rintro e w' ⟨rfl, rfl⟩
    go_wp2
    go_ret
    exact ⟨rfl, rfl⟩
  go_enter Tryz.func162, Tryz.ntmps162
  go_wp2_with fail
  refine h3.mono ?_
  rintro e w' ⟨rfl, rfl⟩
  go_wp2
  go_ret
  exact ⟨rfl, rfl⟩
end Go.Proofs.YtbcnapkbdbefhaaGreatDoor
namespace Go.Proofs.YtbcnapkbdbefhaaGreatDoor
open Go.RowKit

/-- the book while lists are told: its rows lie above it, apart -/
structure Pg (w : World) (g M : Nat) (f : Nat → Value) : Prop where
  blk : Blk w g (bkF M f) 54
  lw : ∀ q b, rowOf (f q) = some b → g < b ∧ b < w.heap.size
  dj : ∀ q r, q ≠ r → ∀ b, rowOf (f q) = some b → rowOf (f r) ≠ some b
theorem upd_same (f : Nat → Value) (i : Nat) (v : Value) : upd f i v i = v := by simp [upd]
theorem upd_other (f : Nat → Value) {i r : Nat} (v : Value) (h : r ≠ i) : upd f i v r = f r := by simp [upd, h]
/-- what telling one list leaves of the rows of other kinds -/
def KeepsO (w w' : World) (f f' : Nat → Value) (i : Nat) : Prop := ∀ r, r ≠ i → ∀ (base : Nat) (e : TypeId) (sz n : Nat) (xs : List Value), Own w base e sz (f r) n xs → Own w' base e sz (f' r) n xs
theorem Pg.keep {w w' : World} {g M m i sz : Nat} {f : Nat → Value} {v : Value} {e : TypeId} {xs : List Value} (h : Pg w g M f) (hb : Blk w' g (bkF (M + 1) (upd f i v)) 54) (ho : Own w' g e sz v (m + 1) xs) (hne : rowOf v ≠ some g) (hk : Kept w w' g g (f i) v) :
    Pg w' g (M + 1) (upd f i v) ∧ KeepsO w w' f (upd f i v) i := by
  have hap : ∀ r, r ≠ i → ApartR w (f r) (f i) := fun r hr k hk => ⟨(h.lw r k hk).2, h.dj r i hr k hk⟩
  have hv := own_ltR ho
  refine ⟨⟨hb, fun q b hq => ?_, fun q r hqr b hq => ?_⟩, fun r hr base e sz n xs hO => ?_⟩
  · by_cases e : q = i
    · subst e
      rw [upd_same] at hq
      have h1 := hv b hq
      have h2 : b ≠ g := fun e => hne (by rw [hq, e])
      omega
    · rw [upd_other f v e] at hq
      exact ⟨(h.lw q b hq).1, Nat.lt_of_lt_of_le (h.lw q b hq).2 hk.below.size⟩
  · by_cases e : q = i
    · subst e
      rw [upd_same] at hq
      rw [upd_other f v (fun e => hqr e.symm)]
      intro hr
      exact (hk.apart _ (hap r (fun e => hqr e.symm)) b hr).2 hq
    · rw [upd_other f v e] at hq
      by_cases e2 : r = i
      · subst e2
        rw [upd_same]
        exact (hk.apart _ (hap q e) b hq).2
      · rw [upd_other f v e2]
        exact h.dj q r hqr b hq
  · rw [upd_other f v hr]
    exact hk.keep _ _ _ _ _ _ hO (hap r hr) (fun e => by have := (h.lw r g e).1; omega)
theorem Pg.new (w : World) (f : Nat → Value) (hf : ∀ q, f q = .slice none 0 0) : Pg (w.alloc (.cells (bkF 0 f) 54)) w.heap.size 0 f :=
  ⟨Blk.new _ _ _, fun q b h => by rw [hf q] at h; simp [rowOf_nil] at h, fun q r _ b h => by rw [hf q] at h; simp [rowOf_nil] at h⟩
theorem KSt.empty {w : World} {base g : Nat} {ht et : TypeId} {sz : Nat} (L : Nat → Value) (num n : Nat → Nat) (C : Nat → List Value) : KSt w base g ht et sz 0 (.slice none 0 0) L (fun _ => .slice none 0 0) num n C (fun _ => False) :=
  ⟨own_none _ _ _ _, fun j hj => absurd hj (by omega), fun b h => by simp [rowOf_nil] at h, fun j hj => absurd hj (by omega), fun j hj => absurd hj (by omega), fun j k hj => absurd hj (by omega), id, fun b h => h.elim⟩
/-- the blocks of a kind: its row's, its lists' -/
def SOf (bv : Value) (m : Nat) (L : Nat → Value) (b : Nat) : Prop := rowOf bv = some b ∨ ∃ j, j < m ∧ rowOf (L j) = some b
/-- a kind's lists, all told -/
theorem Pg.kst {w : World} {g M i base m sz : Nat} {f : Nat → Value} {L : Nat → Value} {num n : Nat → Nat} {C : Nat → List Value} {ht et : TypeId} (h : Pg w g M f) (hbase : base ≤ g) (ho : Own w g ht 3 (f i) m (helds m L (fun _ => .slice none 0 0) num)) (held : ∀ j, j < m → Own w base et sz (L j) (n j) (C j))
    (lw : ∀ j, j < m → ∀ b, rowOf (L j) = some b → base ≤ b ∧ b < g) (ap : ∀ j k, j < m → k < m → j ≠ k → ∀ b, rowOf (L j) = some b → rowOf (L k) ≠ some b) :
    KSt w base g ht et sz m (f i) L (fun _ => .slice none 0 0) num n C (SOf (f i) m L) := by
  refine ⟨own_mono ho hbase, held, fun b h => .inl h, fun j hj b e => .inr ⟨j, hj, e⟩, fun j hj b e e2 => ?_, ap, ?_, ?_⟩
  · have h1 := (lw j hj b e).2
    have h2 := (h.lw i b e2).1
    omega
  · rintro (e | ⟨j, hj, e⟩)
    · have := (h.lw i g e).1; omega
    · have := (lw j hj g e).2; omega
  · rintro b (e | ⟨j, hj, e⟩)
    · have := h.lw i b e; omega
    · have h1 := lw j hj b e
      exact ⟨h1.1, Nat.lt_trans h1.2 h.blk.lt⟩
/-- the blocks of two kinds are apart -/
theorem sOf_dj {w : World} {g M i r m m' : Nat} {f : Nat → Value} {L L' : Nat → Value} (h : Pg w g M f) (hir : i ≠ r) (l1 : ∀ j, j < m → ∀ b, rowOf (L j) = some b → b < g) (l2 : ∀ j, j < m' → ∀ b, rowOf (L' j) = some b → b < g)
    (ap : ∀ j k, j < m → k < m' → ∀ b, rowOf (L j) = some b → rowOf (L' k) ≠ some b) : ∀ b, SOf (f i) m L b → ¬ SOf (f r) m' L' b := by
  rintro b (e | ⟨j, hj, e⟩) (e2 | ⟨k, hk, e2⟩)
  · exact h.dj i r hir b e e2
  · have := (h.lw i b e).1; have := l2 k hk b e2; omega
  · have := (h.lw r b e2).1; have := l1 j hj b e; omega
  · exact ap j k hj hk b e e2
theorem dj_false {S : Nat → Prop} : ∀ b, S b → ¬ (fun _ : Nat => False) b := fun _ _ h => h
theorem dj_false' {S : Nat → Prop} : ∀ b, (fun _ : Nat => False) b → ¬ S b := fun _ h => h.elim
end Go.Proofs.YtbcnapkbdbefhaaGreatDoor
namespace Go.Proofs.YtbcnapkbdbefhaaGreatDoor
open Go.RowKit

/-- a list, told by its place -/
def seqL {α : Type} (d : α) (vs : List α) (j : Nat) : α := vs.getD j d
theorem lt0 {P : Nat → Prop} : ∀ j, j < 0 → P j := fun j h => absurd h (by omega)
theorem lt1 {P : Nat → Prop} (h0 : P 0) : ∀ j, j < 1 → P j
  | 0, _ => h0
  | j + 1, h => absurd h (by omega)
theorem lt2 {P : Nat → Prop} (h0 : P 0) (h1 : P 1) : ∀ j, j < 2 → P j
  | 0, _ => h0
  | 1, _ => h1
  | j + 2, h => absurd h (by omega)
theorem lt3 {P : Nat → Prop} (h0 : P 0) (h1 : P 1) (h2 : P 2) : ∀ j, j < 3 → P j
  | 0, _ => h0
  | 1, _ => h1
  | 2, _ => h2
  | j + 3, h => absurd h (by omega)
theorem lt4 {P : Nat → Prop} (h0 : P 0) (h1 : P 1) (h2 : P 2) (h3 : P 3) : ∀ j, j < 4 → P j
  | 0, _ => h0
  | 1, _ => h1
  | 2, _ => h2
  | 3, _ => h3
  | j + 4, h => absurd h (by omega)
/-- two lists in blocks of their own -/
def Ap (u v : Value) : Prop := ∀ b, rowOf u = some b → rowOf v ≠ some b
theorem Ap.symm {u v : Value} (h : Ap u v) : Ap v u := fun b e e2 => h b e2 e
/-- a list's block lies in a row of blocks -/
def InR (v : Value) (lo hi : Nat) : Prop := ∀ b, rowOf v = some b → lo ≤ b ∧ b < hi
theorem InR.ap {u v : Value} {a b c d : Nat} (h : InR u a b) (h2 : InR v c d) (hle : b ≤ c) : Ap u v := fun k e e2 => by have := h k e; have := h2 k e2; omega
theorem InR.mono {v : Value} {a b c d : Nat} (h : InR v a b) (h1 : c ≤ a) (h2 : b ≤ d) : InR v c d := fun k e => by have := h k e; omega
theorem inR_some (g n c : Nat) {lo hi : Nat} (h1 : lo ≤ g) (h2 : g < hi) : InR (.slice (some ⟨g, 0, none⟩) n c) lo hi := fun b hb => by
  have := rowOf_own hb; simp only [Value.ownBlock, Option.some.injEq] at this; subst this; exact ⟨h1, h2⟩
theorem inR_nil (n c lo hi : Nat) : InR (.slice none n c) lo hi := fun b hb => by simp [rowOf_nil] at hb
theorem ap_off {m : Nat} {L : Nat → Value} (h : ∀ k, k < m → ∀ j, j < k → Ap (L j) (L k)) : ∀ j k, j < m → k < m → j ≠ k → ∀ b, rowOf (L j) = some b → rowOf (L k) ≠ some b := by
  intro j k hj hk hne
  rcases Nat.lt_or_gt_of_ne hne with h2 | h2
  · exact h k hk j h2
  · exact (h j hj k h2).symm
theorem keepsO_own {w w' : World} {f f' : Nat → Value} {i : Nat} (h : KeepsO w w' f f' i) (r : Nat) (hr : r ≠ i) {base : Nat} {e : TypeId} {sz n : Nat} {xs : List Value} (ho : Own w base e sz (f r) n xs) : Own w' base e sz (f' r) n xs := h r hr base e sz n xs ho
end Go.Proofs.YtbcnapkbdbefhaaGreatDoor

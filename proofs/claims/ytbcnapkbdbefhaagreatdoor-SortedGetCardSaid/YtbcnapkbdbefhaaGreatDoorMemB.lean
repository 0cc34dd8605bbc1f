/- A block of the call's own that is known whole: its cells, and what becomes of them. No condition. | Slices of elements of whatever size: cuts, appends, what a slice of the call's own reads as. The condition of append: as many bytes as the model's append bears. | Small helpers of several laws: worlds named, SameBytes of the same bytes, slices that hold nothing. No condition. | A store into a row of bytes of the call's own, and into a boxed array. The condition: an index within. | Appends next to one another: two slices of the call's own, of which one grows. The condition: as many bytes as the model's append bears. | Appends next to one another, of slices that may have no room: what is written is a slice's block only where it has room. The condition: as many bytes as the model's append bears. -/
import Derived.Test.YtbcnapkbdbefhaaGreatDoorRet
import Derived.Deep.WholeRow
import Derived.Test.YtbcnapkbdbefhaaGreatDoorHelp1
import Derived.Deep.RegionHeld3
namespace Go.Proofs.YtbcnapkbdbefhaaGreatDoor
open Go.RowKit

/-- block g holds the cells cs, none of them frozen -/
def Blk (w : World) (g : Nat) (cs : Array Value) (t : TypeId) : Prop := w.heap[g]? = some (.cells cs t (0, 0))
theorem Blk.lt {w : World} {g : Nat} {cs : Array Value} {t : TypeId} (h : Blk w g cs t) : g < w.heap.size := (Array.getElem?_eq_some_iff.1 h).1
theorem Blk.cell {w : World} {g : Nat} {cs : Array Value} {t : TypeId} (h : Blk w g cs t) (i : Nat) : w.cell? ⟨g, i, none⟩ = cs[i]? := cell_of_row w g i cs t (0, 0) h
theorem Blk.cellv {w : World} {g : Nat} {cs : Array Value} {t : TypeId} (h : Blk w g cs t) (i : Nat) (x : Value) (hx : cs[i]? = some x) : w.cell? ⟨g, i, none⟩ = some x := by rw [h.cell i, hx]
theorem Blk.free {w : World} {g : Nat} {cs : Array Value} {t : TypeId} (h : Blk w g cs t) (i : Nat) : w.frozen? ⟨g, i, none⟩ = false := by
  unfold Blk at h
  simp only [World.frozen?, h]
  simp
theorem Blk.set {w : World} {g : Nat} {cs : Array Value} {t : TypeId} (h : Blk w g cs t) (i : Nat) (x : Value) : Blk (w.setCell ⟨g, i, none⟩ x) g (cs.setIfInBounds i x) t := by
  unfold Blk at *
  rw [setCell_eq_setRow w g i cs t (0, 0) x h, setRow_heap w g cs _ t _ h]
theorem Blk.set_other {w : World} {g : Nat} {cs : Array Value} {t : TypeId} (h : Blk w g cs t) (p : Addr) (hp : p.block ≠ g) (x : Value) : Blk (w.setCell p x) g cs t := by
  unfold Blk at *
  rw [Below.heap_setCell _ _ _ _ hp.symm]; exact h
theorem Blk.drewN {w : World} {g : Nat} {cs : Array Value} {t : TypeId} (h : Blk w g cs t) (n : Nat) : Blk (w.drewN n) g cs t := h
theorem Blk.drew {w : World} {g : Nat} {cs : Array Value} {t : TypeId} (h : Blk w g cs t) : Blk w.drew g cs t := h
theorem Blk.below {w w' : World} {g : Nat} {cs : Array Value} {t : TypeId} (h : Blk w g cs t) (hb : Below w.heap.size w w') : Blk w' g cs t := by
  have := h.lt
  unfold Blk at *
  rw [hb.block g this]; exact h
theorem Blk.grown {w w' : World} {g : Nat} {cs : Array Value} {t : TypeId} {r : Option Nat} (h : Blk w g cs t) (hb : w.grownBy w' r) (hne : some g ≠ r) : Blk w' g cs t := by
  have := h.lt
  unfold Blk at *
  rw [hb.block g this hne]; exact h
theorem Blk.new (w : World) (cs : Array Value) (t : TypeId) : Blk (w.alloc (.cells cs t)) w.heap.size cs t := heap_alloc_last w (.cells cs t)
theorem Blk.new_at (w : World) (cs : Array Value) (t : TypeId) (g : Nat) (h : g = w.heap.size) : Blk (w.alloc (.cells cs t)) g cs t := by subst h; exact Blk.new w cs t
theorem Blk.alloc {w : World} {g : Nat} {cs : Array Value} {t : TypeId} (h : Blk w g cs t) (o : Obj) : Blk (w.alloc o) g cs t := h.below ((Below.refl _ _).alloc (Nat.le_refl _) _)

/-- nothing but block g changed, and blocks were added -/
def Only (w w' : World) (g : Nat) : Prop := w.grownBy w' (some g)
theorem Only.refl (w : World) (g : Nat) : Only w w g := ⟨rfl, rfl, rfl, Nat.le_refl _, fun _ _ _ => rfl⟩
theorem Only.trans {w w1 w2 : World} {g : Nat} (h1 : Only w w1 g) (h2 : Only w1 w2 g) : Only w w2 g := by
  obtain ⟨a1, a2, a3, a4, a5⟩ := h1
  obtain ⟨b1, b2, b3, b4, b5⟩ := h2
  exact ⟨b1.trans a1, b2.trans a2, b3.trans a3, Nat.le_trans a4 b4, fun k hk hne => (b5 k (Nat.lt_of_lt_of_le hk a4) hne).trans (a5 k hk hne)⟩
theorem Only.set (w : World) (g i : Nat) (x : Value) : Only w (w.setCell ⟨g, i, none⟩ x) g := by
  have h := Below.setCell (B := 0) (Below.refl 0 w) (p := ⟨g, i, none⟩) (Nat.zero_le _) x
  obtain ⟨a1, a2, a3, a4, _⟩ := h
  exact ⟨a1, a2, a3, a4, fun k _ hne => Below.heap_setCell _ _ _ _ (fun e => hne (by simpa using e))⟩
theorem Only.of_below {w w' : World} {g : Nat} (h : Below w.heap.size w w') : Only w w' g := by
  obtain ⟨a1, a2, a3, a4, a5⟩ := h
  exact ⟨a1, a2, a3, a4, fun k hk _ => a5 k hk⟩
theorem Only.drewN {w w' : World} {g : Nat} (h : Only w w' g) (n : Nat) : Only w (w'.drewN n) g := h.trans (Only.of_below (drewN_below w' n))
theorem Only.below {w0 w w' : World} {g b : Nat} (h0 : Below b w0 w) (h : Only w w' g) (hg : b ≤ g) (hb : b ≤ w.heap.size) : Below b w0 w' := by
  obtain ⟨a1, a2, a3, a4, a5⟩ := h
  obtain ⟨b1, b2, b3, b4, b5⟩ := h0
  exact ⟨a1.trans b1, a2.trans b2, a3.trans b3, Nat.le_trans b4 a4, fun k hk => (a5 k (by omega) (fun e => by simp at e; omega)).trans (b5 k hk)⟩
theorem Blk.only {w w' : World} {g g' : Nat} {cs : Array Value} {t : TypeId} (h : Blk w g cs t) (hb : Only w w' g') (hne : g ≠ g') : Blk w' g cs t := h.grown hb (fun e => hne (by simpa using e))
end Go.Proofs.YtbcnapkbdbefhaaGreatDoor
namespace Go.Proofs.YtbcnapkbdbefhaaGreatDoor
open Go.RowKit

theorem Reads.later {w w' : World} {sz n : Nat} {v : Value} {xs : List Value} (h : Reads w sz v n xs) (hb : Below w.heap.size w w') : Reads w' sz v n xs := by
  obtain ⟨a, cap, h1, h2, h3, h4, h5⟩ := h
  exact ⟨a, cap, h1, h2, h3, h4, fun j hj => let ⟨b, off, e, c⟩ := h5 j hj; ⟨b, off, e, Below.keeps hb _ _ _ c⟩⟩
theorem Reads.slice {w : World} {sz n : Nat} {v : Value} {xs : List Value} (h : Reads w sz v n xs) : ∃ a c, v = .slice a n c := by
  obtain ⟨a, cap, h1, _⟩ := h
  exact ⟨a, cap, h1⟩
theorem reads_nil (w : World) (sz : Nat) : Reads w sz (.slice none 0 0) 0 [] := ⟨none, 0, rfl, by simp, by omega, by omega, fun j hj => absurd hj (by simp)⟩

set_option maxRecDepth 100000 in
/-- v[lo:hi] -/
theorem reads_cut {w : World} {t e : TypeId} {i : TypeInfo} (ht : Tryz.prog.underlying t = some (.slice e)) (hi : Tryz.prog.info? e = some i) {sz : Nat} (hs : i.size = sz) (hsz : 0 < sz) {v : Value} {n : Nat} {xs : List Value} (h : Reads w sz v n xs)
    (lo hj : Nat) (h1 : lo ≤ hj) (h2 : hj ≤ n) :
    ∃ a' c', (∀ (w' : World) (kl kh : IntKind), (Instr.slice t v (some (.int kl lo)) (some (.int kh hj)) none).run Tryz.prog w' = .ok (.slice a' (hj - lo) c') w') ∧
      (lo = 0 → ∀ (w' : World) (kh : IntKind), (Instr.slice t v none (some (.int kh hj)) none).run Tryz.prog w' = .ok (.slice a' (hj - lo) c') w') ∧
      (hj = n → ∀ (w' : World) (kl : IntKind), (Instr.slice t v (some (.int kl lo)) none none).run Tryz.prog w' = .ok (.slice a' (hj - lo) c') w') ∧
      Reads w sz (.slice a' (hj - lo) c') (hj - lo) ((xs.take (hj * sz)).drop (lo * sz)) := by
  obtain ⟨a, cap, rfl, hl, hc, hm, hr⟩ := h
  subst hs
  have hel : Tryz.prog.elem t = e := by simp [Program.elem, ht]
  have ht' : Tryz.prog.underlying t = some (.slice (Tryz.prog.elem t)) := by rw [hel]; exact ht
  have hlen : ((xs.take (hj * i.size)).drop (lo * i.size)).length = (hj - lo) * i.size := by
    rw [List.length_drop, List.length_take, hl, Nat.min_eq_left (Nat.mul_le_mul_right _ h2), Nat.sub_mul]
  have hso : ∀ w' : World, (sizeOf (Tryz.prog.elem t)).run Tryz.prog w' = .ok i.size w' := fun w' => by rw [hel]; simp [sizeOf, typeInfo, hi]
  refine ⟨if cap = lo then a else a.map (·.add (lo * i.size)), cap - lo, fun w' kl kh => ?_, fun e0 w' kh => ?_, fun e0 w' kl => ?_, ?_⟩
  · rw [run_slice_lh w' t a n cap ht' kl kh lo hj (by omega) (by omega) (by omega)]
    rw [hso]
    simp [sliced, Result.andThen]
  · subst e0
    rw [run_slice_h w' t a n cap ht' kh hj (by omega) (by omega)]
    rw [hso]
    simp [sliced, Result.andThen]
  · subst e0
    rw [run_slice_l w' t a hj cap ht' kl lo (by omega) (by omega)]
    rw [hso]
    simp [sliced, Result.andThen]
  · refine ⟨_, _, rfl, hlen, by omega, by omega, fun j hjj => ?_⟩
    have hlt : j < (hj - lo) * i.size := by rw [← hlen]; exact hjj
    rw [Nat.sub_mul] at hlt
    have hle : hj * i.size ≤ n * i.size := Nat.mul_le_mul_right _ h2
    obtain ⟨b, off, rfl, hc'⟩ := hr (lo * i.size + j) (by omega)
    refine ⟨b, off + lo * i.size, ?_, ?_⟩
    · rw [if_neg (by
        intro e0
        have : lo = hj := by omega
        subst this
        omega)]
      by_cases h0 : lo * i.size = 0
      · simp [Addr.add, h0]
      · simp [Addr.add, h0]
    · rw [Nat.add_assoc, hc']; simp

/-- an owned slice reads -/
theorem reads_of_own {w : World} {base : Nat} {e : TypeId} {sz : Nat} {v : Value} {n : Nat} {xs : List Value} (h : Own w base e sz v n xs) : Reads w sz v n xs := by
  rcases h with ⟨rfl, rfl, a, rfl⟩ | ⟨h1, g, cap, cur, fr, rfl, _, hg, _, hn, hc, hs, ht⟩
  · exact ⟨a, 0, rfl, by simp, by omega, by omega, fun j hj => absurd hj (by simp)⟩
  · refine ⟨_, cap, rfl, h1, hn, by unfold maxLen at hc; omega, fun j hj => ⟨g, 0, rfl, ?_⟩⟩
    rw [cell_of_row w g (0 + j) cur _ fr hg, Nat.zero_add]
    have hh : (cur.toList.take (n * sz))[j]? = some xs[j] := by rw [ht]; exact List.getElem?_eq_getElem hj
    rw [List.getElem?_take] at hh
    split at hh
    · simpa using hh
    · cases hh
/-- a block that is new, all of it -/
theorem own_new (w : World) (cs : Array Value) (t : TypeId) (n sz : Nat) (h : cs.size = n * sz) (hn : n ≤ maxLen) : Own (w.alloc (.cells cs t)) w.heap.size t sz (.slice (some ⟨w.heap.size, 0, none⟩) n n) n cs.toList :=
  .inr ⟨by simpa using h, w.heap.size, n, cs, (0, 0), rfl, Nat.le_refl _, heap_alloc_last w _, fun _ _ h => by omega, Nat.le_refl _, hn, by omega, by rw [List.take_of_length_le (by simpa using Nat.le_of_eq h)]⟩
theorem reads_new (w : World) (cs : Array Value) (t : TypeId) (n sz : Nat) (h : cs.size = n * sz) (hn : n ≤ maxLen) : Reads (w.alloc (.cells cs t)) sz (.slice (some ⟨w.heap.size, 0, none⟩) n n) n cs.toList :=
  reads_of_own (own_new w cs t n sz h hn)

theorem wpList_want {P : Program} {ops : Array Oper} {Q : Exit → Act → World → Prop} {a : Act} {w : World} {rest : List Oper} {o : Oper} (hg : Region.wanted o (yielded ops a.tmps) = true)
    (h : ∀ K : Act → World → Prop, (∀ a w, wpList P ops Q rest a w → K a w) → o.wp P a w K Q) : wpList P ops Q (o :: rest) a w :=
  wpList_step fun K hK => by rw [if_pos hg]; exact h K hK
/-- append onto what the call owns, as a step of the walk -/
theorem wp_app_el {w : World} {ops : Array Oper} {rest : List Oper} {o : Oper} {a : Act} {Q : Exit → Act → World → Prop} (hgd : Region.wanted o (yielded ops a.tmps) = true) (s x : Operand) {t e : TypeId} {i : TypeInfo} {z : Value} {sz by_ : Nat}
    (ho : o.op = .call { callee := .builtin .append, args := #[s, x], argTypes := #[t, t] }) (ht : Tryz.prog.underlying t = some (.slice e)) (hi : Tryz.prog.info? e = some i) (hz : i.zero = some z) (hs : i.size = sz) (hb : i.bytes = by_) (hzs : z.cells.size = sz) (hsz : 0 < sz)
    (base n m : Nat) (v v2 : Value) (xs ys : List Value) (hs' : a.eval s = v) (hx : a.eval x = v2) (hown : Own w base e sz v n xs) (hrd : Reads w sz v2 m ys) (h1 : ∀ u ∈ ys, u.oneCell' = true)
    (hlen : (n + m) * by_ ≤ 140737488355328) (hnm : n + m ≤ 9223372036854775807) (hbase : base ≤ w.heap.size)
    (h : ∀ b c w', Hid (Own w' base e sz (.slice b (n + m) c) (n + m) (xs ++ ys)) → Below base w w' → wpList Tryz.prog ops Q rest (a.put o.dst (.slice b (n + m) c)) w') : wpList Tryz.prog ops Q (o :: rest) a w := by
  refine wpList_want hgd fun K hK => ?_
  obtain ⟨v', w', hr, h2, _, h4⟩ := run_app (P := Tryz.prog) w base t o.type e i z sz by_ ht hi hz hs hb hzs hsz v n xs hown v2 m ys hrd h1 hlen hnm hbase
  unfold Oper.wp execOp
  simp only [ho, resolve, invoke, builtin, Sem.run_bind, Sem.run_pure, Result.andThen_ok, List.map_toArray, List.map_cons, List.map_nil, hs', hx, hr]
  obtain ⟨b, c, rfl⟩ := (reads_of_own h2).slice
  exact hK _ _ (h b c w' h2 h4)

/-- append onto a slice without room: a new block, nothing that was there is written -/
theorem wpo_app_el_grow {w : World} {o : Oper} {a : Act} {K : Act → World → Prop} {Q : Exit → Act → World → Prop} (s x : Operand) {t e : TypeId} {i : TypeInfo} {z : Value} {sz by_ : Nat}
    (ho : o.op = .call { callee := .builtin .append, args := #[s, x], argTypes := #[t, t] }) (ht : Tryz.prog.underlying t = some (.slice e)) (hi : Tryz.prog.info? e = some i) (hz : i.zero = some z) (hs : i.size = sz) (hb : i.bytes = by_) (hzs : z.cells.size = sz) (hsz : 0 < sz)
    (n m cap : Nat) (ad : Addr) (v v2 : Value) (xs ys : List Value) (hv : v = .slice (some ad) n cap) (hs' : a.eval s = v) (hx : a.eval x = v2) (hrd0 : Reads w sz v n xs) (hrd : Reads w sz v2 m ys)
    (hcap : cap < n + m) (hlen : (n + m) * by_ ≤ 140737488355328) (hnm : n + m ≤ 9223372036854775807)
    (h : ∀ b c w', Hid (Own w' w.heap.size e sz (.slice b (n + m) c) (n + m) (xs ++ ys)) → Below w.heap.size w w' → K (a.put o.dst (.slice b (n + m) c)) w') : o.wp Tryz.prog a w K Q := by
  subst hv hs hb
  have hc1 := reads_cells hrd0
  have hm : 0 < m := by obtain ⟨_, _, e, _, h1, _⟩ := hrd0; simp only [Value.slice.injEq] at e; omega
  have hxl : xs.length = n * i.size := by obtain ⟨_, _, _, h1, _⟩ := hrd0; exact h1
  obtain ⟨a2, cap2, rfl, hl2, hmc, hcm, hcells⟩ := hrd
  have hc2 := reads_cells (w := w) (sz := i.size) ⟨a2, cap2, rfl, hl2, hmc, hcm, hcells⟩
  cases a2 with
  | none => have := hc2.1 rfl; have := Nat.mul_pos hm hsz; omega
  | some ad2 =>
    have hr := run_append_grow (P := Tryz.prog) w t o.type e i z ht hi hz ad n cap xs hxl (hc1.2 ad rfl) ad2 m cap2 ys hl2 (hc2.2 ad2 rfl) (by omega) (by omega) (growslice_fits (by omega) hlen)
    have hge := grownCap_ge w (n + m) cap e
    have hcm' : grownCap w (n + m) cap e ≤ maxLen := grownCap_le_maxLen w (n + m) cap e (by unfold maxLen; omega)
    have hlen2 : (xs ++ ys).length = (n + m) * i.size := by rw [List.length_append, hxl, hl2, Nat.add_mul]
    unfold Oper.wp execOp
    simp only [ho, resolve, invoke, builtin, Sem.run_bind, Sem.run_pure, Result.andThen_ok, List.map_toArray, List.map_cons, List.map_nil, hs', hx, hr]
    refine (h _ _ _ ?_ ((Below.refl _ _).drew.alloc (Nat.le_refl _) _))
    refine .inr ⟨hlen2, w.heap.size, _, _, (0, 0), rfl, Nat.le_refl _, heap_alloc_new w.drew _, fun _ _ h => by omega, hge, hcm', ?_, ?_⟩
    · simp only [Array.size_append, List.size_toArray, size_zeroCells, hzs, hxl, hl2, ← Nat.add_mul]
      have e9 : n + m + (grownCap w (n + m) cap e - (n + m)) = grownCap w (n + m) cap e := by omega
      rw [e9]
      exact Nat.le_refl _
    · simp only [Array.toList_append, List.append_assoc]
      rw [← List.append_assoc, ← hlen2]
      exact List.take_left

theorem wp_app_el_grow {w : World} {ops : Array Oper} {rest : List Oper} {o : Oper} {a : Act} {Q : Exit → Act → World → Prop} (hgd : Region.wanted o (yielded ops a.tmps) = true) (s x : Operand) {t e : TypeId} {i : TypeInfo} {z : Value} {sz by_ : Nat}
    (ho : o.op = .call { callee := .builtin .append, args := #[s, x], argTypes := #[t, t] }) (ht : Tryz.prog.underlying t = some (.slice e)) (hi : Tryz.prog.info? e = some i) (hz : i.zero = some z) (hs : i.size = sz) (hb : i.bytes = by_) (hzs : z.cells.size = sz) (hsz : 0 < sz)
    (n m cap : Nat) (ad : Addr) (v v2 : Value) (xs ys : List Value) (hv : v = .slice (some ad) n cap) (hs' : a.eval s = v) (hx : a.eval x = v2) (hrd0 : Reads w sz v n xs) (hrd : Reads w sz v2 m ys)
    (hcap : cap < n + m) (hlen : (n + m) * by_ ≤ 140737488355328) (hnm : n + m ≤ 9223372036854775807)
    (h : ∀ b c w', Hid (Own w' w.heap.size e sz (.slice b (n + m) c) (n + m) (xs ++ ys)) → Below w.heap.size w w' → wpList Tryz.prog ops Q rest (a.put o.dst (.slice b (n + m) c)) w') : wpList Tryz.prog ops Q (o :: rest) a w :=
  wpList_want hgd fun _ hK => wpo_app_el_grow s x ho ht hi hz hs hb hzs hsz n m cap ad v v2 xs ys hv hs' hx hrd0 hrd hcap hlen hnm fun b c w' h1 h2 => hK _ _ (h b c w' h1 h2)

/-- elements of sz cells each, one behind the other -/
theorem flatM_length {α : Type} (f : α → List Value) (sz : Nat) (hf : ∀ x, (f x).length = sz) (l : List α) : (l.flatMap f).length = l.length * sz := by
  induction l with
  | nil => simp
  | cons x l ih => rw [List.flatMap_cons, List.length_append, ih, hf, List.length_cons, Nat.add_mul, Nat.one_mul]; omega
theorem flatM_get {α : Type} (f : α → List Value) (sz : Nat) (hf : ∀ x, (f x).length = sz) (l : List α) (j i : Nat) (hj : j < l.length) (hi : i < sz) : (l.flatMap f)[j * sz + i]? = (f l[j])[i]? := by
  induction l generalizing j with
  | nil => simp at hj
  | cons x l ih =>
    cases j with
    | zero =>
      rw [List.flatMap_cons, List.getElem?_append_left (by rw [hf]; omega)]
      simp
    | succ j =>
      rw [List.flatMap_cons, List.getElem?_append_right (by rw [hf, Nat.add_mul]; omega), hf, show (j + 1) * sz + i - sz = j * sz + i from by rw [Nat.add_mul]; omega]
      exact ih j (by simpa using hj)
theorem flatM_take {α : Type} (f : α → List Value) (sz : Nat) (hf : ∀ x, (f x).length = sz) (l : List α) (k : Nat) (hk : k ≤ l.length) : (l.flatMap f).take (k * sz) = (l.take k).flatMap f := by
  have e : l.flatMap f = (l.take k).flatMap f ++ (l.drop k).flatMap f := by rw [← List.flatMap_append, List.take_append_drop]
  rw [e, List.take_left' (by rw [flatM_length f sz hf, List.length_take, Nat.min_eq_left hk])]
theorem flatM_drop {α : Type} (f : α → List Value) (sz : Nat) (hf : ∀ x, (f x).length = sz) (l : List α) (k : Nat) (hk : k ≤ l.length) : (l.flatMap f).drop (k * sz) = (l.drop k).flatMap f := by
  have e : l.flatMap f = (l.take k).flatMap f ++ (l.drop k).flatMap f := by rw [← List.flatMap_append, List.take_append_drop]
  rw [e, List.drop_left' (by rw [flatM_length f sz hf, List.length_take, Nat.min_eq_left hk])]
end Go.Proofs.YtbcnapkbdbefhaaGreatDoor
namespace Go.Proofs.YtbcnapkbdbefhaaGreatDoor
open Go.RowKit
theorem the_world {n : Nat} {w w' : World} (_ : Below n w w') : ∃ x, x = w' := ⟨_, rfl⟩
theorem same_bt (w : World) (v v2 : Value) (l : List UInt8) (hv : Rd w v l) (hv2 : Rd w v2 l) : Calls Tryz.prog 21 #[v, v2] w fun e w' => e = .returned (.bool true) ∧ Below w.heap.size w w' := by
  refine (sameBytes_any v v2 l l w hv hv2).mono ?_
  rintro e w' ⟨rfl, n, rfl⟩
  exact ⟨by simp, drewN_below _ _⟩
theorem own_none (w : World) (base : Nat) (e : TypeId) (sz : Nat) : Own w base e sz (.slice none 0 0) 0 [] := .inl ⟨rfl, rfl, none, rfl⟩
end Go.Proofs.YtbcnapkbdbefhaaGreatDoor
namespace Go.Proofs.YtbcnapkbdbefhaaGreatDoor
open Go.RowKit

/-- a whole block of bytes -/
def Row (w : World) (g : Nat) (t : TypeId) (l : List UInt8) : Prop := ∃ fr : Nat × Nat, w.heap[g]? = some (.cells (u8s l).toArray t fr) ∧ ∀ i, i < l.length → ¬ (fr.1 ≤ i ∧ i < fr.2)
theorem row_cell {w : World} {g : Nat} {t : TypeId} {l : List UInt8} (h : Row w g t l) (i : Nat) (hi : i < l.length) : w.cell? ⟨g, i, none⟩ = some (.int .u8 l[i].toNat) := by
  obtain ⟨fr, hg, _⟩ := h
  rw [cell_of_row w g i _ _ fr hg]
  simp [u8s, hi]
theorem row_frozen {w : World} {g : Nat} {t : TypeId} {l : List UInt8} (h : Row w g t l) (i : Nat) (hi : i < l.length) : w.frozen? ⟨g, i, none⟩ = false := by
  obtain ⟨fr, hg, hf⟩ := h
  have := hf i hi
  simp only [World.frozen?, hg]
  simp
  omega
theorem row_set {w : World} {g : Nat} {t : TypeId} {l : List UInt8} (h : Row w g t l) (i : Nat) (c : UInt8) : Row (w.setCell ⟨g, i, none⟩ (.int .u8 c.toNat)) g t (l.set i c) := by
  obtain ⟨fr, hg, hf⟩ := h
  refine ⟨fr, ?_, by simpa using hf⟩
  rw [setCell_eq_setRow w g i _ t fr _ hg, setRow_heap w g _ _ t fr hg]
  congr 2
  simp [u8s, List.map_set]
theorem row_below {w w' : World} {g : Nat} {t : TypeId} {l : List UInt8} (h : Row w g t l) (hb : Below w.heap.size w w') : Row w' g t l := by
  obtain ⟨fr, hg, hf⟩ := h
  exact ⟨fr, by rw [hb.block g (Array.getElem?_eq_some_iff.1 hg).1]; exact hg, hf⟩
/-- a slice of the call's own with something in it: its block -/
theorem own_block {w : World} {base : Nat} {v : Value} {n : Nat} {l : List UInt8} (h : Own w base 5 1 v n (u8s l)) (hn : 0 < n) :
    ∃ g c, v = .slice (some ⟨g, 0, none⟩) n c ∧ base ≤ g ∧ g < w.heap.size ∧ ∀ i, i < n → w.frozen? ⟨g, i, none⟩ = false := by
  rcases h with ⟨rfl, _⟩ | ⟨h1, g, cap, cur, fr, rfl, hb, hg, hf, hnc, _, hcs, _⟩
  · omega
  · refine ⟨g, cap, rfl, hb, (Array.getElem?_eq_some_iff.1 hg).1, fun i hi => ?_⟩
    have := hf i (by omega)
    simp only [World.frozen?, hg]
    simp
    omega
theorem own_store {w : World} {base : Nat} {g n c : Nat} {l : List UInt8} (h : Own w base 5 1 (.slice (some ⟨g, 0, none⟩) n c) n (u8s l)) (i : Nat) (hi : i < n) (x : UInt8) :
    Own (w.setCell ⟨g, i, none⟩ (.int .u8 x.toNat)) base 5 1 (.slice (some ⟨g, 0, none⟩) n c) n (u8s (l.set i x)) := by
  rcases h with ⟨rfl, _⟩ | ⟨h1, g', cap, cur, fr, e, hb, hg, hf, hnc, hm, hcs, ht⟩
  · omega
  · simp only [Value.slice.injEq, Option.some.injEq, Addr.mk.injEq, and_true, true_and] at e
    obtain ⟨rfl, rfl⟩ := e
    refine .inr ⟨by simpa [u8s] using h1, g, c, cur.setIfInBounds i (.int .u8 x.toNat), fr, rfl, hb, ?_, by simpa using hf, hnc, hm, by simpa using hcs, ?_⟩
    · rw [setCell_eq_setRow w g i cur 5 fr _ hg, setRow_heap w g cur _ _ fr hg]
    · have : (u8s (l.set i x)) = (u8s l).set i (.int .u8 x.toNat) := by simp [u8s, List.map_set]
      rw [this, ← ht]
      simp [List.take_set]
end Go.Proofs.YtbcnapkbdbefhaaGreatDoor
namespace Go.Proofs.YtbcnapkbdbefhaaGreatDoor
open Go.RowKit

theorem run_app2 {P : Program} (w : World) (base : Nat) (t ty e : TypeId) (i : TypeInfo) (z : Value) (size bytes : Nat) (ht : P.underlying t = some (.slice e)) (hi : P.info? e = some i) (hz : i.zero = some z)
    (hsize : i.size = size) (hby : i.bytes = bytes) (hzs : z.cells.size = size) (hsz : 0 < size)
    (v : Value) (n : Nat) (xs : List Value) (hown : Own w base e size v n xs)
    (x : Value) (m : Nat) (news : List Value) (hx : Reads w size x m news) (h1 : ∀ u ∈ news, u.oneCell' = true)
    (hbytes : (n + m) * bytes ≤ 140737488355328) (hm : n + m ≤ 9223372036854775807) (hbase : base ≤ w.heap.size) :
    ∃ v' w', (Builtin.append_ #[t, t] ty #[v, x]).run P w = .ok v' w' ∧ Own w' base e size v' (n + m) (xs ++ news) ∧ w.grownBy w' v.ownBlock ∧ Below base w w' ∧ (∀ k, v'.ownBlock = some k → v.ownBlock = some k ∨ w.heap.size ≤ k) := by
  obtain ⟨a, cap, rfl, hl, hmc, hcm, hcells⟩ := hx
  have hrc := reads_cells (w := w) (sz := size) ⟨a, cap, rfl, hl, hmc, hcm, hcells⟩
  have refl : ∀ row, w.grownBy w row := fun row => ⟨rfl, rfl, rfl, Nat.le_refl _, fun _ _ _ => rfl⟩
  cases a with
  | none =>
    have hm0 : m = 0 := by
      have := hrc.1 rfl
      rcases Nat.eq_zero_or_pos m with h | h
      · exact h
      · have := Nat.mul_pos h hsz; omega
    subst hm0
    have hn0 : news = [] := List.eq_nil_of_length_eq_zero (by simpa using hl)
    subst hn0
    refine ⟨v, w, ?_, by simpa using hown, refl _, Below.refl _ _, fun _ h => .inl h⟩
    rcases hown with ⟨rfl, rfl, ad, rfl⟩ | ⟨_, g, cp, cur, fr, rfl, _, _, _, hnc, _⟩
    · cases ad <;> simp [Builtin.append_, run_underlying ht, sizeOf, typeInfo, hi, Builtin.lenOf, Builtin.firstCells, storeCells]
    · simp [Builtin.append_, run_underlying ht, sizeOf, typeInfo, hi, Builtin.lenOf, Builtin.firstCells, hnc, storeCells]
  | some ad =>
    have hnews := hrc.2 ad rfl
    subst hsize hby
    have gbel : ∀ (o : Obj), Below base w (w.drew.alloc o) := fun o => (Below.refl _ _).drew.alloc hbase _
    have grown : ∀ (old : Nat), old < n + m → xs.length = n * i.size → ∀ row,
        Own (w.drew.alloc (.cells (xs.toArray ++ news.toArray ++ Builtin.zeroCells z.cells (grownCap w (n + m) old e - (n + m))) e)) base e i.size (.slice (some ⟨w.heap.size, 0, none⟩) (n + m) (grownCap w (n + m) old e)) (n + m) (xs ++ news) ∧
        w.grownBy (w.drew.alloc (.cells (xs.toArray ++ news.toArray ++ Builtin.zeroCells z.cells (grownCap w (n + m) old e - (n + m))) e)) row := by
      intro old ho hxl row
      have hge := grownCap_ge w (n + m) old e
      have hcm' : grownCap w (n + m) old e ≤ maxLen := grownCap_le_maxLen w (n + m) old e (by unfold maxLen; omega)
      have hlen : (xs ++ news).length = (n + m) * i.size := by rw [List.length_append, hxl, hl, Nat.add_mul]
      refine ⟨.inr ⟨hlen, w.heap.size, _, _, (0, 0), rfl, hbase, heap_alloc_new w.drew _, fun _ _ h => by omega, hge, hcm', ?_, ?_⟩, ⟨rfl, rfl, rfl, by simp, fun k hk _ => heap_alloc_old w.drew _ hk⟩⟩
      · simp only [Array.size_append, List.size_toArray, size_zeroCells, hzs, hxl, hl, ← Nat.add_mul]
        apply Nat.le_of_eq
        congr 1
        omega
      · simp only [Array.toList_append, List.append_assoc]
        rw [← List.append_assoc, ← hlen]
        exact List.take_left
    rcases hown with ⟨rfl, rfl, ad', rfl⟩ | ⟨hxl, g, cp, cur, fr, rfl, hbg, hg, hfr, hnc, hcm2, hcs, htake⟩
    · by_cases hm0 : m = 0
      · subst hm0
        have hn0 : news = [] := List.eq_nil_of_length_eq_zero (by simpa using hl)
        subst hn0
        refine ⟨_, w, ?_, .inl ⟨rfl, rfl, ad', rfl⟩, refl _, Below.refl _ _, fun _ h => .inl h⟩
        cases ad' <;> simp [Builtin.append_, run_underlying ht, sizeOf, typeInfo, hi, Builtin.lenOf, Builtin.firstCells, loadCells, loadCellsFrom, storeCells]
      · have hgr := grown 0 (by omega) (by simp) (Value.ownBlock (.slice ad' 0 0))
        cases ad' with
        | none =>
          have hr := run_append_nil (P := P) w t ty e i z ht hi hz ad m cap news hl hnews (by omega) (by omega) (by have hb := hbytes; simp only [Nat.zero_add] at hb; omega)
          simp only [Nat.zero_add, List.nil_append, Array.empty_append] at hgr ⊢
          exact ⟨_, _, hr, hgr.1, hgr.2, gbel _, fun k h => .inr (by simp [Value.ownBlock] at h; omega)⟩
        | some ad' =>
          have hr := run_append_grow (P := P) w t ty e i z ht hi hz ad' 0 0 [] (by simp) (by simp) ad m cap news hl hnews (by omega) (by omega) (growslice_fits (by omega) hbytes)
          exact ⟨_, _, hr, hgr.1, hgr.2, gbel _, fun k h => .inr (by simp [Value.ownBlock] at h; omega)⟩
    · by_cases hroom : n + m ≤ cp
      · have hfit : n * i.size + news.length ≤ cur.size := by
          rw [hl, ← Nat.add_mul]
          exact Nat.le_trans (Nat.mul_le_mul_right _ hroom) hcs
        have hr := run_append_fr (P := P) w t ty e i ht hi g n cp cur fr hg hfr ad m cap news hl hnews h1 hroom hfit
        have hlen : (xs ++ news).length = (n + m) * i.size := by rw [List.length_append, hxl, hl, Nat.add_mul]
        refine ⟨_, _, hr, .inr ⟨hlen, g, cp, _, fr, rfl, hbg, setRow_heap w g cur _ e _ hg, ?_, hroom, hcm2, ?_, ?_⟩, ⟨rfl, rfl, rfl, by simp, fun k hk hne => setRow_other w g k _ (fun e => hne (by simp [Value.ownBlock, e]))⟩, ⟨rfl, rfl, rfl, by simp, fun k hk => setRow_other w g k _ (by omega)⟩, fun _ h => .inl h⟩
        · intro k hk
          apply hfr
          simp only [List.size_toArray, List.length_append, List.length_take, List.length_drop, Array.length_toList] at hk
          omega
        · simp only [List.size_toArray, List.length_append, List.length_take, List.length_drop, Array.length_toList]
          omega
        · rw [htake, ← hlen]
          exact List.take_left
      · have holds : ∀ j u, xs[j]? = some u → w.cell? ((⟨g, 0, none⟩ : Addr).add j) = some u := by
          intro j u hu
          have hadd : (⟨g, 0, none⟩ : Addr).add j = ⟨g, j, none⟩ := by unfold Addr.add; split <;> simp_all
          rw [hadd, cell_of_row w g j cur e fr hg]
          rw [← htake, List.getElem?_take] at hu
          split at hu
          · simpa using hu
          · cases hu
        have hr := run_append_grow (P := P) w t ty e i z ht hi hz ⟨g, 0, none⟩ n cp xs hxl holds ad m cap news hl hnews (by omega) (by omega) (growslice_fits (by omega) hbytes)
        have hgr := grown cp (by omega) hxl (Value.ownBlock (.slice (some ⟨g, 0, none⟩) n cp))
        exact ⟨_, _, hr, hgr.1, hgr.2, gbel _, fun k h => .inr (by simp [Value.ownBlock] at h; omega)⟩

/-- two slices of the call's own that lie apart -/
def Apart (w : World) (v u : Value) : Prop := ∀ k, v.ownBlock = some k → k < w.heap.size ∧ u.ownBlock ≠ some k
theorem Apart.none (w : World) (u : Value) : Apart w (.slice none 0 0) u := fun k h => by simp [Value.ownBlock] at h
theorem Apart.later {w w' : World} {v u : Value} (h : Apart w v u) (hs : w.heap.size ≤ w'.heap.size) : Apart w' v u := fun k hk => ⟨Nat.lt_of_lt_of_le (h k hk).1 hs, (h k hk).2⟩
theorem Apart.comm {w : World} {base : Nat} {e : TypeId} {sz n : Nat} {v u : Value} {xs : List Value} (h : Apart w v u) (hu : Own w base e sz u n xs) (hn : 0 < n) : Apart w u v :=
  fun k hk => ⟨(own_lt hu hn k hk).2, fun e => (h k e).2 hk⟩
theorem own_apart {w w' : World} {base : Nat} {e : TypeId} {sz n : Nat} {v u : Value} {xs : List Value} (h : Own w base e sz v n xs) (ha : Apart w v u) (hg : w.grownBy w' u.ownBlock) : Own w' base e sz v n xs := by
  refine own_kept h hg ?_
  by_cases e : v.ownBlock = none
  · exact .inl e
  · obtain ⟨k, hk⟩ := Option.ne_none_iff_exists'.1 e
    exact .inr fun e2 => (ha k hk).2 (by rw [← e2, hk])
/-- what an append does to the others: they stand as they stood, apart -/
structure Grew (w w' : World) (base : Nat) (v v' : Value) : Prop where
  below : Below base w w'
  keep : ∀ (base2 : Nat) (e : TypeId) (sz n : Nat) (u : Value) (xs : List Value), Own w base2 e sz u n xs → Apart w u v → Own w' base2 e sz u n xs
  apart : ∀ u, Apart w u v → Apart w' u v'
  rows : w.grownBy w' v.ownBlock
theorem grew_of {w w' : World} {base : Nat} {v v' : Value} (hb : Below base w w') (hg : w.grownBy w' v.ownBlock) (hk : ∀ k, v'.ownBlock = some k → v.ownBlock = some k ∨ w.heap.size ≤ k) : Grew w w' base v v' :=
  ⟨hb, fun _ _ _ _ _ _ ho ha => own_apart ho ha hg, fun u ha k hu => ⟨Nat.lt_of_lt_of_le (ha k hu).1 hb.size, fun e => by
    rcases hk k e with h | h
    · exact (ha k hu).2 h
    · have := (ha k hu).1; omega⟩, hg⟩
theorem wp_app_el2 {w : World} {ops : Array Oper} {rest : List Oper} {o : Oper} {a : Act} {Q : Exit → Act → World → Prop} (hgd : Region.wanted o (yielded ops a.tmps) = true) (s x : Operand) {t e : TypeId} {i : TypeInfo} {z : Value} {sz by_ : Nat}
    (ho : o.op = .call { callee := .builtin .append, args := #[s, x], argTypes := #[t, t] }) (ht : Tryz.prog.underlying t = some (.slice e)) (hi : Tryz.prog.info? e = some i) (hz : i.zero = some z) (hs : i.size = sz) (hb : i.bytes = by_) (hzs : z.cells.size = sz) (hsz : 0 < sz)
    (base n m : Nat) (v v2 : Value) (xs ys zs : List Value) (r : Nat) (hs' : a.eval s = v) (hx : a.eval x = v2) (hown : Own w base e sz v n xs) (hrd : Reads w sz v2 m ys) (h1 : ∀ u ∈ ys, u.oneCell' = true)
    (hr : n + m = r) (hzz : xs ++ ys = zs) (hlen : r * by_ ≤ 140737488355328) (hnm : r ≤ 9223372036854775807) (hbase : base ≤ w.heap.size)
    (h : ∀ b c w', Hid (Own w' base e sz (.slice b r c) r zs) → Hid (Grew w w' base v (.slice b r c)) → wpList Tryz.prog ops Q rest (a.put o.dst (.slice b r c)) w') : wpList Tryz.prog ops Q (o :: rest) a w := by
  subst hr hzz
  refine wpList_want hgd fun K hK => ?_
  obtain ⟨v', w', hr, h2, h3, h4, h5⟩ := run_app2 (P := Tryz.prog) w base t o.type e i z sz by_ ht hi hz hs hb hzs hsz v n xs hown v2 m ys hrd h1 hlen hnm hbase
  unfold Oper.wp execOp
  simp only [ho, resolve, invoke, builtin, Sem.run_bind, Sem.run_pure, Result.andThen_ok, List.map_toArray, List.map_cons, List.map_nil, hs', hx, hr]
  obtain ⟨b, c, rfl⟩ := (reads_of_own h2).slice
  exact hK _ _ (h b c w' h2 (grew_of h4 h3 h5))
end Go.Proofs.YtbcnapkbdbefhaaGreatDoor
namespace Go.Proofs.YtbcnapkbdbefhaaGreatDoor
open Go.RowKit

/-- the block of a slice that has room -/
def capOf : Value → Nat
  | .slice _ _ c => c
  | _ => 0
def rowOf (v : Value) : Option Nat := if capOf v = 0 then none else v.ownBlock
theorem rowOf_one (a : Addr) (n : Nat) : rowOf (.slice (some a) n 1) = some a.block := rfl
theorem rowOf_pos {a : Addr} {n c : Nat} (hc : 0 < c) : rowOf (.slice (some a) n c) = some a.block := by
  unfold rowOf
  rw [if_neg (show ¬ capOf (.slice (some a) n c) = 0 from by show ¬ c = 0; omega)]; rfl
theorem rowOf_nil (n c : Nat) : rowOf (.slice none n c) = none := by
  unfold rowOf; split <;> rfl
theorem rowOf_own {v : Value} {k : Nat} (h : rowOf v = some k) : v.ownBlock = some k := by
  unfold rowOf at h
  split at h
  · cases h
  · exact h
/-- without room: nothing is held -/
theorem own_noroom {w w' : World} {base base' : Nat} {e : TypeId} {sz n : Nat} {v : Value} {xs : List Value} (h : Own w base e sz v n xs) (hv : rowOf v = none) : Own w' base' e sz v n xs := by
  rcases h with h | ⟨h1, g, cap, cur, fr, rfl, h3, h4, h5, hnc, h6⟩
  · exact .inl h
  · by_cases hc : cap = 0
    · subst hc
      obtain rfl : n = 0 := by omega
      exact .inl ⟨rfl, List.eq_nil_of_length_eq_zero (by simpa using h1), _, rfl⟩
    · rw [rowOf_pos (by omega)] at hv; cases hv
theorem own_ltR {w : World} {base : Nat} {e : TypeId} {size : Nat} {v : Value} {n : Nat} {xs : List Value} (h : Own w base e size v n xs) : ∀ k, rowOf v = some k → base ≤ k ∧ k < w.heap.size := by
  intro k hk
  rcases h with ⟨_, _, a, rfl⟩ | ⟨h1, g, cap, cur, fr, rfl, h3, h4, h5⟩
  · simp [rowOf, capOf] at hk
  · have := rowOf_own hk
    simp [Value.ownBlock] at this
    subst this
    exact ⟨h3, (Array.getElem?_eq_some_iff.1 h4).1⟩
theorem own_keptR {w w' : World} {base : Nat} {e : TypeId} {size : Nat} {v : Value} {n : Nat} {xs : List Value} {row : Option Nat} (h : Own w base e size v n xs) (hg : w.grownBy w' row) (hne : rowOf v = none ∨ rowOf v ≠ row) : Own w' base e size v n xs := by
  rcases hne with h0 | hne
  · exact own_noroom h h0
  · by_cases h0 : rowOf v = none
    · exact own_noroom h h0
    · refine own_kept h hg (.inr ?_)
      obtain ⟨k, hk⟩ := Option.ne_none_iff_exists'.1 h0
      rw [rowOf_own hk, ← hk]; exact hne
theorem own_room {w : World} {base : Nat} {e : TypeId} {sz n k c : Nat} {a : Option Addr} {xs : List Value} (h : Own w base e sz (.slice a k c) n xs) (hn : 0 < n) : 0 < c := by
  rcases h with ⟨h0, _⟩ | ⟨_, g, cap, cur, fr, e2, _, _, _, hnc, _⟩
  · omega
  · simp only [Value.slice.injEq] at e2; omega
theorem run_appR {P : Program} (w : World) (base : Nat) (t ty e : TypeId) (i : TypeInfo) (z : Value) (size bytes : Nat) (ht : P.underlying t = some (.slice e)) (hi : P.info? e = some i) (hz : i.zero = some z)
    (hsize : i.size = size) (hby : i.bytes = bytes) (hzs : z.cells.size = size) (hsz : 0 < size)
    (v : Value) (n : Nat) (xs : List Value) (hown : Own w base e size v n xs)
    (x : Value) (m : Nat) (news : List Value) (hx : Reads w size x m news) (h1 : ∀ u ∈ news, u.oneCell' = true)
    (hbytes : (n + m) * bytes ≤ 140737488355328) (hm : n + m ≤ 9223372036854775807) (hbase : base ≤ w.heap.size) :
    ∃ v' w', (Builtin.append_ #[t, t] ty #[v, x]).run P w = .ok v' w' ∧ Own w' base e size v' (n + m) (xs ++ news) ∧ w.grownBy w' (rowOf v) ∧ Below base w w' ∧ (∀ k, rowOf v' = some k → rowOf v = some k ∨ w.heap.size ≤ k) := by
  by_cases h0 : rowOf v = none
  · have hnil : n = 0 ∧ xs = [] ∧ ∃ a, v = .slice a 0 0 := by
      rcases hown with h | ⟨h1, g, cap, cur, fr, rfl, h3, h4, h5, hnc, h6⟩
      · exact h
      · by_cases hc : cap = 0
        · subst hc
          obtain rfl : n = 0 := by omega
          exact ⟨rfl, List.eq_nil_of_length_eq_zero (by simpa using h1), _, rfl⟩
        · rw [rowOf_pos (by omega)] at h0; cases h0
    obtain ⟨rfl, rfl, a, rfl⟩ := hnil
    obtain ⟨v', w', g1, g2, g3, g4, g5⟩ := run_app2 (P := P) w base t ty e i z size bytes ht hi hz hsize hby hzs hsz (.slice a 0 0) 0 [] hown x m news hx h1 hbytes hm hbase
    have hfresh : (w' = w ∧ v' = .slice a 0 0) ∨ ((∃ o, w' = w.drew.alloc o) ∧ ∀ k, v'.ownBlock = some k → w.heap.size ≤ k) := by
      obtain ⟨xa, cap, rfl, hl, hmc, hcm, hcells⟩ := hx
      have hrc := reads_cells (w := w) (sz := size) ⟨xa, cap, rfl, hl, hmc, hcm, hcells⟩
      by_cases hm0 : m = 0
      · left
        subst hm0
        have hn0 : news = [] := List.eq_nil_of_length_eq_zero (by simpa using hl)
        subst hn0
        have hr : (Builtin.append_ #[t, t] ty #[.slice a 0 0, .slice xa 0 cap]).run P w = .ok (.slice a 0 0) w := by
          subst hsize
          cases a <;> cases xa <;> simp [Builtin.append_, run_underlying ht, sizeOf, typeInfo, hi, Builtin.lenOf, Builtin.firstCells, loadCells, loadCellsFrom, storeCells]
        rw [hr] at g1
        cases g1
        exact ⟨rfl, rfl⟩
      · right
        cases xa with
        | none => exact absurd (hrc.1 rfl) (by have := Nat.mul_pos (Nat.pos_of_ne_zero hm0) hsz; omega)
        | some ad =>
          have hnews := hrc.2 ad rfl
          subst hsize hby
          cases a with
          | none =>
            have hr := run_append_nil (P := P) w t ty e i z ht hi hz ad m cap news hl hnews (by omega) (by omega) (by have hb := hbytes; simp only [Nat.zero_add] at hb; omega)
            rw [hr] at g1
            cases g1
            exact ⟨⟨_, rfl⟩, fun k h => by simp [Value.ownBlock] at h; omega⟩
          | some ad' =>
            have hr := run_append_grow (P := P) w t ty e i z ht hi hz ad' 0 0 [] (by simp) (by simp) ad m cap news hl hnews (by omega) (by omega) (growslice_fits (by omega) hbytes)
            rw [hr] at g1
            cases g1
            exact ⟨⟨_, rfl⟩, fun k h => by simp [Value.ownBlock] at h; omega⟩
    refine ⟨v', w', g1, g2, ?_, g4, fun k hk => ?_⟩
    · rcases hfresh with ⟨rfl, _⟩ | ⟨⟨o, rfl⟩, _⟩
      · exact ⟨rfl, rfl, rfl, Nat.le_refl _, fun _ _ _ => rfl⟩
      · exact ⟨rfl, rfl, rfl, by simp, fun k hk _ => heap_alloc_old w.drew _ hk⟩
    · rcases hfresh with ⟨_, rfl⟩ | ⟨_, h⟩
      · exact .inl hk
      · exact .inr (h k (rowOf_own hk))
  · obtain ⟨v', w', g1, g2, g3, g4, g5⟩ := run_app2 (P := P) w base t ty e i z size bytes ht hi hz hsize hby hzs hsz v n xs hown x m news hx h1 hbytes hm hbase
    obtain ⟨k0, hk0⟩ := Option.ne_none_iff_exists'.1 h0
    have hv := rowOf_own hk0
    refine ⟨v', w', g1, g2, by rw [hk0, ← hv]; exact g3, g4, fun k hk => ?_⟩
    rcases g5 k (rowOf_own hk) with h | h
    · left; rw [hk0, ← hv]; exact h
    · exact .inr h
/-- two slices of the call's own that lie apart, as far as they have room -/
def ApartR (w : World) (v u : Value) : Prop := ∀ k, rowOf v = some k → k < w.heap.size ∧ rowOf u ≠ some k
theorem ApartR.none (w : World) (u : Value) : ApartR w (.slice none 0 0) u := fun k h => by simp [rowOf_nil] at h
theorem ApartR.later {w w' : World} {v u : Value} (h : ApartR w v u) (hs : w.heap.size ≤ w'.heap.size) : ApartR w' v u := fun k hk => ⟨Nat.lt_of_lt_of_le (h k hk).1 hs, (h k hk).2⟩
theorem own_apartR {w w' : World} {base : Nat} {e : TypeId} {sz n : Nat} {v u : Value} {xs : List Value} (h : Own w base e sz v n xs) (ha : ApartR w v u) (hg : w.grownBy w' (rowOf u)) : Own w' base e sz v n xs := by
  refine own_keptR h hg ?_
  by_cases e : rowOf v = none
  · exact .inl e
  · obtain ⟨k, hk⟩ := Option.ne_none_iff_exists'.1 e
    exact .inr fun e2 => (ha k hk).2 (by rw [← e2, hk])
/-- what an append does to the others: they stand as they stood, apart -/
structure GrewR (w w' : World) (base : Nat) (v v' : Value) : Prop where
  below : Below base w w'
  keep : ∀ (base2 : Nat) (e : TypeId) (sz n : Nat) (u : Value) (xs : List Value), Own w base2 e sz u n xs → ApartR w u v → Own w' base2 e sz u n xs
  apart : ∀ u, ApartR w u v → ApartR w' u v'
  rows : w.grownBy w' (rowOf v)
theorem grewR_of {w w' : World} {base : Nat} {v v' : Value} (hb : Below base w w') (hg : w.grownBy w' (rowOf v)) (hk : ∀ k, rowOf v' = some k → rowOf v = some k ∨ w.heap.size ≤ k) : GrewR w w' base v v' :=
  ⟨hb, fun _ _ _ _ _ _ ho ha => own_apartR ho ha hg, fun u ha k hu => ⟨Nat.lt_of_lt_of_le (ha k hu).1 hb.size, fun e => by
    rcases hk k e with h | h
    · exact (ha k hu).2 h
    · have := (ha k hu).1; omega⟩, hg⟩
theorem wp_app_elR {w : World} {ops : Array Oper} {rest : List Oper} {o : Oper} {a : Act} {Q : Exit → Act → World → Prop} (hgd : Region.wanted o (yielded ops a.tmps) = true) (s x : Operand) {t e : TypeId} {i : TypeInfo} {z : Value} {sz by_ : Nat}
    (ho : o.op = .call { callee := .builtin .append, args := #[s, x], argTypes := #[t, t] }) (ht : Tryz.prog.underlying t = some (.slice e)) (hi : Tryz.prog.info? e = some i) (hz : i.zero = some z) (hs : i.size = sz) (hb : i.bytes = by_) (hzs : z.cells.size = sz) (hsz : 0 < sz)
    (base n m : Nat) (v v2 : Value) (xs ys zs : List Value) (r : Nat) (hs' : a.eval s = v) (hx : a.eval x = v2) (hown : Own w base e sz v n xs) (hrd : Reads w sz v2 m ys) (h1 : ∀ u ∈ ys, u.oneCell' = true)
    (hr : n + m = r) (hzz : xs ++ ys = zs) (hlen : r * by_ ≤ 140737488355328) (hnm : r ≤ 9223372036854775807) (hbase : base ≤ w.heap.size)
    (h : ∀ b c w', Hid (Own w' base e sz (.slice b r c) r zs) → Hid (GrewR w w' base v (.slice b r c)) → wpList Tryz.prog ops Q rest (a.put o.dst (.slice b r c)) w') : wpList Tryz.prog ops Q (o :: rest) a w := by
  subst hr hzz
  refine wpList_want hgd fun K hK => ?_
  obtain ⟨v', w', hr, h2, h3, h4, h5⟩ := run_appR (P := Tryz.prog) w base t o.type e i z sz by_ ht hi hz hs hb hzs hsz v n xs hown v2 m ys hrd h1 hlen hnm hbase
  unfold Oper.wp execOp
  simp only [ho, resolve, invoke, builtin, Sem.run_bind, Sem.run_pure, Result.andThen_ok, List.map_toArray, List.map_cons, List.map_nil, hs', hx, hr]
  obtain ⟨b, c, rfl⟩ := (reads_of_own h2).slice
  exact hK _ _ (h b c w' h2 (grewR_of h4 h3 h5))
end Go.Proofs.YtbcnapkbdbefhaaGreatDoor

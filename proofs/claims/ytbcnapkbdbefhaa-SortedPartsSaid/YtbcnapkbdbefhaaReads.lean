/- Slices of elements of whatever size: cuts, appends, what a slice of the call's own reads as. The condition of append: as many bytes as the model's append bears. -/
import Derived.Test.YtbcnapkbdbefhaaBlk
namespace Go.Proofs.Ytbcnapkbdbefhaa
open Go.RowKit

theorem Reads.later {w w' : World} {sz n : Nat} {v : Value} {xs : List Value} (h : Reads w sz v n xs) (hb : Below w.heap.size w w') : Reads w' sz v n xs := by
  obtain ⟨a, cap, h1, h2, h3, h4, h5⟩ := h
  exact ⟨a, cap, h1, h2, h3, h4, fun j hj => let ⟨b, off, e, c⟩ := h5 j hj; ⟨b, off, e, Below.keeps hb _ _ _ c⟩⟩
theorem Reads.slice {w : World} {sz n : Nat} {v : Value} {xs : List Value} (h : Reads w sz v n xs) : ∃ a c, v = .slice a n c := by
  obtain ⟨a, cap, h1, _⟩ := h
  exact ⟨a, cap, h1⟩
theorem reads_nil (w : World) (sz : Nat) : Reads w sz (.slice none 0 0) 0 [] := ⟨none, 0, rfl, by simp, by omega, by omega, fun j hj => absurd hj (by simp)⟩

set_option maxRecDepth 100000 in
/-- v[lo:hi] -/
theorem reads_cut {w : World} {t e : TypeId} {i : TypeInfo} (ht : Try.prog.underlying t = some (.slice e)) (hi : Try.prog.info? e = some i) {sz : Nat} (hs : i.size = sz) (hsz : 0 < sz) {v : Value} {n : Nat} {xs : List Value} (h : Reads w sz v n xs)
    (lo hj : Nat) (h1 : lo ≤ hj) (h2 : hj ≤ n) :
    ∃ a' c', (∀ (w' : World) (kl kh : IntKind), (Instr.slice t v (some (.int kl lo)) (some (.int kh hj)) none).run Try.prog w' = .ok (.slice a' (hj - lo) c') w') ∧
      (lo = 0 → ∀ (w' : World) (kh : IntKind), (Instr.slice t v none (some (.int kh hj)) none).run Try.prog w' = .ok (.slice a' (hj - lo) c') w') ∧
      (hj = n → ∀ (w' : World) (kl : IntKind), (Instr.slice t v (some (.int kl lo)) none none).run Try.prog w' = .ok (.slice a' (hj - lo) c') w') ∧
      Reads w sz (.slice a' (hj - lo) c') (hj - lo) ((xs.take (hj * sz)).drop (lo * sz)) := by
  obtain ⟨a, cap, rfl, hl, hc, hm, hr⟩ := h
  subst hs
  have hel : Try.prog.elem t = e := by simp [Program.elem, ht]
  have ht' : Try.prog.underlying t = some (.slice (Try.prog.elem t)) := by rw [hel]; exact ht
  have hlen : ((xs.take (hj * i.size)).drop (lo * i.size)).length = (hj - lo) * i.size := by
    rw [List.length_drop, List.length_take, hl, Nat.min_eq_left (Nat.mul_le_mul_right _ h2), Nat.sub_mul]
  have hso : ∀ w' : World, (sizeOf (Try.prog.elem t)).run Try.prog w' = .ok i.size w' := fun w' => by rw [hel]; simp [sizeOf, typeInfo, hi]
  refine ⟨if cap = lo then a else a.map (·.add (lo * i.size)), cap - lo, fun w' kl kh => ?_, fun e0 w' kh => ?_, fun e0 w' kl => ?_, ?_⟩
  · rw [run_slice_lh w' t a n cap ht' kl kh lo hj (by omega) (by omega) (by omega)]
    rw [hso]
    simp [sliced, Result.andThen]
  · subst e0
    rw [run_slice_h w' t a n cap ht' kh hj (by omega) (by omega)]
    rw [hso]
    simp [sliced, Result.andThen]
  · subst e0
    rw [run_slice_l w' t a hj cap ht' kl lo (by omega) (by omega)]
    rw [hso]
    simp [sliced, Result.andThen]
  · refine ⟨_, _, rfl, hlen, by omega, by omega, fun j hjj => ?_⟩
    have hlt : j < (hj - lo) * i.size := by rw [← hlen]; exact hjj
    rw [Nat.sub_mul] at hlt
    have hle : hj * i.size ≤ n * i.size := Nat.mul_le_mul_right _ h2
    obtain ⟨b, off, rfl, hc'⟩ := hr (lo * i.size + j) (by omega)
    refine ⟨b, off + lo * i.size, ?_, ?_⟩
    · rw [if_neg (by
        intro e0
        have : lo = hj := by omega
        subst this
        omega)]
      by_cases h0 : lo * i.size = 0
      · simp [Addr.add, h0]
      · simp [Addr.add, h0]
    · rw [Nat.add_assoc, hc']; simp

/-- an owned slice reads -/
theorem reads_of_own {w : World} {base : Nat} {e : TypeId} {sz : Nat} {v : Value} {n : Nat} {xs : List Value} (h : Own w base e sz v n xs) : Reads w sz v n xs := by
  rcases h with ⟨rfl, rfl, a, rfl⟩ | ⟨h1, g, cap, cur, fr, rfl, _, hg, _, hn, hc, hs, ht⟩
  · exact ⟨a, 0, rfl, by simp, by omega, by omega, fun j hj => absurd hj (by simp)⟩
  · refine ⟨_, cap, rfl, h1, hn, by unfold maxLen at hc; omega, fun j hj => ⟨g, 0, rfl, ?_⟩⟩
    rw [cell_of_row w g (0 + j) cur _ fr hg, Nat.zero_add]
    have hh : (cur.toList.take (n * sz))[j]? = some xs[j] := by rw [ht]; exact List.getElem?_eq_getElem hj
    rw [List.getElem?_take] at hh
    split at hh
    · simpa using hh
    · cases hh
/-- a block that is new, all of it -/
theorem own_new (w : World) (cs : Array Value) (t : TypeId) (n sz : Nat) (h : cs.size = n * sz) (hn : n ≤ maxLen) : Own (w.alloc (.cells cs t)) w.heap.size t sz (.slice (some ⟨w.heap.size, 0, none⟩) n n) n cs.toList :=
  .inr ⟨by simpa using h, w.heap.size, n, cs, (0, 0), rfl, Nat.le_refl _, heap_alloc_last w _, fun _ _ h => by omega, Nat.le_refl _, hn, by omega, by rw [List.take_of_length_le (by simpa using Nat.le_of_eq h)]⟩
theorem reads_new (w : World) (cs : Array Value) (t : TypeId) (n sz : Nat) (h : cs.size = n * sz) (hn : n ≤ maxLen) : Reads (w.alloc (.cells cs t)) sz (.slice (some ⟨w.heap.size, 0, none⟩) n n) n cs.toList :=
  reads_of_own (own_new w cs t n sz h hn)

theorem wpList_want {P : Program} {ops : Array Oper} {Q : Exit → Act → World → Prop} {a : Act} {w : World} {rest : List Oper} {o : Oper} (hg : Region.wanted o (yielded ops a.tmps) = true)
    (h : ∀ K : Act → World → Prop, (∀ a w, wpList P ops Q rest a w → K a w) → o.wp P a w K Q) : wpList P ops Q (o :: rest) a w :=
  wpList_step fun K hK => by rw [if_pos hg]; exact h K hK
/-- append onto what the call owns, as a step of the walk -/
theorem wp_app_el {w : World} {ops : Array Oper} {rest : List Oper} {o : Oper} {a : Act} {Q : Exit → Act → World → Prop} (hgd : Region.wanted o (yielded ops a.tmps) = true) (s x : Operand) {t e : TypeId} {i : TypeInfo} {z : Value} {sz by_ : Nat}
    (ho : o.op = .call { callee := .builtin .append, args := #[s, x], argTypes := #[t, t] }) (ht : Try.prog.underlying t = some (.slice e)) (hi : Try.prog.info? e = some i) (hz : i.zero = some z) (hs : i.size = sz) (hb : i.bytes = by_) (hzs : z.cells.size = sz) (hsz : 0 < sz)
    (base n m : Nat) (v v2 : Value) (xs ys : List Value) (hs' : a.eval s = v) (hx : a.eval x = v2) (hown : Own w base e sz v n xs) (hrd : Reads w sz v2 m ys) (h1 : ∀ u ∈ ys, u.oneCell' = true)
    (hlen : (n + m) * by_ ≤ 140737488355328) (hnm : n + m ≤ 9223372036854775807) (hbase : base ≤ w.heap.size)
    (h : ∀ b c w', Hid (Own w' base e sz (.slice b (n + m) c) (n + m) (xs ++ ys)) → Below base w w' → wpList Try.prog ops Q rest (a.put o.dst (.slice b (n + m) c)) w') : wpList Try.prog ops Q (o :: rest) a w := by
  refine wpList_want hgd fun K hK => ?_
  obtain ⟨v', w', hr, h2, _, h4⟩ := run_app (P := Try.prog) w base t o.type e i z sz by_ ht hi hz hs hb hzs hsz v n xs hown v2 m ys hrd h1 hlen hnm hbase
  unfold Oper.wp execOp
  simp only [ho, resolve, invoke, builtin, Sem.run_bind, Sem.run_pure, Result.andThen_ok, List.map_toArray, List.map_cons, List.map_nil, hs', hx, hr]
  obtain ⟨b, c, rfl⟩ := (reads_of_own h2).slice
  exact hK _ _ (h b c w' h2 h4)

/-- append onto a slice without room: a new block, nothing that was there is written -/
theorem wpo_app_el_grow {w : World} {o : Oper} {a : Act} {K : Act → World → Prop} {Q : Exit → Act → World → Prop} (s x : Operand) {t e : TypeId} {i : TypeInfo} {z : Value} {sz by_ : Nat}
    (ho : o.op = .call { callee := .builtin .append, args := #[s, x], argTypes := #[t, t] }) (ht : Try.prog.underlying t = some (.slice e)) (hi : Try.prog.info? e = some i) (hz : i.zero = some z) (hs : i.size = sz) (hb : i.bytes = by_) (hzs : z.cells.size = sz) (hsz : 0 < sz)
    (n m cap : Nat) (ad : Addr) (v v2 : Value) (xs ys : List Value) (hv : v = .slice (some ad) n cap) (hs' : a.eval s = v) (hx : a.eval x = v2) (hrd0 : Reads w sz v n xs) (hrd : Reads w sz v2 m ys)
    (hcap : cap < n + m) (hlen : (n + m) * by_ ≤ 140737488355328) (hnm : n + m ≤ 9223372036854775807)
    (h : ∀ b c w', Hid (Own w' w.heap.size e sz (.slice b (n + m) c) (n + m) (xs ++ ys)) → Below w.heap.size w w' → K (a.put o.dst (.slice b (n + m) c)) w') : o.wp Try.prog a w K Q := by
  subst hv hs hb
  have hc1 := reads_cells hrd0
  have hm : 0 < m := by obtain ⟨_, _, e, _, h1, _⟩ := hrd0; simp only [Value.slice.injEq] at e; omega
  have hxl : xs.length = n * i.size := by obtain ⟨_, _, _, h1, _⟩ := hrd0; exact h1
  obtain ⟨a2, cap2, rfl, hl2, hmc, hcm, hcells⟩ := hrd
  have hc2 := reads_cells (w := w) (sz := i.size) ⟨a2, cap2, rfl, hl2, hmc, hcm, hcells⟩
  cases a2 with
  | none => have := hc2.1 rfl; have := Nat.mul_pos hm hsz; omega
  | some ad2 =>
    have hr := run_append_grow (P := Try.prog) w t o.type e i z ht hi hz ad n cap xs hxl (hc1.2 ad rfl) ad2 m cap2 ys hl2 (hc2.2 ad2 rfl) (by omega) (by omega) (growslice_fits (by omega) hlen)
    have hge := grownCap_ge w (n + m) cap e
    have hcm' : grownCap w (n + m) cap e ≤ maxLen := grownCap_le_maxLen w (n + m) cap e (by unfold maxLen; omega)
    have hlen2 : (xs ++ ys).length = (n + m) * i.size := by rw [List.length_append, hxl, hl2, Nat.add_mul]
    unfold Oper.wp execOp
    simp only [ho, resolve, invoke, builtin, Sem.run_bind, Sem.run_pure, Result.andThen_ok, List.map_toArray, List.map_cons, List.map_nil, hs', hx, hr]
    refine (h _ _ _ ?_ ((Below.refl _ _).drew.alloc (Nat.le_refl _) _))
    refine .inr ⟨hlen2, w.heap.size, _, _, (0, 0), rfl, Nat.le_refl _, heap_alloc_new w.drew _, fun _ _ h => by omega, hge, hcm', ?_, ?_⟩
    · simp only [Array.size_append, List.size_toArray, size_zeroCells, hzs, hxl, hl2, ← Nat.add_mul]
      have e9 : n + m + (grownCap w (n + m) cap e - (n + m)) = grownCap w (n + m) cap e := by omega
      rw [e9]
      exact Nat.le_refl _
    · simp only [Array.toList_append, List.append_assoc]
      rw [← List.append_assoc, ← hlen2]
      exact List.take_left

theorem wp_app_el_grow {w : World} {ops : Array Oper} {rest : List Oper} {o : Oper} {a : Act} {Q : Exit → Act → World → Prop} (hgd : Region.wanted o (yielded ops a.tmps) = true) (s x : Operand) {t e : TypeId} {i : TypeInfo} {z : Value} {sz by_ : Nat}
    (ho : o.op = .call { callee := .builtin .append, args := #[s, x], argTypes := #[t, t] }) (ht : Try.prog.underlying t = some (.slice e)) (hi : Try.prog.info? e = some i) (hz : i.zero = some z) (hs : i.size = sz) (hb : i.bytes = by_) (hzs : z.cells.size = sz) (hsz : 0 < sz)
    (n m cap : Nat) (ad : Addr) (v v2 : Value) (xs ys : List Value) (hv : v = .slice (some ad) n cap) (hs' : a.eval s = v) (hx : a.eval x = v2) (hrd0 : Reads w sz v n xs) (hrd : Reads w sz v2 m ys)
    (hcap : cap < n + m) (hlen : (n + m) * by_ ≤ 140737488355328) (hnm : n + m ≤ 9223372036854775807)
    (h : ∀ b c w', Hid (Own w' w.heap.size e sz (.slice b (n + m) c) (n + m) (xs ++ ys)) → Below w.heap.size w w' → wpList Try.prog ops Q rest (a.put o.dst (.slice b (n + m) c)) w') : wpList Try.prog ops Q (o :: rest) a w :=
  wpList_want hgd fun _ hK => wpo_app_el_grow s x ho ht hi hz hs hb hzs hsz n m cap ad v v2 xs ys hv hs' hx hrd0 hrd hcap hlen hnm fun b c w' h1 h2 => hK _ _ (h b c w' h1 h2)

/-- elements of sz cells each, one behind the other -/
theorem flatM_length {α : Type} (f : α → List Value) (sz : Nat) (hf : ∀ x, (f x).length = sz) (l : List α) : (l.flatMap f).length = l.length * sz := by
  induction l with
  | nil => simp
  | cons x l ih => rw [List.flatMap_cons, List.length_append, ih, hf, List.length_cons, Nat.add_mul, Nat.one_mul]; omega
theorem flatM_get {α : Type} (f : α → List Value) (sz : Nat) (hf : ∀ x, (f x).length = sz) (l : List α) (j i : Nat) (hj : j < l.length) (hi : i < sz) : (l.flatMap f)[j * sz + i]? = (f l[j])[i]? := by
  induction l generalizing j with
  | nil => simp at hj
  | cons x l ih =>
    cases j with
    | zero =>
      rw [List.flatMap_cons, List.getElem?_append_left (by rw [hf]; omega)]
      simp
    | succ j =>
      rw [List.flatMap_cons, List.getElem?_append_right (by rw [hf, Nat.add_mul]; omega), hf, show (j + 1) * sz + i - sz = j * sz + i from by rw [Nat.add_mul]; omega]
      exact ih j (by simpa using hj)
theorem flatM_take {α : Type} (f : α → List Value) (sz : Nat) (hf : ∀ x, (f x).length = sz) (l : List α) (k : Nat) (hk : k ≤ l.length) : (l.flatMap f).take (k * sz) = (l.take k).flatMap f := by
  have e : l.flatMap f = (l.take k).flatMap f ++ (l.drop k).flatMap f := by rw [← List.flatMap_append, List.take_append_drop]
  rw [e, List.take_left' (by rw [flatM_length f sz hf, List.length_take, Nat.min_eq_left hk])]
theorem flatM_drop {α : Type} (f : α → List Value) (sz : Nat) (hf : ∀ x, (f x).length = sz) (l : List α) (k : Nat) (hk : k ≤ l.length) : (l.flatMap f).drop (k * sz) = (l.drop k).flatMap f := by
  have e : l.flatMap f = (l.take k).flatMap f ++ (l.drop k).flatMap f := by rw [← List.flatMap_append, List.take_append_drop]
  rw [e, List.drop_left' (by rw [flatM_length f sz hf, List.length_take, Nat.min_eq_left hk])]
end Go.Proofs.Ytbcnapkbdbefhaa

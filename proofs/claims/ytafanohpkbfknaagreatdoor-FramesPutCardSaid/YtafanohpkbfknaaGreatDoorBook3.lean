/- The book of lists: appends that leave what the older slices read as; a list's cell in the book. The condition: as many bytes as the model's append bears. -/
import Derived.Test.YtafanohpkbfknaaGreatDoorBook2
namespace Go.Proofs.YtafanohpkbfknaaGreatDoor
open Go.RowKit

/-- an append leaves every slice that is no longer than the one that grows -/
theorem run_app_le {P : Program} (w : World) (base : Nat) (t ty e : TypeId) (i : TypeInfo) (z : Value) (size bytes : Nat) (ht : P.underlying t = some (.slice e)) (hi : P.info? e = some i) (hz : i.zero = some z)
    (hsize : i.size = size) (hby : i.bytes = bytes) (hzs : z.cells.size = size) (hsz : 0 < size)
    (v : Value) (n : Nat) (xs : List Value) (hown : Own w base e size v n xs)
    (a : Addr) (cap m : Nat) (news : List Value) (hl : news.length = m * size) (hnews : ∀ j u, news[j]? = some u → w.cell? (a.add j) = some u) (h1 : ∀ u ∈ news, u.oneCell' = true) (hm1 : 0 < m)
    (hbytes : (n + m) * bytes ≤ 140737488355328) (hm : n + m ≤ 9223372036854775807) (v' : Value) (w' : World)
    (hrun : (Builtin.append_ #[t, t] ty #[v, .slice (some a) m cap]).run P w = .ok v' w')
    (base2 : Nat) (u : Value) (n2 : Nat) (ys : List Value) (hu : Own w base2 e size u n2 ys) (hle : n2 ≤ n) : Own w' base2 e size u n2 ys := by
  subst hsize hby
  rcases hown with ⟨rfl, rfl, ad', rfl⟩ | ⟨hxl, g, cp, cur, fr, rfl, hbg, hg, hfr, hnc, hcm2, hcs, htake⟩
  · obtain rfl : n2 = 0 := by omega
    rcases hu with h | ⟨hyl, g2, cp2, cur2, fr2, rfl, hb2, hg2, hf2, hn2, hc2, hs2, ht2⟩
    · exact .inl h
    · have hnil : ∃ o, w' = w.drew.alloc o := by
        cases ad' with
        | none =>
          have hr := run_append_nil (P := P) w t ty e i z ht hi hz a m cap news hl hnews hm1 (by omega) (by have hb := hbytes; simp only [Nat.zero_add] at hb; omega)
          rw [hr] at hrun
          cases hrun
          exact ⟨_, rfl⟩
        | some ad' =>
          have hr := run_append_grow (P := P) w t ty e i z ht hi hz ad' 0 0 [] (by simp) (by simp) a m cap news hl hnews (by omega) (by omega) (growslice_fits (by omega) hbytes)
          rw [hr] at hrun
          cases hrun
          exact ⟨_, rfl⟩
      obtain ⟨o, rfl⟩ := hnil
      exact own_below (.inr ⟨hyl, g2, cp2, cur2, fr2, rfl, hb2, hg2, hf2, hn2, hc2, hs2, ht2⟩) ((Below.refl _ _).drew.alloc (Nat.le_refl _) _)
  · by_cases hroom : n + m ≤ cp
    · have hfit : n * i.size + news.length ≤ cur.size := by
        rw [hl, ← Nat.add_mul]
        exact Nat.le_trans (Nat.mul_le_mul_right _ hroom) hcs
      have hr := run_append_fr (P := P) w t ty e i ht hi g n cp cur fr hg hfr a m cap news hl hnews h1 hroom hfit
      rw [hr] at hrun
      cases hrun
      rcases hu with h | ⟨hyl, g2, cp2, cur2, fr2, rfl, hb2, hg2, hf2, hn2, hc2, hs2, ht2⟩
      · exact .inl h
      · by_cases e2 : g2 = g
        · subst e2
          rw [hg] at hg2
          simp only [Option.some.injEq, Obj.cells.injEq] at hg2
          obtain ⟨rfl, _, rfl⟩ := hg2
          have hnl : n2 * i.size ≤ n * i.size := Nat.mul_le_mul_right _ hle
          refine .inr ⟨hyl, g2, cp2, _, fr, rfl, hb2, setRow_heap w g2 cur _ e _ hg, ?_, hn2, hc2, ?_, ?_⟩
          · intro k hk
            apply hfr
            simp only [List.size_toArray, List.length_append, List.length_take, List.length_drop, Array.length_toList] at hk
            omega
          · simp only [List.size_toArray, List.length_append, List.length_take, List.length_drop, Array.length_toList]
            omega
          · simp only [List.append_assoc]
            rw [List.take_append_of_le_length (by rw [List.length_take, Array.length_toList]; omega), List.take_take, Nat.min_eq_left hnl]
            exact ht2
        · exact .inr ⟨hyl, g2, cp2, cur2, fr2, rfl, hb2, by rw [setRow_other w g g2 _ e2]; exact hg2, hf2, hn2, hc2, hs2, ht2⟩
    · have holds : ∀ j u, xs[j]? = some u → w.cell? ((⟨g, 0, none⟩ : Addr).add j) = some u := by
        intro j u hu
        have hadd : (⟨g, 0, none⟩ : Addr).add j = ⟨g, j, none⟩ := by unfold Addr.add; split <;> simp_all
        rw [hadd, cell_of_row w g j cur e fr hg]
        rw [← htake, List.getElem?_take] at hu
        split at hu
        · simpa using hu
        · cases hu
      have hr := run_append_grow (P := P) w t ty e i z ht hi hz ⟨g, 0, none⟩ n cp xs hxl holds a m cap news hl hnews (by omega) (by omega) (growslice_fits (by omega) hbytes)
      rw [hr] at hrun
      cases hrun
      exact own_below hu ((Below.refl _ _).drew.alloc (Nat.le_refl _) _)
/-- .. of bytes, one byte more -/
theorem wp_app_one {w : World} {ops : Array Oper} {rest : List Oper} {o : Oper} {a : Act} {Q : Exit → Act → World → Prop} (hgd : Region.wanted o (yielded ops a.tmps) = true) (s x : Operand)
    (ho : o.op = .call { callee := .builtin .append, args := #[s, x], argTypes := #[25, 25] })
    (base n : Nat) (v : Value) (ad : Addr) (cap : Nat) (xs ys zs : List Value) (r : Nat) (hs' : a.eval s = v) (hx : a.eval x = .slice (some ad) 1 cap) (hown : Own w base 5 1 v n xs) (hrd : Reads w 1 (.slice (some ad) 1 cap) 1 ys) (h1 : ∀ u ∈ ys, u.oneCell' = true)
    (hr : n + 1 = r) (hzz : xs ++ ys = zs) (hlen : r ≤ 140737488355328) (hbase : base ≤ w.heap.size)
    (h : ∀ b c w', Hid (Own w' base 5 1 (.slice b r c) r zs) → Hid (Grew w w' base v (.slice b r c)) → Hid (∀ (base2 : Nat) (u : Value) (n2 : Nat) (ws : List Value), Own w base2 5 1 u n2 ws → n2 ≤ n → Own w' base2 5 1 u n2 ws) → wpList Tryz.prog ops Q rest (a.put o.dst (.slice b r c)) w') : wpList Tryz.prog ops Q (o :: rest) a w := by
  subst hr hzz
  refine wpList_want hgd fun K hK => ?_
  obtain ⟨i, hi, hz, hz1, hz2⟩ := info_parts info_u8
  obtain ⟨v', w', hr, h2, h3, h4, h5⟩ := run_app2 (P := Tryz.prog) w base 25 o.type 5 i (.int .u8 0) 1 1 Tryz.underlying25 hi hz hz1 hz2 rfl (by omega) v n xs hown _ 1 ys hrd h1 (by omega) (by omega) hbase
  have hle := run_app_le (P := Tryz.prog) w base 25 o.type 5 i (.int .u8 0) 1 1 Tryz.underlying25 hi hz hz1 hz2 rfl (by omega) v n xs hown ad cap 1 ys (by obtain ⟨_, _, _, hl, _⟩ := hrd; exact hl) ((reads_cells hrd).2 ad rfl) h1 (by omega) (by omega) (by omega) v' w' hr
  unfold Oper.wp execOp
  simp only [ho, resolve, invoke, builtin, Sem.run_bind, Sem.run_pure, Result.andThen_ok, List.map_toArray, List.map_cons, List.map_nil, hs', hx, hr]
  obtain ⟨b, c, rfl⟩ := (reads_of_own h2).slice
  exact hK _ _ (h b c w' h2 (grew_of h4 h3 h5) hle)
theorem own_free {w : World} {base : Nat} {e : TypeId} {sz g n c : Nat} {xs : List Value} (h : Own w base e sz (.slice (some ⟨g, 0, none⟩) n c) n xs) (i : Nat) (hi : i < n * sz) : w.frozen? ⟨g, i, none⟩ = false := by
  rcases h with ⟨rfl, _⟩ | ⟨h1, g', cap, cur, fr, e2, hb, hg, hf, hnc, hm, hcs, ht⟩
  · omega
  · simp only [Value.slice.injEq, Option.some.injEq, Addr.mk.injEq, and_true, true_and] at e2
    obtain ⟨rfl, rfl⟩ := e2
    have hle : n * sz ≤ c * sz := Nat.mul_le_mul_right _ hnc
    have := hf i (by omega)
    simp only [World.frozen?, hg]
    simp
    omega
theorem own_storeG {w : World} {base : Nat} {e : TypeId} {sz g n c : Nat} {xs : List Value} (h : Own w base e sz (.slice (some ⟨g, 0, none⟩) n c) n xs) (i : Nat) (hi : i < n * sz) (x : Value) :
    Own (w.setCell ⟨g, i, none⟩ x) base e sz (.slice (some ⟨g, 0, none⟩) n c) n (xs.set i x) := by
  rcases h with ⟨rfl, _⟩ | ⟨h1, g', cap, cur, fr, e2, hb, hg, hf, hnc, hm, hcs, ht⟩
  · omega
  · simp only [Value.slice.injEq, Option.some.injEq, Addr.mk.injEq, and_true, true_and] at e2
    obtain ⟨rfl, rfl⟩ := e2
    refine .inr ⟨by simpa using h1, g, c, cur.setIfInBounds i x, fr, rfl, hb, ?_, by simpa using hf, hnc, hm, by simpa using hcs, ?_⟩
    · rw [setCell_eq_setRow w g i cur e fr _ hg, setRow_heap w g cur _ _ fr hg]
    · rw [← ht]
      simp [List.take_set]
theorem helds_at (m : Nat) (L G : Nat → Value) (q : Nat) (h : q < m * 3) : (helds m L G)[q]? = (hcell (L (q / 3)) (G (q / 3)) (q / 3 + 1))[q % 3]? := by
  have hj : q / 3 < (List.range m).length := by rw [List.length_range]; omega
  have hg := flatM_get (fun j => hcell (L j) (G j) (j + 1)) 3 (fun _ => rfl) (List.range m) (q / 3) (q % 3) hj (by omega)
  simp only [List.getElem_range] at hg
  rw [show q / 3 * 3 + q % 3 = q from by omega] at hg
  exact hg
theorem helds_set (m : Nat) (L G : Nat → Value) (i : Nat) (x : Value) : (helds m L G).set (i * 3 + 1) x = helds m L (fun j => if j = i then x else G j) := by
  apply List.ext_getElem?
  intro q
  by_cases hq : q < m * 3
  · rw [helds_at _ _ _ q hq]
    by_cases e : q = i * 3 + 1
    · subst e
      rw [List.getElem?_set_self (by rw [helds_length]; omega), show (i * 3 + 1) / 3 = i from by omega, show (i * 3 + 1) % 3 = 1 from by omega]
      simp [hcell]
    · rw [List.getElem?_set_ne (fun e2 => e e2.symm), helds_at _ _ _ q hq]
      by_cases e3 : q / 3 = i
      · have h3 : q % 3 = 0 ∨ q % 3 = 2 := by omega
        rcases h3 with h | h <;> rw [h] <;> rfl
      · rw [if_neg e3]
  · rw [List.getElem?_eq_none (by rw [List.length_set, helds_length]; omega), List.getElem?_eq_none (by rw [helds_length]; omega)]
end Go.Proofs.YtafanohpkbfknaaGreatDoor

/- append of a text's bytes onto what the call owns. The condition: at most 2^40 bytes. -/
import Derived.Test.YtimfcinkjjaigaaGreatDoorRet
import Derived.Lib.AppendStr
namespace Go.Proofs.YtimfcinkjjaigaaGreatDoor
open Go.RowKit

theorem strCells_u8s (s : ByteArray) : Lib.strCells s = u8s s.data.toList := by simp [Lib.strCells, u8s]
theorem run_app_str (w : World) (base : Nat) (ty : TypeId) (v : Value) (n : Nat) (l : List UInt8) (hown : Own w base 5 1 v n (u8s l)) (s : ByteArray) (hlen : n + s.size ≤ 1099511627776) (hbase : base ≤ w.heap.size) :
    ∃ v' w', (Builtin.append_ #[57, 9] ty #[v, .string s]).run Tryz.prog w = .ok v' w' ∧ Own w' base 5 1 v' (n + s.size) (u8s (l ++ s.data.toList)) ∧ Below base w w' := by
  obtain ⟨i, hi, hz, hz1, hz2⟩ := info_parts info_u8
  have hcl : (u8s s.data.toList).length = s.size := by rw [u8s_length, size_data]
  have gbel : ∀ (o : Obj), Below base w (w.drew.alloc o) := fun o => (Below.refl _ _).drew.alloc hbase _
  have grown : ∀ (old : Nat), old < n + s.size → (u8s l).length = n →
      Own (w.drew.alloc (.cells ((u8s l).toArray ++ (Lib.strCells s).toArray ++ Builtin.zeroCells (Value.int .u8 0).cells (grownCap w (n + s.size) old 5 - (n + s.size))) 5)) base 5 1 (.slice (some ⟨w.heap.size, 0, none⟩) (n + s.size) (grownCap w (n + s.size) old 5)) (n + s.size) (u8s (l ++ s.data.toList)) := by
    intro old ho hxl
    have hge := grownCap_ge w (n + s.size) old 5
    have hcm' : grownCap w (n + s.size) old 5 ≤ maxLen := grownCap_le_maxLen w (n + s.size) old 5 (by unfold maxLen; omega)
    have hll : (u8s (l ++ s.data.toList)).length = (n + s.size) * 1 := by rw [u8s_append, List.length_append, hxl, hcl, Nat.mul_one]
    refine .inr ⟨hll, w.heap.size, _, _, (0, 0), rfl, hbase, heap_alloc_new w.drew _, fun _ _ h => by omega, hge, hcm', ?_, ?_⟩
    · simp only [Array.size_append, List.size_toArray, size_zeroCells, hxl, strCells_u8s, hcl]
      show _ ≤ n + s.size + (grownCap w (n + s.size) old 5 - (n + s.size)) * 1
      omega
    · simp only [Array.toList_append, List.append_assoc, strCells_u8s]
      rw [← List.append_assoc, ← u8s_append, ← hll]
      exact List.take_left
  rcases hown with ⟨rfl, hx, ad', rfl⟩ | ⟨hxl, g, cp, cur, fr, rfl, hbg, hg, hfr, hnc, hcm2, hcs, htake⟩
  · have hl0 : l = [] := by simpa [u8s] using hx
    subst hl0
    by_cases hm0 : s.size = 0
    · have hs0 : s.data.toList = [] := List.eq_nil_of_length_eq_zero (by rw [size_data]; exact hm0)
      refine ⟨.slice ad' 0 0, w, ?_, .inl ⟨by omega, by simp [hs0, u8s], ad', rfl⟩, Below.refl _ _⟩
      have hf := Lib.run_firstCells_string (P := Tryz.prog) w 1 s
      rw [hm0] at hf
      have e0 : Lib.strCells s = [] := by rw [strCells_u8s, hs0]; rfl
      rw [e0] at hf
      cases ad' <;> simp [Builtin.append_, run_underlying Tryz.underlying57, run_underlying Tryz.underlying9, sizeOf, typeInfo, hi, hz1, Builtin.lenOf, hm0, hf, storeCells]
    · have hgr := grown 0 (by omega) rfl
      cases ad' with
      | none =>
        have hr := run_append_nil_string (P := Tryz.prog) w 57 9 ty 5 i (.int .u8 0) Tryz.underlying57 Tryz.underlying9 hi hz s (by omega) (by omega) (by rw [hz2]; omega)
        have e1 : (s.data.map fun b => Value.int .u8 b.toNat) = (Lib.strCells s).toArray := by
          apply Array.ext'
          simp [Lib.strCells]
        rw [e1] at hr
        simp only [Nat.zero_add, List.nil_append] at hgr ⊢
        have e2 : (u8s []).toArray ++ (Lib.strCells s).toArray = (Lib.strCells s).toArray := by simp [u8s]
        rw [e2] at hgr
        exact ⟨_, _, hr, hgr, gbel _⟩
      | some ad' =>
        have hr := Lib.run_append_grow_string (P := Tryz.prog) w 57 9 ty 5 i (.int .u8 0) Tryz.underlying57 Tryz.underlying9 hi hz ad' 0 0 (u8s []) (by simp [u8s]) (by simp [u8s]) s (by omega) (by omega) (growslice_fits (by omega) (by rw [hz2]; omega))
        exact ⟨_, _, hr, hgr, gbel _⟩
  · have hxl1 : (u8s l).length = n := by omega
    have hll : (u8s (l ++ s.data.toList)).length = (n + s.size) * 1 := by rw [u8s_append, List.length_append, hxl1, hcl, Nat.mul_one]
    by_cases hroom : n + s.size ≤ cp
    · have hf := Lib.run_firstCells_string (P := Tryz.prog) w 1 s
      have hst := run_storeCells_fr (P := Tryz.prog) g 5 fr (Lib.strCells s) n 0 cur w hg hfr (by rw [strCells_u8s, hcl]; omega) (by rw [strCells_u8s]; exact one_u8s _)
      simp only [Nat.add_zero] at hst
      have hrun : (Builtin.append_ #[57, 9] ty #[.slice (some ⟨g, 0, none⟩) n cp, .string s]).run Tryz.prog w = .ok (.slice (some ⟨g, 0, none⟩) (n + s.size) cp) (w.setRow g (cur.toList.take n ++ Lib.strCells s ++ cur.toList.drop (n + (Lib.strCells s).length)).toArray) := by
        simp [Builtin.append_, run_underlying Tryz.underlying57, run_underlying Tryz.underlying9, sizeOf, typeInfo, hi, hz1, Builtin.lenOf, hroom, hf, Addr.add_lit, hst]
      refine ⟨_, _, hrun, ?_, ⟨rfl, rfl, rfl, by simp, fun k hk => setRow_other w g k _ (by omega)⟩⟩
      refine .inr ⟨hll, g, cp, _, fr, rfl, hbg, setRow_heap w g cur _ 5 _ hg, ?_, hroom, hcm2, ?_, ?_⟩
      · intro k hk
        apply hfr
        simp only [List.size_toArray, List.length_append, List.length_take, List.length_drop, Array.length_toList, strCells_u8s, hcl] at hk
        omega
      · simp only [List.size_toArray, List.length_append, List.length_take, List.length_drop, Array.length_toList, strCells_u8s, hcl]
        omega
      · have ht' : cur.toList.take n = u8s l := by simpa using htake
        rw [ht', strCells_u8s, ← u8s_append, ← hll]
        exact List.take_left
    · have holds : ∀ j u, (u8s l)[j]? = some u → w.cell? ((⟨g, 0, none⟩ : Addr).add j) = some u := by
        intro j u hu
        have hadd : (⟨g, 0, none⟩ : Addr).add j = ⟨g, j, none⟩ := by unfold Addr.add; split <;> simp_all
        rw [hadd, cell_of_row w g j cur 5 fr hg]
        rw [← htake, List.getElem?_take] at hu
        split at hu
        · simpa using hu
        · cases hu
      have hr := Lib.run_append_grow_string (P := Tryz.prog) w 57 9 ty 5 i (.int .u8 0) Tryz.underlying57 Tryz.underlying9 hi hz ⟨g, 0, none⟩ n cp (u8s l) (by rw [hz1]; omega) holds s (by omega) (by omega) (growslice_fits (by omega) (by rw [hz2]; omega))
      exact ⟨_, _, hr, grown cp (by omega) hxl1, gbel _⟩
/-- .. as a step of the walk -/
theorem wp_app_str {w : World} {ops : Array Oper} {rest : List Oper} {o : Oper} {a : Act} {Q : Exit → Act → World → Prop} (hgd : o.guard = none) (s x : Operand)
    (ho : o.op = .call { callee := .builtin .append, args := #[s, x], argTypes := #[57, 9] })
    (base n : Nat) (v : Value) (t : ByteArray) (l : List UInt8) (hs : a.eval s = v) (hx : a.eval x = .string t) (hown : Own w base 5 1 v n (u8s l))
    (hlen : n + t.size ≤ 1099511627776) (hbase : base ≤ w.heap.size)
    (h : ∀ b k c w', Hid (k = (l ++ t.data.toList).length) → Hid (Own w' base 5 1 (.slice b k c) k (u8s (l ++ t.data.toList))) → Below base w w' → wpList Tryz.prog ops Q rest (a.put o.dst (.slice b k c)) w') : wpList Tryz.prog ops Q (o :: rest) a w := by
  refine wpList_plain hgd fun K hK => ?_
  obtain ⟨v', w', hr, h2, h3⟩ := run_app_str w base o.type v n l hown t hlen hbase
  have hn := (rd_of_own hown).1
  subst hn
  unfold Oper.wp execOp
  simp only [ho, resolve, invoke, builtin, Sem.run_bind, Sem.run_pure, Result.andThen_ok, List.map_toArray, List.map_cons, List.map_nil, hs, hx, hr]
  have e : l.length + t.size = (l ++ t.data.toList).length := by rw [List.length_append, size_data]
  rw [e] at h2
  obtain ⟨b, k, c, rfl, hk⟩ := rd_len (rd_of_own h2).2
  subst hk
  exact hK _ _ (h b _ c w' rfl h2 h3)
end Go.Proofs.YtimfcinkjjaigaaGreatDoor

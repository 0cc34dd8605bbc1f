/- The parts of a file, as a law reads them: plain facts, and answers of frames.Get and blocks.Get at a file's blocks. The conditions as in the walks. -/
import Derived.Test.YtbcnapkbdbefhaaSGreat
import Derived.Test.YtbcnapkbdbefhaaAppR
import Derived.Test.YtbcnapkbdbefhaaSLook
namespace Go.Proofs.Ytbcnapkbdbefhaa
open Go.RowKit

/-- slices of unlike elements lie apart -/
theorem types_apart {w : World} {b1 b2 : Nat} {e1 e2 : TypeId} {s1 s2 n1 n2 : Nat} {v u : Value} {xs ys : List Value} (h1 : Own w b1 e1 s1 v n1 xs) (h2 : Own w b2 e2 s2 u n2 ys) (hne : e1 ≠ e2) : ApartR w v u := by
  intro k hk
  refine ⟨(own_ltR h1 k hk).2, fun hu => ?_⟩
  rcases h1 with ⟨_, _, a, rfl⟩ | ⟨_, g, cap, cur, fr, rfl, _, h4, _⟩
  · simp [rowOf, capOf] at hk
  · rcases h2 with ⟨_, _, a, rfl⟩ | ⟨_, g2, cap2, cur2, fr2, rfl, _, k4, _⟩
    · simp [rowOf, capOf] at hu
    · have e := rowOf_own hk
      have e' := rowOf_own hu
      simp only [Value.ownBlock, Option.some.injEq] at e e'
      subst e
      subst e'
      rw [h4] at k4
      simp only [Option.some.injEq, Obj.cells.injEq] at k4
      exact hne k4.2.1
/-- the keys of some entries: empty, or the last one's stands last -/
theorem keysN_zero (E : List Ent) : keysN E 0 = [] := rfl
theorem keysN_last (E : List Ent) (t : Nat) : ∃ i, keysN E (t + 1) = i ++ [(atE E t).key] := by
  induction t with
  | zero => exact ⟨[], by simp [keysN]⟩
  | succ t ih =>
    rw [keysN]
    by_cases h : t + 1 = 0 ∨ (atE E (t + 1)).key ≠ (atE E (t + 1 - 1)).key
    · rw [if_pos h]; exact ⟨_, rfl⟩
    · rw [if_neg h, List.append_nil]
      obtain ⟨i, hi⟩ := ih
      refine ⟨i, ?_⟩
      rw [hi]
      have : (atE E (t + 1)).key = (atE E t).key := by
        by_cases e : (atE E (t + 1)).key = (atE E t).key
        · exact e
        · exact absurd (.inr (by rw [Nat.add_sub_cancel]; exact e)) h
      rw [this]
theorem keysN_step (E : List Ent) (t : Nat) (h : t = 0 ∨ (atE E t).key ≠ (atE E (t - 1)).key) : keysN E (t + 1) = keysN E t ++ [(atE E t).key] := by rw [keysN, if_pos h]
theorem keysN_same (E : List Ent) (t : Nat) (h0 : t ≠ 0) (h : (atE E t).key = (atE E (t - 1)).key) : keysN E (t + 1) = keysN E t := by
  rw [keysN, if_neg (by rintro (e | e); · exact h0 e
                        · exact e h), List.append_nil]
/-- frames.Get of a file from a block's place on -/
theorem fget_blk {E : List Ent} (hE : IsS (fileS E) E) (j : Nat) (hj : j < nBlk E) : fgetR ((fileS E).drop (framesN E j).length) = (blkPut (blkN E j), (blkPut (blkN E j)).length + 8, 0) := by
  obtain ⟨r, hr⟩ := file_rest E j hj
  rw [hr, fgetR_put _ _ (blkN_small hE.1 j hj)]
theorem fileS_drop1 (E : List Ent) : (fileS E).drop (framesN E (nBlk E)).length = fput (idxP E) ++ (fput (bloomPut (keysN E E.length)) ++ (four (framesN E (nBlk E)).length ++ (four ((framesN E (nBlk E)).length + (fput (idxP E)).length) ++ four E.length))) := by
  unfold fileS; rw [List.drop_left]
theorem fget_idx {E : List Ent} (hE : IsS (fileS E) E) : fgetR ((fileS E).drop (framesN E (nBlk E)).length) = (idxP E, (idxP E).length + 8, 0) := by
  rw [fileS_drop1, fgetR_put _ _ (idxP_small hE.1 hE.2.2.1)]
theorem bloom_small (E : List Ent) (h : E.length ≤ 4096) : (bloomPut (keysN E E.length)).length ≤ 65536 := by
  have := keysN_len E E.length
  rw [bloomPut_length]; unfold bloomN; omega
theorem fileS_drop2 (E : List Ent) : (fileS E).drop ((framesN E (nBlk E)).length + ((idxP E).length + 8)) = fput (bloomPut (keysN E E.length)) ++ (four (framesN E (nBlk E)).length ++ (four ((framesN E (nBlk E)).length + (fput (idxP E)).length) ++ four E.length)) := by
  rw [← List.drop_drop, fileS_drop1]
  have e : (idxP E).length + 8 = (fput (idxP E)).length := by rw [fput_length]
  rw [e, List.drop_left]
theorem fget_bloom {E : List Ent} (hE : IsS (fileS E) E) : fgetR ((fileS E).drop ((framesN E (nBlk E)).length + ((idxP E).length + 8))) = (bloomPut (keysN E E.length), (bloomPut (keysN E E.length)).length + 8, 0) := by
  rw [fileS_drop2, fgetR_put _ _ (bloom_small E hE.2.2.1)]
theorem fileS_drop3 (E : List Ent) : (fileS E).drop ((framesN E (nBlk E)).length + ((idxP E).length + 8) + ((bloomPut (keysN E E.length)).length + 8)) = four (framesN E (nBlk E)).length ++ (four ((framesN E (nBlk E)).length + ((idxP E).length + 8)) ++ four E.length) := by
  rw [← List.drop_drop, fileS_drop2]
  have e : (bloomPut (keysN E E.length)).length + 8 = (fput (bloomPut (keysN E E.length))).length := by rw [fput_length]
  rw [e, List.drop_left, fput_length]
theorem fileS_room (E : List Ent) : (framesN E (nBlk E)).length + ((idxP E).length + 8) + ((bloomPut (keysN E E.length)).length + 8) ≤ (fileS E).length := by
  unfold fileS
  simp only [List.length_append, fput_length, four_len]
  omega
theorem framesN_room (E : List Ent) (j : Nat) (hj : j ≤ nBlk E) : (framesN E j).length ≤ (fileS E).length := by
  obtain ⟨r, hr⟩ := framesN_split E j (nBlk E) hj
  have : (framesN E (nBlk E)).length ≤ (fileS E).length := by
    obtain ⟨r, hr⟩ := fileS_end E
    rw [hr, List.length_append]; omega
  rw [hr, List.length_append] at this
  omega
theorem framesN_step (E : List Ent) (j : Nat) : (framesN E (j + 1)).length = (framesN E j).length + ((blkPut (blkN E j)).length + 8) := by rw [framesN, List.length_append, fput_length]
/-- frames.Get, where a frame stands -/
theorem framesGet_is (w : World) (v : Value) (l r : List UInt8) (t : Nat) (hv : Rd w v l) (hl : l.length ≤ 140737488351232) (h : fgetR l = (r, t, 0)) :
    Calls Try.prog 21 #[v] w fun e w' => ∃ a n c, e = .returned (.tuple #[.slice a n c, .int .i64 t, .int .i64 0]) ∧ Hid (n = r.length) ∧ Hid (Own w' w.heap.size 5 1 (.slice a n c) n (u8s r)) ∧ Below w.heap.size w w' := by
  refine (framesGet_any w v l hv hl).mono ?_
  rintro e w' ⟨a, n, c, rfl, h1, h2, h3⟩
  rw [h] at h1 h2 ⊢
  exact ⟨a, n, c, rfl, h1, h2, h3⟩
/-- blocks.Get, where a block stands -/
theorem blocksGet_is (w : World) (v : Value) (E : List Ent) (hv : Rd w v (blkPut E)) (hm : mayL E = true) (hs : ∀ x ∈ E, x.seq < 18446744073709551616) (hl : (blkPut E).length ≤ 268435456) :
    Calls Try.prog 22 #[v] w fun e w' => ∃ a n c, e = .returned (.tuple #[.slice a n c, .int .i64 0]) ∧ Hid (RdE w' (.slice a n c) (E.map toPE)) ∧ Below w.heap.size w w' := by
  refine (blocksGet_any w v _ hv hl).mono ?_
  rintro e w' ⟨hb, ⟨F, m1, m2, m3, a, n, c, rfl, h1, h2⟩ | ⟨hno, _⟩⟩
  · obtain rfl := blk_unique m1 hm m2 hs m3
    exact ⟨a, n, c, rfl, (rdE_of (reads_of_own h2.out)).2, hb⟩
  · exact absurd rfl (hno E hm hs)
/-- the index and the keys, as far as they stand -/
structure PartI (E : List Ent) (w3 : World) (M : List UInt8) (t : Nat) (xa : Option Addr) (xn xc : Nat) (ka : Option Addr) (kn kc : Nat) (wr : World) : Prop where
  ix : Own wr w3.heap.size 5 1 (.slice xa xn xc) xn (u8s M)
  ks : Own wr w3.heap.size 9 1 (.slice ka kn kc) kn (txs ((keysN E t).map bs))
  bel : Below w3.heap.size w3 wr
section
variable {E : List Ent} {w3 wr w' : World} {M M' : List UInt8} {t xn xc kn kc : Nat} {xa ka : Option Addr}
theorem PartI.kn_eq (h : PartI E w3 M t xa xn xc ka kn kc wr) : kn = (keysN E t).length := by
  have := (rdT_of (reads_of_own h.ks)).1
  rw [List.length_map] at this; exact this
theorem PartI.xn_eq (h : PartI E w3 M t xa xn xc ka kn kc wr) : xn = M.length := (rd_of_own h.ix).1
theorem PartI.later (h : PartI E w3 M t xa xn xc ka kn kc wr) (hb : Below wr.heap.size wr w') : PartI E w3 M t xa xn xc ka kn kc w' :=
  ⟨own_below h.ix hb, own_below h.ks hb, h.bel.trans (hb.mono h.bel.size)⟩
theorem PartI.newI (h : PartI E w3 M t xa xn xc ka kn kc wr) (hb : Below wr.heap.size wr w') {ra : Option Addr} {rn rc b : Nat} (hb0 : wr.heap.size ≤ b) (ho : Own w' b 5 1 (.slice ra rn rc) rn (u8s M')) : PartI E w3 M' t ra rn rc ka kn kc w' :=
  ⟨own_mono ho (Nat.le_trans h.bel.size hb0), own_below h.ks hb, h.bel.trans (hb.mono h.bel.size)⟩
theorem PartI.appI (h : PartI E w3 M t xa xn xc ka kn kc wr) {ra : Option Addr} {rn rc : Nat} (ho : Own w' w3.heap.size 5 1 (.slice ra rn rc) rn (u8s M')) (hg : GrewR wr w' w3.heap.size (.slice xa xn xc) (.slice ra rn rc)) : PartI E w3 M' t ra rn rc ka kn kc w' :=
  ⟨ho, hg.keep _ _ _ _ _ _ h.ks (types_apart h.ks h.ix (by decide)), h.bel.trans hg.below⟩
theorem PartI.appK (h : PartI E w3 M t xa xn xc ka kn kc wr) {ra : Option Addr} {rn rc t' : Nat} (ho : Own w' w3.heap.size 9 1 (.slice ra rn rc) rn (txs ((keysN E t').map bs))) (hg : GrewR wr w' w3.heap.size (.slice ka kn kc) (.slice ra rn rc)) : PartI E w3 M t' xa xn xc ra rn rc w' :=
  ⟨hg.keep _ _ _ _ _ _ h.ix (types_apart h.ix h.ks (by decide)), ho, h.bel.trans hg.below⟩
theorem PartI.same (h : PartI E w3 M t xa xn xc ka kn kc wr) {t' : Nat} (e : keysN E t' = keysN E t) : PartI E w3 M t' xa xn xc ka kn kc wr := ⟨h.ix, by rw [e]; exact h.ks, h.bel⟩
theorem PartI.last (h : PartI E w3 M (t + 1) xa xn xc ka kn kc wr) : ∃ d b off, kn = d + 1 ∧ ka = some ⟨b, off, none⟩ ∧ wr.cell? ⟨b, off + d, none⟩ = some (.string (bs (atE E t).key)) := by
  obtain ⟨i, hi⟩ := keysN_last E t
  have h2 := h.ks
  rw [hi, List.map_append, List.map_cons, List.map_nil] at h2
  obtain ⟨e, a, cap, hve, g1, g2, g3⟩ := rdT_of (reads_of_own h2)
  obtain ⟨b, off, e2, hc⟩ := g3 i.length (by simp)
  simp only [Value.slice.injEq] at hve
  refine ⟨i.length, b, off, by rw [e]; simp, by rw [hve.1]; exact e2, ?_⟩
  rw [hc, List.getElem_append_right (by simp)]
  simp
end
/-- an entry's four cells, in any world that keeps them -/
theorem row_at {w : World} {a : Option Addr} {n c : Nat} {l : List PE} (h : RdE w (.slice a n c) l) (i : Nat) (hi : i < l.length) :
    ∃ b off, a = some ⟨b, off, none⟩ ∧ w.cell? ⟨b, off + i * 4, none⟩ = some (.string l[i].k) ∧ w.cell? ⟨b, off + i * 4 + 1, none⟩ = some (.int .u64 l[i].s) ∧
      w.cell? ⟨b, off + i * 4 + 2, none⟩ = some (.bool l[i].g) ∧ w.cell? ⟨b, off + i * 4 + 3, none⟩ = some (.string l[i].u) := by
  obtain ⟨a', c', e, h1, h2, h3⟩ := h
  simp only [Value.slice.injEq] at e
  obtain ⟨b, off, e2, c0, c1, c2, c3⟩ := h3 i hi
  exact ⟨b, off, by rw [e.1]; exact e2, c0, c1, c2, c3⟩
end Go.Proofs.Ytbcnapkbdbefhaa

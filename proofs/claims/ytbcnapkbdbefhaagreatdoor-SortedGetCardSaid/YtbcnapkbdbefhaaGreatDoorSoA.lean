/- Sorted, plain: the file of entries. No program stands in this text; no condition. | Sorted, plain: what a file of entries tells, cut, or parted. No program stands in this text; no condition. -/
import Derived.Test.YtbcnapkbdbefhaaGreatDoorBlkV
import Derived.Test.YtbcnapkbdbefhaaGreatDoorFramesA
import Derived.Test.YtbcnapkbdbefhaaGreatDoorBloomsA
import Derived.Test.YtbcnapkbdbefhaaGreatDoorBlocksA
import Derived.Test.YtbcnapkbdbefhaaGreatDoorSeekP
namespace Go.Proofs.YtbcnapkbdbefhaaGreatDoor
open Go.RowKit

/-- may entries be a file? -/
def mayS (E : List Ent) : Bool := decide (0 < E.length) && risesN E E.length
theorem mayS_iff (E : List Ent) : mayS E = true ↔ 0 < E.length ∧ ∀ k, k < E.length → okAt E k = true := by
  unfold mayS
  rw [Bool.and_eq_true, decide_eq_true_eq, risesN_iff]
/-- the block i -/
def blkN (E : List Ent) (i : Nat) : List Ent := (E.drop (16 * i)).take 16
/-- how many blocks -/
def nBlk (E : List Ent) : Nat := (E.length + 15) / 16
/-- the frames of k blocks -/
def framesN (E : List Ent) : Nat → List UInt8
  | 0 => []
  | k + 1 => framesN E k ++ fput (blkPut (blkN E k))
/-- a mark in the index -/
def markB (at_ : Nat) (x : Ent) : List UInt8 := vint at_ ++ (tput x.key ++ (vint x.seq ++ [flagB x.gone]))
/-- the index's marks of k blocks -/
def marksN (E : List Ent) : Nat → List UInt8
  | 0 => []
  | k + 1 => marksN E k ++ markB (framesN E k).length (atE E (min (16 * (k + 1)) E.length - 1))
/-- the keys, each once, of k entries -/
def keysN (E : List Ent) : Nat → List (List UInt8)
  | 0 => []
  | k + 1 => keysN E k ++ (if k = 0 ∨ (atE E k).key ≠ (atE E (k - 1)).key then [(atE E k).key] else [])
def idxP (E : List Ent) : List UInt8 := vint (nBlk E) ++ marksN E (nBlk E)
def fileS (E : List Ent) : List UInt8 :=
  framesN E (nBlk E) ++ (fput (idxP E) ++ (fput (bloomPut (keysN E E.length)) ++ (four (framesN E (nBlk E)).length ++ (four ((framesN E (nBlk E)).length + (fput (idxP E)).length) ++ four E.length))))
theorem blkN_length (E : List Ent) (i : Nat) : (blkN E i).length = min 16 (E.length - 16 * i) := by simp [blkN]
theorem blkN_at (E : List Ent) (i k : Nat) (h : k < (blkN E i).length) : atE (blkN E i) k = atE E (16 * i + k) := by
  have hl := blkN_length E i
  rw [atE_get _ _ h, atE_get _ _ (by omega)]
  simp [blkN]
theorem framesN_split (E : List Ent) (i n : Nat) (h : i ≤ n) : ∃ rest, framesN E n = framesN E i ++ rest := by
  induction n with
  | zero => obtain rfl : i = 0 := by omega
            exact ⟨[], by simp⟩
  | succ n ih =>
    by_cases e : i = n + 1
    · subst e; exact ⟨[], by simp⟩
    · obtain ⟨rest, hr⟩ := ih (by omega)
      exact ⟨rest ++ fput (blkPut (blkN E n)), by rw [framesN, hr, List.append_assoc]⟩
/-- the blocks of entries that may be a file may be blocks -/
theorem blkN_may {E : List Ent} (hm : mayS E = true) (i : Nat) (hi : i < nBlk E) : mayL (blkN E i) = true := by
  obtain ⟨h1, h2⟩ := (mayS_iff E).1 hm
  have hl := blkN_length E i
  unfold nBlk at hi
  refine (mayL_iff _).2 ⟨by omega, fun k hk => ?_⟩
  have h3 := h2 (16 * i + k) (by omega)
  unfold okAt at h3 ⊢
  rw [blkN_at E i k hk]
  rw [Bool.and_eq_true] at h3 ⊢
  refine ⟨h3.1, ?_⟩
  by_cases h0 : k = 0
  · subst h0; rfl
  · rw [blkN_at E i (k - 1) (by omega)]
    have h4 := h3.2
    rw [Bool.or_eq_true] at h4 ⊢
    right
    rcases h4 with h4 | h4
    · simp at h4; omega
    · rwa [show 16 * i + k - 1 = 16 * i + (k - 1) from by omega] at h4
theorem blkN_seqs {E : List Ent} (hs : ∀ x ∈ E, x.seq < 18446744073709551616) (i : Nat) : ∀ x ∈ blkN E i, x.seq < 18446744073709551616 := fun x hx => hs x (List.mem_of_mem_drop (List.mem_of_mem_take hx))
theorem fput_inj {a b m n : List UInt8} (ha : a.length ≤ 65536) (hb : b.length ≤ 65536) (h : fput a ++ m = fput b ++ n) : a = b ∧ m = n := by
  have h1 := fgetR_put a m ha
  rw [h, fgetR_put b n hb] at h1
  simp only [Prod.mk.injEq] at h1
  obtain ⟨rfl, _, _⟩ := h1
  exact ⟨rfl, List.append_cancel_left h⟩
theorem vint_head (n : Nat) : ∃ c l, vint n = c :: l ∧ (c = 0 → n = 0) := by
  unfold vint vintF
  by_cases h : n < 128
  · rw [if_pos h]
    refine ⟨_, _, rfl, fun e => ?_⟩
    have := congrArg UInt8.toNat e
    rw [UInt8.toNat_ofNat'] at this
    have h0 : (0 : UInt8).toNat = 0 := rfl
    omega
  · rw [if_neg h]
    refine ⟨_, _, rfl, fun e => ?_⟩
    have := congrArg UInt8.toNat e
    rw [UInt8.toNat_ofNat'] at this
    have h0 : (0 : UInt8).toNat = 0 := rfl
    omega
theorem blk_head {E : List Ent} (h : 0 < E.length) : ∃ l, blkPut E = 0 :: l := by
  obtain ⟨rest, hr⟩ := body_split E 1 E.length h
  unfold blkPut
  rw [hr, bodyN, bodyN, List.nil_append]
  unfold encAt
  exact ⟨_, rfl⟩
theorem idx_head {E : List Ent} (h : 0 < E.length) : ∃ c l, idxP E = c :: l ∧ c ≠ 0 := by
  obtain ⟨c, l, h1, h2⟩ := vint_head (nBlk E)
  refine ⟨c, l ++ marksN E (nBlk E), by unfold idxP; rw [h1]; rfl, fun e => ?_⟩
  have := h2 e
  unfold nBlk at this
  omega
theorem blkN_small {E : List Ent} (hm : mayS E = true) (i : Nat) (hi : i < nBlk E) : (blkPut (blkN E i)).length ≤ 65536 := by
  obtain ⟨h1, h2⟩ := (mayL_iff _).1 (blkN_may hm i hi)
  have := body_small (blkN E i) h2 _ (Nat.le_refl _)
  have hl := blkN_length E i
  rw [blkPut_length]
  omega
theorem key_small {E : List Ent} (hm : mayS E = true) (i : Nat) (hi : i < E.length) : (atE E i).key.length ≤ 32 := by
  have hok := ((mayS_iff E).1 hm).2 i hi
  unfold okAt at hok
  rw [Bool.and_eq_true] at hok
  have f1 := ((fitE_iff _).1 hok.1).1
  have : 1 ≤ (atE E i).key.length ∧ (atE E i).key.length ≤ 32 := by simpa [checkK] using f1
  omega
theorem marksN_small {E : List Ent} (hm : mayS E = true) (k : Nat) (hk : k ≤ nBlk E) : (marksN E k).length ≤ 80 * k := by
  induction k with
  | zero => simp [marksN]
  | succ k ih =>
    have h0 := ((mayS_iff E).1 hm).1
    have hn : k < nBlk E := hk
    have h1 := key_small hm (min (16 * (k + 1)) E.length - 1) (by unfold nBlk at hn; omega)
    have h2 := ih (by omega)
    have v1 := vint_le (framesN E k).length
    have v2 := vint_le (atE E (min (16 * (k + 1)) E.length - 1)).key.length
    have v3 := vint_le (atE E (min (16 * (k + 1)) E.length - 1)).seq
    unfold marksN markB tput
    simp only [List.length_append, List.length_cons, List.length_nil]
    omega
theorem idxP_small {E : List Ent} (hm : mayS E = true) (h : E.length ≤ 4096) : (idxP E).length ≤ 65536 := by
  have h1 := marksN_small hm (nBlk E) (Nat.le_refl _)
  have h2 := vint_le (nBlk E)
  unfold idxP
  rw [List.length_append]
  unfold nBlk at *
  omega
/-- what stands behind k blocks -/
theorem frames_rest (E : List Ent) (k n : Nat) (h : k < n) : ∃ rest, framesN E n = framesN E k ++ (fput (blkPut (blkN E k)) ++ rest) := by
  obtain ⟨rest, hr⟩ := framesN_split E (k + 1) n h
  exact ⟨rest, by rw [hr, framesN, List.append_assoc]⟩
/-- two files that begin alike have the same blocks, as far as both have blocks -/
theorem blocks_same {E F : List Ent} {z : List UInt8} (hE : mayS E = true) (hF : mayS F = true) (sE : ∀ x ∈ E, x.seq < 18446744073709551616) (sF : ∀ x ∈ F, x.seq < 18446744073709551616) (h : fileS E = fileS F ++ z) (k : Nat) (hk : k ≤ nBlk E) (hk2 : k ≤ nBlk F) :
    framesN E k = framesN F k ∧ ∀ j, j < k → blkN E j = blkN F j := by
  induction k with
  | zero => exact ⟨rfl, fun j hj => by omega⟩
  | succ k ih =>
    obtain ⟨h1, h2⟩ := ih (by omega) (by omega)
    obtain ⟨r1, e1⟩ := frames_rest E k (nBlk E) hk
    obtain ⟨r2, e2⟩ := frames_rest F k (nBlk F) hk2
    unfold fileS at h
    rw [e1, e2, h1] at h
    simp only [List.append_assoc] at h
    have h3 := List.append_cancel_left h
    obtain ⟨h4, _⟩ := fput_inj (blkN_small hE k hk) (blkN_small hF k hk2) h3
    have h5 := blk_unique (blkN_may hE k hk) (blkN_may hF k hk2) (blkN_seqs sE k) (blkN_seqs sF k) h4
    refine ⟨by rw [framesN, framesN, h1, h5], fun j hj => ?_⟩
    by_cases e : j = k
    · subst e; exact h5
    · exact h2 j (by omega)
theorem ent_of_blk (E : List Ent) (i : Nat) (hi : i < E.length) : ∃ h : i % 16 < (blkN E (i / 16)).length, E[i] = (blkN E (i / 16))[i % 16] := by
  have hl := blkN_length E (i / 16)
  refine ⟨by omega, ?_⟩
  simp only [blkN, List.getElem_take, List.getElem_drop]
  congr 1
  omega
/-- A FILE TELLS ITS ENTRIES; no file begins with another -/
theorem file_same {E F : List Ent} {z : List UInt8} (hE : mayS E = true) (hF : mayS F = true) (lE : E.length ≤ 4096) (lF : F.length ≤ 4096) (sE : ∀ x ∈ E, x.seq < 18446744073709551616) (sF : ∀ x ∈ F, x.seq < 18446744073709551616) (h : fileS E = fileS F ++ z) : E = F := by
  have pE := ((mayS_iff E).1 hE).1
  have pF := ((mayS_iff F).1 hF).1
  have hB := blocks_same hE hF sE sF h
  rcases Nat.lt_trichotomy (nBlk E) (nBlk F) with hl | hl | hl
  · exfalso
    obtain ⟨h1, _⟩ := hB (nBlk E) (Nat.le_refl _) (Nat.le_of_lt hl)
    obtain ⟨r2, e2⟩ := frames_rest F (nBlk E) (nBlk F) hl
    unfold fileS at h
    rw [e2, h1] at h
    simp only [List.append_assoc] at h
    obtain ⟨h4, _⟩ := fput_inj (idxP_small hE lE) (blkN_small hF _ hl) (List.append_cancel_left h)
    obtain ⟨c, l, i1, i2⟩ := idx_head pE
    obtain ⟨l2, i3⟩ := blk_head (E := blkN F (nBlk E)) (by rw [blkN_length]; unfold nBlk at hl ⊢; omega)
    rw [i1, i3] at h4
    exact i2 (List.cons.inj h4).1
  · obtain ⟨_, h2⟩ := hB (nBlk E) (Nat.le_refl _) (by omega)
    have hlen : E.length = F.length := by
      have hb := h2 (nBlk E - 1) (by unfold nBlk; omega)
      have l1 := blkN_length E (nBlk E - 1)
      have l2 := blkN_length F (nBlk E - 1)
      rw [hb] at l1
      unfold nBlk at *
      omega
    refine List.ext_getElem hlen fun i hi hi2 => ?_
    obtain ⟨p1, e1⟩ := ent_of_blk E i hi
    obtain ⟨p2, e2⟩ := ent_of_blk F i hi2
    have hb := h2 (i / 16) (by unfold nBlk; omega)
    rw [e1, e2]
    simp only [hb]
  · exfalso
    obtain ⟨h1, _⟩ := hB (nBlk F) (Nat.le_of_lt hl) (Nat.le_refl _)
    obtain ⟨r1, e1⟩ := frames_rest E (nBlk F) (nBlk E) hl
    unfold fileS at h
    rw [e1, h1] at h
    simp only [List.append_assoc] at h
    obtain ⟨h4, _⟩ := fput_inj (blkN_small hE _ hl) (idxP_small hF lF) (List.append_cancel_left h)
    obtain ⟨c, l, i1, i2⟩ := idx_head pF
    obtain ⟨l2, i3⟩ := blk_head (E := blkN E (nBlk F)) (by rw [blkN_length]; unfold nBlk at hl ⊢; omega)
    rw [i1, i3] at h4
    exact i2 (List.cons.inj h4).1.symm
end Go.Proofs.YtbcnapkbdbefhaaGreatDoor
namespace Go.Proofs.YtbcnapkbdbefhaaGreatDoor
open Go.RowKit

/-- b is the file of E -/
def IsS (b : List UInt8) (E : List Ent) : Prop := mayS E = true ∧ (∀ x ∈ E, x.seq < 18446744073709551616) ∧ E.length ≤ 4096 ∧ fileS E = b
theorem isS_one {b : List UInt8} {E F : List Ent} (h : IsS b E) (h2 : IsS b F) : E = F :=
  file_same (z := []) h.1 h2.1 h.2.2.1 h2.2.2.1 h.2.1 h2.2.1 (by rw [h.2.2.2, h2.2.2.2, List.append_nil])
theorem isS_cut {b : List UInt8} {E F : List Ent} {k : Nat} (h : IsS b E) (hk : k < b.length) (h2 : IsS (b.take k) F) : False := by
  have e := file_same (z := b.drop k) h.1 h2.1 h.2.2.1 h2.2.2.1 h.2.1 h2.2.1 (by rw [h.2.2.2, h2.2.2.2, List.take_append_drop])
  subst e
  have h1 := congrArg List.length (h.2.2.2.symm.trans h2.2.2.2)
  rw [List.length_take] at h1
  omega
/-- what Put answers -/
def errS (E : List Ent) : Nat := if mayS E = true then (if E.length ≤ 4096 then 0 else 3) else 1
def outS (E : List Ent) : List UInt8 := if errS E = 0 then fileS E else []
theorem errS_ok {E : List Ent} (h : mayS E = true) (h2 : E.length ≤ 4096) : errS E = 0 := by rw [errS, if_pos h, if_pos h2]
theorem errS_arg {E : List Ent} (h : mayS E = false) : errS E = 1 := by rw [errS, h, if_neg (by simp)]
theorem errS_limit {E : List Ent} (h : mayS E = true) (h2 : ¬ E.length ≤ 4096) : errS E = 3 := by rw [errS, if_pos h, if_neg h2]
theorem errS_zero {E : List Ent} : errS E = 0 ↔ mayS E = true ∧ E.length ≤ 4096 := by
  unfold errS
  repeat' split
  all_goals simp_all
theorem outS_ok {E : List Ent} (h : errS E = 0) : outS E = fileS E := by rw [outS, if_pos h]
theorem outS_no {E : List Ent} (h : errS E ≠ 0) : outS E = [] := by rw [outS, if_neg h]
theorem isS_put {E : List Ent} (hs : ∀ x ∈ E, x.seq < 18446744073709551616) (h : errS E = 0) : IsS (outS E) E := by
  obtain ⟨h1, h2⟩ := errS_zero.1 h
  exact ⟨h1, hs, h2, (outS_ok h).symm⟩
theorem framesN_small {E : List Ent} (hm : mayS E = true) (k : Nat) (hk : k ≤ nBlk E) : (framesN E k).length ≤ 65544 * k := by
  induction k with
  | zero => simp [framesN]
  | succ k ih =>
    have h1 := blkN_small hm k hk
    have h2 := ih (by omega)
    rw [framesN, List.length_append, fput_length]
    omega
theorem nBlk_le {E : List Ent} (h : E.length ≤ 4096) : nBlk E ≤ 256 := by unfold nBlk; omega
theorem keysN_len (E : List Ent) (k : Nat) : (keysN E k).length ≤ k := by
  induction k with
  | zero => simp [keysN]
  | succ k ih =>
    rw [keysN, List.length_append]
    split <;> simp <;> omega
theorem keysN_mem {E : List Ent} {k : Nat} {x : List UInt8} (h : x ∈ keysN E k) : ∃ i, i < k ∧ x = (atE E i).key := by
  induction k with
  | zero => simp [keysN] at h
  | succ k ih =>
    rw [keysN, List.mem_append] at h
    rcases h with h | h
    · obtain ⟨i, h1, h2⟩ := ih h
      exact ⟨i, by omega, h2⟩
    · split at h
      · exact ⟨k, by omega, by simpa using h⟩
      · cases h
theorem fileS_len (E : List Ent) : 12 ≤ (fileS E).length := by
  unfold fileS four
  simp only [List.length_append, List.length_cons, List.length_nil]
  omega
theorem mayS_take {E : List Ent} (hm : mayS E = true) (k : Nat) (h0 : 0 < k) : mayS (E.take k) = true := by
  obtain ⟨h1, h2⟩ := (mayS_iff E).1 hm
  refine (mayS_iff _).2 ⟨by rw [List.length_take]; omega, fun i hi => ?_⟩
  rw [List.length_take] at hi
  have h3 := h2 i (by omega)
  have e : ∀ j, j < k → atE (E.take k) j = atE E j := fun j hj => by
    unfold atE
    rw [List.getD_eq_getElem?_getD, List.getD_eq_getElem?_getD, List.getElem?_take, if_pos hj]
  unfold okAt at h3 ⊢
  rw [e i (by omega), e (i - 1) (by omega)]
  exact h3
theorem mayS_drop {E : List Ent} (hm : mayS E = true) (k : Nat) (h0 : k < E.length) : mayS (E.drop k) = true := by
  obtain ⟨h1, h2⟩ := (mayS_iff E).1 hm
  refine (mayS_iff _).2 ⟨by rw [List.length_drop]; omega, fun i hi => ?_⟩
  rw [List.length_drop] at hi
  have h3 := h2 (k + i) (by omega)
  have e : ∀ j, atE (E.drop k) j = atE E (k + j) := fun j => by
    unfold atE
    rw [List.getD_eq_getElem?_getD, List.getD_eq_getElem?_getD, List.getElem?_drop]
  unfold okAt at h3 ⊢
  rw [e i, e (i - 1)]
  rw [Bool.and_eq_true] at h3 ⊢
  refine ⟨h3.1, ?_⟩
  by_cases hi0 : i = 0
  · subst hi0; rfl
  · have h4 := h3.2
    rw [Bool.or_eq_true] at h4 ⊢
    right
    rcases h4 with h4 | h4
    · simp at h4; omega
    · rwa [show k + i - 1 = k + (i - 1) from by omega] at h4
/-- the blocks of two parts -/
theorem blkN_drop (E : List Ent) (j i : Nat) : blkN (E.drop (16 * j)) i = blkN E (j + i) := by
  unfold blkN
  rw [List.drop_drop]
  congr 2
  omega
theorem blkN_take (E : List Ent) (j i : Nat) (h : i < j) : blkN (E.take (16 * j)) i = blkN E i := by
  unfold blkN
  rw [List.drop_take, List.take_take]
  congr 1
  omega
theorem framesN_take (E : List Ent) (j i : Nat) (h : i ≤ j) : framesN (E.take (16 * j)) i = framesN E i := by
  induction i with
  | zero => rfl
  | succ i ih => rw [framesN, framesN, ih (by omega), blkN_take E j i (by omega)]
theorem framesN_drop (E : List Ent) (j i : Nat) : framesN E (j + i) = framesN E j ++ framesN (E.drop (16 * j)) i := by
  induction i with
  | zero => simp [framesN]
  | succ i ih => rw [← Nat.add_assoc, framesN, framesN, ih, blkN_drop, List.append_assoc]
theorem framesN_parts {E : List Ent} (j : Nat) (h : 16 * j < E.length) : framesN E (nBlk E) = framesN (E.take (16 * j)) (nBlk (E.take (16 * j))) ++ framesN (E.drop (16 * j)) (nBlk (E.drop (16 * j))) := by
  have e1 : nBlk (E.take (16 * j)) = j := by unfold nBlk; rw [List.length_take]; omega
  have e2 : nBlk E = j + nBlk (E.drop (16 * j)) := by unfold nBlk; rw [List.length_drop]; omega
  rw [e1, framesN_take E j j (Nat.le_refl _), e2, framesN_drop]
/-- the three numbers at a file's end -/
theorem fileS_end (E : List Ent) : ∃ r, fileS E = framesN E (nBlk E) ++ (r ++ (four (framesN E (nBlk E)).length ++ (four ((framesN E (nBlk E)).length + (fput (idxP E)).length) ++ four E.length))) :=
  ⟨fput (idxP E) ++ fput (bloomPut (keysN E E.length)), by unfold fileS; simp only [List.append_assoc]⟩
theorem four_len (n : Nat) : (four n).length = 4 := rfl
theorem fileS_last (E : List Ent) : (fileS E).drop ((fileS E).length - 4) = four E.length := by
  obtain ⟨r, hr⟩ := fileS_end E
  rw [hr]
  simp only [← List.append_assoc]
  rw [List.length_append, four_len, Nat.add_sub_cancel, List.drop_left]
theorem fileS_foot (E : List Ent) : (fileS E).drop ((fileS E).length - 12) = four (framesN E (nBlk E)).length ++ (four ((framesN E (nBlk E)).length + (fput (idxP E)).length) ++ four E.length) := by
  obtain ⟨r, hr⟩ := fileS_end E
  rw [hr, ← List.append_assoc, List.length_append (bs := four (framesN E (nBlk E)).length ++ _)]
  have e : (four (framesN E (nBlk E)).length ++ (four ((framesN E (nBlk E)).length + (fput (idxP E)).length) ++ four E.length)).length = 12 := by simp only [List.length_append, four_len]
  rw [e, Nat.add_sub_cancel, List.drop_left]
theorem fileS_head (E : List Ent) : (fileS E).take (framesN E (nBlk E)).length = framesN E (nBlk E) := by
  obtain ⟨r, hr⟩ := fileS_end E
  rw [hr, List.take_left]
end Go.Proofs.YtbcnapkbdbefhaaGreatDoor

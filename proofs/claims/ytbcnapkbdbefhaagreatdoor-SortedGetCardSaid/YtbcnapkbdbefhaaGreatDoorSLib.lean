/- Walk of law10.alive: some answers that the document fixes. No condition. | Walk of law10.great, and the ways a law of layer 10 begins. The condition: entries as the row gives them. | Plain facts of a look-up from the back, and v[lo:hi] of entries. The condition: the bounds lie within the slice. | The parts of a file, as a law reads them: plain facts, and answers of frames.Get and blocks.Get at a file's blocks. The conditions as in the walks. -/
import Derived.Test.YtbcnapkbdbefhaaGreatDoorSFromA
import Derived.Test.YtbcnapkbdbefhaaGreatDoorAlive1
import Derived.Test.YtbcnapkbdbefhaaGreatDoorMemB
namespace Go.Proofs.YtbcnapkbdbefhaaGreatDoor
open Go.RowKit

/-- Put that answers a file -/
theorem sput_is (w : World) (v : Value) (l : List PE) (hv : RdE w v l) (hs : ∀ x ∈ l, x.s < 18446744073709551616) (hl : l.length ≤ 1000000) (h : errS (entsOf l) = 0) :
    Calls Tryz.prog 19 #[v] w fun e w' => ∃ a n c, e = .returned (.tuple #[.slice a n c, .int .i64 0]) ∧ Hid (n = (fileS (entsOf l)).length) ∧ Hid (Own w' w.heap.size 5 1 (.slice a n c) n (u8s (fileS (entsOf l)))) ∧ Below w.heap.size w w' := by
  refine (sortedPut_any w v l hv hs hl).mono ?_
  rintro e w' ⟨a, n, c, rfl, h1, h2, h3⟩
  rw [outS_ok h] at h1 h2
  exact ⟨a, n, c, by rw [h]; rfl, h1, h2, h3⟩
/-- Put that refuses -/
theorem sput_no (w : World) (v : Value) (l : List PE) (r : Nat) (hv : RdE w v l) (hs : ∀ x ∈ l, x.s < 18446744073709551616) (hl : l.length ≤ 1000000) (h : errS (entsOf l) = r) (hr : r ≠ 0) :
    Calls Tryz.prog 19 #[v] w fun e w' => (∃ a c, e = .returned (.tuple #[.slice a 0 c, .int .i64 r])) ∧ Below w.heap.size w w' := by
  refine (sortedPut_any w v l hv hs hl).mono ?_
  rintro e w' ⟨a, n, c, rfl, h1, h2, h3⟩
  rw [outS_no (by rw [h]; exact hr)] at h1
  have h1 : n = 0 := h1.out
  subst h1
  exact ⟨⟨a, c, by rw [h]⟩, h3⟩
theorem sget_some (w : World) (v : Value) (b : List UInt8) (E : List Ent) (er : Nat) (k : ByteArray) (s : Nat) (x : Ent) (V : Value) (hv : Rd w v b) (hb : b.length ≤ 268435456) (hX : AllIs b E er) (h : getS k.data.toList s E = some x) (hV : entV x = V) :
    Calls Tryz.prog 7 #[v, .string k, .int .u64 s] w fun e w' => e = .returned (.tuple #[V, .bool true, .int .i64 er]) ∧ Below w.heap.size w w' := by
  refine (sortedGet_any w v b E er k s hv hb hX).mono ?_
  rintro e w' ⟨rfl, h3⟩
  rw [h]
  exact ⟨by rw [← hV]; rfl, h3⟩
theorem sget_none (w : World) (v : Value) (b : List UInt8) (E : List Ent) (er : Nat) (k : ByteArray) (s : Nat) (hv : Rd w v b) (hb : b.length ≤ 268435456) (hX : AllIs b E er) (h : getS k.data.toList s E = none) :
    Calls Tryz.prog 7 #[v, .string k, .int .u64 s] w fun e w' => e = .returned (.tuple #[.agg #[.string ⟨#[]⟩, .int .u64 0, .bool false, .string ⟨#[]⟩], .bool false, .int .i64 er]) ∧ Below w.heap.size w w' := by
  refine (sortedGet_any w v b E er k s hv hb hX).mono ?_
  rintro e w' ⟨rfl, h3⟩
  rw [h]
  exact ⟨rfl, h3⟩
theorem sall_bad (w : World) (v : Value) (b : List UInt8) (hv : Rd w v b) (hb : b.length ≤ 268435456) (hX : ∀ E, ¬ IsS b E) :
    Calls Tryz.prog 6 #[v] w fun e w' => (∃ a c, e = .returned (.tuple #[.slice a 0 c, .int .i64 4])) ∧ Below w.heap.size w w' := by
  refine (sortedAll_any w v b [] 4 hv hb (.inr ⟨rfl, rfl, hX⟩)).mono ?_
  rintro e w' ⟨a, n, c, rfl, h1, h2, h3⟩
  have h1 : n = 0 := h1.out
  subst h1
  exact ⟨⟨a, c, rfl⟩, h3⟩
theorem sall_n (w : World) (v : Value) (b : List UInt8) (E : List Ent) (er m : Nat) (hv : Rd w v b) (hb : b.length ≤ 268435456) (hX : AllIs b E er) (h : E.length = m) :
    Calls Tryz.prog 6 #[v] w fun e w' => (∃ a c, e = .returned (.tuple #[.slice a m c, .int .i64 er])) ∧ Below w.heap.size w w' := by
  refine (sortedAll_any w v b E er hv hb hX).mono ?_
  rintro e w' ⟨a, n, c, rfl, h1, h2, h3⟩
  have h1 : n = m := h1.out.trans h
  subst h1
  exact ⟨⟨a, c, rfl⟩, h3⟩
/-- From: how many -/
theorem sfrom_n (w : World) (v : Value) (b : List UInt8) (E : List Ent) (er : Nat) (mk : ByteArray) (ms : Nat) (mg : Bool) (most : Int) (m : Nat) (hv : Rd w v b) (hb : b.length ≤ 268435456) (hX : AllIs b E er) (hm1 : -9223372036854775808 ≤ most) (hm2 : most ≤ 9223372036854775807)
    (h : ((E.drop (seekAt mk.data.toList ms mg E)).take (mostN most (E.drop (seekAt mk.data.toList ms mg E)).length)).length = m) :
    Calls Tryz.prog 8 #[v, .agg #[.string mk, .int .u64 ms, .bool mg], .int .i64 most] w fun e w' => (∃ a c, e = .returned (.tuple #[.slice a m c, .int .i64 er])) ∧ Below w.heap.size w w' := by
  refine (sortedFrom_any w v b E er mk ms mg most hv hb hX hm1 hm2).mono ?_
  rintro e w' ⟨a, n, c, rfl, h1, h2, h3⟩
  have h1 : n = m := h1.out.trans h
  subst h1
  exact ⟨⟨a, c, rfl⟩, h3⟩
def s1 : PE := ⟨⟨#[97]⟩, 1, false, ⟨#[120]⟩⟩
def s2 : PE := ⟨⟨#[98]⟩, 5, true, ⟨#[]⟩⟩
def s3 : PE := ⟨⟨#[98]⟩, 2, false, ⟨#[121]⟩⟩
def s4 : PE := ⟨⟨#[98]⟩, 1, false, ⟨#[120]⟩⟩
def E3 : List Ent := entsOf [s1, s2, s3]
theorem e3a : errS (entsOf [s1, s2, s3]) = 0 := by kernel_rfl
theorem e3b : errS (entsOf []) = 1 := by kernel_rfl
theorem e3c : errS (entsOf [s4, s1]) = 1 := by kernel_rfl
theorem g3a : getS [98] 9 E3 = some ⟨[98], 5, true, []⟩ := by kernel_rfl
theorem g3b : getS [98] 4 E3 = some ⟨[98], 2, false, [121]⟩ := by kernel_rfl
theorem g3c : getS [98] 1 E3 = none := by kernel_rfl
theorem g3d : getS [99] 9 E3 = none := by kernel_rfl
theorem f3a : ((E3.drop (seekAt [98] 4 false E3)).take (mostN 9 (E3.drop (seekAt [98] 4 false E3)).length)).length = 1 := by kernel_rfl
theorem f3b : ((E3.drop (seekAt [97] 9 false E3)).take (mostN 2 (E3.drop (seekAt [97] 9 false E3)).length)).length = 2 := by kernel_rfl
theorem q3 : ∀ x ∈ [s1, s2, s3], x.s < 18446744073709551616 := by
  intro x hx
  simp only [List.mem_cons, List.not_mem_nil, or_false] at hx
  rcases hx with rfl | rfl | rfl <;> decide
theorem i3 : IsS (fileS E3) E3 := by
  have h := isS_put (E := E3) (fun x hx => by
    obtain ⟨y, hy, rfl⟩ := List.mem_map.1 hx
    exact q3 y hy) e3a
  rw [show outS E3 = fileS E3 from outS_ok e3a] at h
  exact h
theorem fileS_small {E : List Ent} (h : mayS E = true) (h2 : E.length ≤ 4096) : (fileS E).length ≤ 17000000 := by
  have h1 := framesN_small h (nBlk E) (Nat.le_refl _)
  have h3 := nBlk_le h2
  have h4 := idxP_small h h2
  have h5 := keysN_len E E.length
  unfold fileS
  simp only [List.length_append, fput_length, four_len, bloomPut_length]
  unfold bloomN
  omega
theorem l3 : (fileS E3).length ≤ 268435456 := by
  have := fileS_small i3.1 i3.2.2.1
  omega
end Go.Proofs.YtbcnapkbdbefhaaGreatDoor
namespace Go.Proofs.YtbcnapkbdbefhaaGreatDoor
open Go.RowKit

def RetGr (n : Nat) (w : World) (e : Ending) (w' : World) : Prop := ∃ g : Bool, e = .returned (.bool g) ∧ (g = false → n ≤ 300) ∧ Below w.heap.size w w'
set_option maxRecDepth 100000 in
set_option maxHeartbeats 1000000 in
theorem great10_any (w : World) (v : Value) (l : List PE) (hv : RdE w v l) (hn : l.length ≤ 2932031007402) (hk : ∀ x ∈ l, x.ok) :
    Calls Tryz.prog 17 #[v] w (RetGr l.length w) := by
  have HE := Lib.hid (entriesSize_any w v l hv (by omega) hk)
  obtain ⟨va, vc, rfl, h1, h2, h3⟩ := hv
  obtain ⟨vn, hvn⟩ : ∃ n, n = l.length := ⟨_, rfl⟩
  rw [← hvn] at h1 HE ⊢
  clear h3 hvn hn
  go_enter Tryz.func17, Tryz.ntmps17
  by_cases hb : 300 < vn
  · go_wp2_with fail
    go_ret
    exact ⟨_, rfl, by simp, Below.refl _ _⟩
  · have hle : vn ≤ 300 := by omega
    go_wp2_with (go_at_call 72; refine HE.out.mono ?_; rintro e w2 ⟨z, rfl, -, bel2⟩)
    go_ret
    exact ⟨_, rfl, fun _ => hle, bel2⟩
theorem isS_zero {b : List UInt8} {X : List Ent} (h : IsS b X) : errS X = 0 ∧ outS X = b := by
  have h1 := errS_ok h.1 h.2.2.1
  exact ⟨h1, by rw [outS_ok h1]; exact h.2.2.2⟩
theorem seqs_toPE {X : List Ent} (h : ∀ x ∈ X, x.seq < 18446744073709551616) : ∀ x ∈ X.map toPE, x.s < 18446744073709551616 := fun x hx => by
  obtain ⟨y, hy, rfl⟩ := List.mem_map.1 hx
  exact h y hy
theorem seqs_ok {l : List PE} (h : ∀ x ∈ l, x.ok) : (∀ x ∈ l, x.s < 18446744073709551616) ∧ ∀ x ∈ entsOf l, x.seq < 18446744073709551616 :=
  ⟨fun x hx => (h x hx).2.1, fun x hx => by obtain ⟨y, hy, rfl⟩ := List.mem_map.1 hx; exact (h y hy).2.1⟩
/-- what a small list's file is -/
theorem file_of {l : List PE} (hs : ∀ x ∈ l, x.ok) (h : errS (entsOf l) = 0) : IsS (fileS (entsOf l)) (entsOf l) ∧ 12 ≤ (fileS (entsOf l)).length ∧ (fileS (entsOf l)).length ≤ 17000000 ∧ 0 < l.length ∧ l.length ≤ 4096 := by
  have h1 := isS_put (seqs_ok hs).2 h
  rw [outS_ok h] at h1
  obtain ⟨h2, h3⟩ := errS_zero.1 h
  refine ⟨h1, fileS_len _, fileS_small h2 h3, ?_, by rw [entsOf_length] at h3; exact h3⟩
  have := ((mayS_iff _).1 h2).1
  rw [entsOf_length] at this
  exact this
end Go.Proofs.YtbcnapkbdbefhaaGreatDoor
namespace Go.Proofs.YtbcnapkbdbefhaaGreatDoor
open Go.RowKit

/-- the entry that is wanted, as far as the last ones tell -/
def wantD (E : List Ent) (k : List UInt8) (s : Nat) (j : Nat) : Option Ent := (E.drop j).find? (ofK k s)
/-- where those from a mark on begin, as far as the last ones tell -/
def fromD (E : List Ent) (k : List UInt8) (s : Nat) (g : Bool) (j : Nat) : Nat := j + seekAt k s g (E.drop j)
theorem wantD_step (E : List Ent) (k : List UInt8) (s : Nat) (m : Nat) (h : m < E.length) : wantD E k s m = if ofK k s (atE E m) = true then some (atE E m) else wantD E k s (m + 1) := by
  unfold wantD
  rw [List.drop_eq_getElem_cons h, atE_get E m h]
  by_cases hp : ofK k s E[m] = true
  · rw [if_pos hp, List.find?_cons_of_pos hp]
  · rw [if_neg hp, List.find?_cons_of_neg hp]
theorem fromD_step (E : List Ent) (k : List UInt8) (s : Nat) (g : Bool) (m : Nat) (h : m < E.length) : fromD E k s g m = if cmpM (atE E m).key (atE E m).seq (atE E m).gone k s g ≥ 0 then m else fromD E k s g (m + 1) := by
  unfold fromD
  rw [List.drop_eq_getElem_cons h, atE_get E m h, seekAt]
  split <;> omega
theorem fromD_le (E : List Ent) (k : List UInt8) (s : Nat) (g : Bool) (j : Nat) (h : j ≤ E.length) : fromD E k s g j ≤ E.length := by
  unfold fromD
  have := seekAt_le k s g (E.drop j)
  rw [List.length_drop] at this
  omega
theorem fromD_zero (E : List Ent) (k : List UInt8) (s : Nat) (g : Bool) : fromD E k s g 0 = seekAt k s g E := by unfold fromD; rw [List.drop_zero, Nat.zero_add]
theorem wantD_zero (E : List Ent) (k : List UInt8) (s : Nat) : wantD E k s 0 = E.find? (ofK k s) := rfl
theorem wantD_end (E : List Ent) (k : List UInt8) (s : Nat) : wantD E k s E.length = none := by unfold wantD; rw [List.drop_length]; rfl
theorem fromD_end (E : List Ent) (k : List UInt8) (s : Nat) (g : Bool) : fromD E k s g E.length = E.length := by unfold fromD; rw [List.drop_length]; rfl
/-- an entry's cells -/
def entCs (x : Ent) : Array Value := #[.string (bs x.key), .int .u64 x.seq, .bool x.gone, .string (bs x.val)]
/-- v[lo:hi] -/
theorem cutE_mid {w : World} {v : Value} {l : List PE} (h : RdE w v l) (lo m : Nat) (h2 : lo + m ≤ l.length) :
    ∃ a c, (∀ (w' : World), (Instr.slice 29 v (some (.int .i64 lo)) (some (.int .i64 ((lo : Int) + (m : Int)))) none).run Tryz.prog w' = .ok (.slice a m c) w') ∧ RdE w (.slice a m c) ((l.drop lo).take m) := by
  obtain ⟨i0, hi0, hz, hz1, hz2⟩ := info_parts info_ent
  obtain ⟨hj, hhj⟩ : ∃ k : Nat, k = lo + m := ⟨_, rfl⟩
  obtain ⟨a, c, h3, _, _, h4⟩ := reads_cut Tryz.underlying29 hi0 hz1 (by omega) (rdE_reads h) lo hj (by omega) (by omega)
  have e : hj - lo = m := by omega
  have e1 : ((lo : Int) + (m : Int)) = ((hj : Nat) : Int) := by omega
  rw [e] at h3 h4
  refine ⟨a, c, fun w' => by rw [e1]; exact h3 w' .i64 .i64, ?_⟩
  have h5 : (pcells l).take (hj * 4) = pcells (l.take hj) := flatM_take pcell 4 (fun _ => rfl) l hj (by omega)
  rw [h5, pcells_drop _ _ (by rw [List.length_take]; omega)] at h4
  have h6 := (rdE_of h4).2
  rw [List.drop_take, e] at h6
  exact h6
end Go.Proofs.YtbcnapkbdbefhaaGreatDoor
namespace Go.Proofs.YtbcnapkbdbefhaaGreatDoor
open Go.RowKit

/-- slices of unlike elements lie apart -/
theorem types_apart {w : World} {b1 b2 : Nat} {e1 e2 : TypeId} {s1 s2 n1 n2 : Nat} {v u : Value} {xs ys : List Value} (h1 : Own w b1 e1 s1 v n1 xs) (h2 : Own w b2 e2 s2 u n2 ys) (hne : e1 ≠ e2) : ApartR w v u := by
  intro k hk
  refine ⟨(own_ltR h1 k hk).2, fun hu => ?_⟩
  rcases h1 with ⟨_, _, a, rfl⟩ | ⟨_, g, cap, cur, fr, rfl, _, h4, _⟩
  · simp [rowOf, capOf] at hk
  · rcases h2 with ⟨_, _, a, rfl⟩ | ⟨_, g2, cap2, cur2, fr2, rfl, _, k4, _⟩
    · simp [rowOf, capOf] at hu
    · have e := rowOf_own hk
      have e' := rowOf_own hu
      simp only [Value.ownBlock, Option.some.injEq] at e e'
      subst e
      subst e'
      rw [h4] at k4
      simp only [Option.some.injEq, Obj.cells.injEq] at k4
      exact hne k4.2.1
/-- the keys of some entries: empty, or the last one's stands last -/
theorem keysN_zero (E : List Ent) : keysN E 0 = [] := rfl
theorem keysN_last (E : List Ent) (t : Nat) : ∃ i, keysN E (t + 1) = i ++ [(atE E t).key] := by
  induction t with
  | zero => exact ⟨[], by simp [keysN]⟩
  | succ t ih =>
    rw [keysN]
    by_cases h : t + 1 = 0 ∨ (atE E (t + 1)).key ≠ (atE E (t + 1 - 1)).key
    · rw [if_pos h]; exact ⟨_, rfl⟩
    · rw [if_neg h, List.append_nil]
      obtain ⟨i, hi⟩ := ih
      refine ⟨i, ?_⟩
      rw [hi]
      have : (atE E (t + 1)).key = (atE E t).key := by
        by_cases e : (atE E (t + 1)).key = (atE E t).key
        · exact e
        · exact absurd (.inr (by rw [Nat.add_sub_cancel]; exact e)) h
      rw [this]
theorem keysN_step (E : List Ent) (t : Nat) (h : t = 0 ∨ (atE E t).key ≠ (atE E (t - 1)).key) : keysN E (t + 1) = keysN E t ++ [(atE E t).key] := by rw [keysN, if_pos h]
theorem keysN_same (E : List Ent) (t : Nat) (h0 : t ≠ 0) (h : (atE E t).key = (atE E (t - 1)).key) : keysN E (t + 1) = keysN E t := by
  rw [keysN, if_neg (by rintro (e | e); · exact h0 e
                        · exact e h), List.append_nil]
/-- frames.Get of a file from a block's place on -/
theorem fget_blk {E : List Ent} (hE : IsS (fileS E) E) (j : Nat) (hj : j < nBlk E) : fgetR ((fileS E).drop (framesN E j).length) = (blkPut (blkN E j), (blkPut (blkN E j)).length + 8, 0) := by
  obtain ⟨r, hr⟩ := file_rest E j hj
  rw [hr, fgetR_put _ _ (blkN_small hE.1 j hj)]
theorem fileS_drop1 (E : List Ent) : (fileS E).drop (framesN E (nBlk E)).length = fput (idxP E) ++ (fput (bloomPut (keysN E E.length)) ++ (four (framesN E (nBlk E)).length ++ (four ((framesN E (nBlk E)).length + (fput (idxP E)).length) ++ four E.length))) := by
  unfold fileS; rw [List.drop_left]
theorem fget_idx {E : List Ent} (hE : IsS (fileS E) E) : fgetR ((fileS E).drop (framesN E (nBlk E)).length) = (idxP E, (idxP E).length + 8, 0) := by
  rw [fileS_drop1, fgetR_put _ _ (idxP_small hE.1 hE.2.2.1)]
theorem bloom_small (E : List Ent) (h : E.length ≤ 4096) : (bloomPut (keysN E E.length)).length ≤ 65536 := by
  have := keysN_len E E.length
  rw [bloomPut_length]; unfold bloomN; omega
theorem fileS_drop2 (E : List Ent) : (fileS E).drop ((framesN E (nBlk E)).length + ((idxP E).length + 8)) = fput (bloomPut (keysN E E.length)) ++ (four (framesN E (nBlk E)).length ++ (four ((framesN E (nBlk E)).length + (fput (idxP E)).length) ++ four E.length)) := by
  rw [← List.drop_drop, fileS_drop1]
  have e : (idxP E).length + 8 = (fput (idxP E)).length := by rw [fput_length]
  rw [e, List.drop_left]
theorem fget_bloom {E : List Ent} (hE : IsS (fileS E) E) : fgetR ((fileS E).drop ((framesN E (nBlk E)).length + ((idxP E).length + 8))) = (bloomPut (keysN E E.length), (bloomPut (keysN E E.length)).length + 8, 0) := by
  rw [fileS_drop2, fgetR_put _ _ (bloom_small E hE.2.2.1)]
theorem fileS_drop3 (E : List Ent) : (fileS E).drop ((framesN E (nBlk E)).length + ((idxP E).length + 8) + ((bloomPut (keysN E E.length)).length + 8)) = four (framesN E (nBlk E)).length ++ (four ((framesN E (nBlk E)).length + ((idxP E).length + 8)) ++ four E.length) := by
  rw [← List.drop_drop, fileS_drop2]
  have e : (bloomPut (keysN E E.length)).length + 8 = (fput (bloomPut (keysN E E.length))).length := by rw [fput_length]
  rw [e, List.drop_left, fput_length]
theorem fileS_room (E : List Ent) : (framesN E (nBlk E)).length + ((idxP E).length + 8) + ((bloomPut (keysN E E.length)).length + 8) ≤ (fileS E).length := by
  unfold fileS
  simp only [List.length_append, fput_length, four_len]
  omega
theorem framesN_room (E : List Ent) (j : Nat) (hj : j ≤ nBlk E) : (framesN E j).length ≤ (fileS E).length := by
  obtain ⟨r, hr⟩ := framesN_split E j (nBlk E) hj
  have : (framesN E (nBlk E)).length ≤ (fileS E).length := by
    obtain ⟨r, hr⟩ := fileS_end E
    rw [hr, List.length_append]; omega
  rw [hr, List.length_append] at this
  omega
theorem framesN_step (E : List Ent) (j : Nat) : (framesN E (j + 1)).length = (framesN E j).length + ((blkPut (blkN E j)).length + 8) := by rw [framesN, List.length_append, fput_length]
/-- frames.Get, where a frame stands -/
theorem framesGet_is (w : World) (v : Value) (l r : List UInt8) (t : Nat) (hv : Rd w v l) (hl : l.length ≤ 140737488351232) (h : fgetR l = (r, t, 0)) :
    Calls Tryz.prog 90 #[v] w fun e w' => ∃ a n c, e = .returned (.tuple #[.slice a n c, .int .i64 t, .int .i64 0]) ∧ Hid (n = r.length) ∧ Hid (Own w' w.heap.size 5 1 (.slice a n c) n (u8s r)) ∧ Below w.heap.size w w' := by
  refine (framesGet_any w v l hv hl).mono ?_
  rintro e w' ⟨a, n, c, rfl, h1, h2, h3⟩
  rw [h] at h1 h2 ⊢
  exact ⟨a, n, c, rfl, h1, h2, h3⟩
/-- blocks.Get, where a block stands -/
theorem blocksGet_is (w : World) (v : Value) (E : List Ent) (hv : Rd w v (blkPut E)) (hm : mayL E = true) (hs : ∀ x ∈ E, x.seq < 18446744073709551616) (hl : (blkPut E).length ≤ 268435456) :
    Calls Tryz.prog 91 #[v] w fun e w' => ∃ a n c, e = .returned (.tuple #[.slice a n c, .int .i64 0]) ∧ Hid (RdE w' (.slice a n c) (E.map toPE)) ∧ Below w.heap.size w w' := by
  refine (blocksGet_any w v _ hv hl).mono ?_
  rintro e w' ⟨hb, ⟨F, m1, m2, m3, a, n, c, rfl, h1, h2⟩ | ⟨hno, _⟩⟩
  · obtain rfl := blk_unique m1 hm m2 hs m3
    exact ⟨a, n, c, rfl, (rdE_of (reads_of_own h2.out)).2, hb⟩
  · exact absurd rfl (hno E hm hs)
/-- the index and the keys, as far as they stand -/
structure PartI (E : List Ent) (w3 : World) (M : List UInt8) (t : Nat) (xa : Option Addr) (xn xc : Nat) (ka : Option Addr) (kn kc : Nat) (wr : World) : Prop where
  ix : Own wr w3.heap.size 5 1 (.slice xa xn xc) xn (u8s M)
  ks : Own wr w3.heap.size 9 1 (.slice ka kn kc) kn (txs ((keysN E t).map bs))
  bel : Below w3.heap.size w3 wr
section
variable {E : List Ent} {w3 wr w' : World} {M M' : List UInt8} {t xn xc kn kc : Nat} {xa ka : Option Addr}
theorem PartI.kn_eq (h : PartI E w3 M t xa xn xc ka kn kc wr) : kn = (keysN E t).length := by
  have := (rdT_of (reads_of_own h.ks)).1
  rw [List.length_map] at this; exact this
theorem PartI.xn_eq (h : PartI E w3 M t xa xn xc ka kn kc wr) : xn = M.length := (rd_of_own h.ix).1
theorem PartI.later (h : PartI E w3 M t xa xn xc ka kn kc wr) (hb : Below wr.heap.size wr w') : PartI E w3 M t xa xn xc ka kn kc w' :=
  ⟨own_below h.ix hb, own_below h.ks hb, h.bel.trans (hb.mono h.bel.size)⟩
theorem PartI.newI (h : PartI E w3 M t xa xn xc ka kn kc wr) (hb : Below wr.heap.size wr w') {ra : Option Addr} {rn rc b : Nat} (hb0 : wr.heap.size ≤ b) (ho : Own w' b 5 1 (.slice ra rn rc) rn (u8s M')) : PartI E w3 M' t ra rn rc ka kn kc w' :=
  ⟨own_mono ho (Nat.le_trans h.bel.size hb0), own_below h.ks hb, h.bel.trans (hb.mono h.bel.size)⟩
theorem PartI.appI (h : PartI E w3 M t xa xn xc ka kn kc wr) {ra : Option Addr} {rn rc : Nat} (ho : Own w' w3.heap.size 5 1 (.slice ra rn rc) rn (u8s M')) (hg : GrewR wr w' w3.heap.size (.slice xa xn xc) (.slice ra rn rc)) : PartI E w3 M' t ra rn rc ka kn kc w' :=
  ⟨ho, hg.keep _ _ _ _ _ _ h.ks (types_apart h.ks h.ix (by decide)), h.bel.trans hg.below⟩
theorem PartI.appK (h : PartI E w3 M t xa xn xc ka kn kc wr) {ra : Option Addr} {rn rc t' : Nat} (ho : Own w' w3.heap.size 9 1 (.slice ra rn rc) rn (txs ((keysN E t').map bs))) (hg : GrewR wr w' w3.heap.size (.slice ka kn kc) (.slice ra rn rc)) : PartI E w3 M t' xa xn xc ra rn rc w' :=
  ⟨hg.keep _ _ _ _ _ _ h.ix (types_apart h.ix h.ks (by decide)), ho, h.bel.trans hg.below⟩
theorem PartI.same (h : PartI E w3 M t xa xn xc ka kn kc wr) {t' : Nat} (e : keysN E t' = keysN E t) : PartI E w3 M t' xa xn xc ka kn kc wr := ⟨h.ix, by rw [e]; exact h.ks, h.bel⟩
theorem PartI.last (h : PartI E w3 M (t + 1) xa xn xc ka kn kc wr) : ∃ d b off, kn = d + 1 ∧ ka = some ⟨b, off, none⟩ ∧ wr.cell? ⟨b, off + d, none⟩ = some (.string (bs (atE E t).key)) := by
  obtain ⟨i, hi⟩ := keysN_last E t
  have h2 := h.ks
  rw [hi, List.map_append, List.map_cons, List.map_nil] at h2
  obtain ⟨e, a, cap, hve, g1, g2, g3⟩ := rdT_of (reads_of_own h2)
  obtain ⟨b, off, e2, hc⟩ := g3 i.length (by simp)
  simp only [Value.slice.injEq] at hve
  refine ⟨i.length, b, off, by rw [e]; simp, by rw [hve.1]; exact e2, ?_⟩
  rw [hc, List.getElem_append_right (by simp)]
  simp
end
/-- an entry's four cells, in any world that keeps them -/
theorem row_at {w : World} {a : Option Addr} {n c : Nat} {l : List PE} (h : RdE w (.slice a n c) l) (i : Nat) (hi : i < l.length) :
    ∃ b off, a = some ⟨b, off, none⟩ ∧ w.cell? ⟨b, off + i * 4, none⟩ = some (.string l[i].k) ∧ w.cell? ⟨b, off + i * 4 + 1, none⟩ = some (.int .u64 l[i].s) ∧
      w.cell? ⟨b, off + i * 4 + 2, none⟩ = some (.bool l[i].g) ∧ w.cell? ⟨b, off + i * 4 + 3, none⟩ = some (.string l[i].u) := by
  obtain ⟨a', c', e, h1, h2, h3⟩ := h
  simp only [Value.slice.injEq] at e
  obtain ⟨b, off, e2, c0, c1, c2, c3⟩ := h3 i hi
  exact ⟨b, off, by rw [e.1]; exact e2, c0, c1, c2, c3⟩
end Go.Proofs.YtbcnapkbdbefhaaGreatDoor

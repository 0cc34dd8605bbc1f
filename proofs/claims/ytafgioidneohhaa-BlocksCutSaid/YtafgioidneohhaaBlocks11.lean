/- Walks of package blocks: what Put, Get and Seek answer of blocks that are told; law08.entry. The condition: bytes of at most 2^28. -/
import Derived.Test.YtafgioidneohhaaBlocks10
import Derived.Test.YtafgioidneohhaaBlkR
namespace Go.Proofs.Ytafgioidneohhaa
open Go.RowKit

def Seqs (E : List Ent) : Prop := ∀ x ∈ E, x.seq < 18446744073709551616
theorem put_is (w : World) (v : Value) (l : List PE) (hv : RdE w v l) (hs : ∀ x ∈ l, x.s < 18446744073709551616) (hm : mayL (entsOf l) = true) :
    Calls Try.prog 22 #[v] w fun e w' => ∃ a n c, e = .returned (.tuple #[.slice a n c, .int .i64 0]) ∧ Hid (n = (blkPut (entsOf l)).length) ∧ Hid (Own w' w.heap.size 5 1 (.slice a n c) n (u8s (blkPut (entsOf l)))) ∧ Below w.heap.size w w' := by
  refine (blocksPut_any w v l hv hs).mono ?_
  rintro e w' ⟨hb, h⟩
  rcases h with ⟨_, a, n, c, h1, h2, h3⟩ | ⟨h, _⟩
  · exact ⟨a, n, c, h1, h2, h3, hb⟩
  · rw [hm] at h; cases h
theorem put_no (w : World) (v : Value) (l : List PE) (hv : RdE w v l) (hs : ∀ x ∈ l, x.s < 18446744073709551616) (hm : mayL (entsOf l) = false) :
    Calls Try.prog 22 #[v] w fun e w' => e = .returned (.tuple #[.slice none 0 0, .int .i64 1]) ∧ Below w.heap.size w w' := by
  refine (blocksPut_any w v l hv hs).mono ?_
  rintro e w' ⟨hb, h⟩
  rcases h with ⟨h, _⟩ | ⟨_, h⟩
  · rw [hm] at h; cases h
  · exact ⟨h, hb⟩
theorem get_is (w : World) (v : Value) (b : List UInt8) (E : List Ent) (hv : Rd w v b) (hl : b.length ≤ 268435456) (hm : mayL E = true) (hs : Seqs E) (hb : blkPut E = b) :
    Calls Try.prog 24 #[v] w fun e w' => ∃ a n c, e = .returned (.tuple #[.slice a n c, .int .i64 0]) ∧ Hid (n = E.length) ∧ Hid (Own w' w.heap.size 30 4 (.slice a n c) n (pcells (E.map toPE))) ∧ Below w.heap.size w w' := by
  refine (blocksGet_any w v b hv hl).mono ?_
  rintro e w' ⟨hbe, h⟩
  rcases h with ⟨F, hm2, hs2, hb2, a, n, c, h1, h2, h3⟩ | ⟨h, _⟩
  · obtain rfl : F = E := blk_inj hm2 hs2 hm hs (hb2.trans hb.symm)
    exact ⟨a, n, c, h1, h2, h3, hbe⟩
  · exact absurd hb (h E hm hs)
def NoBlk (b : List UInt8) : Prop := ∀ E, mayL E = true → (∀ x ∈ E, x.seq < 18446744073709551616) → blkPut E ≠ b
theorem get_no (w : World) (v : Value) (b : List UInt8) (hv : Rd w v b) (hl : b.length ≤ 268435456) (hno : NoBlk b) :
    Calls Try.prog 24 #[v] w fun e w' => e = .returned (.tuple #[.slice none 0 0, .int .i64 4]) ∧ Below w.heap.size w w' := by
  refine (blocksGet_any w v b hv hl).mono ?_
  rintro e w' ⟨hbe, h⟩
  rcases h with ⟨F, hm2, hs2, hb2, _⟩ | ⟨_, h⟩
  · exact absurd hb2 (hno F hm2 hs2)
  · exact ⟨h, hbe⟩
theorem seek_is (w : World) (v : Value) (b : List UInt8) (E : List Ent) (mk : ByteArray) (ms : Nat) (mg : Bool) (q : Nat) (hv : Rd w v b) (hl : b.length ≤ 268435456) (hm : mayL E = true) (hs : Seqs E) (hb : blkPut E = b) (hq : seekAt mk.data.toList ms mg E = q) :
    Calls Try.prog 26 #[v, .agg #[.string mk, .int .u64 ms, .bool mg]] w fun e w' => ∃ a n c, e = .returned (.tuple #[.slice a n c, .int .i64 0]) ∧ Hid (n = E.length - q) ∧ Hid (Own w' w.heap.size 30 4 (.slice a n c) n (pcells ((E.drop q).map toPE))) ∧ Below w.heap.size w w' := by
  refine (blocksSeek_any w v b mk ms mg hv hl).mono ?_
  rintro e w' ⟨hbe, h⟩
  rcases h with ⟨F, hm2, hs2, hb2, a, n, c, h1, h2, h3⟩ | ⟨h, _⟩
  · obtain rfl : F = E := blk_inj hm2 hs2 hm hs (hb2.trans hb.symm)
    rw [hq] at h2 h3
    exact ⟨a, n, c, h1, h2, h3, hbe⟩
  · exact absurd hb (h E hm hs)
/-- entries that were laid one by one -/
theorem rdE_new (w : World) (l : List PE) (cs : Array Value) (t : TypeId) (n : Nat) (hn : n = l.length) (hc : cs.toList = pcells l) (hm : l.length ≤ 1000) : RdE (w.alloc (.cells cs t)) (.slice (some ⟨w.heap.size, 0, none⟩) n n) l := by
  subst hn
  have hs : cs.size = l.length * 4 := by rw [← Array.length_toList, hc, pcells_length]
  have := reads_new w cs t l.length 4 hs (by unfold maxLen; omega)
  rw [hc] at this
  exact (rdE_of this).2
set_option maxRecDepth 100000 in
set_option maxHeartbeats 400000 in
theorem res_entry8 {tmps : Array Value} {w : World} {c : Nat} {k u : ByteArray} {s : Int} {b : Bool} (hp : tmps[6]?.getD undef = .pointer (some ⟨c, 0, none⟩)) (hX : Blk w c #[.string k, .int .u64 s, .bool b, .string u] 30) :
    (results Try.f28 tmps).run Try.prog w = .ok (.agg #[.string k, .int .u64 s, .bool b, .string u]) w := by
  have c0 := hX.cellv 0 (.string k) rfl
  have c1 := hX.cellv 1 (.int .u64 s) rfl
  have c2 := hX.cellv 2 (.bool b) rfl
  have c3 := hX.cellv 3 (.string u) rfl
  simp only [results, Try.results28]
  simp [go_sem, hp, c0, c1, c2, c3]
theorem empty_dec (u : ByteArray) : u.toList.isEmpty = decide (u = ⟨#[]⟩) := by
  rw [Lib.toList_data]
  obtain ⟨⟨d⟩⟩ := u
  cases d <;> simp
set_option maxRecDepth 100000 in
set_option maxHeartbeats 1000000 in
theorem entry8_any (w : World) (k u : ByteArray) (s : Int) (g : Bool) (hg : g = decide (u = ⟨#[]⟩)) : Calls Try.prog 28 #[.string k, .int .u64 s, .string u] w fun e w' => e = .returned (.agg #[.string k, .int .u64 s, .bool g, .string u]) ∧ Below w.heap.size w w' := by
  obtain ⟨W, hW⟩ : ∃ W, W = w.alloc (.cells #[.string ⟨#[]⟩, .int .u64 0, .bool false, .string ⟨#[]⟩] 30) := ⟨_, rfl⟩
  have hX : Blk W w.heap.size #[.string ⟨#[]⟩, .int .u64 0, .bool false, .string ⟨#[]⟩] 30 := by rw [hW]; exact Blk.new _ _ _
  have hbW : Below w.heap.size w W := by rw [hW]; exact (Below.refl _ _).alloc (Nat.le_refl _) _
  have HW := Lib.hid hW
  clear hW
  go_enter Try.func28, Try.ntmps28
  go_upto_region 1 with (fail)
  rw [← HW.out]
  have x0 := hX.cellv 0 (.string ⟨#[]⟩) rfl
  have x1 := hX.cellv 1 (.int .u64 0) rfl
  have x2 := hX.cellv 2 (.bool false) rfl
  have x3 := hX.cellv 3 (.string ⟨#[]⟩) rfl
  have f0 := hX.free 0
  have f1 := hX.free 1
  have f2 := hX.free 2
  have f3 := hX.free 3
  go_wp2_with fail
  have hge : u.toList.isEmpty = g := by rw [hg]; exact empty_dec u
  rw [hge]
  have hXf := (((hX.set 0 (.string k)).set 1 (.int .u64 s)).set 2 (.bool g)).set 3 (.string u)
  have hO4 : Only w ((((W.setCell ⟨w.heap.size, 0, none⟩ (.string k)).setCell ⟨w.heap.size, 1, none⟩ (.int .u64 s)).setCell ⟨w.heap.size, 2, none⟩ (.bool g)).setCell ⟨w.heap.size, 3, none⟩ (.string u)) w.heap.size :=
    only_new (only_new (only_new (only_new (Only.of_below hbW) (Nat.le_refl _) 0 _) (Nat.le_refl _) 1 _) (Nat.le_refl _) 2 _) (Nat.le_refl _) 3 _
  exact bodyPost_ret (res_entry8 rfl hXf) rfl ⟨rfl, Only.below (Below.refl _ _) hO4 (Nat.le_refl _) (Nat.le_refl _)⟩
end Go.Proofs.Ytafgioidneohhaa

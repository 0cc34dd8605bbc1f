/- Frames, plain; copy of bytes as a step of the walk; walks of frames.sum and frames.Put. The condition: bytes of at most 2^37. -/
import Derived.Test.YtafanohpkbfknaaGreatDoorBlooms1
import Derived.Test.YtafanohpkbfknaaGreatDoorBlk
import Derived.Test.YtafanohpkbfknaaGreatDoorPlain2
import Derived.Laws.CopyOwn
namespace Go.Proofs.YtafanohpkbfknaaGreatDoor
open Go.RowKit

/-- a record's frame -/
def fput (r : List UInt8) : List UInt8 := four r.length ++ (four (crcOn 0 (four r.length ++ r)) ++ r)
theorem fput_length (r : List UInt8) : (fput r).length = r.length + 8 := by simp [fput, four_length]; omega
/-- the record that bytes begin with -/
def fgetR (l : List UInt8) : List UInt8 × Nat × Nat :=
  if l.length < 8 then ([], 0, 5) else
  if 65536 < fval (l.take 4) then ([], 0, 4) else
  if l.length < 8 + fval (l.take 4) then ([], 0, 5) else
  if crcOn 0 (l.take 4 ++ (l.drop 8).take (fval (l.take 4))) = fval ((l.drop 4).take 4) then ((l.drop 8).take (fval (l.take 4)), 8 + fval (l.take 4), 0) else ([], 0, 4)

set_option maxRecDepth 100000 in
theorem size_u8 : (Tryz.prog.info? 5).map (·.size) = some 1 := by kernel_rfl
/-- copy of bytes into a row that is known whole -/
theorem wp_copy {w : World} {ops : Array Oper} {rest : List Oper} {o : Oper} {a : Act} {Q : Exit → Act → World → Prop} (hgd : o.guard = none) (d s : Operand)
    (ho : o.op = .call { callee := .builtin .copy, args := #[d, s], argTypes := #[25, 25] })
    (g off dLen dCap : Nat) (dp : Option Addr) (v2 : Value) (cur m : List UInt8) (hd : a.eval d = .slice dp dLen dCap) (hx : a.eval s = v2) (hg : Blk w g (u8s cur).toArray 5) (hrd : Rd w v2 m) (hdp : 0 < m.length → dp = some ⟨g, off, none⟩)
    (hfit : m.length ≤ dLen) (hfit2 : off + m.length ≤ cur.length) (B : Nat) (w0 : World) (hb : Below B w0 w) (hBg : B ≤ g)
    (h : ∀ w', Hid (Blk w' g (u8s (cur.take off ++ (m ++ cur.drop (off + m.length)))).toArray 5) → Below B w0 w' → wpList Tryz.prog ops Q rest (a.put o.dst (goInt m.length)) w') : wpList Tryz.prog ops Q (o :: rest) a w := by
  obtain ⟨sp, sc, rfl, _, _⟩ := rd_reads hrd
  have hc := reads_cells (rd_reads hrd)
  refine wpList_copy_splice hgd d s 25 25 ho 5 Tryz.underlying25 size_u8 dp sp dLen dCap m.length sc hd hx g off (u8s cur) 5 hg (u8s m) ?_ ?_ ?_ (one_u8s m) B w0 hb hBg ?_
  · rw [u8s_length]; exact (Nat.min_eq_left hfit).symm
  · intro hp
    rw [u8s_length] at hp
    refine ⟨hdp hp, ?_⟩
    cases sp with
    | none => have := hc.1 rfl; omega
    | some ad => exact ⟨ad, rfl, hc.2 ad rfl⟩
  · rw [u8s_length, u8s_length]; exact hfit2
  · intro w' h1 h2
    have e : splice (u8s cur) off (u8s m) = u8s (cur.take off ++ (m ++ cur.drop (off + m.length))) := by
      simp [splice, u8s, List.map_take, List.map_drop]
    have h3 := h1.out
    rw [e] at h3
    have h4 := h w' h3 h2
    rw [u8s_length]
    exact h4

set_option maxRecDepth 100000 in
set_option maxHeartbeats 1000000 in
theorem sum_any (w : World) (v1 v2 : Value) (l m : List UInt8) (h1 : Rd w v1 l) (h2 : Rd w v2 m) :
    Calls Tryz.prog 89 #[v1, v2] w fun e w' => e = .returned (.int .u32 ((crcOn 0 (l ++ m) : Nat) : Int)) ∧ Below w.heap.size w w' := by
  have H1 := Lib.hid h1
  have H2 := Lib.hid h2
  clear h1 h2
  have HC := Lib.hid (crcOn_more l m)
  go_enter Tryz.func89, Tryz.ntmps89
  go_wp2_with fail
  refine (table_any _).mono ?_
  rintro e w1 ⟨rfl, hb⟩
  have hst := run_storeCells_new (P := Tryz.prog) w1 108 Tryz.zeroCells108 (tabCells 256) (by rw [tabCells_size]; exact info_tab) (by rw [zero_tab, tabCells_size, tabCells_size]) (tabCells_one _)
  go_wp2_with fail
  have hb2 : Below w.heap.size w (w1.alloc (.cells (tabCells 256) 108)) := hb.alloc hb.size _
  have ht := heap_alloc_last w1 (.cells (tabCells 256) 108)
  have HTT : Hid (TabAt (w1.alloc (.cells (tabCells 256) 108)) w1.heap.size) := ht
  clear ht hst
  generalize w1.alloc (.cells (tabCells 256) 108) = w2 at hb2 HTT ⊢
  refine (sumsOf_any _ _ l _ HTT.out (H1.out.below hb2)).mono ?_
  rintro e w' ⟨rfl, rfl⟩
  have hcl := crcOn_lt 0 l
  generalize crcOn 0 l = C at hcl HC ⊢
  go_wp2_with fail
  refine (sumsOn_any _ _ _ m _ hcl HTT.out (H2.out.below hb2)).mono ?_
  rintro e w' ⟨rfl, rfl⟩
  go_wp2
  go_ret
  exact ⟨ret_int (by rw [HC.out]), hb2⟩
end Go.Proofs.YtafanohpkbfknaaGreatDoor

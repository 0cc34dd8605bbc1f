/- Walks of package blocks: the closures of Put. The condition: a slice of entries, keys and values that are not too long. -/
import Derived.Test.YtbcnapkbdbefhaaBlocks4
import Derived.Test.YtbcnapkbdbefhaaOrderPut
import Derived.Deep.RegionWith
namespace Go.Proofs.Ytbcnapkbdbefhaa
open Go.RowKit

def i64s (l : List Nat) : List Value := l.map fun n : Nat => .int .i64 (n : Int)
theorem i64s_length (l : List Nat) : (i64s l).length = l.length := by simp [i64s]
theorem i64s_app (l m : List Nat) : i64s (l ++ m) = i64s l ++ i64s m := by simp [i64s]
theorem one_i64s (l : List Nat) : ∀ u ∈ i64s l, u.oneCell' = true := by
  intro u hu
  obtain ⟨c, _, rfl⟩ := List.mem_map.1 hu
  rfl
set_option maxRecDepth 100000 in
theorem info_i64 : (Try.prog.info? 3).map (fun i => (i.zero, i.size, i.bytes)) = some (some (.int .i64 0), 1, 8) := by kernel_rfl
theorem reads_one (w : World) (x : Value) (ty : TypeId) : Reads (w.alloc (.cells #[x] ty)) 1 (.slice (some ⟨w.heap.size, 0, none⟩) 1 1) 1 [x] :=
  ⟨_, 1, rfl, rfl, Nat.le_refl _, by omega, fun j hj => ⟨_, 0, rfl, by
    have : j = 0 := by simp at hj; omega
    subst this
    rw [World.cell?_alloc_at _ _ _ _ rfl]; rfl⟩⟩
theorem own_other {w w' : World} {base c : Nat} {e : TypeId} {sz n : Nat} {v : Value} {xs : List Value} (h : Own w base e sz v n xs) (hO : Only w w' c) (hc : c < base) : Own w' base e sz v n xs := by
  rcases h with h | ⟨h1, g, cap, cur, fr, rfl, h3, h4, h5⟩
  · exact .inl h
  · refine .inr ⟨h1, g, cap, cur, fr, rfl, h3, ?_, h5⟩
    rw [hO.block g (Array.getElem?_eq_some_iff.1 h4).1 (fun e => by simp at e; omega)]; exact h4

/-- what Put's closures hold: places, bytes, the list -/
structure PutSt (w0 : World) (base cP cB cL : Nat) (v : Value) (P : List Nat) (B : List UInt8) (w : World) (pa : Option Addr) (np pc : Nat) (ba : Option Addr) (nb bc : Nat) : Prop where
  p : Blk w cP #[.slice pa np pc] 75
  b : Blk w cB #[.slice ba nb bc] 26
  l : Blk w cL #[v] 22
  op : Own w base 3 1 (.slice pa np pc) np (i64s P)
  ob : Own w base 5 1 (.slice ba nb bc) nb (u8s B)
  pb : Apart w (.slice pa np pc) (.slice ba nb bc)
  bp : Apart w (.slice ba nb bc) (.slice pa np pc)
  bel : Below w0.heap.size w0 w
  sz : base ≤ w.heap.size
/-- the three variables lie below the slices' memory, apart, and are the call's own -/
structure PutVs (w0 : World) (base cP cB cL : Nat) : Prop where
  p0 : w0.heap.size ≤ cP
  b0 : w0.heap.size ≤ cB
  l0 : w0.heap.size ≤ cL
  base0 : w0.heap.size ≤ base
  p1 : cP < base
  b1 : cB < base
  l1 : cL < base
  pb : cP ≠ cB
  pl : cP ≠ cL
  bl : cB ≠ cL
section
variable {w0 w w' : World} {base cP cB cL : Nat} {v : Value} {P : List Nat} {B : List UInt8} {pa : Option Addr} {np pc : Nat} {ba : Option Addr} {nb bc : Nat}
theorem PutSt.later (h : PutSt w0 base cP cB cL v P B w pa np pc ba nb bc) (hb : Below w.heap.size w w') : PutSt w0 base cP cB cL v P B w' pa np pc ba nb bc :=
  ⟨h.p.below hb, h.b.below hb, h.l.below hb, own_below h.op hb, own_below h.ob hb, h.pb.later hb.size, h.bp.later hb.size, h.bel.trans (hb.mono h.bel.size), Nat.le_trans h.sz hb.size⟩
theorem blk_under {g n : Nat} {cs : Array Value} {t : TypeId} (h : Blk w g cs t) (hg : g < n) (hb : Below n w w') : Blk w' g cs t := by
  unfold Blk at *
  rw [hb.block g hg]; exact h
theorem PutSt.grewP (h : PutSt w0 base cP cB cL v P B w pa np pc ba nb bc) (hv : PutVs w0 base cP cB cL) {q : List Nat} {ua : Option Addr} {un uc : Nat} (hX : Own w' base 3 1 (.slice ua un uc) un (i64s q)) (hun : 0 < un)
    (hG : Grew w w' base (.slice pa np pc) (.slice ua un uc)) : PutSt w0 base cP cB cL v q B (w'.setCell ⟨cP, 0, none⟩ (.slice ua un uc)) ua un uc ba nb bc := by
  have hO := Only.set w' cP 0 (.slice ua un uc)
  have hbp := hG.apart _ h.bp
  have hb1 : Below w0.heap.size w0 w' := h.bel.trans (hG.below.mono hv.base0)
  refine ⟨(blk_under h.p hv.p1 hG.below).set 0 _, (blk_under h.b hv.b1 hG.below).only hO (Ne.symm hv.pb), (blk_under h.l hv.l1 hG.below).only hO (Ne.symm hv.pl), own_other hX hO hv.p1, own_other (hG.keep _ _ _ _ _ _ h.ob h.bp) hO hv.p1,
    (hbp.comm hX hun).later hO.size, hbp.later hO.size, Only.below hb1 hO hv.p0 hb1.size, Nat.le_trans (Nat.le_trans h.sz hG.below.size) hO.size⟩
theorem PutSt.grewB (h : PutSt w0 base cP cB cL v P B w pa np pc ba nb bc) (hv : PutVs w0 base cP cB cL) {q : List UInt8} {ua : Option Addr} {un uc : Nat} (hX : Own w' base 5 1 (.slice ua un uc) un (u8s q)) (hun : 0 < un)
    (hG : Grew w w' base (.slice ba nb bc) (.slice ua un uc)) : PutSt w0 base cP cB cL v P q (w'.setCell ⟨cB, 0, none⟩ (.slice ua un uc)) pa np pc ua un uc := by
  have hO := Only.set w' cB 0 (.slice ua un uc)
  have hpb := hG.apart _ h.pb
  have hb1 : Below w0.heap.size w0 w' := h.bel.trans (hG.below.mono hv.base0)
  refine ⟨(blk_under h.p hv.p1 hG.below).only hO hv.pb, (blk_under h.b hv.b1 hG.below).set 0 _, (blk_under h.l hv.l1 hG.below).only hO (Ne.symm hv.bl), own_other (hG.keep _ _ _ _ _ _ h.op h.pb) hO hv.b1, own_other hX hO hv.b1,
    hpb.later hO.size, (hpb.comm hX hun).later hO.size, Only.below hb1 hO hv.b0 hb1.size, Nat.le_trans (Nat.le_trans h.sz hG.below.size) hO.size⟩
theorem PutSt.newB (h : PutSt w0 base cP cB cL v P B w pa np pc ba nb bc) (hv : PutVs w0 base cP cB cL) {q : List UInt8} {ua : Option Addr} {un uc : Nat} (hX : Own w' w.heap.size 5 1 (.slice ua un uc) un (u8s q)) (hun : 0 < un)
    (hb : Below w.heap.size w w') : PutSt w0 base cP cB cL v P q (w'.setCell ⟨cB, 0, none⟩ (.slice ua un uc)) pa np pc ua un uc := by
  have hO := Only.set w' cB 0 (.slice ua un uc)
  have h' := h.later hb
  have hpb : Apart w' (.slice pa np pc) (.slice ua un uc) := fun k hk => ⟨(h'.pb k hk).1, fun e => by
    have h1 := (h.pb k hk).1
    have h2 := (own_lt hX hun k e).1
    omega⟩
  have hX' := own_mono hX h.sz
  exact ⟨h'.p.only hO hv.pb, h'.b.set 0 _, h'.l.only hO (Ne.symm hv.bl), own_other h'.op hO hv.b1, own_other hX' hO hv.b1,
    hpb.later hO.size, (hpb.comm hX' hun).later hO.size, Only.below h'.bel hO hv.b0 h'.bel.size, Nat.le_trans h'.sz hO.size⟩
/-- a block apart from all is written -/
def Away (w : World) (c : Nat) (u : Value) : Prop := Apart w (.slice (some ⟨c, 0, none⟩) 0 0) u
theorem Away.ne {c : Nat} {u : Value} (h : Away w c u) : u.ownBlock = none ∨ u.ownBlock ≠ some c := .inr (h c rfl).2
theorem PutSt.setX (h : PutSt w0 base cP cB cL v P B w pa np pc ba nb bc) {c : Nat} (hc : w0.heap.size ≤ c) (hp : c ≠ cP) (hb : c ≠ cB) (hl : c ≠ cL) (ap : Away w c (.slice pa np pc)) (ab : Away w c (.slice ba nb bc)) (i : Nat) (x : Value) :
    PutSt w0 base cP cB cL v P B (w.setCell ⟨c, i, none⟩ x) pa np pc ba nb bc := by
  have hO := Only.set w c i x
  exact ⟨h.p.only hO hp.symm, h.b.only hO hb.symm, h.l.only hO hl.symm, own_kept h.op hO ap.ne, own_kept h.ob hO ab.ne, h.pb.later hO.size, h.bp.later hO.size, Only.below h.bel hO hc h.bel.size, Nat.le_trans h.sz hO.size⟩
end
end Go.Proofs.Ytbcnapkbdbefhaa

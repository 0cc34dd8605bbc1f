/- Walks of sorted.file.frame and sorted.index.add. The conditions: a record that may be a frame, bytes of a bounded length. | Walk of sorted.Put. The conditions: a slice of entries, numbers of 64 bits. -/
import Derived.Test.YtbcnapkbdbefhaaGreatDoorSWalk
import Derived.Test.YtbcnapkbdbefhaaGreatDoorSoA
import Derived.Test.YtbcnapkbdbefhaaGreatDoorBlocksA
import Derived.Test.YtbcnapkbdbefhaaGreatDoorFramesA
import Derived.Test.YtbcnapkbdbefhaaGreatDoorOrderPut
import Derived.Deep.RegionHeld3
import Derived.RangeFuncLeaves
import Derived.Sort.CutIn
import Derived.Shelf.Abstract
namespace Go.Proofs.YtbcnapkbdbefhaaGreatDoor
open Go.RowKit

/-- where a file that is being made stands -/
structure FileSt (base gF many : Nat) (M B : List UInt8) (K : List ByteArray) (w : World) (ma : Option Addr) (mn mc : Nat) (ba : Option Addr) (bn bc : Nat) (ka : Option Addr) (kn kc : Nat) : Prop where
  f : Blk w gF #[.int .i64 many, .slice ma mn mc, .slice ba bn bc, .slice ka kn kc] 79
  om : Own w base 5 1 (.slice ma mn mc) mn (u8s M)
  ob : Own w base 5 1 (.slice ba bn bc) bn (u8s B)
  ok : Own w base 9 1 (.slice ka kn kc) kn (txs K)
  mb : Apart w (.slice ma mn mc) (.slice ba bn bc)
  mq : Apart w (.slice ma mn mc) (.slice ka kn kc)
  bm : Apart w (.slice ba bn bc) (.slice ma mn mc)
  bk : Apart w (.slice ba bn bc) (.slice ka kn kc)
  km : Apart w (.slice ka kn kc) (.slice ma mn mc)
  kb : Apart w (.slice ka kn kc) (.slice ba bn bc)
  gf : gF < base
  sz : base ≤ w.heap.size
def FileAt (base gF many : Nat) (M B : List UInt8) (K : List ByteArray) (w : World) : Prop := ∃ ma mn mc ba bn bc ka kn kc, FileSt base gF many M B K w ma mn mc ba bn bc ka kn kc
section
variable {base gF many : Nat} {M B : List UInt8} {K : List ByteArray} {w w' : World} {ma : Option Addr} {mn mc : Nat} {ba : Option Addr} {bn bc : Nat} {ka : Option Addr} {kn kc : Nat}
theorem FileSt.later (h : FileSt base gF many M B K w ma mn mc ba bn bc ka kn kc) (hb : Below w.heap.size w w') : FileSt base gF many M B K w' ma mn mc ba bn bc ka kn kc :=
  ⟨h.f.below hb, own_below h.om hb, own_below h.ob hb, own_below h.ok hb, h.mb.later hb.size, h.mq.later hb.size, h.bm.later hb.size, h.bk.later hb.size, h.km.later hb.size, h.kb.later hb.size, h.gf, Nat.le_trans h.sz hb.size⟩
/-- all blocks from base on and block gF stay -/
theorem FileSt.kept {X : Nat → Prop} (h : FileSt base gF many M B K w ma mn mc ba bn bc ka kn kc) (hX : ∀ k, k = gF ∨ base ≤ k → X k) (hk : KeptX X w w') : FileSt base gF many M B K w' ma mn mc ba bn bc ka kn kc := by
  have go : ∀ (e : TypeId) (v : Value) (n : Nat) (xs : List Value), Own w base e 1 v n xs → Own w' base e 1 v n xs := fun e v n xs ho => by
    rcases ho with ho | ⟨h1, g, cap, cur, fr, h2, h3, h4, h5⟩
    · exact .inl ho
    · exact .inr ⟨h1, g, cap, cur, fr, h2, h3, by rw [hk.block g (Array.getElem?_eq_some_iff.1 h4).1 (hX g (.inr h3))]; exact h4, h5⟩
  exact ⟨hk.blk (hX _ (.inl rfl)) h.f, go _ _ _ _ h.om, go _ _ _ _ h.ob, go _ _ _ _ h.ok, h.mb.later hk.size, h.mq.later hk.size, h.bm.later hk.size, h.bk.later hk.size, h.km.later hk.size, h.kb.later hk.size, h.gf, Nat.le_trans h.sz hk.size⟩
theorem FileSt.setMany (h : FileSt base gF many M B K w ma mn mc ba bn bc ka kn kc) (n : Nat) : FileSt base gF n M B K (w.setCell ⟨gF, 0, none⟩ (.int .i64 n)) ma mn mc ba bn bc ka kn kc := by
  have hO := Only.set w gF 0 (.int .i64 n)
  exact ⟨h.f.set 0 _, own_other h.om hO h.gf, own_other h.ob hO h.gf, own_other h.ok hO h.gf, h.mb.later hO.size, h.mq.later hO.size, h.bm.later hO.size, h.bk.later hO.size, h.km.later hO.size, h.kb.later hO.size, h.gf, Nat.le_trans h.sz hO.size⟩
theorem FileSt.grewB (h : FileSt base gF many M B K w ma mn mc ba bn bc ka kn kc) {q : List UInt8} {ua : Option Addr} {un uc : Nat} (hX : Own w' base 5 1 (.slice ua un uc) un (u8s q)) (hun : 0 < un)
    (hG : Grew w w' base (.slice ba bn bc) (.slice ua un uc)) : FileSt base gF many M q K (w'.setCell ⟨gF, 2, none⟩ (.slice ua un uc)) ma mn mc ua un uc ka kn kc := by
  have hO := Only.set w' gF 2 (.slice ua un uc)
  have h1 := hG.apart _ h.mb
  have h2 := hG.apart _ h.kb
  have hs := Nat.le_trans hG.below.size hO.size
  exact ⟨(blk_under h.f h.gf hG.below).set 2 _, own_other (hG.keep _ _ _ _ _ _ h.om h.mb) hO h.gf, own_other hX hO h.gf, own_other (hG.keep _ _ _ _ _ _ h.ok h.kb) hO h.gf, h1.later hO.size, h.mq.later hs,
    (h1.comm hX hun).later hO.size, (h2.comm hX hun).later hO.size, h.km.later hs, h2.later hO.size, h.gf, Nat.le_trans h.sz hs⟩
theorem FileSt.grewK (h : FileSt base gF many M B K w ma mn mc ba bn bc ka kn kc) {q : List ByteArray} {ua : Option Addr} {un uc : Nat} (hX : Own w' base 9 1 (.slice ua un uc) un (txs q)) (hun : 0 < un)
    (hG : Grew w w' base (.slice ka kn kc) (.slice ua un uc)) : FileSt base gF many M B q (w'.setCell ⟨gF, 3, none⟩ (.slice ua un uc)) ma mn mc ba bn bc ua un uc := by
  have hO := Only.set w' gF 3 (.slice ua un uc)
  have h1 := hG.apart _ h.mq
  have h2 := hG.apart _ h.bk
  have hs := Nat.le_trans hG.below.size hO.size
  exact ⟨(blk_under h.f h.gf hG.below).set 3 _, own_other (hG.keep _ _ _ _ _ _ h.om h.mq) hO h.gf, own_other (hG.keep _ _ _ _ _ _ h.ob h.bk) hO h.gf, own_other hX hO h.gf, h.mb.later hs, h1.later hO.size, h.bm.later hs, h2.later hO.size,
    (h1.comm hX hun).later hO.size, (h2.comm hX hun).later hO.size, h.gf, Nat.le_trans h.sz hs⟩
/-- marks that are new, all of them -/
theorem FileSt.newM (h : FileSt base gF many M B K w ma mn mc ba bn bc ka kn kc) {q : List UInt8} {ua : Option Addr} {un uc : Nat} (hX : Own w' w.heap.size 5 1 (.slice ua un uc) un (u8s q)) (hun : 0 < un)
    (hb : Below w.heap.size w w') : FileSt base gF many q B K (w'.setCell ⟨gF, 1, none⟩ (.slice ua un uc)) ua un uc ba bn bc ka kn kc := by
  have hO := Only.set w' gF 1 (.slice ua un uc)
  have h' := h.later hb
  have new : ∀ v : Value, Apart w v (.slice ma mn mc) → Apart w' v (.slice ua un uc) := fun v hv k hk => ⟨Nat.lt_of_lt_of_le (hv k hk).1 hb.size, fun e => by
    have h1 := (hv k hk).1
    have h2 := (own_lt hX hun k e).1
    omega⟩
  have hX' := own_mono hX h.sz
  have h1 := new _ h.bm
  have h2 := new _ h.km
  exact ⟨h'.f.set 1 _, own_other hX' hO h.gf, own_other h'.ob hO h.gf, own_other h'.ok hO h.gf, (h1.comm hX' hun).later hO.size, (h2.comm hX' hun).later hO.size, h1.later hO.size, h'.bk.later hO.size, h2.later hO.size, h'.kb.later hO.size, h.gf,
    Nat.le_trans h'.sz hO.size⟩
end
theorem fput_pos (r : List UInt8) : 8 ≤ (fput r).length := by rw [fput_length]; omega
set_option maxRecDepth 100000 in
set_option maxHeartbeats 2000000 in
theorem frame_any (w : World) (base gF many : Nat) (M B : List UInt8) (K : List ByteArray) (v : Value) (r : List UInt8) (h : FileAt base gF many M B K w) (hv : Rd w v r) (hr : r.length ≤ 65536) (hB : B.length ≤ 1073741824) :
    Calls Tryz.prog 77 #[.pointer (some ⟨gF, 0, none⟩), v] w fun e w' => e = .returned (.int .i64 B.length) ∧ FileAt base gF many M (B ++ fput r) K w' ∧ KeptX (fun k => k < base ∧ k ≠ gF) w w' ∧ ∀ i, i ≠ 2 → w'.cell? ⟨gF, i, none⟩ = w.cell? ⟨gF, i, none⟩ := by
  obtain ⟨ma, mn, mc, ba, bn, bc, ka, kn, kc, h⟩ := h
  obtain ⟨i0, hi, hz, hz1, hz2⟩ := info_parts info_u8
  have hbn : bn = B.length := (rd_of_own h.ob).1
  have HBN := Lib.hid hbn
  rw [← hbn] at hB ⊢
  clear hbn
  have c2 : w.cell? ⟨gF, 2, none⟩ = some (.slice ba bn bc) := h.f.cellv 2 _ rfl
  have HP := Lib.hid (framesPut_any w v r hv hr)
  have HS := Lib.hid h
  clear h hv
  go_enter Tryz.func77, Tryz.ntmps77
  go_wp2_with fail
  refine HP.out.mono ?_
  rintro e w2 ⟨ra, rn, rc, rfl, HRN, HRO, bel2⟩
  have hrn : rn ≤ 65544 := by rw [HRN.out, fput_length]; omega
  have hrn0 : 0 < rn := by rw [HRN.out, fput_length]; omega
  have c2' := Below.keeps bel2 _ _ _ c2
  have hS2 := HS.out.later bel2
  have HS2 := Lib.hid hS2
  have HB2 := Lib.hid bel2
  clear bel2 c2 hS2
  go_wp2_with (at_builtin; go_loud (refine wp_app_el2 rfl _ _ rfl Tryz.underlying22 hi hz hz1 hz2 rfl (by omega) base bn rn (.slice ba bn bc) (.slice ra rn rc) (u8s B) (u8s (fput r)) (u8s (B ++ fput r)) (bn + rn) rfl rfl HS2.out.ob (reads_of_own HRO.out) (one_u8s _) rfl (by rw [u8s_append]) (by omega) (by omega) HS2.out.sz ?_); intro ua uc w3 HX3 HG3; have hb3 := blk_under HS2.out.f HS2.out.gf HG3.out.below; have c3 := hb3.cellv 2 (.slice ba bn bc) rfl; have f3 := hb3.free 2; clear hb3)
  have HF := Lib.hid (HS2.out.grewB HX3.out (by omega) HG3.out)
  have HK : Hid (KeptX (fun k => k < base ∧ k ≠ gF) w (w3.setCell ⟨gF, 2, none⟩ (.slice ua (bn + rn) uc))) :=
    ((KeptX.of_below HB2.out).trans (((KeptX.mono (X := fun k => k < base) ⟨HG3.out.below.os, HG3.out.below.tape, HG3.out.below.output, HG3.out.below.size, fun k _ hk => HG3.out.below.block k hk⟩ fun k hk => hk.1)))).trans (KeptX.set _ _ (fun h => h.2 rfl) _)
  have HCL : Hid (∀ i, i ≠ 2 → (w3.setCell ⟨gF, 2, none⟩ (.slice ua (bn + rn) uc)).cell? ⟨gF, i, none⟩ = w.cell? ⟨gF, i, none⟩) := fun i hi => by
    rw [HF.out.f.cell i, HS.out.f.cell i]
    match i, hi with
    | 0, _ => rfl
    | 1, _ => rfl
    | 3, _ => rfl
    | n + 4, _ => rfl
  go_ret
  exact ⟨rfl, ⟨_, _, _, _, _, _, _, _, _, HF.out⟩, HK.out, HCL.out⟩
-- ADD


theorem KeptX.under {gF : Nat} {w w' : World} (h : Below w.heap.size w w') : KeptX (fun k => k ≠ gF) w w' := KeptX.of_below h
set_option maxRecDepth 100000 in
set_option maxHeartbeats 4000000 in
theorem add_any (w : World) (base gF many at_ : Nat) (M B : List UInt8) (K : List ByteArray) (k : ByteArray) (s : Nat) (g : Bool) (h : FileAt base gF many M B K w) (hM : M.length ≤ 1073741824) (hat : at_ < 9223372036854775808) (hk : k.size ≤ 1048576) (hs : s < 18446744073709551616) (hmany : many < 1073741824) :
    Calls Tryz.prog 76 #[.pointer (some ⟨gF, 0, none⟩), .int .i64 at_, .agg #[.string k, .int .u64 s, .bool g]] w fun e w' => e = .returned (.tuple #[]) ∧ FileAt base gF (many + 1) (M ++ (vint at_ ++ ((vint k.size ++ k.data.toList) ++ (vint s ++ [flagB g])))) B K w' ∧ KeptX (fun k => k < base ∧ k ≠ gF) w w' := by
  obtain ⟨ma, mn, mc, ba, bn, bc, ka, kn, kc, h⟩ := h
  have h2g := h.gf
  have h2s := h.sz
  obtain ⟨W1, hW1⟩ : ∃ W, W = w.alloc (.cells #[.string k, .int .u64 s, .bool g] 25) := ⟨_, rfl⟩
  obtain ⟨gX, hgX⟩ : ∃ x, x = w.heap.size := ⟨_, rfl⟩
  have hX : Blk W1 gX #[.string k, .int .u64 s, .bool g] 25 := by rw [hW1]; exact Blk.new_at _ _ _ _ hgX
  have hb1 : Below w.heap.size w W1 := by rw [hW1]; exact (Below.refl _ _).alloc (Nat.le_refl _) _
  have c0 : W1.cell? ⟨gF, 0, none⟩ = some (.int .i64 many) := (h.f.below hb1).cellv 0 _ rfl
  have f0 := (h.f.below hb1).free 0
  have hne : gF ≠ gX := by omega
  obtain ⟨W, hW⟩ : ∃ W, W = W1.setCell ⟨gF, 0, none⟩ (.int .i64 ((many : Int) + 1)) := ⟨_, rfl⟩
  have hX2 : Blk W gX #[.string k, .int .u64 s, .bool g] 25 := by rw [hW]; exact hX.set_other _ hne _
  have hF2 := (h.later hb1).setMany (many + 1)
  have hwm : ((many : Int) + 1) = ((many + 1 : Nat) : Int) := by omega
  rw [← hwm, ← hW] at hF2
  clear hwm
  have hk2 : KeptX (fun k => k < base ∧ k ≠ gF) w W := by rw [hW]; exact (KeptX.of_below hb1).trans (KeptX.set _ _ (fun h => h.2 rfl) _)
  have HF2 := Lib.hid hF2
  have HK2 := Lib.hid hk2
  have x0 : W.cell? ⟨gX, 0, none⟩ = some (.string k) := hX2.cellv 0 _ rfl
  have x1 : W.cell? ⟨gX, 1, none⟩ = some (.int .u64 s) := hX2.cellv 1 _ rfl
  have x2 : W.cell? ⟨gX, 2, none⟩ = some (.bool g) := hX2.cellv 2 _ rfl
  have HC1 : Hid (∀ w', Below W.heap.size W w' → Rd w' (.slice ma mn mc) M ∧ w'.cell? ⟨gF, 1, none⟩ = some (.slice ma mn mc) ∧ w'.frozen? ⟨gF, 1, none⟩ = false) := fun w' hb =>
    ⟨(rd_of_own (HF2.out.later hb).om).2, (HF2.out.later hb).f.cellv 1 _ rfl, (HF2.out.later hb).f.free 1⟩
  have HSB : Hid (∀ w', KeptX (fun k => k ≠ gF) W w' → w'.cell? ⟨gX, 0, none⟩ = some (.string k) ∧ w'.cell? ⟨gX, 1, none⟩ = some (.int .u64 s)) := fun w' hb =>
    ⟨(hb.blk hne.symm hX2).cellv 0 _ rfl, (hb.blk hne.symm hX2).cellv 1 _ rfl⟩
  have hwa : IntKind.u64.wrap (at_ : Int) = (at_ : Int) := wrap_u64_in _ (by omega)
  have hk10 := vint_le k.size
  have hs10 := vint_le s
  have ha10 := vint_le at_
  obtain ⟨M1, hM1⟩ : ∃ m, m = M ++ vint at_ := ⟨_, rfl⟩
  have hm1 : M1.length ≤ 1073741834 := by rw [hM1, List.length_append]; omega
  obtain ⟨M2, hM2⟩ : ∃ m, m = M1 ++ (vint k.size ++ k.data.toList) := ⟨_, rfl⟩
  have hm2 : M2.length ≤ 1074790420 := by rw [hM2]; simp only [List.length_append, size_data]; omega
  obtain ⟨M3, hM3⟩ : ∃ m, m = M2 ++ vint s := ⟨_, rfl⟩
  have hm3 : M3.length ≤ 1074790430 := by rw [hM3, List.length_append]; omega
  have HM4 : Hid (M3 ++ [flagB g] = M ++ (vint at_ ++ ((vint k.size ++ k.data.toList) ++ (vint s ++ [flagB g])))) := by
    show _ = _
    rw [hM3, hM2, hM1]; simp only [List.append_assoc]
  have HM1 := Lib.hid hM1
  have HM2 := Lib.hid hM2
  have HM3 := Lib.hid hM3
  have HW := Lib.hid hW
  have HW1 := Lib.hid hW1
  have HGX := Lib.hid hgX
  clear hM1 hM2 hM3 hk10 hs10 ha10 hX hX2 hb1 hF2 hk2 h hW hW1 hgX
  rw [HW1.out] at c0 f0
  go_enter Tryz.func76, Tryz.ntmps76
  go_upto_region 2 with (fail)
  rw [← HGX.out, ← HW1.out, ← HW.out]
  clear c0 f0
  cases g
  case false =>
    go_upto_region 5 with (fail)
    refine wp_region_held_drew (S := fun w' => KeptX (fun k => k ≠ gF) W w' ∧ w'.cell? ⟨gX, 0, none⟩ = some (.string k) ∧ w'.cell? ⟨gX, 1, none⟩ = some (.int .u64 s)) (by kernel_rfl) (⟨KeptX.under (Below.refl _ _).drew, HSB.out _ (KeptX.under (Below.refl _ _).drew)⟩) (fun hHeld => ?_)
    have BC : Below W.heap.size W W.drew := (Below.refl _ _).drew
    refine wpAnyH_take (i := 0) (v := ?vq1) (by simp only [List.getElem?_toArray]; rfl) (by kernel_rfl) (by kernel_rfl) (by kernel_rfl) (by exact fun _ _ _ h => h) (Or.inl ⟨by rfl, ?yq1⟩) (by assumption) ?rq1
    case yq1 => (intro w hSw; (try dsimp only at hSw); go_simp; try with_reducible rfl)
    try simp only [Act.put, List.setIfInBounds_toArray, List.set_cons_zero, List.set_cons_succ]
    refine wpAnyH_take (i := 1) (v := ?vq2) (by simp only [List.getElem?_toArray]; rfl) (by kernel_rfl) (by kernel_rfl) (by kernel_rfl) (by exact fun _ _ _ h => h) (Or.inl ⟨by rfl, ?yq2⟩) (by assumption) ?rq2
    case yq2 => (intro w hSw; (try dsimp only at hSw); go_simp; try with_reducible rfl)
    try simp only [Act.put, List.setIfInBounds_toArray, List.set_cons_zero, List.set_cons_succ]
    refine wpAnyH_take (i := 2) (v := ?vq3) (by simp only [List.getElem?_toArray]; rfl) (by kernel_rfl) (by kernel_rfl) (by kernel_rfl) (by exact fun _ _ _ h => h) (Or.inl ⟨by rfl, ?yq3⟩) (by assumption) ?rq3
    case yq3 => (intro w hSw; (try dsimp only at hSw); go_simp; try with_reducible rfl)
    try simp only [Act.put, List.setIfInBounds_toArray, List.set_cons_zero, List.set_cons_succ]
    refine wpAnyH_take (i := 3) (v := ?vq4) (by simp only [List.getElem?_toArray]; rfl) (by kernel_rfl) (by kernel_rfl) (by kernel_rfl) (by exact fun _ _ _ h => h) (Or.inl ⟨by rfl, ?yq4⟩) (by assumption) ?rq4
    case yq4 => (intro w hSw; (try dsimp only at hSw); go_simp; try with_reducible rfl)
    try simp only [Act.put, List.setIfInBounds_toArray, List.set_cons_zero, List.set_cons_succ]
    refine wpAnyH_take (i := 5) (v := ?vq5) (by simp only [List.getElem?_toArray]; rfl) (by kernel_rfl) (by kernel_rfl) (by kernel_rfl) (by exact fun _ _ _ h => h) (Or.inl ⟨by rfl, ?yq5⟩) (by assumption) ?rq5
    case yq5 => (intro w hSw; (try dsimp only at hSw); go_simp; try with_reducible rfl)
    try simp only [Act.put, List.setIfInBounds_toArray, List.set_cons_zero, List.set_cons_succ]
    refine wpAnyH_take (i := 6) (v := ?vq6) (by simp only [List.getElem?_toArray]; rfl) (by kernel_rfl) (by kernel_rfl) (by kernel_rfl) (by exact fun _ _ _ h => h) (Or.inl ⟨by rfl, ?yq6⟩) (by assumption) ?rq6
    case yq6 => (intro w hSw; (try dsimp only at hSw); go_simp; try with_reducible rfl)
    try simp only [Act.put, List.setIfInBounds_toArray, List.set_cons_zero, List.set_cons_succ]
    refine wpAnyH_take (i := 8) (v := ?vq7) (by simp only [List.getElem?_toArray]; rfl) (by kernel_rfl) (by kernel_rfl) (by kernel_rfl) (by exact fun _ _ _ h => h) (Or.inl ⟨by rfl, ?yq7⟩) (by assumption) ?rq7
    case yq7 => (intro w hSw; (try dsimp only at hSw); go_simp; try with_reducible rfl)
    try simp only [Act.put, List.setIfInBounds_toArray, List.set_cons_zero, List.set_cons_succ]
    refine wpAnyH_take (i := 9) (v := ?vq8) (by simp only [List.getElem?_toArray]; rfl) (by kernel_rfl) (by kernel_rfl) (by kernel_rfl) (by exact fun _ _ _ h => h) (Or.inl ⟨by rfl, ?yq8⟩) (by assumption) ?rq8
    case yq8 => (intro w hSw; (try dsimp only at hSw); go_simp; try with_reducible rfl)
    try simp only [Act.put, List.setIfInBounds_toArray, List.set_cons_zero, List.set_cons_succ]
    refine wpAnyH_take (i := 11) (v := ?vq9) (by simp only [List.getElem?_toArray]; rfl) (by kernel_rfl) (by kernel_rfl) (by kernel_rfl) (by exact fun _ _ _ h => h) (Or.inl ⟨by rfl, ?yq9⟩) (by assumption) ?rq9
    case yq9 => (intro w hSw; (try dsimp only at hSw); go_simp; try with_reducible rfl)
    try simp only [Act.put, List.setIfInBounds_toArray, List.set_cons_zero, List.set_cons_succ]
    refine wpAnyH_take (i := 12) (v := ?vq10) (by simp only [List.getElem?_toArray]; rfl) (by kernel_rfl) (by kernel_rfl) (by kernel_rfl) (by exact fun _ _ _ h => h) (Or.inl ⟨by rfl, ?yq10⟩) (by assumption) ?rq10
    case yq10 => (intro w hSw; (try dsimp only at hSw); go_simp; try with_reducible rfl)
    try simp only [Act.put, List.setIfInBounds_toArray, List.set_cons_zero, List.set_cons_succ]
    refine wpAnyH_take (i := 14) (v := ?vq11) (by simp only [List.getElem?_toArray]; rfl) (by kernel_rfl) (by kernel_rfl) (by kernel_rfl) (by exact fun _ _ _ h => h) (Or.inl ⟨by rfl, ?yq11⟩) (by assumption) ?rq11
    case yq11 => (intro w hSw; (try dsimp only at hSw); go_simp; try with_reducible rfl)
    try simp only [Act.put, List.setIfInBounds_toArray, List.set_cons_zero, List.set_cons_succ]
    obtain ⟨RM, c1, _⟩ := HC1.out _ BC
    refine wpAnyH_ready (rs := [4, 15]) (by kernel_rfl) (by simp) ?_
    refine AllReadyH.cons (by simp only [List.getElem?_toArray]; rfl) (fun K hK => ?waq12) (AllReadyH.cons (by simp only [List.getElem?_toArray]; rfl) (fun K hK => ?wbq12) AllReadyH.nil)
    case waq12 =>
      go_simp
      refine hK.out _ _ (⟨KeptX.under (BC), HSB.out _ (KeptX.under (BC))⟩) (fun hHeld => ?_)
      clear hK K
      try simp only [Act.put, List.setIfInBounds_toArray, List.set_cons_zero, List.set_cons_succ]
      obtain ⟨RM, _, _⟩ := HC1.out _ BC
      refine wpAnyH_ready (rs := [7, 15]) (by kernel_rfl) (by simp) ?_
      refine AllReadyH.cons (by simp only [List.getElem?_toArray]; rfl) (fun K hK => ?waq13) (AllReadyH.cons (by simp only [List.getElem?_toArray]; rfl) (fun K hK => ?wbq13) AllReadyH.nil)
      case waq13 =>
        go_simp
        refine (put_my' _ _ M at_ RM (by omega) (by omega)).mono ?_
        rintro e w3 ⟨pa, pn, pc, rfl, -, HP, bel3⟩
        have BC3 := BC.trans (bel3.mono BC.size)
        rw [← HM1.out] at HP
        refine hK.out _ _ (⟨KeptX.under (BC3), HSB.out _ (KeptX.under (BC3))⟩) (fun hHeld => ?_)
        clear hK K
        try simp only [Act.put, List.setIfInBounds_toArray, List.set_cons_zero, List.set_cons_succ]
        have BC := BC3
        clear BC3
        refine wpAnyH_ready (rs := [10, 15]) (by kernel_rfl) (by simp) ?_
        refine AllReadyH.cons (by simp only [List.getElem?_toArray]; rfl) (fun K hK => ?waq14) (AllReadyH.cons (by simp only [List.getElem?_toArray]; rfl) (fun K hK => ?wbq14) AllReadyH.nil)
        case waq14 =>
          go_simp
          refine (putText_my' _ _ M1 k (rd_of_own HP.out).2 (by omega) (by omega)).mono ?_
          rintro e w4 ⟨qa, qn, qc, rfl, -, HP, bel4⟩
          have BC4 := BC.trans (bel4.mono BC.size)
          rw [← HM2.out] at HP
          refine hK.out _ _ (⟨KeptX.under (BC4), HSB.out _ (KeptX.under (BC4))⟩) (fun hHeld => ?_)
          clear hK K
          try simp only [Act.put, List.setIfInBounds_toArray, List.set_cons_zero, List.set_cons_succ]
          have BC := BC4
          clear BC4
          refine wpAnyH_ready (rs := [13, 15]) (by kernel_rfl) (by simp) ?_
          refine AllReadyH.cons (by simp only [List.getElem?_toArray]; rfl) (fun K hK => ?waq15) (AllReadyH.cons (by simp only [List.getElem?_toArray]; rfl) (fun K hK => ?wbq15) AllReadyH.nil)
          case waq15 =>
            go_simp
            refine (put_my' _ _ M2 s (rd_of_own HP.out).2 hs (by omega)).mono ?_
            rintro e w5 ⟨ra, rn, rc, rfl, -, HP, bel5⟩
            have BC5 := BC.trans (bel5.mono BC.size)
            rw [← HM3.out] at HP
            replace HP := Lib.hid (own_mono HP.out BC.size)
            refine hK.out _ _ (⟨KeptX.under (BC5), HSB.out _ (KeptX.under (BC5))⟩) (fun hHeld => ?_)
            clear hK K
            try simp only [Act.put, List.setIfInBounds_toArray, List.set_cons_zero, List.set_cons_succ]
            have BC := BC5
            clear BC5
            refine wpAnyH_ready (rs := [15]) (by kernel_rfl) (by simp) ?_
            refine AllReadyH.cons (by simp only [List.getElem?_toArray]; rfl) (fun K hK => ?_) AllReadyH.nil
            go_simp
            refine hK.out _ _ (⟨KeptX.under (BC.alloc BC.size _), HSB.out _ (KeptX.under (BC.alloc BC.size _))⟩) (fun hHeld => ?_)
            clear hK K
            try simp only [Act.put, List.setIfInBounds_toArray, List.set_cons_zero, List.set_cons_succ]
            obtain ⟨Y, hY⟩ : ∃ Y, Y = (w5).alloc (.cells #[.int .u8 0] 5) := ⟨_, rfl⟩
            have HR1 : Rd Y (.slice (some ⟨(w5).heap.size, 0, none⟩) 1 1) [flagB false] := by rw [hY]; exact rd_one _ _ _ rfl _
            have BCY : Below W.heap.size W Y := by rw [hY]; exact BC.alloc BC.size _
            replace HP := Lib.hid (own_below HP.out (by rw [hY]; exact (Below.refl _ _).alloc (Nat.le_refl _) _ : Below _ _ Y))
            rw [← hY]
            obtain ⟨q, hq⟩ : ∃ q, q = (w5).heap.size := ⟨_, rfl⟩
            rw [← hq] at HR1 ⊢
            clear hY hq
            have BC := BCY
            clear BCY
            refine wpAnyH_ready (rs := [16]) (by kernel_rfl) (by simp) ?_
            refine AllReadyH.cons (by simp only [List.getElem?_toArray]; rfl) (fun K hK => ?_) AllReadyH.nil
            refine step_app rfl _ _ rfl W.heap.size _ _ _ M3 [flagB false] rfl rfl HP.out HR1 (by simp; omega) BC.size ?_
            intro za zn zc w6 HZN HZ bel6
            have BC6 : Below W.heap.size W w6 := BC.trans bel6
            obtain ⟨_, c6, f6⟩ := HC1.out _ BC6
            have hzn : 0 < zn := by rw [HZN.out]; simp
            refine hK.out _ _ (⟨KeptX.under BC6, HSB.out _ (KeptX.under BC6)⟩) (fun hHeld => ?_)
            clear hK K
            try simp only [Act.put, List.setIfInBounds_toArray, List.set_cons_zero, List.set_cons_succ]
            refine wpAnyH_take (i := 17) (v := ?vq16) (by simp only [List.getElem?_toArray]; rfl) (by kernel_rfl) (by kernel_rfl) (by kernel_rfl) (by exact fun _ _ _ h => h) (Or.inl ⟨by rfl, ?yq16⟩) (by assumption) ?rq16
            case yq16 => (intro w hSw; (try dsimp only at hSw); go_simp; try with_reducible rfl)
            try simp only [Act.put, List.setIfInBounds_toArray, List.set_cons_zero, List.set_cons_succ]
            refine wpAnyH_take (i := 18) (v := ?vq17) (by simp only [List.getElem?_toArray]; rfl) (by kernel_rfl) (by kernel_rfl) (by kernel_rfl) (by exact fun _ _ _ h => h) (Or.inl ⟨by rfl, ?yq17⟩) (by assumption) ?rq17
            case yq17 => (intro w hSw; (try dsimp only at hSw); go_simp; try with_reducible rfl)
            try simp only [Act.put, List.setIfInBounds_toArray, List.set_cons_zero, List.set_cons_succ]
            refine wpAnyH_ready (rs := [19]) (by kernel_rfl) (by simp) ?_
            refine AllReadyH.cons (by simp only [List.getElem?_toArray]; rfl) (fun K hK => ?_) AllReadyH.nil
            go_simp
            have HKS : KeptX (fun k => k ≠ gF) W (w6.setCell ⟨gF, 1, none⟩ (.slice za zn zc)) := (KeptX.under BC6).trans (KeptX.set _ _ (fun h => h rfl) _)
            refine hK.out _ _ (⟨HKS, HSB.out _ HKS⟩) (fun hHeld => ?_)
            clear hK K
            try simp only [Act.put, List.setIfInBounds_toArray, List.set_cons_zero, List.set_cons_succ]
            refine wpAnyH_done (by kernel_rfl) ?_ _
            rw [HM4.out] at HZ
            have HFF := Lib.hid (HF2.out.newM HZ.out hzn BC6)
            have HKK := Lib.hid (HK2.out.trans (((KeptX.of_below BC6).trans (KeptX.set _ ⟨gF, 1, none⟩ (fun h => h.2 rfl) (.slice za zn zc)))))
            go_wp2_with fail
            go_end0
            exact ⟨rfl, ⟨_, _, _, _, _, _, _, _, _, HFF.out⟩, HKK.out⟩
          case wbq15 =>
            go_simp
            refine hK.out _ _ (⟨KeptX.under (BC.alloc BC.size _), HSB.out _ (KeptX.under (BC.alloc BC.size _))⟩) (fun hHeld => ?_)
            clear hK K
            try simp only [Act.put, List.setIfInBounds_toArray, List.set_cons_zero, List.set_cons_succ]
            obtain ⟨Y, hY⟩ : ∃ Y, Y = (w4).alloc (.cells #[.int .u8 0] 5) := ⟨_, rfl⟩
            have HR1 : Rd Y (.slice (some ⟨(w4).heap.size, 0, none⟩) 1 1) [flagB false] := by rw [hY]; exact rd_one _ _ _ rfl _
            have BCY : Below W.heap.size W Y := by rw [hY]; exact BC.alloc BC.size _
            replace HP := Lib.hid (own_below HP.out (by rw [hY]; exact (Below.refl _ _).alloc (Nat.le_refl _) _ : Below _ _ Y))
            rw [← hY]
            obtain ⟨q, hq⟩ : ∃ q, q = (w4).heap.size := ⟨_, rfl⟩
            rw [← hq] at HR1 ⊢
            clear hY hq
            have BC := BCY
            clear BCY
            refine wpAnyH_ready (rs := [13]) (by kernel_rfl) (by simp) ?_
            refine AllReadyH.cons (by simp only [List.getElem?_toArray]; rfl) (fun K hK => ?_) AllReadyH.nil
            go_simp
            refine (put_my' _ _ M2 s (rd_of_own HP.out).2 hs (by omega)).mono ?_
            rintro e w5 ⟨ra, rn, rc, rfl, -, HP, bel5⟩
            have BC5 := BC.trans (bel5.mono BC.size)
            rw [← HM3.out] at HP
            replace HP := Lib.hid (own_mono HP.out BC.size)
            refine hK.out _ _ (⟨KeptX.under (BC5), HSB.out _ (KeptX.under (BC5))⟩) (fun hHeld => ?_)
            clear hK K
            try simp only [Act.put, List.setIfInBounds_toArray, List.set_cons_zero, List.set_cons_succ]
            have BC := BC5
            have HR1 := HR1.below bel5
            clear BC5
            refine wpAnyH_ready (rs := [16]) (by kernel_rfl) (by simp) ?_
            refine AllReadyH.cons (by simp only [List.getElem?_toArray]; rfl) (fun K hK => ?_) AllReadyH.nil
            refine step_app rfl _ _ rfl W.heap.size _ _ _ M3 [flagB false] rfl rfl HP.out HR1 (by simp; omega) BC.size ?_
            intro za zn zc w6 HZN HZ bel6
            have BC6 : Below W.heap.size W w6 := BC.trans bel6
            obtain ⟨_, c6, f6⟩ := HC1.out _ BC6
            have hzn : 0 < zn := by rw [HZN.out]; simp
            refine hK.out _ _ (⟨KeptX.under BC6, HSB.out _ (KeptX.under BC6)⟩) (fun hHeld => ?_)
            clear hK K
            try simp only [Act.put, List.setIfInBounds_toArray, List.set_cons_zero, List.set_cons_succ]
            refine wpAnyH_take (i := 17) (v := ?vq18) (by simp only [List.getElem?_toArray]; rfl) (by kernel_rfl) (by kernel_rfl) (by kernel_rfl) (by exact fun _ _ _ h => h) (Or.inl ⟨by rfl, ?yq18⟩) (by assumption) ?rq18
            case yq18 => (intro w hSw; (try dsimp only at hSw); go_simp; try with_reducible rfl)
            try simp only [Act.put, List.setIfInBounds_toArray, List.set_cons_zero, List.set_cons_succ]
            refine wpAnyH_take (i := 18) (v := ?vq19) (by simp only [List.getElem?_toArray]; rfl) (by kernel_rfl) (by kernel_rfl) (by kernel_rfl) (by exact fun _ _ _ h => h) (Or.inl ⟨by rfl, ?yq19⟩) (by assumption) ?rq19
            case yq19 => (intro w hSw; (try dsimp only at hSw); go_simp; try with_reducible rfl)
            try simp only [Act.put, List.setIfInBounds_toArray, List.set_cons_zero, List.set_cons_succ]
            refine wpAnyH_ready (rs := [19]) (by kernel_rfl) (by simp) ?_
            refine AllReadyH.cons (by simp only [List.getElem?_toArray]; rfl) (fun K hK => ?_) AllReadyH.nil
            go_simp
            have HKS : KeptX (fun k => k ≠ gF) W (w6.setCell ⟨gF, 1, none⟩ (.slice za zn zc)) := (KeptX.under BC6).trans (KeptX.set _ _ (fun h => h rfl) _)
            refine hK.out _ _ (⟨HKS, HSB.out _ HKS⟩) (fun hHeld => ?_)
            clear hK K
            try simp only [Act.put, List.setIfInBounds_toArray, List.set_cons_zero, List.set_cons_succ]
            refine wpAnyH_done (by kernel_rfl) ?_ _
            rw [HM4.out] at HZ
            have HFF := Lib.hid (HF2.out.newM HZ.out hzn BC6)
            have HKK := Lib.hid (HK2.out.trans (((KeptX.of_below BC6).trans (KeptX.set _ ⟨gF, 1, none⟩ (fun h => h.2 rfl) (.slice za zn zc)))))
            go_wp2_with fail
            go_end0
            exact ⟨rfl, ⟨_, _, _, _, _, _, _, _, _, HFF.out⟩, HKK.out⟩
        case wbq14 =>
          go_simp
          refine hK.out _ _ (⟨KeptX.under (BC.alloc BC.size _), HSB.out _ (KeptX.under (BC.alloc BC.size _))⟩) (fun hHeld => ?_)
          clear hK K
          try simp only [Act.put, List.setIfInBounds_toArray, List.set_cons_zero, List.set_cons_succ]
          obtain ⟨Y, hY⟩ : ∃ Y, Y = (w3).alloc (.cells #[.int .u8 0] 5) := ⟨_, rfl⟩
          have HR1 : Rd Y (.slice (some ⟨(w3).heap.size, 0, none⟩) 1 1) [flagB false] := by rw [hY]; exact rd_one _ _ _ rfl _
          have BCY : Below W.heap.size W Y := by rw [hY]; exact BC.alloc BC.size _
          replace HP := Lib.hid (own_below HP.out (by rw [hY]; exact (Below.refl _ _).alloc (Nat.le_refl _) _ : Below _ _ Y))
          rw [← hY]
          obtain ⟨q, hq⟩ : ∃ q, q = (w3).heap.size := ⟨_, rfl⟩
          rw [← hq] at HR1 ⊢
          clear hY hq
          have BC := BCY
          clear BCY
          refine wpAnyH_ready (rs := [10]) (by kernel_rfl) (by simp) ?_
          refine AllReadyH.cons (by simp only [List.getElem?_toArray]; rfl) (fun K hK => ?_) AllReadyH.nil
          go_simp
          refine (putText_my' _ _ M1 k (rd_of_own HP.out).2 (by omega) (by omega)).mono ?_
          rintro e w4 ⟨qa, qn, qc, rfl, -, HP, bel4⟩
          have BC4 := BC.trans (bel4.mono BC.size)
          rw [← HM2.out] at HP
          refine hK.out _ _ (⟨KeptX.under (BC4), HSB.out _ (KeptX.under (BC4))⟩) (fun hHeld => ?_)
          clear hK K
          try simp only [Act.put, List.setIfInBounds_toArray, List.set_cons_zero, List.set_cons_succ]
          have BC := BC4
          have HR1 := HR1.below bel4
          clear BC4
          refine wpAnyH_ready (rs := [13]) (by kernel_rfl) (by simp) ?_
          refine AllReadyH.cons (by simp only [List.getElem?_toArray]; rfl) (fun K hK => ?_) AllReadyH.nil
          go_simp
          refine (put_my' _ _ M2 s (rd_of_own HP.out).2 hs (by omega)).mono ?_
          rintro e w5 ⟨ra, rn, rc, rfl, -, HP, bel5⟩
          have BC5 := BC.trans (bel5.mono BC.size)
          rw [← HM3.out] at HP
          replace HP := Lib.hid (own_mono HP.out BC.size)
          refine hK.out _ _ (⟨KeptX.under (BC5), HSB.out _ (KeptX.under (BC5))⟩) (fun hHeld => ?_)
          clear hK K
          try simp only [Act.put, List.setIfInBounds_toArray, List.set_cons_zero, List.set_cons_succ]
          have BC := BC5
          have HR1 := HR1.below bel5
          clear BC5
          refine wpAnyH_ready (rs := [16]) (by kernel_rfl) (by simp) ?_
          refine AllReadyH.cons (by simp only [List.getElem?_toArray]; rfl) (fun K hK => ?_) AllReadyH.nil
          refine step_app rfl _ _ rfl W.heap.size _ _ _ M3 [flagB false] rfl rfl HP.out HR1 (by simp; omega) BC.size ?_
          intro za zn zc w6 HZN HZ bel6
          have BC6 : Below W.heap.size W w6 := BC.trans bel6
          obtain ⟨_, c6, f6⟩ := HC1.out _ BC6
          have hzn : 0 < zn := by rw [HZN.out]; simp
          refine hK.out _ _ (⟨KeptX.under BC6, HSB.out _ (KeptX.under BC6)⟩) (fun hHeld => ?_)
          clear hK K
          try simp only [Act.put, List.setIfInBounds_toArray, List.set_cons_zero, List.set_cons_succ]
          refine wpAnyH_take (i := 17) (v := ?vq20) (by simp only [List.getElem?_toArray]; rfl) (by kernel_rfl) (by kernel_rfl) (by kernel_rfl) (by exact fun _ _ _ h => h) (Or.inl ⟨by rfl, ?yq20⟩) (by assumption) ?rq20
          case yq20 => (intro w hSw; (try dsimp only at hSw); go_simp; try with_reducible rfl)
          try simp only [Act.put, List.setIfInBounds_toArray, List.set_cons_zero, List.set_cons_succ]
          refine wpAnyH_take (i := 18) (v := ?vq21) (by simp only [List.getElem?_toArray]; rfl) (by kernel_rfl) (by kernel_rfl) (by kernel_rfl) (by exact fun _ _ _ h => h) (Or.inl ⟨by rfl, ?yq21⟩) (by assumption) ?rq21
          case yq21 => (intro w hSw; (try dsimp only at hSw); go_simp; try with_reducible rfl)
          try simp only [Act.put, List.setIfInBounds_toArray, List.set_cons_zero, List.set_cons_succ]
          refine wpAnyH_ready (rs := [19]) (by kernel_rfl) (by simp) ?_
          refine AllReadyH.cons (by simp only [List.getElem?_toArray]; rfl) (fun K hK => ?_) AllReadyH.nil
          go_simp
          have HKS : KeptX (fun k => k ≠ gF) W (w6.setCell ⟨gF, 1, none⟩ (.slice za zn zc)) := (KeptX.under BC6).trans (KeptX.set _ _ (fun h => h rfl) _)
          refine hK.out _ _ (⟨HKS, HSB.out _ HKS⟩) (fun hHeld => ?_)
          clear hK K
          try simp only [Act.put, List.setIfInBounds_toArray, List.set_cons_zero, List.set_cons_succ]
          refine wpAnyH_done (by kernel_rfl) ?_ _
          rw [HM4.out] at HZ
          have HFF := Lib.hid (HF2.out.newM HZ.out hzn BC6)
          have HKK := Lib.hid (HK2.out.trans (((KeptX.of_below BC6).trans (KeptX.set _ ⟨gF, 1, none⟩ (fun h => h.2 rfl) (.slice za zn zc)))))
          go_wp2_with fail
          go_end0
          exact ⟨rfl, ⟨_, _, _, _, _, _, _, _, _, HFF.out⟩, HKK.out⟩
      case wbq13 =>
        go_simp
        refine hK.out _ _ (⟨KeptX.under (BC.alloc BC.size _), HSB.out _ (KeptX.under (BC.alloc BC.size _))⟩) (fun hHeld => ?_)
        clear hK K
        try simp only [Act.put, List.setIfInBounds_toArray, List.set_cons_zero, List.set_cons_succ]
        obtain ⟨Y, hY⟩ : ∃ Y, Y = (W.alloc (.cells #[.int .u8 0] 5)).drew := ⟨_, rfl⟩
        have HR1 : Rd Y (.slice (some ⟨W.heap.size, 0, none⟩) 1 1) [flagB false] := by rw [hY]; exact rd_one W _ _ rfl _
        have BCY : Below W.heap.size W Y := by rw [hY]; exact ((Below.refl _ _).alloc (Nat.le_refl _) _).drew
        rw [← hY]
        obtain ⟨q, hq⟩ : ∃ q, q = (W).heap.size := ⟨_, rfl⟩
        rw [← hq] at HR1 ⊢
        clear hY hq
        have BC := BCY
        clear BCY
        obtain ⟨RM, _, _⟩ := HC1.out _ BC
        refine wpAnyH_ready (rs := [7]) (by kernel_rfl) (by simp) ?_
        refine AllReadyH.cons (by simp only [List.getElem?_toArray]; rfl) (fun K hK => ?_) AllReadyH.nil
        go_simp
        refine (put_my' _ _ M at_ RM (by omega) (by omega)).mono ?_
        rintro e w3 ⟨pa, pn, pc, rfl, -, HP, bel3⟩
        have BC3 := BC.trans (bel3.mono BC.size)
        rw [← HM1.out] at HP
        refine hK.out _ _ (⟨KeptX.under (BC3), HSB.out _ (KeptX.under (BC3))⟩) (fun hHeld => ?_)
        clear hK K
        try simp only [Act.put, List.setIfInBounds_toArray, List.set_cons_zero, List.set_cons_succ]
        have BC := BC3
        have HR1 := HR1.below bel3
        clear BC3
        refine wpAnyH_ready (rs := [10]) (by kernel_rfl) (by simp) ?_
        refine AllReadyH.cons (by simp only [List.getElem?_toArray]; rfl) (fun K hK => ?_) AllReadyH.nil
        go_simp
        refine (putText_my' _ _ M1 k (rd_of_own HP.out).2 (by omega) (by omega)).mono ?_
        rintro e w4 ⟨qa, qn, qc, rfl, -, HP, bel4⟩
        have BC4 := BC.trans (bel4.mono BC.size)
        rw [← HM2.out] at HP
        refine hK.out _ _ (⟨KeptX.under (BC4), HSB.out _ (KeptX.under (BC4))⟩) (fun hHeld => ?_)
        clear hK K
        try simp only [Act.put, List.setIfInBounds_toArray, List.set_cons_zero, List.set_cons_succ]
        have BC := BC4
        have HR1 := HR1.below bel4
        clear BC4
        refine wpAnyH_ready (rs := [13]) (by kernel_rfl) (by simp) ?_
        refine AllReadyH.cons (by simp only [List.getElem?_toArray]; rfl) (fun K hK => ?_) AllReadyH.nil
        go_simp
        refine (put_my' _ _ M2 s (rd_of_own HP.out).2 hs (by omega)).mono ?_
        rintro e w5 ⟨ra, rn, rc, rfl, -, HP, bel5⟩
        have BC5 := BC.trans (bel5.mono BC.size)
        rw [← HM3.out] at HP
        replace HP := Lib.hid (own_mono HP.out BC.size)
        refine hK.out _ _ (⟨KeptX.under (BC5), HSB.out _ (KeptX.under (BC5))⟩) (fun hHeld => ?_)
        clear hK K
        try simp only [Act.put, List.setIfInBounds_toArray, List.set_cons_zero, List.set_cons_succ]
        have BC := BC5
        have HR1 := HR1.below bel5
        clear BC5
        refine wpAnyH_ready (rs := [16]) (by kernel_rfl) (by simp) ?_
        refine AllReadyH.cons (by simp only [List.getElem?_toArray]; rfl) (fun K hK => ?_) AllReadyH.nil
        refine step_app rfl _ _ rfl W.heap.size _ _ _ M3 [flagB false] rfl rfl HP.out HR1 (by simp; omega) BC.size ?_
        intro za zn zc w6 HZN HZ bel6
        have BC6 : Below W.heap.size W w6 := BC.trans bel6
        obtain ⟨_, c6, f6⟩ := HC1.out _ BC6
        have hzn : 0 < zn := by rw [HZN.out]; simp
        refine hK.out _ _ (⟨KeptX.under BC6, HSB.out _ (KeptX.under BC6)⟩) (fun hHeld => ?_)
        clear hK K
        try simp only [Act.put, List.setIfInBounds_toArray, List.set_cons_zero, List.set_cons_succ]
        refine wpAnyH_take (i := 17) (v := ?vq22) (by simp only [List.getElem?_toArray]; rfl) (by kernel_rfl) (by kernel_rfl) (by kernel_rfl) (by exact fun _ _ _ h => h) (Or.inl ⟨by rfl, ?yq22⟩) (by assumption) ?rq22
        case yq22 => (intro w hSw; (try dsimp only at hSw); go_simp; try with_reducible rfl)
        try simp only [Act.put, List.setIfInBounds_toArray, List.set_cons_zero, List.set_cons_succ]
        refine wpAnyH_take (i := 18) (v := ?vq23) (by simp only [List.getElem?_toArray]; rfl) (by kernel_rfl) (by kernel_rfl) (by kernel_rfl) (by exact fun _ _ _ h => h) (Or.inl ⟨by rfl, ?yq23⟩) (by assumption) ?rq23
        case yq23 => (intro w hSw; (try dsimp only at hSw); go_simp; try with_reducible rfl)
        try simp only [Act.put, List.setIfInBounds_toArray, List.set_cons_zero, List.set_cons_succ]
        refine wpAnyH_ready (rs := [19]) (by kernel_rfl) (by simp) ?_
        refine AllReadyH.cons (by simp only [List.getElem?_toArray]; rfl) (fun K hK => ?_) AllReadyH.nil
        go_simp
        have HKS : KeptX (fun k => k ≠ gF) W (w6.setCell ⟨gF, 1, none⟩ (.slice za zn zc)) := (KeptX.under BC6).trans (KeptX.set _ _ (fun h => h rfl) _)
        refine hK.out _ _ (⟨HKS, HSB.out _ HKS⟩) (fun hHeld => ?_)
        clear hK K
        try simp only [Act.put, List.setIfInBounds_toArray, List.set_cons_zero, List.set_cons_succ]
        refine wpAnyH_done (by kernel_rfl) ?_ _
        rw [HM4.out] at HZ
        have HFF := Lib.hid (HF2.out.newM HZ.out hzn BC6)
        have HKK := Lib.hid (HK2.out.trans (((KeptX.of_below BC6).trans (KeptX.set _ ⟨gF, 1, none⟩ (fun h => h.2 rfl) (.slice za zn zc)))))
        go_wp2_with fail
        go_end0
        exact ⟨rfl, ⟨_, _, _, _, _, _, _, _, _, HFF.out⟩, HKK.out⟩
    case wbq12 =>
      go_simp
      refine hK.out _ _ (⟨KeptX.under (BC.alloc BC.size _), HSB.out _ (KeptX.under (BC.alloc BC.size _))⟩) (fun hHeld => ?_)
      clear hK K
      try simp only [Act.put, List.setIfInBounds_toArray, List.set_cons_zero, List.set_cons_succ]
      obtain ⟨Y, hY⟩ : ∃ Y, Y = (W.alloc (.cells #[.int .u8 0] 5)).drew := ⟨_, rfl⟩
      have HR1 : Rd Y (.slice (some ⟨W.heap.size, 0, none⟩) 1 1) [flagB false] := by rw [hY]; exact rd_one W _ _ rfl _
      have BCY : Below W.heap.size W Y := by rw [hY]; exact ((Below.refl _ _).alloc (Nat.le_refl _) _).drew
      rw [← hY]
      obtain ⟨q, hq⟩ : ∃ q, q = (W).heap.size := ⟨_, rfl⟩
      rw [← hq] at HR1 ⊢
      clear hY hq
      have BC := BCY
      clear BCY
      obtain ⟨RM, c1, _⟩ := HC1.out _ BC
      refine wpAnyH_ready (rs := [4]) (by kernel_rfl) (by simp) ?_
      refine AllReadyH.cons (by simp only [List.getElem?_toArray]; rfl) (fun K hK => ?_) AllReadyH.nil
      go_simp
      refine hK.out _ _ (⟨KeptX.under (BC), HSB.out _ (KeptX.under (BC))⟩) (fun hHeld => ?_)
      clear hK K
      try simp only [Act.put, List.setIfInBounds_toArray, List.set_cons_zero, List.set_cons_succ]
      obtain ⟨RM, _, _⟩ := HC1.out _ BC
      refine wpAnyH_ready (rs := [7]) (by kernel_rfl) (by simp) ?_
      refine AllReadyH.cons (by simp only [List.getElem?_toArray]; rfl) (fun K hK => ?_) AllReadyH.nil
      go_simp
      refine (put_my' _ _ M at_ RM (by omega) (by omega)).mono ?_
      rintro e w3 ⟨pa, pn, pc, rfl, -, HP, bel3⟩
      have BC3 := BC.trans (bel3.mono BC.size)
      rw [← HM1.out] at HP
      refine hK.out _ _ (⟨KeptX.under (BC3), HSB.out _ (KeptX.under (BC3))⟩) (fun hHeld => ?_)
      clear hK K
      try simp only [Act.put, List.setIfInBounds_toArray, List.set_cons_zero, List.set_cons_succ]
      have BC := BC3
      have HR1 := HR1.below bel3
      clear BC3
      refine wpAnyH_ready (rs := [10]) (by kernel_rfl) (by simp) ?_
      refine AllReadyH.cons (by simp only [List.getElem?_toArray]; rfl) (fun K hK => ?_) AllReadyH.nil
      go_simp
      refine (putText_my' _ _ M1 k (rd_of_own HP.out).2 (by omega) (by omega)).mono ?_
      rintro e w4 ⟨qa, qn, qc, rfl, -, HP, bel4⟩
      have BC4 := BC.trans (bel4.mono BC.size)
      rw [← HM2.out] at HP
      refine hK.out _ _ (⟨KeptX.under (BC4), HSB.out _ (KeptX.under (BC4))⟩) (fun hHeld => ?_)
      clear hK K
      try simp only [Act.put, List.setIfInBounds_toArray, List.set_cons_zero, List.set_cons_succ]
      have BC := BC4
      have HR1 := HR1.below bel4
      clear BC4
      refine wpAnyH_ready (rs := [13]) (by kernel_rfl) (by simp) ?_
      refine AllReadyH.cons (by simp only [List.getElem?_toArray]; rfl) (fun K hK => ?_) AllReadyH.nil
      go_simp
      refine (put_my' _ _ M2 s (rd_of_own HP.out).2 hs (by omega)).mono ?_
      rintro e w5 ⟨ra, rn, rc, rfl, -, HP, bel5⟩
      have BC5 := BC.trans (bel5.mono BC.size)
      rw [← HM3.out] at HP
      replace HP := Lib.hid (own_mono HP.out BC.size)
      refine hK.out _ _ (⟨KeptX.under (BC5), HSB.out _ (KeptX.under (BC5))⟩) (fun hHeld => ?_)
      clear hK K
      try simp only [Act.put, List.setIfInBounds_toArray, List.set_cons_zero, List.set_cons_succ]
      have BC := BC5
      have HR1 := HR1.below bel5
      clear BC5
      refine wpAnyH_ready (rs := [16]) (by kernel_rfl) (by simp) ?_
      refine AllReadyH.cons (by simp only [List.getElem?_toArray]; rfl) (fun K hK => ?_) AllReadyH.nil
      refine step_app rfl _ _ rfl W.heap.size _ _ _ M3 [flagB false] rfl rfl HP.out HR1 (by simp; omega) BC.size ?_
      intro za zn zc w6 HZN HZ bel6
      have BC6 : Below W.heap.size W w6 := BC.trans bel6
      obtain ⟨_, c6, f6⟩ := HC1.out _ BC6
      have hzn : 0 < zn := by rw [HZN.out]; simp
      refine hK.out _ _ (⟨KeptX.under BC6, HSB.out _ (KeptX.under BC6)⟩) (fun hHeld => ?_)
      clear hK K
      try simp only [Act.put, List.setIfInBounds_toArray, List.set_cons_zero, List.set_cons_succ]
      refine wpAnyH_take (i := 17) (v := ?vq24) (by simp only [List.getElem?_toArray]; rfl) (by kernel_rfl) (by kernel_rfl) (by kernel_rfl) (by exact fun _ _ _ h => h) (Or.inl ⟨by rfl, ?yq24⟩) (by assumption) ?rq24
      case yq24 => (intro w hSw; (try dsimp only at hSw); go_simp; try with_reducible rfl)
      try simp only [Act.put, List.setIfInBounds_toArray, List.set_cons_zero, List.set_cons_succ]
      refine wpAnyH_take (i := 18) (v := ?vq25) (by simp only [List.getElem?_toArray]; rfl) (by kernel_rfl) (by kernel_rfl) (by kernel_rfl) (by exact fun _ _ _ h => h) (Or.inl ⟨by rfl, ?yq25⟩) (by assumption) ?rq25
      case yq25 => (intro w hSw; (try dsimp only at hSw); go_simp; try with_reducible rfl)
      try simp only [Act.put, List.setIfInBounds_toArray, List.set_cons_zero, List.set_cons_succ]
      refine wpAnyH_ready (rs := [19]) (by kernel_rfl) (by simp) ?_
      refine AllReadyH.cons (by simp only [List.getElem?_toArray]; rfl) (fun K hK => ?_) AllReadyH.nil
      go_simp
      have HKS : KeptX (fun k => k ≠ gF) W (w6.setCell ⟨gF, 1, none⟩ (.slice za zn zc)) := (KeptX.under BC6).trans (KeptX.set _ _ (fun h => h rfl) _)
      refine hK.out _ _ (⟨HKS, HSB.out _ HKS⟩) (fun hHeld => ?_)
      clear hK K
      try simp only [Act.put, List.setIfInBounds_toArray, List.set_cons_zero, List.set_cons_succ]
      refine wpAnyH_done (by kernel_rfl) ?_ _
      rw [HM4.out] at HZ
      have HFF := Lib.hid (HF2.out.newM HZ.out hzn BC6)
      have HKK := Lib.hid (HK2.out.trans (((KeptX.of_below BC6).trans (KeptX.set _ ⟨gF, 1, none⟩ (fun h => h.2 rfl) (.slice za zn zc)))))
      go_wp2_with fail
      go_end0
      exact ⟨rfl, ⟨_, _, _, _, _, _, _, _, _, HFF.out⟩, HKK.out⟩
  case true =>
    go_upto_region 5 with (fail)
    refine wp_region_held_drew (S := fun w' => KeptX (fun k => k ≠ gF) W w' ∧ w'.cell? ⟨gX, 0, none⟩ = some (.string k) ∧ w'.cell? ⟨gX, 1, none⟩ = some (.int .u64 s)) (by kernel_rfl) (⟨KeptX.under (Below.refl _ _).drew, HSB.out _ (KeptX.under (Below.refl _ _).drew)⟩) (fun hHeld => ?_)
    have BC : Below W.heap.size W W.drew := (Below.refl _ _).drew
    refine wpAnyH_take (i := 0) (v := ?vq26) (by simp only [List.getElem?_toArray]; rfl) (by kernel_rfl) (by kernel_rfl) (by kernel_rfl) (by exact fun _ _ _ h => h) (Or.inl ⟨by rfl, ?yq26⟩) (by assumption) ?rq26
    case yq26 => (intro w hSw; (try dsimp only at hSw); go_simp; try with_reducible rfl)
    try simp only [Act.put, List.setIfInBounds_toArray, List.set_cons_zero, List.set_cons_succ]
    refine wpAnyH_take (i := 1) (v := ?vq27) (by simp only [List.getElem?_toArray]; rfl) (by kernel_rfl) (by kernel_rfl) (by kernel_rfl) (by exact fun _ _ _ h => h) (Or.inl ⟨by rfl, ?yq27⟩) (by assumption) ?rq27
    case yq27 => (intro w hSw; (try dsimp only at hSw); go_simp; try with_reducible rfl)
    try simp only [Act.put, List.setIfInBounds_toArray, List.set_cons_zero, List.set_cons_succ]
    refine wpAnyH_take (i := 2) (v := ?vq28) (by simp only [List.getElem?_toArray]; rfl) (by kernel_rfl) (by kernel_rfl) (by kernel_rfl) (by exact fun _ _ _ h => h) (Or.inl ⟨by rfl, ?yq28⟩) (by assumption) ?rq28
    case yq28 => (intro w hSw; (try dsimp only at hSw); go_simp; try with_reducible rfl)
    try simp only [Act.put, List.setIfInBounds_toArray, List.set_cons_zero, List.set_cons_succ]
    refine wpAnyH_take (i := 3) (v := ?vq29) (by simp only [List.getElem?_toArray]; rfl) (by kernel_rfl) (by kernel_rfl) (by kernel_rfl) (by exact fun _ _ _ h => h) (Or.inl ⟨by rfl, ?yq29⟩) (by assumption) ?rq29
    case yq29 => (intro w hSw; (try dsimp only at hSw); go_simp; try with_reducible rfl)
    try simp only [Act.put, List.setIfInBounds_toArray, List.set_cons_zero, List.set_cons_succ]
    refine wpAnyH_take (i := 5) (v := ?vq30) (by simp only [List.getElem?_toArray]; rfl) (by kernel_rfl) (by kernel_rfl) (by kernel_rfl) (by exact fun _ _ _ h => h) (Or.inl ⟨by rfl, ?yq30⟩) (by assumption) ?rq30
    case yq30 => (intro w hSw; (try dsimp only at hSw); go_simp; try with_reducible rfl)
    try simp only [Act.put, List.setIfInBounds_toArray, List.set_cons_zero, List.set_cons_succ]
    refine wpAnyH_take (i := 6) (v := ?vq31) (by simp only [List.getElem?_toArray]; rfl) (by kernel_rfl) (by kernel_rfl) (by kernel_rfl) (by exact fun _ _ _ h => h) (Or.inl ⟨by rfl, ?yq31⟩) (by assumption) ?rq31
    case yq31 => (intro w hSw; (try dsimp only at hSw); go_simp; try with_reducible rfl)
    try simp only [Act.put, List.setIfInBounds_toArray, List.set_cons_zero, List.set_cons_succ]
    refine wpAnyH_take (i := 8) (v := ?vq32) (by simp only [List.getElem?_toArray]; rfl) (by kernel_rfl) (by kernel_rfl) (by kernel_rfl) (by exact fun _ _ _ h => h) (Or.inl ⟨by rfl, ?yq32⟩) (by assumption) ?rq32
    case yq32 => (intro w hSw; (try dsimp only at hSw); go_simp; try with_reducible rfl)
    try simp only [Act.put, List.setIfInBounds_toArray, List.set_cons_zero, List.set_cons_succ]
    refine wpAnyH_take (i := 9) (v := ?vq33) (by simp only [List.getElem?_toArray]; rfl) (by kernel_rfl) (by kernel_rfl) (by kernel_rfl) (by exact fun _ _ _ h => h) (Or.inl ⟨by rfl, ?yq33⟩) (by assumption) ?rq33
    case yq33 => (intro w hSw; (try dsimp only at hSw); go_simp; try with_reducible rfl)
    try simp only [Act.put, List.setIfInBounds_toArray, List.set_cons_zero, List.set_cons_succ]
    refine wpAnyH_take (i := 11) (v := ?vq34) (by simp only [List.getElem?_toArray]; rfl) (by kernel_rfl) (by kernel_rfl) (by kernel_rfl) (by exact fun _ _ _ h => h) (Or.inl ⟨by rfl, ?yq34⟩) (by assumption) ?rq34
    case yq34 => (intro w hSw; (try dsimp only at hSw); go_simp; try with_reducible rfl)
    try simp only [Act.put, List.setIfInBounds_toArray, List.set_cons_zero, List.set_cons_succ]
    refine wpAnyH_take (i := 12) (v := ?vq35) (by simp only [List.getElem?_toArray]; rfl) (by kernel_rfl) (by kernel_rfl) (by kernel_rfl) (by exact fun _ _ _ h => h) (Or.inl ⟨by rfl, ?yq35⟩) (by assumption) ?rq35
    case yq35 => (intro w hSw; (try dsimp only at hSw); go_simp; try with_reducible rfl)
    try simp only [Act.put, List.setIfInBounds_toArray, List.set_cons_zero, List.set_cons_succ]
    refine wpAnyH_take (i := 14) (v := ?vq36) (by simp only [List.getElem?_toArray]; rfl) (by kernel_rfl) (by kernel_rfl) (by kernel_rfl) (by exact fun _ _ _ h => h) (Or.inl ⟨by rfl, ?yq36⟩) (by assumption) ?rq36
    case yq36 => (intro w hSw; (try dsimp only at hSw); go_simp; try with_reducible rfl)
    try simp only [Act.put, List.setIfInBounds_toArray, List.set_cons_zero, List.set_cons_succ]
    obtain ⟨RM, c1, _⟩ := HC1.out _ BC
    refine wpAnyH_ready (rs := [4, 15]) (by kernel_rfl) (by simp) ?_
    refine AllReadyH.cons (by simp only [List.getElem?_toArray]; rfl) (fun K hK => ?waq37) (AllReadyH.cons (by simp only [List.getElem?_toArray]; rfl) (fun K hK => ?wbq37) AllReadyH.nil)
    case waq37 =>
      go_simp
      refine hK.out _ _ (⟨KeptX.under (BC), HSB.out _ (KeptX.under (BC))⟩) (fun hHeld => ?_)
      clear hK K
      try simp only [Act.put, List.setIfInBounds_toArray, List.set_cons_zero, List.set_cons_succ]
      obtain ⟨RM, _, _⟩ := HC1.out _ BC
      refine wpAnyH_ready (rs := [7, 15]) (by kernel_rfl) (by simp) ?_
      refine AllReadyH.cons (by simp only [List.getElem?_toArray]; rfl) (fun K hK => ?waq38) (AllReadyH.cons (by simp only [List.getElem?_toArray]; rfl) (fun K hK => ?wbq38) AllReadyH.nil)
      case waq38 =>
        go_simp
        refine (put_my' _ _ M at_ RM (by omega) (by omega)).mono ?_
        rintro e w3 ⟨pa, pn, pc, rfl, -, HP, bel3⟩
        have BC3 := BC.trans (bel3.mono BC.size)
        rw [← HM1.out] at HP
        refine hK.out _ _ (⟨KeptX.under (BC3), HSB.out _ (KeptX.under (BC3))⟩) (fun hHeld => ?_)
        clear hK K
        try simp only [Act.put, List.setIfInBounds_toArray, List.set_cons_zero, List.set_cons_succ]
        have BC := BC3
        clear BC3
        refine wpAnyH_ready (rs := [10, 15]) (by kernel_rfl) (by simp) ?_
        refine AllReadyH.cons (by simp only [List.getElem?_toArray]; rfl) (fun K hK => ?waq39) (AllReadyH.cons (by simp only [List.getElem?_toArray]; rfl) (fun K hK => ?wbq39) AllReadyH.nil)
        case waq39 =>
          go_simp
          refine (putText_my' _ _ M1 k (rd_of_own HP.out).2 (by omega) (by omega)).mono ?_
          rintro e w4 ⟨qa, qn, qc, rfl, -, HP, bel4⟩
          have BC4 := BC.trans (bel4.mono BC.size)
          rw [← HM2.out] at HP
          refine hK.out _ _ (⟨KeptX.under (BC4), HSB.out _ (KeptX.under (BC4))⟩) (fun hHeld => ?_)
          clear hK K
          try simp only [Act.put, List.setIfInBounds_toArray, List.set_cons_zero, List.set_cons_succ]
          have BC := BC4
          clear BC4
          refine wpAnyH_ready (rs := [13, 15]) (by kernel_rfl) (by simp) ?_
          refine AllReadyH.cons (by simp only [List.getElem?_toArray]; rfl) (fun K hK => ?waq40) (AllReadyH.cons (by simp only [List.getElem?_toArray]; rfl) (fun K hK => ?wbq40) AllReadyH.nil)
          case waq40 =>
            go_simp
            refine (put_my' _ _ M2 s (rd_of_own HP.out).2 hs (by omega)).mono ?_
            rintro e w5 ⟨ra, rn, rc, rfl, -, HP, bel5⟩
            have BC5 := BC.trans (bel5.mono BC.size)
            rw [← HM3.out] at HP
            replace HP := Lib.hid (own_mono HP.out BC.size)
            refine hK.out _ _ (⟨KeptX.under (BC5), HSB.out _ (KeptX.under (BC5))⟩) (fun hHeld => ?_)
            clear hK K
            try simp only [Act.put, List.setIfInBounds_toArray, List.set_cons_zero, List.set_cons_succ]
            have BC := BC5
            clear BC5
            refine wpAnyH_ready (rs := [15]) (by kernel_rfl) (by simp) ?_
            refine AllReadyH.cons (by simp only [List.getElem?_toArray]; rfl) (fun K hK => ?_) AllReadyH.nil
            go_simp
            refine hK.out _ _ (⟨KeptX.under (BC.alloc BC.size _), HSB.out _ (KeptX.under (BC.alloc BC.size _))⟩) (fun hHeld => ?_)
            clear hK K
            try simp only [Act.put, List.setIfInBounds_toArray, List.set_cons_zero, List.set_cons_succ]
            obtain ⟨Y, hY⟩ : ∃ Y, Y = (w5).alloc (.cells #[.int .u8 1] 5) := ⟨_, rfl⟩
            have HR1 : Rd Y (.slice (some ⟨(w5).heap.size, 0, none⟩) 1 1) [flagB true] := by rw [hY]; exact rd_one _ _ _ rfl _
            have BCY : Below W.heap.size W Y := by rw [hY]; exact BC.alloc BC.size _
            replace HP := Lib.hid (own_below HP.out (by rw [hY]; exact (Below.refl _ _).alloc (Nat.le_refl _) _ : Below _ _ Y))
            rw [← hY]
            obtain ⟨q, hq⟩ : ∃ q, q = (w5).heap.size := ⟨_, rfl⟩
            rw [← hq] at HR1 ⊢
            clear hY hq
            have BC := BCY
            clear BCY
            refine wpAnyH_ready (rs := [16]) (by kernel_rfl) (by simp) ?_
            refine AllReadyH.cons (by simp only [List.getElem?_toArray]; rfl) (fun K hK => ?_) AllReadyH.nil
            refine step_app rfl _ _ rfl W.heap.size _ _ _ M3 [flagB true] rfl rfl HP.out HR1 (by simp; omega) BC.size ?_
            intro za zn zc w6 HZN HZ bel6
            have BC6 : Below W.heap.size W w6 := BC.trans bel6
            obtain ⟨_, c6, f6⟩ := HC1.out _ BC6
            have hzn : 0 < zn := by rw [HZN.out]; simp
            refine hK.out _ _ (⟨KeptX.under BC6, HSB.out _ (KeptX.under BC6)⟩) (fun hHeld => ?_)
            clear hK K
            try simp only [Act.put, List.setIfInBounds_toArray, List.set_cons_zero, List.set_cons_succ]
            refine wpAnyH_take (i := 17) (v := ?vq41) (by simp only [List.getElem?_toArray]; rfl) (by kernel_rfl) (by kernel_rfl) (by kernel_rfl) (by exact fun _ _ _ h => h) (Or.inl ⟨by rfl, ?yq41⟩) (by assumption) ?rq41
            case yq41 => (intro w hSw; (try dsimp only at hSw); go_simp; try with_reducible rfl)
            try simp only [Act.put, List.setIfInBounds_toArray, List.set_cons_zero, List.set_cons_succ]
            refine wpAnyH_take (i := 18) (v := ?vq42) (by simp only [List.getElem?_toArray]; rfl) (by kernel_rfl) (by kernel_rfl) (by kernel_rfl) (by exact fun _ _ _ h => h) (Or.inl ⟨by rfl, ?yq42⟩) (by assumption) ?rq42
            case yq42 => (intro w hSw; (try dsimp only at hSw); go_simp; try with_reducible rfl)
            try simp only [Act.put, List.setIfInBounds_toArray, List.set_cons_zero, List.set_cons_succ]
            refine wpAnyH_ready (rs := [19]) (by kernel_rfl) (by simp) ?_
            refine AllReadyH.cons (by simp only [List.getElem?_toArray]; rfl) (fun K hK => ?_) AllReadyH.nil
            go_simp
            have HKS : KeptX (fun k => k ≠ gF) W (w6.setCell ⟨gF, 1, none⟩ (.slice za zn zc)) := (KeptX.under BC6).trans (KeptX.set _ _ (fun h => h rfl) _)
            refine hK.out _ _ (⟨HKS, HSB.out _ HKS⟩) (fun hHeld => ?_)
            clear hK K
            try simp only [Act.put, List.setIfInBounds_toArray, List.set_cons_zero, List.set_cons_succ]
            refine wpAnyH_done (by kernel_rfl) ?_ _
            rw [HM4.out] at HZ
            have HFF := Lib.hid (HF2.out.newM HZ.out hzn BC6)
            have HKK := Lib.hid (HK2.out.trans (((KeptX.of_below BC6).trans (KeptX.set _ ⟨gF, 1, none⟩ (fun h => h.2 rfl) (.slice za zn zc)))))
            go_wp2_with fail
            go_end0
            exact ⟨rfl, ⟨_, _, _, _, _, _, _, _, _, HFF.out⟩, HKK.out⟩
          case wbq40 =>
            go_simp
            refine hK.out _ _ (⟨KeptX.under (BC.alloc BC.size _), HSB.out _ (KeptX.under (BC.alloc BC.size _))⟩) (fun hHeld => ?_)
            clear hK K
            try simp only [Act.put, List.setIfInBounds_toArray, List.set_cons_zero, List.set_cons_succ]
            obtain ⟨Y, hY⟩ : ∃ Y, Y = (w4).alloc (.cells #[.int .u8 1] 5) := ⟨_, rfl⟩
            have HR1 : Rd Y (.slice (some ⟨(w4).heap.size, 0, none⟩) 1 1) [flagB true] := by rw [hY]; exact rd_one _ _ _ rfl _
            have BCY : Below W.heap.size W Y := by rw [hY]; exact BC.alloc BC.size _
            replace HP := Lib.hid (own_below HP.out (by rw [hY]; exact (Below.refl _ _).alloc (Nat.le_refl _) _ : Below _ _ Y))
            rw [← hY]
            obtain ⟨q, hq⟩ : ∃ q, q = (w4).heap.size := ⟨_, rfl⟩
            rw [← hq] at HR1 ⊢
            clear hY hq
            have BC := BCY
            clear BCY
            refine wpAnyH_ready (rs := [13]) (by kernel_rfl) (by simp) ?_
            refine AllReadyH.cons (by simp only [List.getElem?_toArray]; rfl) (fun K hK => ?_) AllReadyH.nil
            go_simp
            refine (put_my' _ _ M2 s (rd_of_own HP.out).2 hs (by omega)).mono ?_
            rintro e w5 ⟨ra, rn, rc, rfl, -, HP, bel5⟩
            have BC5 := BC.trans (bel5.mono BC.size)
            rw [← HM3.out] at HP
            replace HP := Lib.hid (own_mono HP.out BC.size)
            refine hK.out _ _ (⟨KeptX.under (BC5), HSB.out _ (KeptX.under (BC5))⟩) (fun hHeld => ?_)
            clear hK K
            try simp only [Act.put, List.setIfInBounds_toArray, List.set_cons_zero, List.set_cons_succ]
            have BC := BC5
            have HR1 := HR1.below bel5
            clear BC5
            refine wpAnyH_ready (rs := [16]) (by kernel_rfl) (by simp) ?_
            refine AllReadyH.cons (by simp only [List.getElem?_toArray]; rfl) (fun K hK => ?_) AllReadyH.nil
            refine step_app rfl _ _ rfl W.heap.size _ _ _ M3 [flagB true] rfl rfl HP.out HR1 (by simp; omega) BC.size ?_
            intro za zn zc w6 HZN HZ bel6
            have BC6 : Below W.heap.size W w6 := BC.trans bel6
            obtain ⟨_, c6, f6⟩ := HC1.out _ BC6
            have hzn : 0 < zn := by rw [HZN.out]; simp
            refine hK.out _ _ (⟨KeptX.under BC6, HSB.out _ (KeptX.under BC6)⟩) (fun hHeld => ?_)
            clear hK K
            try simp only [Act.put, List.setIfInBounds_toArray, List.set_cons_zero, List.set_cons_succ]
            refine wpAnyH_take (i := 17) (v := ?vq43) (by simp only [List.getElem?_toArray]; rfl) (by kernel_rfl) (by kernel_rfl) (by kernel_rfl) (by exact fun _ _ _ h => h) (Or.inl ⟨by rfl, ?yq43⟩) (by assumption) ?rq43
            case yq43 => (intro w hSw; (try dsimp only at hSw); go_simp; try with_reducible rfl)
            try simp only [Act.put, List.setIfInBounds_toArray, List.set_cons_zero, List.set_cons_succ]
            refine wpAnyH_take (i := 18) (v := ?vq44) (by simp only [List.getElem?_toArray]; rfl) (by kernel_rfl) (by kernel_rfl) (by kernel_rfl) (by exact fun _ _ _ h => h) (Or.inl ⟨by rfl, ?yq44⟩) (by assumption) ?rq44
            case yq44 => (intro w hSw; (try dsimp only at hSw); go_simp; try with_reducible rfl)
            try simp only [Act.put, List.setIfInBounds_toArray, List.set_cons_zero, List.set_cons_succ]
            refine wpAnyH_ready (rs := [19]) (by kernel_rfl) (by simp) ?_
            refine AllReadyH.cons (by simp only [List.getElem?_toArray]; rfl) (fun K hK => ?_) AllReadyH.nil
            go_simp
            have HKS : KeptX (fun k => k ≠ gF) W (w6.setCell ⟨gF, 1, none⟩ (.slice za zn zc)) := (KeptX.under BC6).trans (KeptX.set _ _ (fun h => h rfl) _)
            refine hK.out _ _ (⟨HKS, HSB.out _ HKS⟩) (fun hHeld => ?_)
            clear hK K
            try simp only [Act.put, List.setIfInBounds_toArray, List.set_cons_zero, List.set_cons_succ]
            refine wpAnyH_done (by kernel_rfl) ?_ _
            rw [HM4.out] at HZ
            have HFF := Lib.hid (HF2.out.newM HZ.out hzn BC6)
            have HKK := Lib.hid (HK2.out.trans (((KeptX.of_below BC6).trans (KeptX.set _ ⟨gF, 1, none⟩ (fun h => h.2 rfl) (.slice za zn zc)))))
            go_wp2_with fail
            go_end0
            exact ⟨rfl, ⟨_, _, _, _, _, _, _, _, _, HFF.out⟩, HKK.out⟩
        case wbq39 =>
          go_simp
          refine hK.out _ _ (⟨KeptX.under (BC.alloc BC.size _), HSB.out _ (KeptX.under (BC.alloc BC.size _))⟩) (fun hHeld => ?_)
          clear hK K
          try simp only [Act.put, List.setIfInBounds_toArray, List.set_cons_zero, List.set_cons_succ]
          obtain ⟨Y, hY⟩ : ∃ Y, Y = (w3).alloc (.cells #[.int .u8 1] 5) := ⟨_, rfl⟩
          have HR1 : Rd Y (.slice (some ⟨(w3).heap.size, 0, none⟩) 1 1) [flagB true] := by rw [hY]; exact rd_one _ _ _ rfl _
          have BCY : Below W.heap.size W Y := by rw [hY]; exact BC.alloc BC.size _
          replace HP := Lib.hid (own_below HP.out (by rw [hY]; exact (Below.refl _ _).alloc (Nat.le_refl _) _ : Below _ _ Y))
          rw [← hY]
          obtain ⟨q, hq⟩ : ∃ q, q = (w3).heap.size := ⟨_, rfl⟩
          rw [← hq] at HR1 ⊢
          clear hY hq
          have BC := BCY
          clear BCY
          refine wpAnyH_ready (rs := [10]) (by kernel_rfl) (by simp) ?_
          refine AllReadyH.cons (by simp only [List.getElem?_toArray]; rfl) (fun K hK => ?_) AllReadyH.nil
          go_simp
          refine (putText_my' _ _ M1 k (rd_of_own HP.out).2 (by omega) (by omega)).mono ?_
          rintro e w4 ⟨qa, qn, qc, rfl, -, HP, bel4⟩
          have BC4 := BC.trans (bel4.mono BC.size)
          rw [← HM2.out] at HP
          refine hK.out _ _ (⟨KeptX.under (BC4), HSB.out _ (KeptX.under (BC4))⟩) (fun hHeld => ?_)
          clear hK K
          try simp only [Act.put, List.setIfInBounds_toArray, List.set_cons_zero, List.set_cons_succ]
          have BC := BC4
          have HR1 := HR1.below bel4
          clear BC4
          refine wpAnyH_ready (rs := [13]) (by kernel_rfl) (by simp) ?_
          refine AllReadyH.cons (by simp only [List.getElem?_toArray]; rfl) (fun K hK => ?_) AllReadyH.nil
          go_simp
          refine (put_my' _ _ M2 s (rd_of_own HP.out).2 hs (by omega)).mono ?_
          rintro e w5 ⟨ra, rn, rc, rfl, -, HP, bel5⟩
          have BC5 := BC.trans (bel5.mono BC.size)
          rw [← HM3.out] at HP
          replace HP := Lib.hid (own_mono HP.out BC.size)
          refine hK.out _ _ (⟨KeptX.under (BC5), HSB.out _ (KeptX.under (BC5))⟩) (fun hHeld => ?_)
          clear hK K
          try simp only [Act.put, List.setIfInBounds_toArray, List.set_cons_zero, List.set_cons_succ]
          have BC := BC5
          have HR1 := HR1.below bel5
          clear BC5
          refine wpAnyH_ready (rs := [16]) (by kernel_rfl) (by simp) ?_
          refine AllReadyH.cons (by simp only [List.getElem?_toArray]; rfl) (fun K hK => ?_) AllReadyH.nil
          refine step_app rfl _ _ rfl W.heap.size _ _ _ M3 [flagB true] rfl rfl HP.out HR1 (by simp; omega) BC.size ?_
          intro za zn zc w6 HZN HZ bel6
          have BC6 : Below W.heap.size W w6 := BC.trans bel6
          obtain ⟨_, c6, f6⟩ := HC1.out _ BC6
          have hzn : 0 < zn := by rw [HZN.out]; simp
          refine hK.out _ _ (⟨KeptX.under BC6, HSB.out _ (KeptX.under BC6)⟩) (fun hHeld => ?_)
          clear hK K
          try simp only [Act.put, List.setIfInBounds_toArray, List.set_cons_zero, List.set_cons_succ]
          refine wpAnyH_take (i := 17) (v := ?vq45) (by simp only [List.getElem?_toArray]; rfl) (by kernel_rfl) (by kernel_rfl) (by kernel_rfl) (by exact fun _ _ _ h => h) (Or.inl ⟨by rfl, ?yq45⟩) (by assumption) ?rq45
          case yq45 => (intro w hSw; (try dsimp only at hSw); go_simp; try with_reducible rfl)
          try simp only [Act.put, List.setIfInBounds_toArray, List.set_cons_zero, List.set_cons_succ]
          refine wpAnyH_take (i := 18) (v := ?vq46) (by simp only [List.getElem?_toArray]; rfl) (by kernel_rfl) (by kernel_rfl) (by kernel_rfl) (by exact fun _ _ _ h => h) (Or.inl ⟨by rfl, ?yq46⟩) (by assumption) ?rq46
          case yq46 => (intro w hSw; (try dsimp only at hSw); go_simp; try with_reducible rfl)
          try simp only [Act.put, List.setIfInBounds_toArray, List.set_cons_zero, List.set_cons_succ]
          refine wpAnyH_ready (rs := [19]) (by kernel_rfl) (by simp) ?_
          refine AllReadyH.cons (by simp only [List.getElem?_toArray]; rfl) (fun K hK => ?_) AllReadyH.nil
          go_simp
          have HKS : KeptX (fun k => k ≠ gF) W (w6.setCell ⟨gF, 1, none⟩ (.slice za zn zc)) := (KeptX.under BC6).trans (KeptX.set _ _ (fun h => h rfl) _)
          refine hK.out _ _ (⟨HKS, HSB.out _ HKS⟩) (fun hHeld => ?_)
          clear hK K
          try simp only [Act.put, List.setIfInBounds_toArray, List.set_cons_zero, List.set_cons_succ]
          refine wpAnyH_done (by kernel_rfl) ?_ _
          rw [HM4.out] at HZ
          have HFF := Lib.hid (HF2.out.newM HZ.out hzn BC6)
          have HKK := Lib.hid (HK2.out.trans (((KeptX.of_below BC6).trans (KeptX.set _ ⟨gF, 1, none⟩ (fun h => h.2 rfl) (.slice za zn zc)))))
          go_wp2_with fail
          go_end0
          exact ⟨rfl, ⟨_, _, _, _, _, _, _, _, _, HFF.out⟩, HKK.out⟩
      case wbq38 =>
        go_simp
        refine hK.out _ _ (⟨KeptX.under (BC.alloc BC.size _), HSB.out _ (KeptX.under (BC.alloc BC.size _))⟩) (fun hHeld => ?_)
        clear hK K
        try simp only [Act.put, List.setIfInBounds_toArray, List.set_cons_zero, List.set_cons_succ]
        obtain ⟨Y, hY⟩ : ∃ Y, Y = (W.alloc (.cells #[.int .u8 1] 5)).drew := ⟨_, rfl⟩
        have HR1 : Rd Y (.slice (some ⟨W.heap.size, 0, none⟩) 1 1) [flagB true] := by rw [hY]; exact rd_one W _ _ rfl _
        have BCY : Below W.heap.size W Y := by rw [hY]; exact ((Below.refl _ _).alloc (Nat.le_refl _) _).drew
        rw [← hY]
        obtain ⟨q, hq⟩ : ∃ q, q = (W).heap.size := ⟨_, rfl⟩
        rw [← hq] at HR1 ⊢
        clear hY hq
        have BC := BCY
        clear BCY
        obtain ⟨RM, _, _⟩ := HC1.out _ BC
        refine wpAnyH_ready (rs := [7]) (by kernel_rfl) (by simp) ?_
        refine AllReadyH.cons (by simp only [List.getElem?_toArray]; rfl) (fun K hK => ?_) AllReadyH.nil
        go_simp
        refine (put_my' _ _ M at_ RM (by omega) (by omega)).mono ?_
        rintro e w3 ⟨pa, pn, pc, rfl, -, HP, bel3⟩
        have BC3 := BC.trans (bel3.mono BC.size)
        rw [← HM1.out] at HP
        refine hK.out _ _ (⟨KeptX.under (BC3), HSB.out _ (KeptX.under (BC3))⟩) (fun hHeld => ?_)
        clear hK K
        try simp only [Act.put, List.setIfInBounds_toArray, List.set_cons_zero, List.set_cons_succ]
        have BC := BC3
        have HR1 := HR1.below bel3
        clear BC3
        refine wpAnyH_ready (rs := [10]) (by kernel_rfl) (by simp) ?_
        refine AllReadyH.cons (by simp only [List.getElem?_toArray]; rfl) (fun K hK => ?_) AllReadyH.nil
        go_simp
        refine (putText_my' _ _ M1 k (rd_of_own HP.out).2 (by omega) (by omega)).mono ?_
        rintro e w4 ⟨qa, qn, qc, rfl, -, HP, bel4⟩
        have BC4 := BC.trans (bel4.mono BC.size)
        rw [← HM2.out] at HP
        refine hK.out _ _ (⟨KeptX.under (BC4), HSB.out _ (KeptX.under (BC4))⟩) (fun hHeld => ?_)
        clear hK K
        try simp only [Act.put, List.setIfInBounds_toArray, List.set_cons_zero, List.set_cons_succ]
        have BC := BC4
        have HR1 := HR1.below bel4
        clear BC4
        refine wpAnyH_ready (rs := [13]) (by kernel_rfl) (by simp) ?_
        refine AllReadyH.cons (by simp only [List.getElem?_toArray]; rfl) (fun K hK => ?_) AllReadyH.nil
        go_simp
        refine (put_my' _ _ M2 s (rd_of_own HP.out).2 hs (by omega)).mono ?_
        rintro e w5 ⟨ra, rn, rc, rfl, -, HP, bel5⟩
        have BC5 := BC.trans (bel5.mono BC.size)
        rw [← HM3.out] at HP
        replace HP := Lib.hid (own_mono HP.out BC.size)
        refine hK.out _ _ (⟨KeptX.under (BC5), HSB.out _ (KeptX.under (BC5))⟩) (fun hHeld => ?_)
        clear hK K
        try simp only [Act.put, List.setIfInBounds_toArray, List.set_cons_zero, List.set_cons_succ]
        have BC := BC5
        have HR1 := HR1.below bel5
        clear BC5
        refine wpAnyH_ready (rs := [16]) (by kernel_rfl) (by simp) ?_
        refine AllReadyH.cons (by simp only [List.getElem?_toArray]; rfl) (fun K hK => ?_) AllReadyH.nil
        refine step_app rfl _ _ rfl W.heap.size _ _ _ M3 [flagB true] rfl rfl HP.out HR1 (by simp; omega) BC.size ?_
        intro za zn zc w6 HZN HZ bel6
        have BC6 : Below W.heap.size W w6 := BC.trans bel6
        obtain ⟨_, c6, f6⟩ := HC1.out _ BC6
        have hzn : 0 < zn := by rw [HZN.out]; simp
        refine hK.out _ _ (⟨KeptX.under BC6, HSB.out _ (KeptX.under BC6)⟩) (fun hHeld => ?_)
        clear hK K
        try simp only [Act.put, List.setIfInBounds_toArray, List.set_cons_zero, List.set_cons_succ]
        refine wpAnyH_take (i := 17) (v := ?vq47) (by simp only [List.getElem?_toArray]; rfl) (by kernel_rfl) (by kernel_rfl) (by kernel_rfl) (by exact fun _ _ _ h => h) (Or.inl ⟨by rfl, ?yq47⟩) (by assumption) ?rq47
        case yq47 => (intro w hSw; (try dsimp only at hSw); go_simp; try with_reducible rfl)
        try simp only [Act.put, List.setIfInBounds_toArray, List.set_cons_zero, List.set_cons_succ]
        refine wpAnyH_take (i := 18) (v := ?vq48) (by simp only [List.getElem?_toArray]; rfl) (by kernel_rfl) (by kernel_rfl) (by kernel_rfl) (by exact fun _ _ _ h => h) (Or.inl ⟨by rfl, ?yq48⟩) (by assumption) ?rq48
        case yq48 => (intro w hSw; (try dsimp only at hSw); go_simp; try with_reducible rfl)
        try simp only [Act.put, List.setIfInBounds_toArray, List.set_cons_zero, List.set_cons_succ]
        refine wpAnyH_ready (rs := [19]) (by kernel_rfl) (by simp) ?_
        refine AllReadyH.cons (by simp only [List.getElem?_toArray]; rfl) (fun K hK => ?_) AllReadyH.nil
        go_simp
        have HKS : KeptX (fun k => k ≠ gF) W (w6.setCell ⟨gF, 1, none⟩ (.slice za zn zc)) := (KeptX.under BC6).trans (KeptX.set _ _ (fun h => h rfl) _)
        refine hK.out _ _ (⟨HKS, HSB.out _ HKS⟩) (fun hHeld => ?_)
        clear hK K
        try simp only [Act.put, List.setIfInBounds_toArray, List.set_cons_zero, List.set_cons_succ]
        refine wpAnyH_done (by kernel_rfl) ?_ _
        rw [HM4.out] at HZ
        have HFF := Lib.hid (HF2.out.newM HZ.out hzn BC6)
        have HKK := Lib.hid (HK2.out.trans (((KeptX.of_below BC6).trans (KeptX.set _ ⟨gF, 1, none⟩ (fun h => h.2 rfl) (.slice za zn zc)))))
        go_wp2_with fail
        go_end0
        exact ⟨rfl, ⟨_, _, _, _, _, _, _, _, _, HFF.out⟩, HKK.out⟩
    case wbq37 =>
      go_simp
      refine hK.out _ _ (⟨KeptX.under (BC.alloc BC.size _), HSB.out _ (KeptX.under (BC.alloc BC.size _))⟩) (fun hHeld => ?_)
      clear hK K
      try simp only [Act.put, List.setIfInBounds_toArray, List.set_cons_zero, List.set_cons_succ]
      obtain ⟨Y, hY⟩ : ∃ Y, Y = (W.alloc (.cells #[.int .u8 1] 5)).drew := ⟨_, rfl⟩
      have HR1 : Rd Y (.slice (some ⟨W.heap.size, 0, none⟩) 1 1) [flagB true] := by rw [hY]; exact rd_one W _ _ rfl _
      have BCY : Below W.heap.size W Y := by rw [hY]; exact ((Below.refl _ _).alloc (Nat.le_refl _) _).drew
      rw [← hY]
      obtain ⟨q, hq⟩ : ∃ q, q = (W).heap.size := ⟨_, rfl⟩
      rw [← hq] at HR1 ⊢
      clear hY hq
      have BC := BCY
      clear BCY
      obtain ⟨RM, c1, _⟩ := HC1.out _ BC
      refine wpAnyH_ready (rs := [4]) (by kernel_rfl) (by simp) ?_
      refine AllReadyH.cons (by simp only [List.getElem?_toArray]; rfl) (fun K hK => ?_) AllReadyH.nil
      go_simp
      refine hK.out _ _ (⟨KeptX.under (BC), HSB.out _ (KeptX.under (BC))⟩) (fun hHeld => ?_)
      clear hK K
      try simp only [Act.put, List.setIfInBounds_toArray, List.set_cons_zero, List.set_cons_succ]
      obtain ⟨RM, _, _⟩ := HC1.out _ BC
      refine wpAnyH_ready (rs := [7]) (by kernel_rfl) (by simp) ?_
      refine AllReadyH.cons (by simp only [List.getElem?_toArray]; rfl) (fun K hK => ?_) AllReadyH.nil
      go_simp
      refine (put_my' _ _ M at_ RM (by omega) (by omega)).mono ?_
      rintro e w3 ⟨pa, pn, pc, rfl, -, HP, bel3⟩
      have BC3 := BC.trans (bel3.mono BC.size)
      rw [← HM1.out] at HP
      refine hK.out _ _ (⟨KeptX.under (BC3), HSB.out _ (KeptX.under (BC3))⟩) (fun hHeld => ?_)
      clear hK K
      try simp only [Act.put, List.setIfInBounds_toArray, List.set_cons_zero, List.set_cons_succ]
      have BC := BC3
      have HR1 := HR1.below bel3
      clear BC3
      refine wpAnyH_ready (rs := [10]) (by kernel_rfl) (by simp) ?_
      refine AllReadyH.cons (by simp only [List.getElem?_toArray]; rfl) (fun K hK => ?_) AllReadyH.nil
      go_simp
      refine (putText_my' _ _ M1 k (rd_of_own HP.out).2 (by omega) (by omega)).mono ?_
      rintro e w4 ⟨qa, qn, qc, rfl, -, HP, bel4⟩
      have BC4 := BC.trans (bel4.mono BC.size)
      rw [← HM2.out] at HP
      refine hK.out _ _ (⟨KeptX.under (BC4), HSB.out _ (KeptX.under (BC4))⟩) (fun hHeld => ?_)
      clear hK K
      try simp only [Act.put, List.setIfInBounds_toArray, List.set_cons_zero, List.set_cons_succ]
      have BC := BC4
      have HR1 := HR1.below bel4
      clear BC4
      refine wpAnyH_ready (rs := [13]) (by kernel_rfl) (by simp) ?_
      refine AllReadyH.cons (by simp only [List.getElem?_toArray]; rfl) (fun K hK => ?_) AllReadyH.nil
      go_simp
      refine (put_my' _ _ M2 s (rd_of_own HP.out).2 hs (by omega)).mono ?_
      rintro e w5 ⟨ra, rn, rc, rfl, -, HP, bel5⟩
      have BC5 := BC.trans (bel5.mono BC.size)
      rw [← HM3.out] at HP
      replace HP := Lib.hid (own_mono HP.out BC.size)
      refine hK.out _ _ (⟨KeptX.under (BC5), HSB.out _ (KeptX.under (BC5))⟩) (fun hHeld => ?_)
      clear hK K
      try simp only [Act.put, List.setIfInBounds_toArray, List.set_cons_zero, List.set_cons_succ]
      have BC := BC5
      have HR1 := HR1.below bel5
      clear BC5
      refine wpAnyH_ready (rs := [16]) (by kernel_rfl) (by simp) ?_
      refine AllReadyH.cons (by simp only [List.getElem?_toArray]; rfl) (fun K hK => ?_) AllReadyH.nil
      refine step_app rfl _ _ rfl W.heap.size _ _ _ M3 [flagB true] rfl rfl HP.out HR1 (by simp; omega) BC.size ?_
      intro za zn zc w6 HZN HZ bel6
      have BC6 : Below W.heap.size W w6 := BC.trans bel6
      obtain ⟨_, c6, f6⟩ := HC1.out _ BC6
      have hzn : 0 < zn := by rw [HZN.out]; simp
      refine hK.out _ _ (⟨KeptX.under BC6, HSB.out _ (KeptX.under BC6)⟩) (fun hHeld => ?_)
      clear hK K
      try simp only [Act.put, List.setIfInBounds_toArray, List.set_cons_zero, List.set_cons_succ]
      refine wpAnyH_take (i := 17) (v := ?vq49) (by simp only [List.getElem?_toArray]; rfl) (by kernel_rfl) (by kernel_rfl) (by kernel_rfl) (by exact fun _ _ _ h => h) (Or.inl ⟨by rfl, ?yq49⟩) (by assumption) ?rq49
      case yq49 => (intro w hSw; (try dsimp only at hSw); go_simp; try with_reducible rfl)
      try simp only [Act.put, List.setIfInBounds_toArray, List.set_cons_zero, List.set_cons_succ]
      refine wpAnyH_take (i := 18) (v := ?vq50) (by simp only [List.getElem?_toArray]; rfl) (by kernel_rfl) (by kernel_rfl) (by kernel_rfl) (by exact fun _ _ _ h => h) (Or.inl ⟨by rfl, ?yq50⟩) (by assumption) ?rq50
      case yq50 => (intro w hSw; (try dsimp only at hSw); go_simp; try with_reducible rfl)
      try simp only [Act.put, List.setIfInBounds_toArray, List.set_cons_zero, List.set_cons_succ]
      refine wpAnyH_ready (rs := [19]) (by kernel_rfl) (by simp) ?_
      refine AllReadyH.cons (by simp only [List.getElem?_toArray]; rfl) (fun K hK => ?_) AllReadyH.nil
      go_simp
      have HKS : KeptX (fun k => k ≠ gF) W (w6.setCell ⟨gF, 1, none⟩ (.slice za zn zc)) := (KeptX.under BC6).trans (KeptX.set _ _ (fun h => h rfl) _)
      refine hK.out _ _ (⟨HKS, HSB.out _ HKS⟩) (fun hHeld => ?_)
      clear hK K
      try simp only [Act.put, List.setIfInBounds_toArray, List.set_cons_zero, List.set_cons_succ]
      refine wpAnyH_done (by kernel_rfl) ?_ _
      rw [HM4.out] at HZ
      have HFF := Lib.hid (HF2.out.newM HZ.out hzn BC6)
      have HKK := Lib.hid (HK2.out.trans (((KeptX.of_below BC6).trans (KeptX.set _ ⟨gF, 1, none⟩ (fun h => h.2 rfl) (.slice za zn zc)))))
      go_wp2_with fail
      go_end0
      exact ⟨rfl, ⟨_, _, _, _, _, _, _, _, _, HFF.out⟩, HKK.out⟩
end Go.Proofs.YtbcnapkbdbefhaaGreatDoor
namespace Go.Proofs.YtbcnapkbdbefhaaGreatDoor
open Go.RowKit
attribute [local go_sem] Oper.semAt_some

set_option maxRecDepth 100000 in
theorem clipB_any (w : World) (a : Option Addr) (n c : Nat) (h : n ≤ c) : Calls Tryz.prog 81 #[.slice a n c] w fun e w' => e = .returned (.slice a n n) ∧ w = w' := by
  go_enter Tryz.func81, Tryz.ntmps81
  go_wp2
  go_ret
  exact ⟨rfl, rfl⟩
theorem own_clip {w : World} {base : Nat} {e : TypeId} {a : Option Addr} {n c : Nat} {xs : List Value} (h : Own w base e 1 (.slice a n c) n xs) : n ≤ c ∧ Own w base e 1 (.slice a n n) n xs := by
  rcases h with ⟨rfl, rfl, b, e⟩ | ⟨h1, g, cap, cur, fr, e, h3, h4, h5, h6, h7, h8, h9⟩
  · simp only [Value.slice.injEq] at e
    obtain ⟨rfl, _, rfl⟩ := e
    exact ⟨Nat.le_refl _, .inl ⟨rfl, rfl, _, rfl⟩⟩
  · simp only [Value.slice.injEq, true_and] at e
    obtain ⟨rfl, rfl⟩ := e
    exact ⟨h6, .inr ⟨h1, g, n, cur, fr, rfl, h3, h4, h5, Nat.le_refl _, Nat.le_trans h6 h7, by omega, h9⟩⟩
/-- what stands behind such a function, where nothing panics -/
def retM (n : Nat) (P : Program) (fn : Func) (R : Ending → World → Prop) : Exit → Act → World → Prop
  | .normal, a, w | .ret, a, w => LeavesInM Fence.wide n P fn a.tmps R a.defers .returning w
  | _, _, _ => False
theorem retM_post {n : Nat} {P : Program} {fn : Func} {R : Ending → World → Prop} {e : Exit} {a : Act} {w : World} (h : retM n P fn R e a w) : bodyPostM Fence.wide n P fn R e a w := by
  cases e <;> first | exact h | exact h.elim
theorem retM_mark {n : Nat} {P : Program} {fn : Func} {R : Ending → World → Prop} {a : Act} {W : World} {D : Nat} {v : Value} (hd : a.defers = [{ target := .collected D, args := #[] }]) (h : W.heap[D]? = some (.deferred (some [])))
    (hr : (results fn a.tmps).run P (W.putObj D (.deferred none)) = .ok v (W.putObj D (.deferred none))) (hR : R (.returned v) (W.putObj D (.deferred none))) : retM n P fn R .ret a W := ret_mark hd h hr hR
theorem retM_none {n : Nat} {P : Program} {fn : Func} {R : Ending → World → Prop} {a : Act} {W : World} {v : Value} (hd : a.defers = []) (hr : (results fn a.tmps).run P W = .ok v W) (hR : R (.returned v) W) : retM n P fn R .ret a W := ret_none hd hr hR
/-- a function whose loop goes over a function is entered -/
theorem calls_marks {P : Program} {f : FuncId} {fn : Func} {c : Code} {args : Array Value} {w : World} {R : Ending → World → Prop} (n : Nat) (hf : P.funcs[f]? = some fn) (hb : fn.body = some c)
    (h : c.wp P (retM n P fn R) { tmps := args ++ Array.replicate (fn.ntmps - args.size) undef, defers := [] } w) : Calls P f args w R :=
  callsIn_wide.1 (callsIn_of_wp_marks hf hb trivial (wpIn_wide.2 (wp_mono h fun _ _ _ => retM_post)) rfl)
theorem rdE_cells {w w' : World} {v : Value} {l : List PE} (h : RdE w v l) (hc : ∀ b i x, w.cell? ⟨b, i, none⟩ = some x → w'.cell? ⟨b, i, none⟩ = some x) : RdE w' v l := by
  obtain ⟨a, cap, h1, h2, h3, h4⟩ := h
  exact ⟨a, cap, h1, h2, h3, fun j hj => let ⟨b, off, e, c0, c1, c2, c3⟩ := h4 j hj; ⟨b, off, e, hc _ _ _ c0, hc _ _ _ c1, hc _ _ _ c2, hc _ _ _ c3⟩⟩
theorem putB_is (w : World) (v : Value) (l : List PE) (hv : RdE w v l) (hs : ∀ x ∈ l, x.s < 18446744073709551616) (hm : mayL (entsOf l) = true) :
    Calls Tryz.prog 75 #[v] w fun e w' => ∃ a n c, e = .returned (.tuple #[.slice a n c, .int .i64 0]) ∧ Hid (n = (blkPut (entsOf l)).length) ∧ Hid (Own w' w.heap.size 5 1 (.slice a n c) n (u8s (blkPut (entsOf l)))) ∧ Below w.heap.size w w' := by
  refine (blocksPut_any w v l hv hs).mono ?_
  rintro e w' ⟨hb, h⟩
  rcases h with ⟨_, a, n, c, h1, h2, h3⟩ | ⟨h, _⟩
  · exact ⟨a, n, c, h1, h2, h3, hb⟩
  · rw [hm] at h; cases h
theorem blk_lt {w : World} {b i : Nat} {x : Value} (h : w.cell? ⟨b, i, none⟩ = some x) : b < w.heap.size := by
  obtain ⟨o, h1, _⟩ := cells_of_cell h
  exact (Array.getElem?_eq_some_iff.1 h1).1
theorem KeptX.cells {X : Nat → Prop} {w w' : World} (h : KeptX X w w') (b i : Nat) (x : Value) (hb : X b) (hx : w.cell? ⟨b, i, none⟩ = some x) : w'.cell? ⟨b, i, none⟩ = some x := by
  rw [World.cell?_of_block (h.block b (blk_lt hx) hb)]; exact hx
theorem ba_ext {a b : ByteArray} (h : a.toList = b.toList) : a = b := by rw [Lib.toList_data, Lib.toList_data] at h; rw [← bs_of a, h, bs_of]
theorem bs_inj2 {a b : ByteArray} (h : a.data.toList = b.data.toList) : a = b := by rw [← bs_of a, h, bs_of]
theorem rd_nil' (w : World) : Rd w (.slice none 0 0) [] := ⟨none, 0, rfl, by simp, by omega, fun j hj => absurd hj (by simp)⟩
def footV (a b c : Nat) : Nat → Nat
  | 0 => a
  | 1 => b
  | _ => c
def footB (a b c : Nat) : Nat → List UInt8
  | 0 => []
  | j + 1 => footB a b c j ++ four (footV a b c j)
theorem footB_len (a b c j : Nat) : (footB a b c j).length = 4 * j := by
  induction j with
  | zero => rfl
  | succ j ih => rw [footB, List.length_append, ih, four_len]; omega
theorem putFour_my' (w : World) (v : Value) (l : List UInt8) (n : Nat) (hv : Rd w v l) (hn : n < 4294967296) (hl : l.length ≤ 137438953472) :
    Calls Tryz.prog 80 #[v, .int .u32 n] w (RetMy (l ++ four n) w) := (putFour_any w v l n hv hn hl).mono fun _ _ h => my_of_own h
/-- bytes that are new, all of them -/
theorem FileSt.newB {base gF many : Nat} {M B : List UInt8} {K : List ByteArray} {w w' : World} {ma : Option Addr} {mn mc : Nat} {ba : Option Addr} {bn bc : Nat} {ka : Option Addr} {kn kc : Nat} (h : FileSt base gF many M B K w ma mn mc ba bn bc ka kn kc) {q : List UInt8} {ua : Option Addr} {un uc : Nat} (hX : Own w' w.heap.size 5 1 (.slice ua un uc) un (u8s q)) (hun : 0 < un)
    (hb : Below w.heap.size w w') : FileSt base gF many M q K (w'.setCell ⟨gF, 2, none⟩ (.slice ua un uc)) ma mn mc ua un uc ka kn kc := by
  have hO := Only.set w' gF 2 (.slice ua un uc)
  have h' := h.later hb
  have new : ∀ v : Value, Apart w v (.slice ba bn bc) → Apart w' v (.slice ua un uc) := fun v hv k hk => ⟨Nat.lt_of_lt_of_le (hv k hk).1 hb.size, fun e => by
    have h1 := (hv k hk).1
    have h2 := (own_lt hX hun k e).1
    omega⟩
  have hX' := own_mono hX h.sz
  have h1 := new _ h.mb
  have h2 := new _ h.kb
  exact ⟨h'.f.set 2 _, own_other h'.om hO h.gf, own_other hX' hO h.gf, own_other h'.ok hO h.gf, h1.later hO.size, h'.mq.later hO.size, (h1.comm hX' hun).later hO.size, (h2.comm hX' hun).later hO.size, h'.km.later hO.size, h2.later hO.size, h.gf,
    Nat.le_trans h'.sz hO.size⟩
def RetSP (E : List Ent) (w : World) (e : Ending) (w' : World) : Prop :=
  ∃ a n c, e = .returned (.tuple #[.slice a n c, .int .i64 (errS E : Nat)]) ∧ Hid (n = (outS E).length) ∧ Hid (Own w' w.heap.size 5 1 (.slice a n c) n (u8s (outS E))) ∧ Below w.heap.size w w'
/-- what stands between two rounds -/
structure PutI (E : List Ent) (base gP gF : Nat) (w : World) (K : List ByteArray) (k : Nat) (W : World) : Prop where
  file : FileAt base gF k (marksN E k) (framesN E k) K W
  ptr : Blk W gP #[.pointer (some ⟨gF, 0, none⟩)] 74
  bel : Below w.heap.size w W
/-- .. while the keys are put -/
structure KeyI (l : List PE) (base gP gF : Nat) (w : World) (nb : Nat) (M B : List UInt8) (k : Nat) (W : World) : Prop where
  file : FileAt base gF nb M B ((keysN (entsOf l) k).map bs) W
  ptr : Blk W gP #[.pointer (some ⟨gF, 0, none⟩)] 74
  bel : Below w.heap.size w W
theorem FileAt.kept {X : Nat → Prop} {base gF many : Nat} {M B : List UInt8} {K : List ByteArray} {w w' : World} (h : FileAt base gF many M B K w) (hX : ∀ k, k = gF ∨ base ≤ k → X k) (hk : KeptX X w w') : FileAt base gF many M B K w' := by
  obtain ⟨ma, mn, mc, ba, bn, bc, ka, kn, kc, h⟩ := h
  exact ⟨ma, mn, mc, ba, bn, bc, ka, kn, kc, h.kept hX hk⟩
theorem PutI.later {E : List Ent} {base gP gF : Nat} {w : World} {K : List ByteArray} {k : Nat} {A B : World} (h : PutI E base gP gF w K k A) (hb : Below A.heap.size A B) : PutI E base gP gF w K k B :=
  ⟨h.file.kept (X := fun _ => True) (fun _ _ => trivial) (KeptX.of_below hb), h.ptr.below hb, h.bel.trans (hb.mono h.bel.size)⟩
theorem PutI.put {E : List Ent} {base gP gF : Nat} {w : World} {K : List ByteArray} {k : Nat} {A : World} (h : PutI E base gP gF w K k A) {q : Nat} (o : Obj) (h1 : gF < q) (h2 : gP < q) (h3 : q < base) (h4 : w.heap.size ≤ q) : PutI E base gP gF w K k (A.putObj q o) := by
  have hk : KeptX (fun k => k ≠ q) A (A.putObj q o) := KeptX.put A q (fun h => h rfl) o
  exact ⟨h.file.kept (fun k hk => by omega) hk, hk.blk (by omega) h.ptr, h.bel.trans (hk.below (fun k hk => by omega) h.bel.size)⟩
set_option maxRecDepth 100000 in
set_option maxHeartbeats 4000000 in
theorem sortedPut_any (w : World) (v : Value) (l : List PE) (hv : RdE w v l) (hs : ∀ x ∈ l, x.s < 18446744073709551616) (hl : l.length ≤ 1000000) : Calls Tryz.prog 19 #[v] w (RetSP (entsOf l) w) := by
  have HV := Lib.hid hv
  have HS := Lib.hid hs
  have HM := sortedMay_any w v l hv hl
  obtain ⟨va, vc, rfl, h1, h2, h3⟩ := hv
  clear h3 hs
  obtain ⟨vn, hvn⟩ : ∃ n, n = l.length := ⟨_, rfl⟩
  have HVN := Lib.hid hvn
  rw [← hvn] at h1 HV hl HM ⊢
  clear hvn
  have hEn : (entsOf l).length = vn := by rw [entsOf_length]; exact HVN.out.symm
  refine calls_marks 9 Tryz.func19 rfl ?_
  simp only [Tryz.ntmps19, List.size_toArray, List.length_cons, List.length_nil, Nat.reduceAdd, Nat.reduceSub, Array.replicate_succ, Array.replicate_zero, List.push_toArray, List.append_toArray, List.nil_append, List.cons_append]
  cases hm : mayS (entsOf l)
  · rw [hm] at HM
    have HM' := Lib.hid HM
    have HE : Hid (errS (entsOf l) = 1) := errS_arg hm
    clear HM hm hEn
    go_wp2_with fail
    refine HM'.out.mono ?_
    rintro e w2 ⟨rfl, bel2⟩
    go_wp2_with fail
    refine retM_none rfl (results_tmp2 rfl _ _ _) ?_
    exact ⟨none, 0, 0, by rw [HE.out]; rfl, by rw [outS_no (by rw [HE.out]; decide)]; rfl, by rw [outS_no (by rw [HE.out]; decide)]; exact own_none _ _ _ _, bel2⟩
  rw [hm] at HM
  have HM' := Lib.hid HM
  by_cases hmax : 4096 < vn
  · have HE : Hid (errS (entsOf l) = 3) := errS_limit hm (by omega)
    clear HM hm hEn
    go_wp2_with fail
    refine HM'.out.mono ?_
    rintro e w2 ⟨rfl, bel2⟩
    go_wp2_with fail
    refine retM_none rfl (results_tmp2 rfl _ _ _) ?_
    exact ⟨none, 0, 0, by rw [HE.out]; rfl, by rw [outS_no (by rw [HE.out]; decide)]; rfl, by rw [outS_no (by rw [HE.out]; decide)]; exact own_none _ _ _ _, bel2⟩
  have HE : Hid (errS (entsOf l) = 0) := errS_ok hm (by omega)
  have hmn : vn ≤ 4096 := by omega
  have HMM := Lib.hid hm
  clear HM hm hmax hl
  go_wp2_with fail
  refine HM'.out.mono ?_
  rintro e w2 ⟨rfl, bel2⟩
  have HB2 := Lib.hid bel2
  clear HM' bel2
  go_upto_region 6 with (fail)
  obtain ⟨gF, hgF⟩ : ∃ g, g = w2.heap.size := ⟨_, rfl⟩
  obtain ⟨w3, hw3⟩ : ∃ x, x = (w2.alloc (.cells #[.int .i64 0, .slice none 0 0, .slice none 0 0, .slice none 0 0] 79)).alloc (.cells #[.pointer (some ⟨w2.heap.size, 0, none⟩)] 74) := ⟨_, rfl⟩
  have hF3 : Blk w3 gF #[.int .i64 0, .slice none 0 0, .slice none 0 0, .slice none 0 0] 79 := by rw [hw3, hgF]; exact (Blk.new _ _ _).alloc _
  have hP3 : Blk w3 (gF + 1) #[.pointer (some ⟨gF, 0, none⟩)] 74 := by rw [hw3, hgF]; exact Blk.new_at _ _ _ _ (by simp)
  have hb3 : Below w2.heap.size w2 w3 := by rw [hw3]; exact ((Below.refl _ _).alloc (Nat.le_refl _) _).alloc (by simp) _
  have hsz3 : w3.heap.size = gF + 2 := by rw [hw3, hgF]; simp
  have hgw : w.heap.size ≤ gF := by rw [hgF]; exact HB2.out.size
  rw [← hw3, ← hgF]
  have HB3 := Lib.hid (HB2.out.trans (hb3.mono HB2.out.size))
  have HF3 := Lib.hid hF3
  have HP3 := Lib.hid hP3
  clear hw3 hgF hb3 hF3 hP3 HB2
  go_wp2_with (go_at_call 74; refine (chunk_any _ _ rfl).mono ?_; rintro e w4 ⟨rfl, rfl⟩)
  obtain ⟨w4, hw4⟩ : ∃ x, x = (w3.alloc (.cells #[.slice va vn vc] 29)).alloc (.cells #[.int .i64 16] 3) := ⟨_, rfl⟩
  have hsz4 : w4.heap.size = gF + 4 := by rw [hw4]; simp [hsz3]
  have hS4 : Blk w4 w3.heap.size #[.slice va vn vc] 29 := by rw [hw4]; exact (Blk.new _ _ _).alloc _
  have hN4 : Blk w4 (w3.heap.size + 1) #[.int .i64 16] 3 := by rw [hw4]; exact Blk.new_at _ _ _ _ (by simp)
  have hb4 : Below w3.heap.size w3 w4 := by rw [hw4]; exact ((Below.refl _ _).alloc (Nat.le_refl _) _).alloc (by simp) _
  have HF4 := Lib.hid (HF3.out.below hb4)
  have HP4 := Lib.hid (HP3.out.below hb4)
  have HB4 := Lib.hid (HB3.out.trans (hb4.mono HB3.out.size))
  rw [hsz3] at hS4 hN4
  rw [← hw4]
  have HS4 := Lib.hid hS4
  have HN4 := Lib.hid hN4
  clear hb4 hw4 hS4 hN4 HF3 HP3 HB3 hsz3
  refine wpIn_wide (n := 9).1 ?_
  refine wp_range (α := Value × List PE) 9 (gf := 127) (lb := #[.pointer (some ⟨gF + 2, 0, none⟩), .pointer (some ⟨gF + 3, 0, none⟩)]) rfl (enters_of Tryz.func127 (by kernel_rfl) rfl)
    (fun x => #[x.1]) (fun _ => rfl) gF (by omega) (fun pre W => PutI (entsOf l) (gF + 6) (gF + 1) gF w [] pre.length W) ?h0
    (fun s W q o hI ho hq => hI.put o (by omega) (by omega) (by omega) (by omega)) (ChOk (.slice va vn vc) l) (fun s x W q o hI ho hq => ?hOo)
    (fun A B => Below A.heap.size A B) (fun s A B hI hz => hI.later hz) (fun A B k hz _ hk => hz.block k hk) (ChAll l) ?hit ?a1 ?assign ?body ?done
  case assign =>
    intro q x W K hK
    gi_wp2
    exact hK
  case h0 =>
    intro o o'
    have hb : Below w4.heap.size w4 ((w4.alloc o).alloc o') := ((Below.refl _ w4).alloc (Nat.le_refl _) _).alloc (by simp) _
    exact ⟨⟨none, 0, 0, none, 0, 0, none, 0, 0, HF4.out.below hb, own_none _ _ _ _, own_none _ _ _ _, own_none _ _ _ _, Apart.none _ _, Apart.none _ _, Apart.none _ _, Apart.none _ _, Apart.none _ _, Apart.none _ _, by omega, by simp [hsz4]⟩, HP4.out.below hb, HB4.out.trans (hb.mono HB4.out.size)⟩
  case hOo => exact ⟨rdE_cells hI.1 (let ⟨o', h1, h2⟩ := ho; put_cells h1 h2), hI.2⟩
  case hit =>
    intro q J W1 hJI hJZ hY hb hJ
    exact chunk1_any (9 - 1) q w4.heap.size (gF + 2) (gF + 3) gF l (.slice va vn vc) J ⟨by omega, by omega, by omega, by omega⟩ (by have := HVN.out; omega) (fun s A h => HV.out.below (hJI s A h).bel) hJZ hY W1 va vc (by rw [HVN.out]) (HS4.out.below hb) (HN4.out.below hb) hJ
  case body =>
    rintro q pre x W hWs hI hOk
    obtain ⟨xv, xl⟩ := x
    obtain ⟨hx1, ⟨hx2, hx3⟩, hx4⟩ := hOk
    simp only at hx1 hx2 hx4
    have hxw := hx4 w HV.out
    obtain ⟨k, hk⟩ : ∃ k, k = pre.length := ⟨_, rfl⟩
    have HK := Lib.hid hk
    rw [← hk] at hI hx2 hx3
    have hvn := HVN.out
    have hkn : k < nBlk (entsOf l) := by unfold nBlk; omega
    have hxe : entsOf xl = blkN (entsOf l) k := by rw [hx2]; unfold entsOf blkN; rw [List.map_take, List.map_drop]
    have hml : mayL (entsOf xl) = true := by rw [hxe]; exact blkN_may HMM.out k hkn
    have hxs : ∀ y ∈ xl, y.s < 18446744073709551616 := fun y hy => HS.out y (by rw [hx2] at hy; exact List.mem_of_mem_drop (List.mem_of_mem_take hy))
    have hP := putB_is W xv xl hx1 hxs hml
    rw [hxe] at hP
    have HP := Lib.hid hP
    have hxn : xl.length = min 16 (vn - 16 * k) := by rw [hx2, List.length_take, List.length_drop, ← hvn]
    obtain ⟨p, hp⟩ : ∃ p, p + 1 = xl.length := ⟨xl.length - 1, by omega⟩
    have hp16 : p < 16 := by omega
    obtain ⟨xa, xc, hxv, g1, g2, g3⟩ := hxw
    obtain ⟨b3, off3, hxa, c0, c1, c2, c3⟩ := g3 p (by omega)
    have hlast : atE (entsOf l) (min (16 * (k + 1)) vn - 1) = xl[p].ent := by
      rw [← entsOf_at xl p (by omega), hxe, blkN_at (entsOf l) k p (by rw [← hxe, entsOf_length]; omega)]
      congr 1
      omega
    obtain ⟨y, hy⟩ : ∃ y, y = xl[p] := ⟨_, rfl⟩
    rw [← hy] at c0 c1 c2 hlast
    have hys : y.s < 18446744073709551616 := by rw [hy]; exact hxs _ (List.getElem_mem _)
    have hyk : y.k.size ≤ 32 := by
      have := key_small HMM.out (min (16 * (k + 1)) vn - 1) (by omega)
      rw [hlast] at this
      have e : y.ent.key.length = y.k.size := size_data y.k
      omega
    obtain ⟨yk, ys, yg, yu⟩ := y
    simp only at c0 c1 c2 hys hyk
    rw [← hp] at hxv g1
    subst hxv
    subst hxa
    dsimp only
    obtain ⟨bs_, hbs⟩ : ∃ z, z = blkPut (blkN (entsOf l) k) := ⟨_, rfl⟩
    have hbl : bs_.length ≤ 65536 := by rw [hbs]; exact blkN_small HMM.out k hkn
    have HBS := Lib.hid hbs
    rw [← hbs] at HP
    obtain ⟨B, hB⟩ : ∃ z, z = framesN (entsOf l) k := ⟨_, rfl⟩
    obtain ⟨M, hM⟩ : ∃ z, z = marksN (entsOf l) k := ⟨_, rfl⟩
    have hBl : B.length ≤ 16779264 := by rw [hB]; have := framesN_small HMM.out k (Nat.le_of_lt hkn); have := nBlk_le (E := entsOf l) (by omega); omega
    have hMl : M.length ≤ 20480 := by rw [hM]; have := marksN_small HMM.out k (Nat.le_of_lt hkn); have := nBlk_le (E := entsOf l) (by omega); omega
    have hk256 : k < 256 := by have := nBlk_le (E := entsOf l) (by omega); omega
    have HNX : Hid (framesN (entsOf l) (k + 1) = B ++ fput bs_ ∧ marksN (entsOf l) (k + 1) = M ++ (vint B.length ++ ((vint yk.size ++ yk.data.toList) ++ (vint ys ++ [flagB yg])))) := by
      refine ⟨by rw [framesN, hB, hbs], ?_⟩
      rw [marksN, hEn, hlast, hM, hB]
      have e : yk.data.toList.length = yk.size := size_data yk
      simp only [markB, tput, PE.ent, entOf, e]
    have HI0 : Hid (FileAt (gF + 6) gF k M B [] W ∧ Blk W (gF + 1) #[.pointer (some ⟨gF, 0, none⟩)] 74 ∧ Below w.heap.size w W) := by rw [hM, hB]; exact ⟨hI.file, hI.ptr, hI.bel⟩
    clear hI hx1 hx2 hx3 hx4 hxs hml hxe hP hlast hy hbs hB hM hkn g1 g2 g3 c3 hvn hk hxn hp
    gi_upto_region 9 with (refine ⟨trivial, ?_⟩; gi_at_call 75; refine (CallsIn.inRound q (callsIn_wide.2 HP.out)).mono ?_; rintro e w5 ⟨ra, rn, rc, rfl, HRN, HRO, bel5⟩)
    have HI5 : Hid (FileAt (gF + 6) gF k M B [] w5 ∧ Blk w5 (gF + 1) #[.pointer (some ⟨gF, 0, none⟩)] 74 ∧ Below w.heap.size w w5) :=
      ⟨HI0.out.1.kept (X := fun _ => True) (fun _ _ => trivial) (KeptX.of_below bel5), HI0.out.2.1.below bel5, HI0.out.2.2.trans (bel5.mono HI0.out.2.2.size)⟩
    have HKW : Hid (KeptX (fun k => k < gF + 6 ∧ k ≠ gF) W w5) := KeptX.of_below bel5
    have hbw := HI5.out.2.2
    have hp5 : w5.cell? ⟨gF + 1, 0, none⟩ = some (.pointer (some ⟨gF, 0, none⟩)) := HI5.out.2.1.cellv 0 _ rfl
    have hb3 : b3 < w.heap.size := blk_lt c0
    replace c0 := Below.keeps hbw _ _ _ c0
    replace c1 := Below.keeps hbw _ _ _ c1
    replace c2 := Below.keeps hbw _ _ _ c2
    have HSB : Hid (∀ w', KeptX (fun k => k < gF + 6 ∧ k ≠ gF) w5 w' → w'.cell? ⟨gF + 1, 0, none⟩ = some (.pointer (some ⟨gF, 0, none⟩)) ∧ w'.cell? ⟨b3, off3 + p * 4, none⟩ = some (.string yk) ∧ w'.cell? ⟨b3, off3 + p * 4 + 1, none⟩ = some (.int .u64 ys) ∧ w'.cell? ⟨b3, off3 + p * 4 + 2, none⟩ = some (.bool yg)) := fun w' hw =>
      ⟨hw.cells _ _ _ (by omega) hp5, hw.cells _ _ _ (by omega) c0, hw.cells _ _ _ (by omega) c1, hw.cells _ _ _ (by omega) c2⟩
    have hwp : IntKind.i64.wrap (p : Int) = (p : Int) := IntWalk.i64_in _ (by omega)
    have hpi : (p : Int) < (p : Int) + 1 := by omega
    clear HI0 bel5 hbw hp5 hb3 c0 c1 c2
    refine region_round_held (S := fun w' => KeptX (fun k => k < gF + 6 ∧ k ≠ gF) w5 w' ∧ w'.cell? ⟨gF + 1, 0, none⟩ = some (.pointer (some ⟨gF, 0, none⟩)) ∧ w'.cell? ⟨b3, off3 + p * 4, none⟩ = some (.string yk) ∧ w'.cell? ⟨b3, off3 + p * 4 + 1, none⟩ = some (.int .u64 ys) ∧ w'.cell? ⟨b3, off3 + p * 4 + 2, none⟩ = some (.bool yg)) (by kernel_rfl) (by rintro ⟨_, _, h⟩; exact h) (by kernel_rfl) ⟨KeptX.of_below (Below.refl _ _).drew, HSB.out _ (KeptX.of_below (Below.refl _ _).drew)⟩ (fun hHeld => ?_)
    have HKD : Hid (KeptX (fun k => k < gF + 6 ∧ k ≠ gF) w5 w5.drew) := KeptX.of_below (Below.refl _ _).drew
    refine wpAnyH_take (i := 0) (v := ?vq1) (by simp only [List.getElem?_toArray]; rfl) (by kernel_rfl) (by kernel_rfl) (by kernel_rfl) (by exact fun _ _ _ h => h) (Or.inl ⟨by rfl, ?yq1⟩) (by assumption) ?rq1
    case yq1 => (intro w hSw; (try dsimp only at hSw); go_simp; try with_reducible rfl)
    try simp only [Act.put, List.setIfInBounds_toArray, List.set_cons_zero, List.set_cons_succ]
    refine wpAnyH_take (i := 1) (v := ?vq2) (by simp only [List.getElem?_toArray]; rfl) (by kernel_rfl) (by kernel_rfl) (by kernel_rfl) (by exact fun _ _ _ h => h) (Or.inl ⟨by rfl, ?yq2⟩) (by assumption) ?rq2
    case yq2 => (intro w hSw; (try dsimp only at hSw); go_simp; try with_reducible rfl)
    try simp only [Act.put, List.setIfInBounds_toArray, List.set_cons_zero, List.set_cons_succ]
    refine wpAnyH_take (i := 2) (v := ?vq3) (by simp only [List.getElem?_toArray]; rfl) (by kernel_rfl) (by kernel_rfl) (by kernel_rfl) (by exact fun _ _ _ h => h) (Or.inl ⟨by rfl, ?yq3⟩) (by assumption) ?rq3
    case yq3 => (intro w hSw; (try dsimp only at hSw); go_simp; try with_reducible rfl)
    try simp only [Act.put, List.setIfInBounds_toArray, List.set_cons_zero, List.set_cons_succ]
    refine wpAnyH_take (i := 3) (v := ?vq4) (by simp only [List.getElem?_toArray]; rfl) (by kernel_rfl) (by kernel_rfl) (by kernel_rfl) (by exact fun _ _ _ h => h) (Or.inl ⟨by rfl, ?yq4⟩) (by assumption) ?rq4
    case yq4 => (intro w hSw; (try dsimp only at hSw); go_simp; try with_reducible rfl)
    try simp only [Act.put, List.setIfInBounds_toArray, List.set_cons_zero, List.set_cons_succ]
    refine wpAnyH_take (i := 4) (v := ?vq5) (by simp only [List.getElem?_toArray]; rfl) (by kernel_rfl) (by kernel_rfl) (by kernel_rfl) (by exact fun _ _ _ h => h) (Or.inl ⟨by rfl, ?yq5⟩) (by assumption) ?rq5
    case yq5 => (intro w hSw; (try dsimp only at hSw); go_simp; try with_reducible rfl)
    try simp only [Act.put, List.setIfInBounds_toArray, List.set_cons_zero, List.set_cons_succ]
    refine wpAnyH_take (i := 6) (v := ?vq6) (by simp only [List.getElem?_toArray]; rfl) (by kernel_rfl) (by kernel_rfl) (by kernel_rfl) (by exact fun _ _ _ h => h) (Or.inl ⟨by rfl, ?yq6⟩) (by assumption) ?rq6
    case yq6 => (intro w hSw; (try dsimp only at hSw); go_simp; try with_reducible rfl)
    try simp only [Act.put, List.setIfInBounds_toArray, List.set_cons_zero, List.set_cons_succ]
    refine wpAnyH_take (i := 7) (v := ?vq7) (by simp only [List.getElem?_toArray]; rfl) (by kernel_rfl) (by kernel_rfl) (by kernel_rfl) (by exact fun _ _ _ h => h) (Or.inl ⟨by rfl, ?yq7⟩) (by assumption) ?rq7
    case yq7 => (intro w hSw; (try dsimp only at hSw); go_simp; try with_reducible rfl)
    try simp only [Act.put, List.setIfInBounds_toArray, List.set_cons_zero, List.set_cons_succ]
    refine wpAnyH_take (i := 8) (v := ?vq8) (by simp only [List.getElem?_toArray]; rfl) (by kernel_rfl) (by kernel_rfl) (by kernel_rfl) (by exact fun _ _ _ h => h) (Or.inl ⟨by rfl, ?yq8⟩) (by assumption) ?rq8
    case yq8 => (intro w hSw; (try dsimp only at hSw); go_simp; try with_reducible rfl)
    try simp only [Act.put, List.setIfInBounds_toArray, List.set_cons_zero, List.set_cons_succ]
    refine wpAnyH_take (i := 9) (v := ?vq9) (by simp only [List.getElem?_toArray]; rfl) (by kernel_rfl) (by kernel_rfl) (by kernel_rfl) (by exact fun _ _ _ h => h) (Or.inl ⟨by rfl, ?yq9⟩) (by assumption) ?rq9
    case yq9 => (intro w hSw; (try dsimp only at hSw); go_simp; try with_reducible rfl)
    try simp only [Act.put, List.setIfInBounds_toArray, List.set_cons_zero, List.set_cons_succ]
    refine wpAnyH_take (i := 10) (v := ?vq10) (by simp only [List.getElem?_toArray]; rfl) (by kernel_rfl) (by kernel_rfl) (by kernel_rfl) (by exact fun _ _ _ h => h) (Or.inl ⟨by rfl, ?yq10⟩) (by assumption) ?rq10
    case yq10 => (intro w hSw; (try dsimp only at hSw); go_simp; try with_reducible rfl)
    try simp only [Act.put, List.setIfInBounds_toArray, List.set_cons_zero, List.set_cons_succ]
    refine wpAnyH_take (i := 11) (v := ?vq11) (by simp only [List.getElem?_toArray]; rfl) (by kernel_rfl) (by kernel_rfl) (by kernel_rfl) (by exact fun _ _ _ h => h) (Or.inl ⟨by rfl, ?yq11⟩) (by assumption) ?rq11
    case yq11 => (intro w hSw; (try dsimp only at hSw); go_simp; try with_reducible rfl)
    try simp only [Act.put, List.setIfInBounds_toArray, List.set_cons_zero, List.set_cons_succ]
    refine wpAnyH_take (i := 12) (v := ?vq12) (by simp only [List.getElem?_toArray]; rfl) (by kernel_rfl) (by kernel_rfl) (by kernel_rfl) (by exact fun _ _ _ h => h) (Or.inl ⟨by rfl, ?yq12⟩) (by assumption) ?rq12
    case yq12 => (intro w hSw; (try dsimp only at hSw); go_simp; try with_reducible rfl)
    try simp only [Act.put, List.setIfInBounds_toArray, List.set_cons_zero, List.set_cons_succ]
    refine wpAnyH_ready (rs := [5]) (by kernel_rfl) (by simp) ?_
    refine AllReadyH.cons (by simp only [List.getElem?_toArray]; rfl) (fun K hK => ?_) AllReadyH.nil
    go_simp
    refine (frame_any _ (gF + 6) gF k M B [] _ bs_ (HI5.out.1.kept (X := fun _ => True) (fun _ _ => trivial) (KeptX.of_below (Below.refl _ _).drew)) (rd_of_own (own_below HRO.out (Below.refl _ _).drew)).2 hbl (by omega)).mono ?_
    rintro e w6 ⟨rfl, HF6, hk6, -⟩
    have HK6 := Lib.hid (HKD.out.trans hk6)
    clear hk6
    refine hK.out _ _ (⟨HK6.out, HSB.out _ HK6.out⟩) (fun hHeld => ?_)
    clear hK K
    try simp only [Act.put, List.setIfInBounds_toArray, List.set_cons_zero, List.set_cons_succ]
    refine wpAnyH_ready (rs := [13]) (by kernel_rfl) (by simp) ?_
    refine AllReadyH.cons (by simp only [List.getElem?_toArray]; rfl) (fun K hK => ?_) AllReadyH.nil
    go_simp
    refine (add_any _ (gF + 6) gF k B.length M (B ++ fput bs_) [] yk ys yg HF6 (by omega) (by omega) (by omega) hys (by omega)).mono ?_
    rintro e w7 ⟨rfl, HF7, hk7⟩
    have HK7 := Lib.hid (HK6.out.trans hk7)
    clear hk7
    refine hK.out _ _ (⟨HK7.out, HSB.out _ HK7.out⟩) (fun hHeld => ?_)
    clear hK K
    try simp only [Act.put, List.setIfInBounds_toArray, List.set_cons_zero, List.set_cons_succ]
    refine wpAnyH_done (by kernel_rfl) ?_ _
    rw [← HNX.out.1, ← HNX.out.2] at HF7
    show _ ∧ _
    refine ⟨⟨?_, HK7.out.blk (by omega) HI5.out.2.1, HI5.out.2.2.trans (HK7.out.below (fun k hk => by omega) HI5.out.2.2.size)⟩, (HKW.out.trans HK7.out).mono fun k h => ⟨by omega, h.2⟩⟩
    rw [List.length_append, List.length_singleton, ← HK.out]
    exact HF7
  case done =>
    intro xs W hS hI hD
    rw [hsz4] at hD
    have hxs : xs.length = nBlk (entsOf l) := by obtain ⟨a1, a2⟩ := hS; unfold nBlk; rw [entsOf_length]; omega
    rw [hxs] at hI
    obtain ⟨nb, hnb⟩ : ∃ z, z = nBlk (entsOf l) := ⟨_, rfl⟩
    have hnb2 : nb ≤ 256 := by rw [hnb]; exact nBlk_le (by omega)
    obtain ⟨B, hB⟩ : ∃ z, z = framesN (entsOf l) nb := ⟨_, rfl⟩
    obtain ⟨M, hM⟩ : ∃ z, z = marksN (entsOf l) nb := ⟨_, rfl⟩
    have hBl : B.length ≤ 16779264 := by rw [hB]; have := framesN_small HMM.out nb (by omega); omega
    have hMl : M.length ≤ 20480 := by rw [hM]; have := marksN_small HMM.out nb (by omega); omega
    rw [← hnb] at hI
    have HI : Hid (KeyI l (gF + 6) (gF + 1) gF w nb M B 0 W ∧ W.heap[gF + 4]? = some (.deferred (some []))) := by rw [hM, hB]; exact ⟨⟨hI.file, hI.ptr, hI.bel⟩, hD⟩
    have HNB := Lib.hid hnb
    have HBE := Lib.hid hB
    have HME := Lib.hid hM
    clear hS hI hD hxs hnb hB hM HF4 HP4 HB4 HS4 HN4
    have HSZ := Lib.hid hsz4
    clear hsz4
    dsimp only
    go_wp2_with fail
    try show Code.wp _ _ _ _ _
    go_loopw [48] (fun i wr => ∃ k : Nat, k ≤ vn ∧ i = .int .i64 k ∧ Hid (KeyI l (gF + 6) (gF + 1) gF w nb M B k wr ∧ wr.heap[gF + 4]? = some (.deferred (some [])))) (fun i _ => vn - (intOf i).toNat)
    case atStart => exact ⟨0, Nat.zero_le _, rfl, HI⟩
    case round =>
      obtain ⟨k, hk, rfl, HR⟩ := hrel
      clear HI
      by_cases hlt : k < vn
      · have hkl : k < l.length := by rw [← HVN.out]; exact hlt
        have HV1 := Lib.hid (HV.out.below HR.out.1.bel)
        have hae := entsOf_at l k hkl
        obtain ⟨a', c', hve, _, _, hcell⟩ := HV1.out
        obtain ⟨b3, off3, hae2, c0, c1, c2, c3⟩ := hcell k hkl
        simp only [Value.slice.injEq] at hve
        obtain ⟨e1, el, ec⟩ := hve
        rw [hae2] at e1
        subst e1
        clear el ec hcell hae2
        obtain ⟨x, hx⟩ : ∃ x, x = l[k] := ⟨_, rfl⟩
        rw [← hx] at c0 c1 c2 c3 hae
        clear hx
        obtain ⟨xk, xs, xg, xu⟩ := x
        simp only at c0 c1 c2 c3
        have HAE := Lib.hid hae
        clear hae
        go_upto_region 13 with (fail)
        clear c0 c1 c2 c3
        obtain ⟨gX, hgX⟩ : ∃ g, g = wr.heap.size := ⟨_, rfl⟩
        rw [← hgX]
        obtain ⟨w5, hw5⟩ : ∃ z, z = wr.alloc (Obj.cells #[Value.string xk, Value.int IntKind.u64 ↑xs, Value.bool xg, Value.string xu] 34) := ⟨_, rfl⟩
        have hX5 : Blk w5 gX #[Value.string xk, Value.int IntKind.u64 ↑xs, Value.bool xg, Value.string xu] 34 := by rw [hw5]; exact Blk.new_at _ _ _ _ hgX
        have hb5 : Below wr.heap.size wr w5 := by rw [hw5]; exact (Below.refl _ _).alloc (Nat.le_refl _) _
        rw [← hw5]
        have x0 : w5.cell? ⟨gX, 0, none⟩ = some (.string xk) := hX5.cellv 0 _ rfl
        have HX5 := Lib.hid hX5
        have HB5 : Hid (Below w.heap.size w w5) := Lib.hid (HR.out.1.bel.trans (hb5.mono HR.out.1.bel.size))
        have HV5 := Lib.hid (HV.out.below HB5.out)
        obtain ⟨K0, hK⟩ : ∃ z, z = (keysN (entsOf l) k).map bs := ⟨_, rfl⟩
        have hKl : K0.length ≤ 4096 := by rw [hK, List.length_map]; have := keysN_len (entsOf l) k; omega
        have hfile := HR.out.1.file
        rw [← hK] at hfile
        obtain ⟨ma, mn, mc, ba, bn, bc, ka, kn, kc, hfile⟩ := hfile
        have HS5 := Lib.hid (hfile.later hb5)
        have hgX2 : gF + 6 ≤ gX := by rw [hgX]; exact hfile.sz
        have HKE := Lib.hid hK
        have HP5 := Lib.hid (HR.out.1.ptr.below hb5)
        have HD5 : Hid (w5.heap[gF + 4]? = some (.deferred (some []))) := Lib.hid ((hb5.block _ (by have := hfile.sz; omega)).trans HR.out.2)
        clear hw5 hX5 hb5 hfile hK HR HV1 hgX
        have hknb : kn ≤ 4096 := by have := (reads_of_own HS5.out.ok); obtain ⟨_, _, _, h, _⟩ := this; rw [txs_length] at h; omega
        by_cases hk0 : k = 0
        · subst hk0
          have HKN : Hid ((keysN (entsOf l) (0 + 1)).map bs = K0 ++ [xk]) := by
            show _ = _
            rw [keysN, if_pos (.inl rfl), List.map_append, ← HKE.out, HAE.out]
            simp [PE.ent, entOf, bs_of]
          go_quiet (fail)
          go_upto_region 14 with (fail)
          obtain ⟨w6, hw6⟩ : ∃ z, z = w5.drewN nq := ⟨_, rfl⟩
          have hb6 : Below w5.heap.size w5 w6 := by rw [hw6]; exact drewN_below _ _
          rw [← hw6]
          have HS6 := Lib.hid (HS5.out.later hb6)
          have HP6 := Lib.hid (HP5.out.below hb6)
          have HB6 := Lib.hid (HB5.out.trans (hb6.mono HB5.out.size))
          have HD6 : Hid (w6.heap[gF + 4]? = some (.deferred (some []))) := Lib.hid ((hb6.block _ (by have := HS5.out.sz; omega)).trans HD5.out)
          have x6 : w6.cell? ⟨gX, 0, none⟩ = some (.string xk) := Below.keeps hb6 _ _ _ x0
          have p6 : w6.cell? ⟨gF + 1, 0, none⟩ = some (.pointer (some ⟨gF, 0, none⟩)) := HP6.out.cellv 0 _ rfl
          clear hw6 hb6 x0
          have HSB : Hid (∀ w', KeptX (fun k => k < gF + 6 ∧ k ≠ gF) w6 w' → w'.cell? ⟨gF + 1, 0, none⟩ = some (.pointer (some ⟨gF, 0, none⟩))) := fun w' hw =>
            hw.cells _ _ _ (by omega) p6
          have HC3 : Hid (∀ w', Below w6.heap.size w6 w' → w'.cell? ⟨gF, 3, none⟩ = some (.slice ka kn kc)) := fun w' hb => (HS6.out.f.below hb).cellv 3 _ rfl
          have HX6 := Lib.hid x6
          obtain ⟨i0, hi, hz, hz1, hz2⟩ := info_parts info_str
          clear x6 p6
          refine wp_region_held_drew (S := fun w' => KeptX (fun k => k < gF + 6 ∧ k ≠ gF) w6 w' ∧ w'.cell? ⟨gF + 1, 0, none⟩ = some (.pointer (some ⟨gF, 0, none⟩))) (by kernel_rfl) (⟨KeptX.of_below (Below.refl _ _).drew, HSB.out _ (KeptX.of_below (Below.refl _ _).drew)⟩) (fun hHeld => ?_)
          refine wpAnyH_take (i := 0) (v := ?vq13) (by simp only [List.getElem?_toArray]; rfl) (by kernel_rfl) (by kernel_rfl) (by kernel_rfl) (by exact fun _ _ _ h => h) (Or.inl ⟨by rfl, ?yq13⟩) (by assumption) ?rq13
          case yq13 => (intro w hSw; (try dsimp only at hSw); go_simp; try with_reducible rfl)
          try simp only [Act.put, List.setIfInBounds_toArray, List.set_cons_zero, List.set_cons_succ]
          refine wpAnyH_take (i := 1) (v := ?vq14) (by simp only [List.getElem?_toArray]; rfl) (by kernel_rfl) (by kernel_rfl) (by kernel_rfl) (by exact fun _ _ _ h => h) (Or.inl ⟨by rfl, ?yq14⟩) (by assumption) ?rq14
          case yq14 => (intro w hSw; (try dsimp only at hSw); go_simp; try with_reducible rfl)
          try simp only [Act.put, List.setIfInBounds_toArray, List.set_cons_zero, List.set_cons_succ]
          refine wpAnyH_take (i := 2) (v := ?vq15) (by simp only [List.getElem?_toArray]; rfl) (by kernel_rfl) (by kernel_rfl) (by kernel_rfl) (by exact fun _ _ _ h => h) (Or.inl ⟨by rfl, ?yq15⟩) (by assumption) ?rq15
          case yq15 => (intro w hSw; (try dsimp only at hSw); go_simp; try with_reducible rfl)
          try simp only [Act.put, List.setIfInBounds_toArray, List.set_cons_zero, List.set_cons_succ]
          refine wpAnyH_take (i := 3) (v := ?vq16) (by simp only [List.getElem?_toArray]; rfl) (by kernel_rfl) (by kernel_rfl) (by kernel_rfl) (by exact fun _ _ _ h => h) (Or.inl ⟨by rfl, ?yq16⟩) (by assumption) ?rq16
          case yq16 => (intro w hSw; (try dsimp only at hSw); go_simp; try with_reducible rfl)
          try simp only [Act.put, List.setIfInBounds_toArray, List.set_cons_zero, List.set_cons_succ]
          refine wpAnyH_take (i := 5) (v := ?vq17) (by simp only [List.getElem?_toArray]; rfl) (by kernel_rfl) (by kernel_rfl) (by kernel_rfl) (by exact fun _ _ _ h => h) (Or.inl ⟨by rfl, ?yq17⟩) (by assumption) ?rq17
          case yq17 => (intro w hSw; (try dsimp only at hSw); go_simp; try with_reducible rfl)
          try simp only [Act.put, List.setIfInBounds_toArray, List.set_cons_zero, List.set_cons_succ]
          refine wpAnyH_take (i := 6) (v := ?vq18) (by simp only [List.getElem?_toArray]; rfl) (by kernel_rfl) (by kernel_rfl) (by kernel_rfl) (by exact fun _ _ _ h => h) (Or.inl ⟨by rfl, ?yq18⟩) (by assumption) ?rq18
          case yq18 => (intro w hSw; (try dsimp only at hSw); go_simp; try with_reducible rfl)
          try simp only [Act.put, List.setIfInBounds_toArray, List.set_cons_zero, List.set_cons_succ]
          have BD : Below w6.heap.size w6 w6.drew := (Below.refl _ _).drew
          have BY : Below w6.heap.size w6 ((w6.alloc (.cells #[.string xk] 9)).drew) := ((Below.refl _ _).alloc (Nat.le_refl _) _).drew
          refine wpAnyH_ready (rs := [4, 7]) (by kernel_rfl) (by simp) ?_
          refine AllReadyH.cons (by simp only [List.getElem?_toArray]; rfl) (fun K hK => ?wq19) (AllReadyH.cons (by simp only [List.getElem?_toArray]; rfl) (fun K hK => ?wq20) AllReadyH.nil)
          case wq19 =>
            have c3 := HC3.out _ BD
            go_simp
            refine hK.out _ _ ⟨KeptX.of_below BD, HSB.out _ (KeptX.of_below BD)⟩ (fun hHeld => ?_)
            clear hK K
            try simp only [Act.put, List.setIfInBounds_toArray, List.set_cons_zero, List.set_cons_succ]
            clear c3
            refine wpAnyH_ready (rs := [7]) (by kernel_rfl) (by simp) ?_
            refine AllReadyH.cons (by simp only [List.getElem?_toArray]; rfl) (fun K hK => ?_) AllReadyH.nil
            have x7 := Below.keeps BD _ _ _ HX6.out
            go_simp
            refine hK.out _ _ ⟨KeptX.of_below BD, HSB.out _ (KeptX.of_below BD)⟩ (fun hHeld => ?_)
            clear hK K
            try simp only [Act.put, List.setIfInBounds_toArray, List.set_cons_zero, List.set_cons_succ]
            clear x7
            refine wpAnyH_ready (rs := [8]) (by kernel_rfl) (by simp) ?_
            refine AllReadyH.cons (by simp only [List.getElem?_toArray]; rfl) (fun K hK => ?_) AllReadyH.nil
            go_simp
            refine hK.out _ _ ⟨KeptX.of_below BY, HSB.out _ (KeptX.of_below BY)⟩ (fun hHeld => ?_)
            clear hK K
            try simp only [Act.put, List.setIfInBounds_toArray, List.set_cons_zero, List.set_cons_succ]
            obtain ⟨Y, hY⟩ : ∃ Y, Y = (w6.alloc (.cells #[.string xk] 9)).drew := ⟨_, rfl⟩
            have HR1 : Reads Y 1 (.slice (some ⟨w6.heap.size, 0, none⟩) 1 1) 1 [.string xk] := by rw [hY]; exact (reads_one w6 _ _).later (Below.refl _ _).drew
            rw [← hY] at BY ⊢
            obtain ⟨gq, hgq⟩ : ∃ z, z = w6.heap.size := ⟨_, rfl⟩
            rw [← hgq] at HR1 ⊢
            have HSY := Lib.hid (HS6.out.later BY)
            clear hY hgq
            refine wpAnyH_ready (rs := [9]) (by kernel_rfl) (by simp) ?_
            refine AllReadyH.cons (by simp only [List.getElem?_toArray]; rfl) (fun K hK => ?_) AllReadyH.nil
            refine step_app_b9 rfl _ _ rfl Tryz.underlying77 hi hz hz1 hz2 rfl (by omega) (gF + 6) kn 1 (.slice ka kn kc) _ (txs K0) [.string xk] (txs (K0 ++ [xk])) (kn + 1) rfl rfl HSY.out.ok HR1 (by intro u hu; rw [List.mem_singleton.1 hu]; rfl) rfl (by rw [txs_app]; rfl) (by omega) (by omega) HSY.out.sz ?_
            intro za zc w7 HO7 HG7
            have hf7 := blk_under HSY.out.f HSY.out.gf HG7.out.below
            have c7 : w7.cell? ⟨gF, 3, none⟩ = some (.slice ka kn kc) := hf7.cellv 3 _ rfl
            have f7 := hf7.free 3
            have hkY : KeptX (fun k => k < gF + 6 ∧ k ≠ gF) Y w7 := ⟨HG7.out.below.os, HG7.out.below.tape, HG7.out.below.output, HG7.out.below.size, fun k _ hk => HG7.out.below.block k hk.1⟩
            have HK7 := Lib.hid ((KeptX.of_below BY).trans hkY)
            refine hK.out _ _ ⟨HK7.out, HSB.out _ HK7.out⟩ (fun hHeld => ?_)
            clear hK K hf7 hkY
            try simp only [Act.put, List.setIfInBounds_toArray, List.set_cons_zero, List.set_cons_succ]
            refine wpAnyH_take (i := 10) (v := ?vq21) (by simp only [List.getElem?_toArray]; rfl) (by kernel_rfl) (by kernel_rfl) (by kernel_rfl) (by exact fun _ _ _ h => h) (Or.inl ⟨by rfl, ?yq21⟩) (by assumption) ?rq21
            case yq21 => (intro w hSw; (try dsimp only at hSw); go_simp; try with_reducible rfl)
            try simp only [Act.put, List.setIfInBounds_toArray, List.set_cons_zero, List.set_cons_succ]
            refine wpAnyH_take (i := 11) (v := ?vq22) (by simp only [List.getElem?_toArray]; rfl) (by kernel_rfl) (by kernel_rfl) (by kernel_rfl) (by exact fun _ _ _ h => h) (Or.inl ⟨by rfl, ?yq22⟩) (by assumption) ?rq22
            case yq22 => (intro w hSw; (try dsimp only at hSw); go_simp; try with_reducible rfl)
            try simp only [Act.put, List.setIfInBounds_toArray, List.set_cons_zero, List.set_cons_succ]
            refine wpAnyH_ready (rs := [12]) (by kernel_rfl) (by simp) ?_
            refine AllReadyH.cons (by simp only [List.getElem?_toArray]; rfl) (fun K hK => ?_) AllReadyH.nil
            go_simp
            have HK8 : Hid (KeptX (fun k => k < gF + 6 ∧ k ≠ gF) w6 (w7.setCell ⟨gF, 3, none⟩ (.slice za (kn + 1) zc))) := HK7.out.trans (KeptX.set _ _ (fun h => h.2 rfl) _)
            refine hK.out _ _ ⟨HK8.out, HSB.out _ HK8.out⟩ (fun hHeld => ?_)
            clear hK K
            try simp only [Act.put, List.setIfInBounds_toArray, List.set_cons_zero, List.set_cons_succ]
            refine wpAnyH_done (by kernel_rfl) ?_ _
            have HF8 := HSY.out.grewK HO7.out (Nat.succ_pos _) HG7.out
            rw [← HKN.out] at HF8
            have HI8 : Hid (KeyI l (gF + 6) (gF + 1) gF w nb M B (0 + 1) (w7.setCell ⟨gF, 3, none⟩ (.slice za (kn + 1) zc)) ∧ (w7.setCell ⟨gF, 3, none⟩ (.slice za (kn + 1) zc)).heap[gF + 4]? = some (.deferred (some []))) :=
              ⟨⟨⟨_, _, _, _, _, _, _, _, _, HF8⟩, HK8.out.blk (by omega) HP6.out, HB6.out.trans (HK8.out.below (fun k hk => by have := HB6.out.size; omega) HB6.out.size)⟩,
                (HK8.out.block _ (by have := HS6.out.sz; omega) (by omega)).trans HD6.out⟩
            clear HF8 c7 f7
            go_wp2_with fail
            go_roundw
            case rel => exact ⟨0 + 1, by omega, by go_num, HI8⟩
            case measure => simp [intOf]; omega
          case wq20 =>
            have x7 := Below.keeps BD _ _ _ HX6.out
            go_simp
            refine hK.out _ _ ⟨KeptX.of_below BD, HSB.out _ (KeptX.of_below BD)⟩ (fun hHeld => ?_)
            clear hK K
            try simp only [Act.put, List.setIfInBounds_toArray, List.set_cons_zero, List.set_cons_succ]
            clear x7
            refine wpAnyH_ready (rs := [4, 8]) (by kernel_rfl) (by simp) ?_
            refine AllReadyH.cons (by simp only [List.getElem?_toArray]; rfl) (fun K hK => ?wq23) (AllReadyH.cons (by simp only [List.getElem?_toArray]; rfl) (fun K hK => ?wq24) AllReadyH.nil)
            case wq23 =>
              have c3 := HC3.out _ BD
              go_simp
              refine hK.out _ _ ⟨KeptX.of_below BD, HSB.out _ (KeptX.of_below BD)⟩ (fun hHeld => ?_)
              clear hK K
              try simp only [Act.put, List.setIfInBounds_toArray, List.set_cons_zero, List.set_cons_succ]
              clear c3
              refine wpAnyH_ready (rs := [8]) (by kernel_rfl) (by simp) ?_
              refine AllReadyH.cons (by simp only [List.getElem?_toArray]; rfl) (fun K hK => ?_) AllReadyH.nil
              go_simp
              refine hK.out _ _ ⟨KeptX.of_below BY, HSB.out _ (KeptX.of_below BY)⟩ (fun hHeld => ?_)
              clear hK K
              try simp only [Act.put, List.setIfInBounds_toArray, List.set_cons_zero, List.set_cons_succ]
              obtain ⟨Y, hY⟩ : ∃ Y, Y = (w6.alloc (.cells #[.string xk] 9)).drew := ⟨_, rfl⟩
              have HR1 : Reads Y 1 (.slice (some ⟨w6.heap.size, 0, none⟩) 1 1) 1 [.string xk] := by rw [hY]; exact (reads_one w6 _ _).later (Below.refl _ _).drew
              rw [← hY] at BY ⊢
              obtain ⟨gq, hgq⟩ : ∃ z, z = w6.heap.size := ⟨_, rfl⟩
              rw [← hgq] at HR1 ⊢
              have HSY := Lib.hid (HS6.out.later BY)
              clear hY hgq
              refine wpAnyH_ready (rs := [9]) (by kernel_rfl) (by simp) ?_
              refine AllReadyH.cons (by simp only [List.getElem?_toArray]; rfl) (fun K hK => ?_) AllReadyH.nil
              refine step_app_b9 rfl _ _ rfl Tryz.underlying77 hi hz hz1 hz2 rfl (by omega) (gF + 6) kn 1 (.slice ka kn kc) _ (txs K0) [.string xk] (txs (K0 ++ [xk])) (kn + 1) rfl rfl HSY.out.ok HR1 (by intro u hu; rw [List.mem_singleton.1 hu]; rfl) rfl (by rw [txs_app]; rfl) (by omega) (by omega) HSY.out.sz ?_
              intro za zc w7 HO7 HG7
              have hf7 := blk_under HSY.out.f HSY.out.gf HG7.out.below
              have c7 : w7.cell? ⟨gF, 3, none⟩ = some (.slice ka kn kc) := hf7.cellv 3 _ rfl
              have f7 := hf7.free 3
              have hkY : KeptX (fun k => k < gF + 6 ∧ k ≠ gF) Y w7 := ⟨HG7.out.below.os, HG7.out.below.tape, HG7.out.below.output, HG7.out.below.size, fun k _ hk => HG7.out.below.block k hk.1⟩
              have HK7 := Lib.hid ((KeptX.of_below BY).trans hkY)
              refine hK.out _ _ ⟨HK7.out, HSB.out _ HK7.out⟩ (fun hHeld => ?_)
              clear hK K hf7 hkY
              try simp only [Act.put, List.setIfInBounds_toArray, List.set_cons_zero, List.set_cons_succ]
              refine wpAnyH_take (i := 10) (v := ?vq25) (by simp only [List.getElem?_toArray]; rfl) (by kernel_rfl) (by kernel_rfl) (by kernel_rfl) (by exact fun _ _ _ h => h) (Or.inl ⟨by rfl, ?yq25⟩) (by assumption) ?rq25
              case yq25 => (intro w hSw; (try dsimp only at hSw); go_simp; try with_reducible rfl)
              try simp only [Act.put, List.setIfInBounds_toArray, List.set_cons_zero, List.set_cons_succ]
              refine wpAnyH_take (i := 11) (v := ?vq26) (by simp only [List.getElem?_toArray]; rfl) (by kernel_rfl) (by kernel_rfl) (by kernel_rfl) (by exact fun _ _ _ h => h) (Or.inl ⟨by rfl, ?yq26⟩) (by assumption) ?rq26
              case yq26 => (intro w hSw; (try dsimp only at hSw); go_simp; try with_reducible rfl)
              try simp only [Act.put, List.setIfInBounds_toArray, List.set_cons_zero, List.set_cons_succ]
              refine wpAnyH_ready (rs := [12]) (by kernel_rfl) (by simp) ?_
              refine AllReadyH.cons (by simp only [List.getElem?_toArray]; rfl) (fun K hK => ?_) AllReadyH.nil
              go_simp
              have HK8 : Hid (KeptX (fun k => k < gF + 6 ∧ k ≠ gF) w6 (w7.setCell ⟨gF, 3, none⟩ (.slice za (kn + 1) zc))) := HK7.out.trans (KeptX.set _ _ (fun h => h.2 rfl) _)
              refine hK.out _ _ ⟨HK8.out, HSB.out _ HK8.out⟩ (fun hHeld => ?_)
              clear hK K
              try simp only [Act.put, List.setIfInBounds_toArray, List.set_cons_zero, List.set_cons_succ]
              refine wpAnyH_done (by kernel_rfl) ?_ _
              have HF8 := HSY.out.grewK HO7.out (Nat.succ_pos _) HG7.out
              rw [← HKN.out] at HF8
              have HI8 : Hid (KeyI l (gF + 6) (gF + 1) gF w nb M B (0 + 1) (w7.setCell ⟨gF, 3, none⟩ (.slice za (kn + 1) zc)) ∧ (w7.setCell ⟨gF, 3, none⟩ (.slice za (kn + 1) zc)).heap[gF + 4]? = some (.deferred (some []))) :=
                ⟨⟨⟨_, _, _, _, _, _, _, _, _, HF8⟩, HK8.out.blk (by omega) HP6.out, HB6.out.trans (HK8.out.below (fun k hk => by have := HB6.out.size; omega) HB6.out.size)⟩,
                  (HK8.out.block _ (by have := HS6.out.sz; omega) (by omega)).trans HD6.out⟩
              clear HF8 c7 f7
              go_wp2_with fail
              go_roundw
              case rel => exact ⟨0 + 1, by omega, by go_num, HI8⟩
              case measure => simp [intOf]; omega
            case wq24 =>
              go_simp
              refine hK.out _ _ ⟨KeptX.of_below BY, HSB.out _ (KeptX.of_below BY)⟩ (fun hHeld => ?_)
              clear hK K
              try simp only [Act.put, List.setIfInBounds_toArray, List.set_cons_zero, List.set_cons_succ]
              refine wpAnyH_ready (rs := [4]) (by kernel_rfl) (by simp) ?_
              refine AllReadyH.cons (by simp only [List.getElem?_toArray]; rfl) (fun K hK => ?_) AllReadyH.nil
              have c3 := HC3.out _ BY
              go_simp
              refine hK.out _ _ ⟨KeptX.of_below BY, HSB.out _ (KeptX.of_below BY)⟩ (fun hHeld => ?_)
              clear hK K
              try simp only [Act.put, List.setIfInBounds_toArray, List.set_cons_zero, List.set_cons_succ]
              clear c3
              obtain ⟨Y, hY⟩ : ∃ Y, Y = (w6.alloc (.cells #[.string xk] 9)).drew := ⟨_, rfl⟩
              have HR1 : Reads Y 1 (.slice (some ⟨w6.heap.size, 0, none⟩) 1 1) 1 [.string xk] := by rw [hY]; exact (reads_one w6 _ _).later (Below.refl _ _).drew
              rw [← hY] at BY ⊢
              obtain ⟨gq, hgq⟩ : ∃ z, z = w6.heap.size := ⟨_, rfl⟩
              rw [← hgq] at HR1 ⊢
              have HSY := Lib.hid (HS6.out.later BY)
              clear hY hgq
              refine wpAnyH_ready (rs := [9]) (by kernel_rfl) (by simp) ?_
              refine AllReadyH.cons (by simp only [List.getElem?_toArray]; rfl) (fun K hK => ?_) AllReadyH.nil
              refine step_app_b9 rfl _ _ rfl Tryz.underlying77 hi hz hz1 hz2 rfl (by omega) (gF + 6) kn 1 (.slice ka kn kc) _ (txs K0) [.string xk] (txs (K0 ++ [xk])) (kn + 1) rfl rfl HSY.out.ok HR1 (by intro u hu; rw [List.mem_singleton.1 hu]; rfl) rfl (by rw [txs_app]; rfl) (by omega) (by omega) HSY.out.sz ?_
              intro za zc w7 HO7 HG7
              have hf7 := blk_under HSY.out.f HSY.out.gf HG7.out.below
              have c7 : w7.cell? ⟨gF, 3, none⟩ = some (.slice ka kn kc) := hf7.cellv 3 _ rfl
              have f7 := hf7.free 3
              have hkY : KeptX (fun k => k < gF + 6 ∧ k ≠ gF) Y w7 := ⟨HG7.out.below.os, HG7.out.below.tape, HG7.out.below.output, HG7.out.below.size, fun k _ hk => HG7.out.below.block k hk.1⟩
              have HK7 := Lib.hid ((KeptX.of_below BY).trans hkY)
              refine hK.out _ _ ⟨HK7.out, HSB.out _ HK7.out⟩ (fun hHeld => ?_)
              clear hK K hf7 hkY
              try simp only [Act.put, List.setIfInBounds_toArray, List.set_cons_zero, List.set_cons_succ]
              refine wpAnyH_take (i := 10) (v := ?vq27) (by simp only [List.getElem?_toArray]; rfl) (by kernel_rfl) (by kernel_rfl) (by kernel_rfl) (by exact fun _ _ _ h => h) (Or.inl ⟨by rfl, ?yq27⟩) (by assumption) ?rq27
              case yq27 => (intro w hSw; (try dsimp only at hSw); go_simp; try with_reducible rfl)
              try simp only [Act.put, List.setIfInBounds_toArray, List.set_cons_zero, List.set_cons_succ]
              refine wpAnyH_take (i := 11) (v := ?vq28) (by simp only [List.getElem?_toArray]; rfl) (by kernel_rfl) (by kernel_rfl) (by kernel_rfl) (by exact fun _ _ _ h => h) (Or.inl ⟨by rfl, ?yq28⟩) (by assumption) ?rq28
              case yq28 => (intro w hSw; (try dsimp only at hSw); go_simp; try with_reducible rfl)
              try simp only [Act.put, List.setIfInBounds_toArray, List.set_cons_zero, List.set_cons_succ]
              refine wpAnyH_ready (rs := [12]) (by kernel_rfl) (by simp) ?_
              refine AllReadyH.cons (by simp only [List.getElem?_toArray]; rfl) (fun K hK => ?_) AllReadyH.nil
              go_simp
              have HK8 : Hid (KeptX (fun k => k < gF + 6 ∧ k ≠ gF) w6 (w7.setCell ⟨gF, 3, none⟩ (.slice za (kn + 1) zc))) := HK7.out.trans (KeptX.set _ _ (fun h => h.2 rfl) _)
              refine hK.out _ _ ⟨HK8.out, HSB.out _ HK8.out⟩ (fun hHeld => ?_)
              clear hK K
              try simp only [Act.put, List.setIfInBounds_toArray, List.set_cons_zero, List.set_cons_succ]
              refine wpAnyH_done (by kernel_rfl) ?_ _
              have HF8 := HSY.out.grewK HO7.out (Nat.succ_pos _) HG7.out
              rw [← HKN.out] at HF8
              have HI8 : Hid (KeyI l (gF + 6) (gF + 1) gF w nb M B (0 + 1) (w7.setCell ⟨gF, 3, none⟩ (.slice za (kn + 1) zc)) ∧ (w7.setCell ⟨gF, 3, none⟩ (.slice za (kn + 1) zc)).heap[gF + 4]? = some (.deferred (some []))) :=
                ⟨⟨⟨_, _, _, _, _, _, _, _, _, HF8⟩, HK8.out.blk (by omega) HP6.out, HB6.out.trans (HK8.out.below (fun k hk => by have := HB6.out.size; omega) HB6.out.size)⟩,
                  (HK8.out.block _ (by have := HS6.out.sz; omega) (by omega)).trans HD6.out⟩
              clear HF8 c7 f7
              go_wp2_with fail
              go_roundw
              case rel => exact ⟨0 + 1, by omega, by go_num, HI8⟩
              case measure => simp [intOf]; omega
        · have hk1 : decide ((k : Int) = 0) = false := by simp; omega
          have hk1n : decide (k = 0) = false := by simp; omega
          obtain ⟨j, hj⟩ : ∃ j, j = k - 1 := ⟨_, rfl⟩
          have HJ := Lib.hid hj
          have hkj : ((k : Int) - 1) = (j : Int) := by omega
          have hjl : j < l.length := by omega
          have hwj : IntKind.i64.wrap (j : Int) = (j : Int) := IntWalk.i64_in _ (by omega)
          have HAJ := Lib.hid (entsOf_at l j hjl)
          obtain ⟨a2, c2', hve, _, _, hcell⟩ := HV5.out
          obtain ⟨b4, off4, hae2, y0, y1, y2, y3⟩ := hcell j hjl
          simp only [Value.slice.injEq] at hve
          obtain ⟨e1, el, ec⟩ := hve
          rw [hae2] at e1
          simp only [Option.some.injEq, Addr.mk.injEq, and_true] at e1
          obtain ⟨e2, e3⟩ := e1
          rw [← e2, ← e3] at y0
          clear el ec hcell hae2 e2 e3 hj y3 y1 y2
          have hjv : j < vn := by omega
          obtain ⟨y, hy⟩ : ∃ y, y = l[j] := ⟨_, rfl⟩
          rw [← hy] at y0 HAJ
          clear hy hjl
          obtain ⟨yk, ys, yg, yu⟩ := y
          simp only at y0
          by_cases hkk : xk = yk
          · subst hkk
            have HKN : Hid ((keysN (entsOf l) (k + 1)).map bs = K0) := by
              show _ = _
              rw [keysN, if_neg (by rw [← HJ.out, HAE.out, HAJ.out]; rintro (h | h); · omega
                                    · exact h rfl), List.append_nil, ← HKE.out]
            go_quiet (fail)
            have HI8 : Hid (KeyI l (gF + 6) (gF + 1) gF w nb M B (k + 1) (w5.drewN nq) ∧ (w5.drewN nq).heap[gF + 4]? = some (.deferred (some []))) := by
              have hb := drewN_below w5 nq
              have hf := HS5.out.later hb
              rw [← HKN.out] at hf
              exact ⟨⟨⟨_, _, _, _, _, _, _, _, _, hf⟩, HP5.out.below hb, HB5.out.trans (hb.mono HB5.out.size)⟩, (hb.block _ (by have := HS5.out.sz; omega)).trans HD5.out⟩
            go_wp2_with fail
            go_roundw
            case rel => exact ⟨k + 1, by omega, by go_num, HI8⟩
            case measure => simp [intOf]; omega
          · have hkl2 : ¬ xk.toList = yk.toList := fun h => hkk (ba_ext h)
            have hkb : (xk.toList == yk.toList) = false := by simp [hkl2]
            have HKN : Hid ((keysN (entsOf l) (k + 1)).map bs = K0 ++ [xk]) := by
              show _ = _
              rw [keysN, if_pos (.inr (by rw [← HJ.out, HAE.out, HAJ.out]; intro h; exact hkk (bs_inj2 h))), List.map_append, ← HKE.out, HAE.out]
              simp [PE.ent, entOf, bs_of]
            go_quiet (fail)
            go_upto_region 14 with (fail)
            obtain ⟨w6, hw6⟩ : ∃ z, z = w5.drewN nq := ⟨_, rfl⟩
            have hb6 : Below w5.heap.size w5 w6 := by rw [hw6]; exact drewN_below _ _
            rw [← hw6]
            have HS6 := Lib.hid (HS5.out.later hb6)
            have HP6 := Lib.hid (HP5.out.below hb6)
            have HB6 := Lib.hid (HB5.out.trans (hb6.mono HB5.out.size))
            have HD6 : Hid (w6.heap[gF + 4]? = some (.deferred (some []))) := Lib.hid ((hb6.block _ (by have := HS5.out.sz; omega)).trans HD5.out)
            have x6 : w6.cell? ⟨gX, 0, none⟩ = some (.string xk) := Below.keeps hb6 _ _ _ x0
            have p6 : w6.cell? ⟨gF + 1, 0, none⟩ = some (.pointer (some ⟨gF, 0, none⟩)) := HP6.out.cellv 0 _ rfl
            clear hw6 hb6 x0
            have HSB : Hid (∀ w', KeptX (fun k => k < gF + 6 ∧ k ≠ gF) w6 w' → w'.cell? ⟨gF + 1, 0, none⟩ = some (.pointer (some ⟨gF, 0, none⟩))) := fun w' hw =>
              hw.cells _ _ _ (by omega) p6
            have HC3 : Hid (∀ w', Below w6.heap.size w6 w' → w'.cell? ⟨gF, 3, none⟩ = some (.slice ka kn kc)) := fun w' hb => (HS6.out.f.below hb).cellv 3 _ rfl
            have HX6 := Lib.hid x6
            obtain ⟨i0, hi, hz, hz1, hz2⟩ := info_parts info_str
            clear x6 p6
            refine wp_region_held_drew (S := fun w' => KeptX (fun k => k < gF + 6 ∧ k ≠ gF) w6 w' ∧ w'.cell? ⟨gF + 1, 0, none⟩ = some (.pointer (some ⟨gF, 0, none⟩))) (by kernel_rfl) (⟨KeptX.of_below (Below.refl _ _).drew, HSB.out _ (KeptX.of_below (Below.refl _ _).drew)⟩) (fun hHeld => ?_)
            refine wpAnyH_take (i := 0) (v := ?vq29) (by simp only [List.getElem?_toArray]; rfl) (by kernel_rfl) (by kernel_rfl) (by kernel_rfl) (by exact fun _ _ _ h => h) (Or.inl ⟨by rfl, ?yq29⟩) (by assumption) ?rq29
            case yq29 => (intro w hSw; (try dsimp only at hSw); go_simp; try with_reducible rfl)
            try simp only [Act.put, List.setIfInBounds_toArray, List.set_cons_zero, List.set_cons_succ]
            refine wpAnyH_take (i := 1) (v := ?vq30) (by simp only [List.getElem?_toArray]; rfl) (by kernel_rfl) (by kernel_rfl) (by kernel_rfl) (by exact fun _ _ _ h => h) (Or.inl ⟨by rfl, ?yq30⟩) (by assumption) ?rq30
            case yq30 => (intro w hSw; (try dsimp only at hSw); go_simp; try with_reducible rfl)
            try simp only [Act.put, List.setIfInBounds_toArray, List.set_cons_zero, List.set_cons_succ]
            refine wpAnyH_take (i := 2) (v := ?vq31) (by simp only [List.getElem?_toArray]; rfl) (by kernel_rfl) (by kernel_rfl) (by kernel_rfl) (by exact fun _ _ _ h => h) (Or.inl ⟨by rfl, ?yq31⟩) (by assumption) ?rq31
            case yq31 => (intro w hSw; (try dsimp only at hSw); go_simp; try with_reducible rfl)
            try simp only [Act.put, List.setIfInBounds_toArray, List.set_cons_zero, List.set_cons_succ]
            refine wpAnyH_take (i := 3) (v := ?vq32) (by simp only [List.getElem?_toArray]; rfl) (by kernel_rfl) (by kernel_rfl) (by kernel_rfl) (by exact fun _ _ _ h => h) (Or.inl ⟨by rfl, ?yq32⟩) (by assumption) ?rq32
            case yq32 => (intro w hSw; (try dsimp only at hSw); go_simp; try with_reducible rfl)
            try simp only [Act.put, List.setIfInBounds_toArray, List.set_cons_zero, List.set_cons_succ]
            refine wpAnyH_take (i := 5) (v := ?vq33) (by simp only [List.getElem?_toArray]; rfl) (by kernel_rfl) (by kernel_rfl) (by kernel_rfl) (by exact fun _ _ _ h => h) (Or.inl ⟨by rfl, ?yq33⟩) (by assumption) ?rq33
            case yq33 => (intro w hSw; (try dsimp only at hSw); go_simp; try with_reducible rfl)
            try simp only [Act.put, List.setIfInBounds_toArray, List.set_cons_zero, List.set_cons_succ]
            refine wpAnyH_take (i := 6) (v := ?vq34) (by simp only [List.getElem?_toArray]; rfl) (by kernel_rfl) (by kernel_rfl) (by kernel_rfl) (by exact fun _ _ _ h => h) (Or.inl ⟨by rfl, ?yq34⟩) (by assumption) ?rq34
            case yq34 => (intro w hSw; (try dsimp only at hSw); go_simp; try with_reducible rfl)
            try simp only [Act.put, List.setIfInBounds_toArray, List.set_cons_zero, List.set_cons_succ]
            have BD : Below w6.heap.size w6 w6.drew := (Below.refl _ _).drew
            have BY : Below w6.heap.size w6 ((w6.alloc (.cells #[.string xk] 9)).drew) := ((Below.refl _ _).alloc (Nat.le_refl _) _).drew
            refine wpAnyH_ready (rs := [4, 7]) (by kernel_rfl) (by simp) ?_
            refine AllReadyH.cons (by simp only [List.getElem?_toArray]; rfl) (fun K hK => ?wq35) (AllReadyH.cons (by simp only [List.getElem?_toArray]; rfl) (fun K hK => ?wq36) AllReadyH.nil)
            case wq35 =>
              have c3 := HC3.out _ BD
              go_simp
              refine hK.out _ _ ⟨KeptX.of_below BD, HSB.out _ (KeptX.of_below BD)⟩ (fun hHeld => ?_)
              clear hK K
              try simp only [Act.put, List.setIfInBounds_toArray, List.set_cons_zero, List.set_cons_succ]
              clear c3
              refine wpAnyH_ready (rs := [7]) (by kernel_rfl) (by simp) ?_
              refine AllReadyH.cons (by simp only [List.getElem?_toArray]; rfl) (fun K hK => ?_) AllReadyH.nil
              have x7 := Below.keeps BD _ _ _ HX6.out
              go_simp
              refine hK.out _ _ ⟨KeptX.of_below BD, HSB.out _ (KeptX.of_below BD)⟩ (fun hHeld => ?_)
              clear hK K
              try simp only [Act.put, List.setIfInBounds_toArray, List.set_cons_zero, List.set_cons_succ]
              clear x7
              refine wpAnyH_ready (rs := [8]) (by kernel_rfl) (by simp) ?_
              refine AllReadyH.cons (by simp only [List.getElem?_toArray]; rfl) (fun K hK => ?_) AllReadyH.nil
              go_simp
              refine hK.out _ _ ⟨KeptX.of_below BY, HSB.out _ (KeptX.of_below BY)⟩ (fun hHeld => ?_)
              clear hK K
              try simp only [Act.put, List.setIfInBounds_toArray, List.set_cons_zero, List.set_cons_succ]
              obtain ⟨Y, hY⟩ : ∃ Y, Y = (w6.alloc (.cells #[.string xk] 9)).drew := ⟨_, rfl⟩
              have HR1 : Reads Y 1 (.slice (some ⟨w6.heap.size, 0, none⟩) 1 1) 1 [.string xk] := by rw [hY]; exact (reads_one w6 _ _).later (Below.refl _ _).drew
              rw [← hY] at BY ⊢
              obtain ⟨gq, hgq⟩ : ∃ z, z = w6.heap.size := ⟨_, rfl⟩
              rw [← hgq] at HR1 ⊢
              have HSY := Lib.hid (HS6.out.later BY)
              clear hY hgq
              refine wpAnyH_ready (rs := [9]) (by kernel_rfl) (by simp) ?_
              refine AllReadyH.cons (by simp only [List.getElem?_toArray]; rfl) (fun K hK => ?_) AllReadyH.nil
              refine step_app_b9 rfl _ _ rfl Tryz.underlying77 hi hz hz1 hz2 rfl (by omega) (gF + 6) kn 1 (.slice ka kn kc) _ (txs K0) [.string xk] (txs (K0 ++ [xk])) (kn + 1) rfl rfl HSY.out.ok HR1 (by intro u hu; rw [List.mem_singleton.1 hu]; rfl) rfl (by rw [txs_app]; rfl) (by omega) (by omega) HSY.out.sz ?_
              intro za zc w7 HO7 HG7
              have hf7 := blk_under HSY.out.f HSY.out.gf HG7.out.below
              have c7 : w7.cell? ⟨gF, 3, none⟩ = some (.slice ka kn kc) := hf7.cellv 3 _ rfl
              have f7 := hf7.free 3
              have hkY : KeptX (fun k => k < gF + 6 ∧ k ≠ gF) Y w7 := ⟨HG7.out.below.os, HG7.out.below.tape, HG7.out.below.output, HG7.out.below.size, fun k _ hk => HG7.out.below.block k hk.1⟩
              have HK7 := Lib.hid ((KeptX.of_below BY).trans hkY)
              refine hK.out _ _ ⟨HK7.out, HSB.out _ HK7.out⟩ (fun hHeld => ?_)
              clear hK K hf7 hkY
              try simp only [Act.put, List.setIfInBounds_toArray, List.set_cons_zero, List.set_cons_succ]
              refine wpAnyH_take (i := 10) (v := ?vq37) (by simp only [List.getElem?_toArray]; rfl) (by kernel_rfl) (by kernel_rfl) (by kernel_rfl) (by exact fun _ _ _ h => h) (Or.inl ⟨by rfl, ?yq37⟩) (by assumption) ?rq37
              case yq37 => (intro w hSw; (try dsimp only at hSw); go_simp; try with_reducible rfl)
              try simp only [Act.put, List.setIfInBounds_toArray, List.set_cons_zero, List.set_cons_succ]
              refine wpAnyH_take (i := 11) (v := ?vq38) (by simp only [List.getElem?_toArray]; rfl) (by kernel_rfl) (by kernel_rfl) (by kernel_rfl) (by exact fun _ _ _ h => h) (Or.inl ⟨by rfl, ?yq38⟩) (by assumption) ?rq38
              case yq38 => (intro w hSw; (try dsimp only at hSw); go_simp; try with_reducible rfl)
              try simp only [Act.put, List.setIfInBounds_toArray, List.set_cons_zero, List.set_cons_succ]
              refine wpAnyH_ready (rs := [12]) (by kernel_rfl) (by simp) ?_
              refine AllReadyH.cons (by simp only [List.getElem?_toArray]; rfl) (fun K hK => ?_) AllReadyH.nil
              go_simp
              have HK8 : Hid (KeptX (fun k => k < gF + 6 ∧ k ≠ gF) w6 (w7.setCell ⟨gF, 3, none⟩ (.slice za (kn + 1) zc))) := HK7.out.trans (KeptX.set _ _ (fun h => h.2 rfl) _)
              refine hK.out _ _ ⟨HK8.out, HSB.out _ HK8.out⟩ (fun hHeld => ?_)
              clear hK K
              try simp only [Act.put, List.setIfInBounds_toArray, List.set_cons_zero, List.set_cons_succ]
              refine wpAnyH_done (by kernel_rfl) ?_ _
              have HF8 := HSY.out.grewK HO7.out (Nat.succ_pos _) HG7.out
              rw [← HKN.out] at HF8
              have HI8 : Hid (KeyI l (gF + 6) (gF + 1) gF w nb M B (k + 1) (w7.setCell ⟨gF, 3, none⟩ (.slice za (kn + 1) zc)) ∧ (w7.setCell ⟨gF, 3, none⟩ (.slice za (kn + 1) zc)).heap[gF + 4]? = some (.deferred (some []))) :=
                ⟨⟨⟨_, _, _, _, _, _, _, _, _, HF8⟩, HK8.out.blk (by omega) HP6.out, HB6.out.trans (HK8.out.below (fun k hk => by have := HB6.out.size; omega) HB6.out.size)⟩,
                  (HK8.out.block _ (by have := HS6.out.sz; omega) (by omega)).trans HD6.out⟩
              clear HF8 c7 f7
              go_wp2_with fail
              go_roundw
              case rel => exact ⟨k + 1, by omega, by go_num, HI8⟩
              case measure => simp [intOf]; omega
            case wq36 =>
              have x7 := Below.keeps BD _ _ _ HX6.out
              go_simp
              refine hK.out _ _ ⟨KeptX.of_below BD, HSB.out _ (KeptX.of_below BD)⟩ (fun hHeld => ?_)
              clear hK K
              try simp only [Act.put, List.setIfInBounds_toArray, List.set_cons_zero, List.set_cons_succ]
              clear x7
              refine wpAnyH_ready (rs := [4, 8]) (by kernel_rfl) (by simp) ?_
              refine AllReadyH.cons (by simp only [List.getElem?_toArray]; rfl) (fun K hK => ?wq39) (AllReadyH.cons (by simp only [List.getElem?_toArray]; rfl) (fun K hK => ?wq40) AllReadyH.nil)
              case wq39 =>
                have c3 := HC3.out _ BD
                go_simp
                refine hK.out _ _ ⟨KeptX.of_below BD, HSB.out _ (KeptX.of_below BD)⟩ (fun hHeld => ?_)
                clear hK K
                try simp only [Act.put, List.setIfInBounds_toArray, List.set_cons_zero, List.set_cons_succ]
                clear c3
                refine wpAnyH_ready (rs := [8]) (by kernel_rfl) (by simp) ?_
                refine AllReadyH.cons (by simp only [List.getElem?_toArray]; rfl) (fun K hK => ?_) AllReadyH.nil
                go_simp
                refine hK.out _ _ ⟨KeptX.of_below BY, HSB.out _ (KeptX.of_below BY)⟩ (fun hHeld => ?_)
                clear hK K
                try simp only [Act.put, List.setIfInBounds_toArray, List.set_cons_zero, List.set_cons_succ]
                obtain ⟨Y, hY⟩ : ∃ Y, Y = (w6.alloc (.cells #[.string xk] 9)).drew := ⟨_, rfl⟩
                have HR1 : Reads Y 1 (.slice (some ⟨w6.heap.size, 0, none⟩) 1 1) 1 [.string xk] := by rw [hY]; exact (reads_one w6 _ _).later (Below.refl _ _).drew
                rw [← hY] at BY ⊢
                obtain ⟨gq, hgq⟩ : ∃ z, z = w6.heap.size := ⟨_, rfl⟩
                rw [← hgq] at HR1 ⊢
                have HSY := Lib.hid (HS6.out.later BY)
                clear hY hgq
                refine wpAnyH_ready (rs := [9]) (by kernel_rfl) (by simp) ?_
                refine AllReadyH.cons (by simp only [List.getElem?_toArray]; rfl) (fun K hK => ?_) AllReadyH.nil
                refine step_app_b9 rfl _ _ rfl Tryz.underlying77 hi hz hz1 hz2 rfl (by omega) (gF + 6) kn 1 (.slice ka kn kc) _ (txs K0) [.string xk] (txs (K0 ++ [xk])) (kn + 1) rfl rfl HSY.out.ok HR1 (by intro u hu; rw [List.mem_singleton.1 hu]; rfl) rfl (by rw [txs_app]; rfl) (by omega) (by omega) HSY.out.sz ?_
                intro za zc w7 HO7 HG7
                have hf7 := blk_under HSY.out.f HSY.out.gf HG7.out.below
                have c7 : w7.cell? ⟨gF, 3, none⟩ = some (.slice ka kn kc) := hf7.cellv 3 _ rfl
                have f7 := hf7.free 3
                have hkY : KeptX (fun k => k < gF + 6 ∧ k ≠ gF) Y w7 := ⟨HG7.out.below.os, HG7.out.below.tape, HG7.out.below.output, HG7.out.below.size, fun k _ hk => HG7.out.below.block k hk.1⟩
                have HK7 := Lib.hid ((KeptX.of_below BY).trans hkY)
                refine hK.out _ _ ⟨HK7.out, HSB.out _ HK7.out⟩ (fun hHeld => ?_)
                clear hK K hf7 hkY
                try simp only [Act.put, List.setIfInBounds_toArray, List.set_cons_zero, List.set_cons_succ]
                refine wpAnyH_take (i := 10) (v := ?vq41) (by simp only [List.getElem?_toArray]; rfl) (by kernel_rfl) (by kernel_rfl) (by kernel_rfl) (by exact fun _ _ _ h => h) (Or.inl ⟨by rfl, ?yq41⟩) (by assumption) ?rq41
                case yq41 => (intro w hSw; (try dsimp only at hSw); go_simp; try with_reducible rfl)
                try simp only [Act.put, List.setIfInBounds_toArray, List.set_cons_zero, List.set_cons_succ]
                refine wpAnyH_take (i := 11) (v := ?vq42) (by simp only [List.getElem?_toArray]; rfl) (by kernel_rfl) (by kernel_rfl) (by kernel_rfl) (by exact fun _ _ _ h => h) (Or.inl ⟨by rfl, ?yq42⟩) (by assumption) ?rq42
                case yq42 => (intro w hSw; (try dsimp only at hSw); go_simp; try with_reducible rfl)
                try simp only [Act.put, List.setIfInBounds_toArray, List.set_cons_zero, List.set_cons_succ]
                refine wpAnyH_ready (rs := [12]) (by kernel_rfl) (by simp) ?_
                refine AllReadyH.cons (by simp only [List.getElem?_toArray]; rfl) (fun K hK => ?_) AllReadyH.nil
                go_simp
                have HK8 : Hid (KeptX (fun k => k < gF + 6 ∧ k ≠ gF) w6 (w7.setCell ⟨gF, 3, none⟩ (.slice za (kn + 1) zc))) := HK7.out.trans (KeptX.set _ _ (fun h => h.2 rfl) _)
                refine hK.out _ _ ⟨HK8.out, HSB.out _ HK8.out⟩ (fun hHeld => ?_)
                clear hK K
                try simp only [Act.put, List.setIfInBounds_toArray, List.set_cons_zero, List.set_cons_succ]
                refine wpAnyH_done (by kernel_rfl) ?_ _
                have HF8 := HSY.out.grewK HO7.out (Nat.succ_pos _) HG7.out
                rw [← HKN.out] at HF8
                have HI8 : Hid (KeyI l (gF + 6) (gF + 1) gF w nb M B (k + 1) (w7.setCell ⟨gF, 3, none⟩ (.slice za (kn + 1) zc)) ∧ (w7.setCell ⟨gF, 3, none⟩ (.slice za (kn + 1) zc)).heap[gF + 4]? = some (.deferred (some []))) :=
                  ⟨⟨⟨_, _, _, _, _, _, _, _, _, HF8⟩, HK8.out.blk (by omega) HP6.out, HB6.out.trans (HK8.out.below (fun k hk => by have := HB6.out.size; omega) HB6.out.size)⟩,
                    (HK8.out.block _ (by have := HS6.out.sz; omega) (by omega)).trans HD6.out⟩
                clear HF8 c7 f7
                go_wp2_with fail
                go_roundw
                case rel => exact ⟨k + 1, by omega, by go_num, HI8⟩
                case measure => simp [intOf]; omega
              case wq40 =>
                go_simp
                refine hK.out _ _ ⟨KeptX.of_below BY, HSB.out _ (KeptX.of_below BY)⟩ (fun hHeld => ?_)
                clear hK K
                try simp only [Act.put, List.setIfInBounds_toArray, List.set_cons_zero, List.set_cons_succ]
                refine wpAnyH_ready (rs := [4]) (by kernel_rfl) (by simp) ?_
                refine AllReadyH.cons (by simp only [List.getElem?_toArray]; rfl) (fun K hK => ?_) AllReadyH.nil
                have c3 := HC3.out _ BY
                go_simp
                refine hK.out _ _ ⟨KeptX.of_below BY, HSB.out _ (KeptX.of_below BY)⟩ (fun hHeld => ?_)
                clear hK K
                try simp only [Act.put, List.setIfInBounds_toArray, List.set_cons_zero, List.set_cons_succ]
                clear c3
                obtain ⟨Y, hY⟩ : ∃ Y, Y = (w6.alloc (.cells #[.string xk] 9)).drew := ⟨_, rfl⟩
                have HR1 : Reads Y 1 (.slice (some ⟨w6.heap.size, 0, none⟩) 1 1) 1 [.string xk] := by rw [hY]; exact (reads_one w6 _ _).later (Below.refl _ _).drew
                rw [← hY] at BY ⊢
                obtain ⟨gq, hgq⟩ : ∃ z, z = w6.heap.size := ⟨_, rfl⟩
                rw [← hgq] at HR1 ⊢
                have HSY := Lib.hid (HS6.out.later BY)
                clear hY hgq
                refine wpAnyH_ready (rs := [9]) (by kernel_rfl) (by simp) ?_
                refine AllReadyH.cons (by simp only [List.getElem?_toArray]; rfl) (fun K hK => ?_) AllReadyH.nil
                refine step_app_b9 rfl _ _ rfl Tryz.underlying77 hi hz hz1 hz2 rfl (by omega) (gF + 6) kn 1 (.slice ka kn kc) _ (txs K0) [.string xk] (txs (K0 ++ [xk])) (kn + 1) rfl rfl HSY.out.ok HR1 (by intro u hu; rw [List.mem_singleton.1 hu]; rfl) rfl (by rw [txs_app]; rfl) (by omega) (by omega) HSY.out.sz ?_
                intro za zc w7 HO7 HG7
                have hf7 := blk_under HSY.out.f HSY.out.gf HG7.out.below
                have c7 : w7.cell? ⟨gF, 3, none⟩ = some (.slice ka kn kc) := hf7.cellv 3 _ rfl
                have f7 := hf7.free 3
                have hkY : KeptX (fun k => k < gF + 6 ∧ k ≠ gF) Y w7 := ⟨HG7.out.below.os, HG7.out.below.tape, HG7.out.below.output, HG7.out.below.size, fun k _ hk => HG7.out.below.block k hk.1⟩
                have HK7 := Lib.hid ((KeptX.of_below BY).trans hkY)
                refine hK.out _ _ ⟨HK7.out, HSB.out _ HK7.out⟩ (fun hHeld => ?_)
                clear hK K hf7 hkY
                try simp only [Act.put, List.setIfInBounds_toArray, List.set_cons_zero, List.set_cons_succ]
                refine wpAnyH_take (i := 10) (v := ?vq43) (by simp only [List.getElem?_toArray]; rfl) (by kernel_rfl) (by kernel_rfl) (by kernel_rfl) (by exact fun _ _ _ h => h) (Or.inl ⟨by rfl, ?yq43⟩) (by assumption) ?rq43
                case yq43 => (intro w hSw; (try dsimp only at hSw); go_simp; try with_reducible rfl)
                try simp only [Act.put, List.setIfInBounds_toArray, List.set_cons_zero, List.set_cons_succ]
                refine wpAnyH_take (i := 11) (v := ?vq44) (by simp only [List.getElem?_toArray]; rfl) (by kernel_rfl) (by kernel_rfl) (by kernel_rfl) (by exact fun _ _ _ h => h) (Or.inl ⟨by rfl, ?yq44⟩) (by assumption) ?rq44
                case yq44 => (intro w hSw; (try dsimp only at hSw); go_simp; try with_reducible rfl)
                try simp only [Act.put, List.setIfInBounds_toArray, List.set_cons_zero, List.set_cons_succ]
                refine wpAnyH_ready (rs := [12]) (by kernel_rfl) (by simp) ?_
                refine AllReadyH.cons (by simp only [List.getElem?_toArray]; rfl) (fun K hK => ?_) AllReadyH.nil
                go_simp
                have HK8 : Hid (KeptX (fun k => k < gF + 6 ∧ k ≠ gF) w6 (w7.setCell ⟨gF, 3, none⟩ (.slice za (kn + 1) zc))) := HK7.out.trans (KeptX.set _ _ (fun h => h.2 rfl) _)
                refine hK.out _ _ ⟨HK8.out, HSB.out _ HK8.out⟩ (fun hHeld => ?_)
                clear hK K
                try simp only [Act.put, List.setIfInBounds_toArray, List.set_cons_zero, List.set_cons_succ]
                refine wpAnyH_done (by kernel_rfl) ?_ _
                have HF8 := HSY.out.grewK HO7.out (Nat.succ_pos _) HG7.out
                rw [← HKN.out] at HF8
                have HI8 : Hid (KeyI l (gF + 6) (gF + 1) gF w nb M B (k + 1) (w7.setCell ⟨gF, 3, none⟩ (.slice za (kn + 1) zc)) ∧ (w7.setCell ⟨gF, 3, none⟩ (.slice za (kn + 1) zc)).heap[gF + 4]? = some (.deferred (some []))) :=
                  ⟨⟨⟨_, _, _, _, _, _, _, _, _, HF8⟩, HK8.out.blk (by omega) HP6.out, HB6.out.trans (HK8.out.below (fun k hk => by have := HB6.out.size; omega) HB6.out.size)⟩,
                    (HK8.out.block _ (by have := HS6.out.sz; omega) (by omega)).trans HD6.out⟩
                clear HF8 c7 f7
                go_wp2_with fail
                go_roundw
                case rel => exact ⟨k + 1, by omega, by go_num, HI8⟩
                case measure => simp [intOf]; omega
      · obtain rfl : k = vn := by omega
        obtain ⟨K0, hK⟩ : ∃ z, z = (keysN (entsOf l) k).map bs := ⟨_, rfl⟩
        have hKl : K0.length ≤ 4096 := by rw [hK, List.length_map]; have := keysN_len (entsOf l) k; omega
        have hfile := HR.out.1.file
        rw [← hK] at hfile
        have HKE := Lib.hid hK
        obtain ⟨ma, mn, mc, ba, bn, bc, ka, kn, kc, hfile⟩ := hfile
        have HS6 := Lib.hid hfile
        have HP6 := Lib.hid HR.out.1.ptr
        have HB6 := Lib.hid HR.out.1.bel
        have HD6 := Lib.hid HR.out.2
        have p6 : wr.cell? ⟨gF + 1, 0, none⟩ = some (.pointer (some ⟨gF, 0, none⟩)) := HP6.out.cellv 0 _ rfl
        have hgr : gF + 6 ≤ wr.heap.size := hfile.sz
        have HIX : Hid (vint nb ++ M = idxP (entsOf l)) := by show _ = _; rw [idxP, HME.out, HNB.out]
        have hixl : (vint nb ++ M).length ≤ 65536 := by rw [HIX.out]; exact idxP_small HMM.out (by omega)
        clear hfile hK HR
        have HSB : Hid (∀ w', KeptX (fun k => k < gF + 6 ∧ k ≠ gF) wr w' → w'.cell? ⟨gF + 1, 0, none⟩ = some (.pointer (some ⟨gF, 0, none⟩))) := fun w' hw => hw.cells _ _ _ (by omega) p6
        have HC0 : Hid (∀ w', Below wr.heap.size wr w' → w'.cell? ⟨gF, 0, none⟩ = some (.int .i64 nb)) := fun w' hb => (HS6.out.f.below hb).cellv 0 _ rfl
        have HC1 : Hid (∀ w', Below wr.heap.size wr w' → w'.cell? ⟨gF, 1, none⟩ = some (.slice ma mn mc)) := fun w' hb => (HS6.out.f.below hb).cellv 1 _ rfl
        have hwn : IntKind.u64.wrap (nb : Int) = (nb : Int) := wrap_u64_in _ (by omega)
        have HSS : Hid (∀ w', Below wr.heap.size wr w' → KeptX (fun k => k < gF + 6 ∧ k ≠ gF) wr w' ∧ w'.cell? ⟨gF + 1, 0, none⟩ = some (.pointer (some ⟨gF, 0, none⟩)) ∧ w'.cell? ⟨gF, 0, none⟩ = some (.int .i64 nb) ∧ w'.cell? ⟨gF, 1, none⟩ = some (.slice ma mn mc)) := fun w' hb =>
          ⟨KeptX.of_below hb, HSB.out _ (KeptX.of_below hb), HC0.out _ hb, HC1.out _ hb⟩
        clear p6 HC0 HC1
        go_upto_region 16 with (fail)
        clear hlt
        refine wp_region_held_drew (S := fun w' => KeptX (fun k => k < gF + 6 ∧ k ≠ gF) wr w' ∧ w'.cell? ⟨gF + 1, 0, none⟩ = some (.pointer (some ⟨gF, 0, none⟩)) ∧ w'.cell? ⟨gF, 0, none⟩ = some (.int .i64 nb) ∧ w'.cell? ⟨gF, 1, none⟩ = some (.slice ma mn mc)) (by kernel_rfl) (HSS.out _ (Below.refl _ _).drew) (fun hHeld => ?_)
        have BD : Below wr.heap.size wr wr.drew := (Below.refl _ _).drew
        refine wpAnyH_take (i := 0) (v := ?vq45) (by simp only [List.getElem?_toArray]; rfl) (by kernel_rfl) (by kernel_rfl) (by kernel_rfl) (by exact fun _ _ _ h => h) (Or.inl ⟨by rfl, ?yq45⟩) (by assumption) ?rq45
        case yq45 => (intro w hSw; (try dsimp only at hSw); go_simp; try with_reducible rfl)
        try simp only [Act.put, List.setIfInBounds_toArray, List.set_cons_zero, List.set_cons_succ]
        refine wpAnyH_take (i := 1) (v := ?vq46) (by simp only [List.getElem?_toArray]; rfl) (by kernel_rfl) (by kernel_rfl) (by kernel_rfl) (by exact fun _ _ _ h => h) (Or.inl ⟨by rfl, ?yq46⟩) (by assumption) ?rq46
        case yq46 => (intro w hSw; (try dsimp only at hSw); go_simp; try with_reducible rfl)
        try simp only [Act.put, List.setIfInBounds_toArray, List.set_cons_zero, List.set_cons_succ]
        refine wpAnyH_take (i := 2) (v := ?vq47) (by simp only [List.getElem?_toArray]; rfl) (by kernel_rfl) (by kernel_rfl) (by kernel_rfl) (by exact fun _ _ _ h => h) (Or.inl ⟨by rfl, ?yq47⟩) (by assumption) ?rq47
        case yq47 => (intro w hSw; (try dsimp only at hSw); go_simp; try with_reducible rfl)
        try simp only [Act.put, List.setIfInBounds_toArray, List.set_cons_zero, List.set_cons_succ]
        refine wpAnyH_take (i := 3) (v := ?vq48) (by simp only [List.getElem?_toArray]; rfl) (by kernel_rfl) (by kernel_rfl) (by kernel_rfl) (by exact fun _ _ _ h => h) (Or.inl ⟨by rfl, ?yq48⟩) (by assumption) ?rq48
        case yq48 => (intro w hSw; (try dsimp only at hSw); go_simp; try with_reducible rfl)
        try simp only [Act.put, List.setIfInBounds_toArray, List.set_cons_zero, List.set_cons_succ]
        refine wpAnyH_take (i := 4) (v := ?vq49) (by simp only [List.getElem?_toArray]; rfl) (by kernel_rfl) (by kernel_rfl) (by kernel_rfl) (by exact fun _ _ _ h => h) (Or.inl ⟨by rfl, ?yq49⟩) (by assumption) ?rq49
        case yq49 => (intro w hSw; (try dsimp only at hSw); go_simp; try with_reducible rfl)
        try simp only [Act.put, List.setIfInBounds_toArray, List.set_cons_zero, List.set_cons_succ]
        refine wpAnyH_take (i := 5) (v := ?vq50) (by simp only [List.getElem?_toArray]; rfl) (by kernel_rfl) (by kernel_rfl) (by kernel_rfl) (by exact fun _ _ _ h => h) (Or.inl ⟨by rfl, ?yq50⟩) (by assumption) ?rq50
        case yq50 => (intro w hSw; (try dsimp only at hSw); go_simp; try with_reducible rfl)
        try simp only [Act.put, List.setIfInBounds_toArray, List.set_cons_zero, List.set_cons_succ]
        refine wpAnyH_take (i := 6) (v := ?vq51) (by simp only [List.getElem?_toArray]; rfl) (by kernel_rfl) (by kernel_rfl) (by kernel_rfl) (by exact fun _ _ _ h => h) (Or.inl ⟨by rfl, ?yq51⟩) (by assumption) ?rq51
        case yq51 => (intro w hSw; (try dsimp only at hSw); go_simp; try with_reducible rfl)
        try simp only [Act.put, List.setIfInBounds_toArray, List.set_cons_zero, List.set_cons_succ]
        refine wpAnyH_take (i := 8) (v := ?vq52) (by simp only [List.getElem?_toArray]; rfl) (by kernel_rfl) (by kernel_rfl) (by kernel_rfl) (by exact fun _ _ _ h => h) (Or.inl ⟨by rfl, ?yq52⟩) (by assumption) ?rq52
        case yq52 => (intro w hSw; (try dsimp only at hSw); go_simp; try with_reducible rfl)
        try simp only [Act.put, List.setIfInBounds_toArray, List.set_cons_zero, List.set_cons_succ]
        refine wpAnyH_take (i := 9) (v := ?vq53) (by simp only [List.getElem?_toArray]; rfl) (by kernel_rfl) (by kernel_rfl) (by kernel_rfl) (by exact fun _ _ _ h => h) (Or.inl ⟨by rfl, ?yq53⟩) (by assumption) ?rq53
        case yq53 => (intro w hSw; (try dsimp only at hSw); go_simp; try with_reducible rfl)
        try simp only [Act.put, List.setIfInBounds_toArray, List.set_cons_zero, List.set_cons_succ]
        refine wpAnyH_take (i := 10) (v := ?vq54) (by simp only [List.getElem?_toArray]; rfl) (by kernel_rfl) (by kernel_rfl) (by kernel_rfl) (by exact fun _ _ _ h => h) (Or.inl ⟨by rfl, ?yq54⟩) (by assumption) ?rq54
        case yq54 => (intro w hSw; (try dsimp only at hSw); go_simp; try with_reducible rfl)
        try simp only [Act.put, List.setIfInBounds_toArray, List.set_cons_zero, List.set_cons_succ]
        refine wpAnyH_take (i := 11) (v := ?vq55) (by simp only [List.getElem?_toArray]; rfl) (by kernel_rfl) (by kernel_rfl) (by kernel_rfl) (by exact fun _ _ _ h => h) (Or.inl ⟨by rfl, ?yq55⟩) (by assumption) ?rq55
        case yq55 => (intro w hSw; (try dsimp only at hSw); go_simp; try with_reducible rfl)
        try simp only [Act.put, List.setIfInBounds_toArray, List.set_cons_zero, List.set_cons_succ]
        refine wpAnyH_take (i := 12) (v := ?vq56) (by simp only [List.getElem?_toArray]; rfl) (by kernel_rfl) (by kernel_rfl) (by kernel_rfl) (by exact fun _ _ _ h => h) (Or.inl ⟨by rfl, ?yq56⟩) (by assumption) ?rq56
        case yq56 => (intro w hSw; (try dsimp only at hSw); go_simp; try with_reducible rfl)
        try simp only [Act.put, List.setIfInBounds_toArray, List.set_cons_zero, List.set_cons_succ]
        refine wpAnyH_ready (rs := [7]) (by kernel_rfl) (by simp) ?_
        refine AllReadyH.cons (by simp only [List.getElem?_toArray]; rfl) (fun K hK => ?_) AllReadyH.nil
        go_simp
        refine (put_my' _ _ [] nb (rd_nil' _) (by omega) (by simp)).mono ?_
        rintro e w7 ⟨pa, pn, pc, rfl, -, HPO, bel7⟩
        have BC : Below wr.heap.size wr w7 := BD.trans (bel7.mono BD.size)
        refine hK.out _ _ (HSS.out _ BC) (fun hHeld => ?_)
        clear hK K
        try simp only [Act.put, List.setIfInBounds_toArray, List.set_cons_zero, List.set_cons_succ]
        clear bel7
        refine wpAnyH_ready (rs := [13]) (by kernel_rfl) (by simp) ?_
        refine AllReadyH.cons (by simp only [List.getElem?_toArray]; rfl) (fun K hK => ?_) AllReadyH.nil
        refine step_app rfl _ _ rfl wr.heap.size _ _ _ (vint nb) M rfl rfl HPO.out (rd_of_own (HS6.out.later BC).om).2 (by rw [← List.length_append]; omega) BC.size ?_
        intro za zn zc w8 HZN HZ bel8
        have BC8 : Below wr.heap.size wr w8 := BC.trans bel8
        refine hK.out _ _ (HSS.out _ BC8) (fun hHeld => ?_)
        clear hK K
        try simp only [Act.put, List.setIfInBounds_toArray, List.set_cons_zero, List.set_cons_succ]
        refine wpAnyH_ready (rs := [14]) (by kernel_rfl) (by simp) ?_
        refine AllReadyH.cons (by simp only [List.getElem?_toArray]; rfl) (fun K hK => ?_) AllReadyH.nil
        go_simp
        have hcc := HSS.out _ BC8
        refine (frame_any _ (gF + 6) gF nb M B K0 _ (vint nb ++ M) ⟨_, _, _, _, _, _, _, _, _, HS6.out.later BC8⟩ (rd_of_own HZ.out).2 hixl (by omega)).mono ?_
        rintro e w9 ⟨rfl, HF9, hk9, hc9⟩
        have HK9 := Lib.hid ((KeptX.of_below BC8).trans hk9)
        refine hK.out _ _ ⟨HK9.out, HSB.out _ HK9.out, (hc9 0 (by decide)).trans hcc.2.2.1, (hc9 1 (by decide)).trans hcc.2.2.2⟩ (fun hHeld => ?_)
        clear hK K hk9 hc9 hcc
        try simp only [Act.put, List.setIfInBounds_toArray, List.set_cons_zero, List.set_cons_succ]
        refine wpAnyH_take (i := 15) (v := ?vq57) (by simp only [List.getElem?_toArray]; rfl) (by kernel_rfl) (by kernel_rfl) (by kernel_rfl) (by exact fun _ _ _ h => h) (Or.inl ⟨by rfl, ?yq57⟩) (by assumption) ?rq57
        case yq57 => (intro w hSw; (try dsimp only at hSw); go_simp; try with_reducible rfl)
        try simp only [Act.put, List.setIfInBounds_toArray, List.set_cons_zero, List.set_cons_succ]
        refine wpAnyH_done (by kernel_rfl) ?_ _
        replace HF9 := Lib.hid HF9
        rw [HIX.out] at HF9
        obtain ⟨B1, hB1⟩ : ∃ z, z = B ++ fput (idxP (entsOf l)) := ⟨_, rfl⟩
        rw [← hB1] at HF9
        have hB1l : B1.length ≤ 16844808 := by rw [hB1, List.length_append, fput_length, ← HIX.out]; omega
        have HB1 := Lib.hid hB1
        have HKA := Lib.hid HK9.out
        clear HK9 HZ HZN BC8 bel8 BC HPO BD hHeld hwn hB1 HSS HSB hixl
        obtain ⟨ma2, mn2, mc2, ba2, bn2, bc2, ka2, kn2, kc2, hS9⟩ := HF9.out
        have HS9 := Lib.hid hS9
        have HP9 := Lib.hid (HKA.out.blk (by omega) HP6.out)
        have hs9 : gF + 6 ≤ w9.heap.size := hS9.sz
        have p9 : w9.cell? ⟨gF + 1, 0, none⟩ = some (.pointer (some ⟨gF, 0, none⟩)) := HP9.out.cellv 0 _ rfl
        have HSS : Hid (∀ w', Below w9.heap.size w9 w' → KeptX (fun k => k < gF + 6 ∧ k ≠ gF) w9 w' ∧ w'.cell? ⟨gF + 1, 0, none⟩ = some (.pointer (some ⟨gF, 0, none⟩)) ∧ w'.cell? ⟨gF, 3, none⟩ = some (.slice ka2 kn2 kc2)) := fun w' hb =>
          ⟨KeptX.of_below hb, (KeptX.of_below (X := fun _ => True) hb).cells _ _ _ trivial p9, (HS9.out.f.below hb).cellv 3 _ rfl⟩
        have HSB : Hid (∀ w', KeptX (fun k => k < gF + 6 ∧ k ≠ gF) w9 w' → w'.cell? ⟨gF + 1, 0, none⟩ = some (.pointer (some ⟨gF, 0, none⟩))) := fun w' hw => hw.cells _ _ _ (by omega) p9
        obtain ⟨kk, hkk⟩ : ∃ z, z = bloomPut (K0.map fun s => s.data.toList) := ⟨_, rfl⟩
        have hkkl : kk.length ≤ 65536 := by rw [hkk, bloomPut_length, List.length_map]; unfold bloomN; omega
        have HKK : Hid (kk = bloomPut (keysN (entsOf l) k)) := by
          show _ = _
          rw [hkk, HKE.out, List.map_map]
          congr 1
          conv => rhs; rw [← List.map_id (keysN (entsOf l) k)]
          exact List.map_congr_left fun x _ => bs_data x
        have hKs : ∀ s ∈ K0, s.size ≤ 1099511627776 := by
          intro s hs
          rw [HKE.out] at hs
          obtain ⟨x, hx, rfl⟩ := List.mem_map.1 hs
          obtain ⟨i, hi, rfl⟩ := keysN_mem hx
          rw [bs_size]
          have := key_small HMM.out i (by omega)
          omega
        have HKS := Lib.hid hKs
        have HBP : Hid (∀ w', Below w9.heap.size w9 w' → Calls Tryz.prog 79 #[.slice ka2 kn2 kc2] w' (RetMy kk w')) := fun w' hb => by
          rw [hkk]; exact bloomsPut_any w' _ K0 (rdT_of (reads_of_own (HS9.out.later hb).ok)).2 (by omega) HKS.out
        clear hS9 p9 hkk hKs
        go_upto_region 17 with (fail)
        refine wp_region_held_drew (S := fun w' => KeptX (fun k => k < gF + 6 ∧ k ≠ gF) w9 w' ∧ w'.cell? ⟨gF + 1, 0, none⟩ = some (.pointer (some ⟨gF, 0, none⟩)) ∧ w'.cell? ⟨gF, 3, none⟩ = some (.slice ka2 kn2 kc2)) (by kernel_rfl) (HSS.out _ (Below.refl _ _).drew) (fun hHeld => ?_)
        have BD : Below w9.heap.size w9 w9.drew := (Below.refl _ _).drew
        refine wpAnyH_take (i := 0) (v := ?vq58) (by simp only [List.getElem?_toArray]; rfl) (by kernel_rfl) (by kernel_rfl) (by kernel_rfl) (by exact fun _ _ _ h => h) (Or.inl ⟨by rfl, ?yq58⟩) (by assumption) ?rq58
        case yq58 => (intro w hSw; (try dsimp only at hSw); go_simp; try with_reducible rfl)
        try simp only [Act.put, List.setIfInBounds_toArray, List.set_cons_zero, List.set_cons_succ]
        refine wpAnyH_take (i := 1) (v := ?vq59) (by simp only [List.getElem?_toArray]; rfl) (by kernel_rfl) (by kernel_rfl) (by kernel_rfl) (by exact fun _ _ _ h => h) (Or.inl ⟨by rfl, ?yq59⟩) (by assumption) ?rq59
        case yq59 => (intro w hSw; (try dsimp only at hSw); go_simp; try with_reducible rfl)
        try simp only [Act.put, List.setIfInBounds_toArray, List.set_cons_zero, List.set_cons_succ]
        refine wpAnyH_take (i := 2) (v := ?vq60) (by simp only [List.getElem?_toArray]; rfl) (by kernel_rfl) (by kernel_rfl) (by kernel_rfl) (by exact fun _ _ _ h => h) (Or.inl ⟨by rfl, ?yq60⟩) (by assumption) ?rq60
        case yq60 => (intro w hSw; (try dsimp only at hSw); go_simp; try with_reducible rfl)
        try simp only [Act.put, List.setIfInBounds_toArray, List.set_cons_zero, List.set_cons_succ]
        refine wpAnyH_take (i := 3) (v := ?vq61) (by simp only [List.getElem?_toArray]; rfl) (by kernel_rfl) (by kernel_rfl) (by kernel_rfl) (by exact fun _ _ _ h => h) (Or.inl ⟨by rfl, ?yq61⟩) (by assumption) ?rq61
        case yq61 => (intro w hSw; (try dsimp only at hSw); go_simp; try with_reducible rfl)
        try simp only [Act.put, List.setIfInBounds_toArray, List.set_cons_zero, List.set_cons_succ]
        refine wpAnyH_take (i := 4) (v := ?vq62) (by simp only [List.getElem?_toArray]; rfl) (by kernel_rfl) (by kernel_rfl) (by kernel_rfl) (by exact fun _ _ _ h => h) (Or.inl ⟨by rfl, ?yq62⟩) (by assumption) ?rq62
        case yq62 => (intro w hSw; (try dsimp only at hSw); go_simp; try with_reducible rfl)
        try simp only [Act.put, List.setIfInBounds_toArray, List.set_cons_zero, List.set_cons_succ]
        refine wpAnyH_ready (rs := [5]) (by kernel_rfl) (by simp) ?_
        refine AllReadyH.cons (by simp only [List.getElem?_toArray]; rfl) (fun K hK => ?_) AllReadyH.nil
        go_simp
        refine (HBP.out _ BD).mono ?_
        rintro e wb ⟨pa, pn, pc, rfl, -, HPO, belb⟩
        have BC : Below w9.heap.size w9 wb := BD.trans (belb.mono BD.size)
        refine hK.out _ _ (HSS.out _ BC) (fun hHeld => ?_)
        clear hK K
        try simp only [Act.put, List.setIfInBounds_toArray, List.set_cons_zero, List.set_cons_succ]
        clear belb
        refine wpAnyH_ready (rs := [6]) (by kernel_rfl) (by simp) ?_
        refine AllReadyH.cons (by simp only [List.getElem?_toArray]; rfl) (fun K hK => ?_) AllReadyH.nil
        go_simp
        have hcc := HSS.out _ BC
        refine (frame_any _ (gF + 6) gF nb M B1 K0 _ kk ⟨_, _, _, _, _, _, _, _, _, HS9.out.later BC⟩ (rd_of_own HPO.out).2 hkkl (by omega)).mono ?_
        rintro e wc ⟨rfl, HFC, hkc, hcC⟩
        have HKC := Lib.hid ((KeptX.of_below BC).trans hkc)
        refine hK.out _ _ ⟨HKC.out, HSB.out _ HKC.out, (hcC 3 (by decide)).trans hcc.2.2⟩ (fun hHeld => ?_)
        clear hK K hkc hcC hcc
        try simp only [Act.put, List.setIfInBounds_toArray, List.set_cons_zero, List.set_cons_succ]
        refine wpAnyH_take (i := 7) (v := ?vq63) (by simp only [List.getElem?_toArray]; rfl) (by kernel_rfl) (by kernel_rfl) (by kernel_rfl) (by exact fun _ _ _ h => h) (Or.inl ⟨by rfl, ?yq63⟩) (by assumption) ?rq63
        case yq63 => (intro w hSw; (try dsimp only at hSw); go_simp; try with_reducible rfl)
        try simp only [Act.put, List.setIfInBounds_toArray, List.set_cons_zero, List.set_cons_succ]
        refine wpAnyH_done (by kernel_rfl) ?_ _
        replace HFC := Lib.hid HFC
        rw [HKK.out] at HFC
        obtain ⟨B2, hB2⟩ : ∃ z, z = B1 ++ fput (bloomPut (keysN (entsOf l) k)) := ⟨_, rfl⟩
        rw [← hB2] at HFC
        have hB2l : B2.length ≤ 16910352 := by rw [hB2, List.length_append, fput_length, ← HKK.out]; omega
        have HB2 := Lib.hid hB2
        replace HKA := Lib.hid (HKA.out.trans HKC.out)
        clear HKC BC HPO BD hHeld hB2 HSS HSB hkkl HS9 HP9 hs9
        have HPC := Lib.hid (HKA.out.blk (by omega) HP6.out)
        have HBC := Lib.hid (HB6.out.trans (HKA.out.below (fun k hk => by have := HB6.out.size; omega) HB6.out.size))
        have HDC : Hid (wc.heap[gF + 4]? = some (.deferred (some []))) := Lib.hid ((HKA.out.block _ (by omega) (by omega)).trans HD6.out)
        have hsc : gF + 6 ≤ wc.heap.size := Nat.le_trans hgr HKA.out.size
        clear HP6 HB6 HD6 HKA HS6
        go_wp2_with fail
        obtain ⟨gA, hgA⟩ : ∃ z, z = wc.heap.size := ⟨_, rfl⟩
        obtain ⟨an, han⟩ : ∃ z, z = B.length := ⟨_, rfl⟩
        obtain ⟨bn, hbn⟩ : ∃ z, z = B1.length := ⟨_, rfl⟩
        rw [← han, ← hbn]
        obtain ⟨wd, hwd⟩ : ∃ z, z = wc.alloc (Obj.cells #[Value.int IntKind.i64 ↑an, Value.int IntKind.i64 ↑bn, Value.int IntKind.i64 ↑k] 3) := ⟨_, rfl⟩
        have hbd : Below wc.heap.size wc wd := by rw [hwd]; exact (Below.refl _ _).alloc (Nat.le_refl _) _
        have HID : Hid (FileAt (gF + 6) gF nb M (B2 ++ footB an bn k 0) K0 wd ∧ Blk wd (gF + 1) #[.pointer (some ⟨gF, 0, none⟩)] 74 ∧ Below w.heap.size w wd ∧ wd.heap[gF + 4]? = some (.deferred (some [])) ∧ Blk wd gA #[.int .i64 an, .int .i64 bn, .int .i64 k] 3) :=
          ⟨by rw [footB, List.append_nil]; exact HFC.out.kept (X := fun _ => True) (fun _ _ => trivial) (KeptX.of_below hbd), HPC.out.below hbd, HBC.out.trans (hbd.mono HBC.out.size), (hbd.block _ (by omega)).trans HDC.out, by rw [hwd]; exact Blk.new_at _ _ _ _ hgA⟩
        rw [← hgA, ← hwd]
        have hgA2 : gF + 6 ≤ gA := by rw [hgA]; exact hsc
        have han2 : an < 4294967296 := by omega
        have hbn2 : bn < 4294967296 := by omega
        have HAN := Lib.hid han
        have HBN := Lib.hid hbn
        clear hgA hwd hbd HFC HPC HBC HDC hsc han hbn
        try show Code.wp _ _ _ _ _
        go_loopw [109] (fun i wz => ∃ j : Nat, j ≤ 3 ∧ i = .int .i64 j ∧ Hid (FileAt (gF + 6) gF nb M (B2 ++ footB an bn k j) K0 wz ∧ Blk wz (gF + 1) #[.pointer (some ⟨gF, 0, none⟩)] 74 ∧ Below w.heap.size w wz ∧ wz.heap[gF + 4]? = some (.deferred (some [])) ∧ Blk wz gA #[.int .i64 an, .int .i64 bn, .int .i64 k] 3)) (fun i _ => 3 - (intOf i).toNat)
        case atStart => exact ⟨0, by omega, rfl, HID⟩
        case round =>
          obtain ⟨j, hj, rfl, HR⟩ := hrel
          clear HID
          by_cases hlt : j < 3
          · obtain ⟨vv, hvv⟩ : ∃ z, z = footV an bn k j := ⟨_, rfl⟩
            have hv32 : vv < 4294967296 := by rw [hvv]; unfold footV; split <;> omega
            have c0 : wr.cell? ⟨gA, j, none⟩ = some (.int .i64 vv) := by
              rw [HR.out.2.2.2.2.cell j, hvv]
              match j, hlt with
              | 0, _ => rfl
              | 1, _ => rfl
              | 2, _ => rfl
            have HVV := Lib.hid hvv
            have hwv : IntKind.u32.wrap (vv : Int) = (vv : Int) := wrap_u32_in _ hv32
            have p0 : wr.cell? ⟨gF + 1, 0, none⟩ = some (.pointer (some ⟨gF, 0, none⟩)) := HR.out.2.1.cellv 0 _ rfl
            have hjj : (j : Int) < 3 := by omega
            obtain ⟨Bj, hBj⟩ : ∃ z, z = B2 ++ footB an bn k j := ⟨_, rfl⟩
            have hBjl : Bj.length ≤ 17000000 := by rw [hBj, List.length_append, footB_len]; omega
            have HBJ := Lib.hid hBj
            obtain ⟨ma3, mn3, mc3, ba3, bn3, bc3, ka3, kn3, kc3, hS⟩ := HR.out.1
            rw [← hBj] at hS
            have HSJ := Lib.hid hS
            have HPB : Hid (∀ w', KeptX (fun k => k < gF + 6 ∧ k ≠ gF) wr w' → w'.cell? ⟨gF + 1, 0, none⟩ = some (.pointer (some ⟨gF, 0, none⟩))) := fun w' hw => hw.cells _ _ _ (by omega) p0
            have HC2 : Hid (∀ w', Below wr.heap.size wr w' → w'.cell? ⟨gF, 2, none⟩ = some (.slice ba3 bn3 bc3) ∧ Rd w' (.slice ba3 bn3 bc3) Bj) := fun w' hb => ⟨(HSJ.out.f.below hb).cellv 2 _ rfl, (rd_of_own (HSJ.out.later hb).ob).2⟩
            clear hvv hBj hS p0
            go_upto_region 21 with (fail)
            clear c0
            refine wp_region_held_drew (S := fun w' => KeptX (fun k => k < gF + 6 ∧ k ≠ gF) wr w' ∧ w'.cell? ⟨gF + 1, 0, none⟩ = some (.pointer (some ⟨gF, 0, none⟩))) (by kernel_rfl) (⟨KeptX.of_below (Below.refl _ _).drew, HPB.out _ (KeptX.of_below (Below.refl _ _).drew)⟩) (fun hHeld => ?_)
            have BD : Below wr.heap.size wr wr.drew := (Below.refl _ _).drew
            have c2 := (HC2.out _ BD).1
            refine wpAnyH_take (i := 0) (v := ?vq64) (by simp only [List.getElem?_toArray]; rfl) (by kernel_rfl) (by kernel_rfl) (by kernel_rfl) (by exact fun _ _ _ h => h) (Or.inl ⟨by rfl, ?yq64⟩) (by assumption) ?rq64
            case yq64 => (intro w hSw; (try dsimp only at hSw); go_simp; try with_reducible rfl)
            try simp only [Act.put, List.setIfInBounds_toArray, List.set_cons_zero, List.set_cons_succ]
            refine wpAnyH_take (i := 1) (v := ?vq65) (by simp only [List.getElem?_toArray]; rfl) (by kernel_rfl) (by kernel_rfl) (by kernel_rfl) (by exact fun _ _ _ h => h) (Or.inl ⟨by rfl, ?yq65⟩) (by assumption) ?rq65
            case yq65 => (intro w hSw; (try dsimp only at hSw); go_simp; try with_reducible rfl)
            try simp only [Act.put, List.setIfInBounds_toArray, List.set_cons_zero, List.set_cons_succ]
            refine wpAnyH_take (i := 2) (v := ?vq66) (by simp only [List.getElem?_toArray]; rfl) (by kernel_rfl) (by kernel_rfl) (by kernel_rfl) (by exact fun _ _ _ h => h) (Or.inl ⟨by rfl, ?yq66⟩) (by assumption) ?rq66
            case yq66 => (intro w hSw; (try dsimp only at hSw); go_simp; try with_reducible rfl)
            try simp only [Act.put, List.setIfInBounds_toArray, List.set_cons_zero, List.set_cons_succ]
            refine wpAnyH_take (i := 3) (v := ?vq67) (by simp only [List.getElem?_toArray]; rfl) (by kernel_rfl) (by kernel_rfl) (by kernel_rfl) (by exact fun _ _ _ h => h) (Or.inl ⟨by rfl, ?yq67⟩) (by assumption) ?rq67
            case yq67 => (intro w hSw; (try dsimp only at hSw); go_simp; try with_reducible rfl)
            try simp only [Act.put, List.setIfInBounds_toArray, List.set_cons_zero, List.set_cons_succ]
            refine wpAnyH_take (i := 5) (v := ?vq68) (by simp only [List.getElem?_toArray]; rfl) (by kernel_rfl) (by kernel_rfl) (by kernel_rfl) (by exact fun _ _ _ h => h) (Or.inl ⟨by rfl, ?yq68⟩) (by assumption) ?rq68
            case yq68 => (intro w hSw; (try dsimp only at hSw); go_simp; try with_reducible rfl)
            try simp only [Act.put, List.setIfInBounds_toArray, List.set_cons_zero, List.set_cons_succ]
            refine wpAnyH_take (i := 6) (v := ?vq69) (by simp only [List.getElem?_toArray]; rfl) (by kernel_rfl) (by kernel_rfl) (by kernel_rfl) (by exact fun _ _ _ h => h) (Or.inl ⟨by rfl, ?yq69⟩) (by assumption) ?rq69
            case yq69 => (intro w hSw; (try dsimp only at hSw); go_simp; try with_reducible rfl)
            try simp only [Act.put, List.setIfInBounds_toArray, List.set_cons_zero, List.set_cons_succ]
            refine wpAnyH_ready (rs := [4]) (by kernel_rfl) (by simp) ?_
            refine AllReadyH.cons (by simp only [List.getElem?_toArray]; rfl) (fun K hK => ?_) AllReadyH.nil
            go_simp
            refine hK.out _ _ ⟨KeptX.of_below BD, HPB.out _ (KeptX.of_below BD)⟩ (fun hHeld => ?_)
            clear hK K
            try simp only [Act.put, List.setIfInBounds_toArray, List.set_cons_zero, List.set_cons_succ]
            refine wpAnyH_ready (rs := [7]) (by kernel_rfl) (by simp) ?_
            refine AllReadyH.cons (by simp only [List.getElem?_toArray]; rfl) (fun K hK => ?_) AllReadyH.nil
            go_simp
            refine (putFour_my' _ _ Bj vv (HC2.out _ BD).2 hv32 (by omega)).mono ?_
            rintro e w7 ⟨pa, pn, pc, rfl, HPN, HPO, bel7⟩
            have BC : Below wr.heap.size wr w7 := BD.trans (bel7.mono BD.size)
            have c7 := (HC2.out _ BC).1
            have f7 := (HSJ.out.f.below BC).free 2
            refine hK.out _ _ ⟨KeptX.of_below BC, HPB.out _ (KeptX.of_below BC)⟩ (fun hHeld => ?_)
            clear hK K
            try simp only [Act.put, List.setIfInBounds_toArray, List.set_cons_zero, List.set_cons_succ]
            clear bel7
            refine wpAnyH_take (i := 8) (v := ?vq70) (by simp only [List.getElem?_toArray]; rfl) (by kernel_rfl) (by kernel_rfl) (by kernel_rfl) (by exact fun _ _ _ h => h) (Or.inl ⟨by rfl, ?yq70⟩) (by assumption) ?rq70
            case yq70 => (intro w hSw; (try dsimp only at hSw); go_simp; try with_reducible rfl)
            try simp only [Act.put, List.setIfInBounds_toArray, List.set_cons_zero, List.set_cons_succ]
            refine wpAnyH_take (i := 9) (v := ?vq71) (by simp only [List.getElem?_toArray]; rfl) (by kernel_rfl) (by kernel_rfl) (by kernel_rfl) (by exact fun _ _ _ h => h) (Or.inl ⟨by rfl, ?yq71⟩) (by assumption) ?rq71
            case yq71 => (intro w hSw; (try dsimp only at hSw); go_simp; try with_reducible rfl)
            try simp only [Act.put, List.setIfInBounds_toArray, List.set_cons_zero, List.set_cons_succ]
            refine wpAnyH_ready (rs := [10]) (by kernel_rfl) (by simp) ?_
            refine AllReadyH.cons (by simp only [List.getElem?_toArray]; rfl) (fun K hK => ?_) AllReadyH.nil
            go_simp
            have HK8 : Hid (KeptX (fun k => k < gF + 6 ∧ k ≠ gF) wr (w7.setCell ⟨gF, 2, none⟩ (.slice pa pn pc))) := (KeptX.of_below BC).trans (KeptX.set _ _ (fun h => h.2 rfl) _)
            refine hK.out _ _ ⟨HK8.out, HPB.out _ HK8.out⟩ (fun hHeld => ?_)
            clear hK K
            try simp only [Act.put, List.setIfInBounds_toArray, List.set_cons_zero, List.set_cons_succ]
            refine wpAnyH_done (by kernel_rfl) ?_ _
            have HF8 := HSJ.out.newB HPO.out (by have := HPN.out; rw [List.length_append] at this; simp [four_len] at this; omega) BC
            have HI8 : Hid (FileAt (gF + 6) gF nb M (B2 ++ footB an bn k (j + 1)) K0 (w7.setCell ⟨gF, 2, none⟩ (.slice pa pn pc)) ∧ Blk (w7.setCell ⟨gF, 2, none⟩ (.slice pa pn pc)) (gF + 1) #[.pointer (some ⟨gF, 0, none⟩)] 74 ∧ Below w.heap.size w (w7.setCell ⟨gF, 2, none⟩ (.slice pa pn pc)) ∧ (w7.setCell ⟨gF, 2, none⟩ (.slice pa pn pc)).heap[gF + 4]? = some (.deferred (some [])) ∧ Blk (w7.setCell ⟨gF, 2, none⟩ (.slice pa pn pc)) gA #[.int .i64 an, .int .i64 bn, .int .i64 k] 3) := by
              refine ⟨?_, HK8.out.blk (by omega) HR.out.2.1, HR.out.2.2.1.trans (HK8.out.below (fun k hk => by have := HR.out.2.2.1.size; omega) HR.out.2.2.1.size), (HK8.out.block _ (by have := HSJ.out.sz; omega) (by omega)).trans HR.out.2.2.2.1, (HR.out.2.2.2.2.below BC).set_other _ (by intro e; simp at e; omega) _⟩
              rw [footB, ← List.append_assoc, ← HBJ.out, ← HVV.out]
              exact ⟨_, _, _, _, _, _, _, _, _, HF8⟩
            clear HF8 c7 f7 c2
            go_wp2_with fail
            go_roundw
            case rel => exact ⟨j + 1, by omega, by go_num, HI8⟩
            case measure => simp [intOf]; omega
          · obtain rfl : j = 3 := by omega
            obtain ⟨ma3, mn3, mc3, ba3, bn3, bc3, ka3, kn3, kc3, hS⟩ := HR.out.1
            have c2 := hS.f.cellv 2 _ rfl
            have p0 : wr.cell? ⟨gF + 1, 0, none⟩ = some (.pointer (some ⟨gF, 0, none⟩)) := HR.out.2.1.cellv 0 _ rfl
            have hfile : B2 ++ footB an bn k 3 = outS (entsOf l) := by
              rw [outS_ok HE.out, HB2.out, HB1.out, HAN.out, HBN.out, HB1.out]
              simp only [fileS, hEn, ← HNB.out, ← HBE.out, footB, footV, List.append_assoc, List.length_append, List.nil_append]
            have hob := hS.ob
            rw [hfile] at hob
            obtain ⟨hcl, hob2⟩ := own_clip hob
            have HOB : Hid (Own wr (gF + 6) 5 1 (.slice ba3 bn3 bn3) bn3 (u8s (outS (entsOf l)))) := Lib.hid hob2
            have HCL := Lib.hid (clipB_any wr ba3 bn3 bc3 hcl)
            have HBR := Lib.hid HR.out.2.2.1
            have HDR := Lib.hid HR.out.2.2.2.1
            clear hS hob hob2 hcl hfile HR
            go_wp2_with fail
            refine HCL.out.mono ?_
            rintro e wy ⟨rfl, rfl⟩
            go_wp2_with fail
            have hkx : KeptX (fun k => k ≠ gF + 4) wr (wr.putObj (gF + 4) (.deferred none)) := KeptX.put _ _ (fun h => h rfl) _
            refine retM_mark (D := gF + 4) (by simp only [HSZ.out]) HDR.out (results_tmp2 rfl _ _ _) ?_
            refine ⟨ba3, bn3, bn3, by rw [HE.out]; rfl, (rd_of_own HOB.out).1, ?_, HBR.out.trans (hkx.below (fun k hk => by omega) HBR.out.size)⟩
            rcases HOB.out with ho | ⟨h1, g, cap, cur, fr, h2, h3, h4, h5⟩
            · exact .inl ho
            · exact .inr ⟨h1, g, cap, cur, fr, h2, by omega, by rw [hkx.block g (Array.getElem?_eq_some_iff.1 h4).1 (by omega)]; exact h4, h5⟩
end Go.Proofs.YtbcnapkbdbefhaaGreatDoor

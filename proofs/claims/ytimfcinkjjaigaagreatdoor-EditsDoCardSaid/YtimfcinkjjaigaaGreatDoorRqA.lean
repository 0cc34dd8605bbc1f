/- Walks of the reader of the reference's edits. The condition: bytes that a slice holds. | Walk of the reference's Put of edits. The conditions: lists of 100000 elements at most, numbers as their kinds bear. | Walk of the reference's Get of edits. The condition: 50000 bytes at most. -/
import Derived.Test.YtimfcinkjjaigaaGreatDoorFlRead
import Derived.Test.YtimfcinkjjaigaaGreatDoorRefPut
import Derived.Test.YtimfcinkjjaigaaGreatDoorOrder3
import Derived.Test.YtimfcinkjjaigaaGreatDoorKindA
import Derived.Deep.Cut
import Derived.Test.YtimfcinkjjaigaaGreatDoorApart
import Derived.Deep.CutRange
import Derived.Deep.CutBlock
namespace Go.Proofs.YtimfcinkjjaigaaGreatDoor
open Go.RowKit

/-- a reader of the reference in block g -/
def RQ (w0 w : World) (g : Nat) (bad : Bool) (l : List UInt8) : Prop :=
  ∃ a n c, Blk w g #[.slice a n c, .bool bad] 132 ∧ Rd w0 (.slice a n c) l ∧ Below w0.heap.size w0 w ∧ w0.heap.size ≤ g
theorem RQ.other {w0 w w' : World} {g : Nat} {bad : Bool} {l : List UInt8} (h : RQ w0 w g bad l) (hb : Below w.heap.size w w') : RQ w0 w' g bad l := by
  obtain ⟨a, n, c, h1, h2, h3, h4⟩ := h
  exact ⟨a, n, c, h1.below hb, h2, h3.trans (hb.mono h3.size), h4⟩
theorem RQ.set {w0 w : World} {g : Nat} {bad : Bool} {l : List UInt8} (h : RQ w0 w g bad l) (p : Addr) (hp : p.block ≠ g) (hb : w0.heap.size ≤ p.block) (u : Value) : RQ w0 (w.setCell p u) g bad l := by
  obtain ⟨a, n, c, h1, h2, h3, h4⟩ := h
  exact ⟨a, n, c, h1.set_other p hp u, h2, h3.setCell hb u, h4⟩
theorem RQ.lt {w0 w : World} {g : Nat} {bad : Bool} {l : List UInt8} (h : RQ w0 w g bad l) : g < w.heap.size ∧ w0.heap.size ≤ g ∧ w0.heap.size ≤ w.heap.size := by
  obtain ⟨a, n, c, h1, h2, h3, h4⟩ := h
  exact ⟨h1.lt, h4, h3.size⟩
theorem RQ.under {w0 w w' : World} {g b : Nat} {bad : Bool} {l : List UInt8} (h : RQ w0 w g bad l) (hb : Below b w w') (hg : g < b) : RQ w0 w' g bad l := by
  obtain ⟨a, n, c, h1, h2, h3, h4⟩ := h
  have : Blk w' g #[.slice a n c, .bool bad] 132 := by
    unfold Blk at *
    rw [hb.block g hg]; exact h1
  exact ⟨a, n, c, this, h2, h3.trans (hb.mono (by omega)), h4⟩

set_option maxRecDepth 100000 in
set_option maxHeartbeats 1000000 in
theorem numQ_any (w0 w : World) (g : Nat) (bad : Bool) (l : List UInt8) (most : Nat) (h : RQ w0 w g bad l) (hm : most < 18446744073709551616) :
    Calls Tryz.prog 136 #[.pointer (some ⟨g, 0, none⟩), .int .u64 most] w fun en w' => ∃ (n : Nat) (bad' : Bool) (l' : List UInt8), en = .returned (.int .u64 n) ∧ n < 18446744073709551616 ∧ Hid (RQ w0 w' g bad' l') ∧ Hid (Only w w' g) ∧ Hid (Step vint (fun n => n ≤ most) bad l n bad' l') := by
  obtain ⟨va, vn, vc, hB, hv, hbel, hg⟩ := h
  have HB := Lib.hid hB
  have HBE := Lib.hid hbel
  have HGG := Lib.hid hg
  have HST := Lib.hid (number_step l bad most hm)
  have hlt := vget_lt l
  have HK := Lib.hid (vget_len l)
  obtain ⟨N, K, E, hgt⟩ : ∃ N K E, vget l = (N, K, E) := ⟨_, _, _, rfl⟩
  have HG2 : Hid (Calls Tryz.prog 144 #[.slice va vn vc] w fun e' w' => e' = .returned (.tuple #[.int .u64 N, .int .i64 K, .int .i64 E]) ∧ w = w') := Lib.hid (by
    have h := refGet_any _ l w (hv.below hbel)
    unfold RetGet at h
    rwa [hgt] at h)
  rw [hgt] at HST HK hlt
  dsimp only at hlt HST HK
  obtain ⟨a, c, hcut, hrd⟩ := cut_from hv K HK.out
  have HRD := Lib.hid hrd
  have s1 := fun w' => hcut w' .i64
  obtain ⟨va', vn', vc', hve, hvn⟩ := rd_len hv
  obtain ⟨zn, hz⟩ : ∃ z, z = l.length - K := ⟨_, rfl⟩
  rw [← hz] at s1 HRD
  have c0 := Blk.cellv hB 0 _ rfl
  have c1 := Blk.cellv hB 1 _ rfl
  have f0 := Blk.free hB 0
  have f1 := Blk.free hB 1
  clear hcut hrd hz hv hvn hve hB hbel hg hgt
  have HFIN : Hid (∀ b : Bool, RQ w0 ((w.setCell ⟨g, 1, none⟩ (.bool b)).setCell ⟨g, 0, none⟩ (.slice a zn c)) g b (l.drop K) ∧ Only w ((w.setCell ⟨g, 1, none⟩ (.bool b)).setCell ⟨g, 0, none⟩ (.slice a zn c)) g) := Lib.hid fun b => by
    have h2 := Blk.set (Blk.set HB.out 1 (.bool b)) 0 (.slice a zn c)
    have hO := (Only.set w g 1 (.bool b)).trans (Only.set _ g 0 (.slice a zn c))
    exact ⟨⟨a, zn, c, h2, HRD.out, Only.below HBE.out hO HGG.out HBE.out.size, HGG.out⟩, hO⟩
  cases bad with
  | true =>
    rw [show (true || !decide (E = 0 ∧ N ≤ most)) = true from by simp] at HST
    go_enter Tryz.func136, Tryz.ntmps136
    go_wp2_with fail
    refine HG2.out.mono ?_
    rintro e' w' ⟨rfl, rfl⟩
    go_wp2
    go_ret
    exact ⟨N, true, l.drop K, rfl, hlt, (HFIN.out true).1, (HFIN.out true).2, HST⟩
  | false =>
    by_cases hE : E = 0
    · subst hE
      by_cases hle : N ≤ most
      · have hd : decide ((N : Int) > (most : Int)) = false := by simp; omega
        have hd2 : decide ((most : Int) < (N : Int)) = false := by simp; omega
        have hd3 : decide (most < N) = false := by simp; omega
        rw [show (false || !decide ((0 : Nat) = 0 ∧ N ≤ most)) = false from by simp [hle]] at HST
        go_enter Tryz.func136, Tryz.ntmps136
        go_wp2_with fail
        refine HG2.out.mono ?_
        rintro e' w' ⟨rfl, rfl⟩
        go_wp2
        go_ret
        exact ⟨N, false, l.drop K, rfl, hlt, (HFIN.out false).1, (HFIN.out false).2, HST⟩
      · have hd : decide ((N : Int) > (most : Int)) = true := by simp; omega
        have hd2 : decide ((most : Int) < (N : Int)) = true := by simp; omega
        have hd3 : decide (most < N) = true := by simp; omega
        rw [show (false || !decide ((0 : Nat) = 0 ∧ N ≤ most)) = true from by simp [hle]] at HST
        go_enter Tryz.func136, Tryz.ntmps136
        go_wp2_with fail
        refine HG2.out.mono ?_
        rintro e' w' ⟨rfl, rfl⟩
        go_wp2
        go_ret
        exact ⟨N, true, l.drop K, rfl, hlt, (HFIN.out true).1, (HFIN.out true).2, HST⟩
    · have hd : ((E : Int) != 0) = true := by simp; omega
      have hd2 : ((E : Int) == 0) = false := by simp; omega
      rw [show (false || !decide (E = 0 ∧ N ≤ most)) = true from by simp [hE]] at HST
      go_enter Tryz.func136, Tryz.ntmps136
      go_wp2_with fail
      refine HG2.out.mono ?_
      rintro e' w' ⟨rfl, rfl⟩
      go_wp2
      go_ret
      exact ⟨N, true, l.drop K, rfl, hlt, (HFIN.out true).1, (HFIN.out true).2, HST⟩
set_option maxRecDepth 100000 in
set_option maxHeartbeats 1000000 in
theorem textQ_any (w0 w : World) (g : Nat) (bad : Bool) (l : List UInt8) (h : RQ w0 w g bad l) :
    Calls Tryz.prog 137 #[.pointer (some ⟨g, 0, none⟩)] w fun en w' => ∃ (s : ByteArray) (bad' : Bool) (l' : List UInt8), en = .returned (.string s) ∧ Hid (RQ w0 w' g bad' l') ∧ Hid (Only w w' g) ∧ Hid (Step tx (fun s => s.size < 18446744073709551616) bad l s bad' l') := by
  obtain ⟨va, vn, vc, hB, hv, hbel, hg⟩ := h
  have HB := Lib.hid hB
  have HBE := Lib.hid hbel
  have HGG := Lib.hid hg
  have HST := Lib.hid (text_step l bad)
  have HK := Lib.hid (tget_len l)
  obtain ⟨N, K, E, hgt⟩ : ∃ N K E, tget l = (N, K, E) := ⟨_, _, _, rfl⟩
  obtain ⟨S, hS⟩ : ∃ S, S = bs N := ⟨_, rfl⟩
  have HG2 : Hid (Calls Tryz.prog 145 #[.slice va vn vc] w fun e' w' => e' = .returned (.tuple #[.string S, .int .i64 K, .int .i64 E]) ∧ w = w') := Lib.hid (by
    have h := refGetText_any _ l w (hv.below hbel)
    unfold RetText at h
    rwa [hgt, ← hS] at h)
  rw [hgt] at HST HK
  dsimp only at HST HK
  rw [← hS] at HST
  clear hS
  obtain ⟨a, c, hcut, hrd⟩ := cut_from hv K HK.out
  have HRD := Lib.hid hrd
  have s1 := fun w' => hcut w' .i64
  obtain ⟨va', vn', vc', hve, hvn⟩ := rd_len hv
  obtain ⟨zn, hz⟩ : ∃ z, z = l.length - K := ⟨_, rfl⟩
  rw [← hz] at s1 HRD
  have c0 := Blk.cellv hB 0 _ rfl
  have c1 := Blk.cellv hB 1 _ rfl
  have f0 := Blk.free hB 0
  have f1 := Blk.free hB 1
  clear hcut hrd hz hv hvn hve hB hbel hg hgt
  have HFIN : Hid (∀ b : Bool, RQ w0 ((w.setCell ⟨g, 1, none⟩ (.bool b)).setCell ⟨g, 0, none⟩ (.slice a zn c)) g b (l.drop K) ∧ Only w ((w.setCell ⟨g, 1, none⟩ (.bool b)).setCell ⟨g, 0, none⟩ (.slice a zn c)) g) := Lib.hid fun b => by
    have h2 := Blk.set (Blk.set HB.out 1 (.bool b)) 0 (.slice a zn c)
    have hO := (Only.set w g 1 (.bool b)).trans (Only.set _ g 0 (.slice a zn c))
    exact ⟨⟨a, zn, c, h2, HRD.out, Only.below HBE.out hO HGG.out HBE.out.size, HGG.out⟩, hO⟩
  cases bad with
  | true =>
    rw [show (true || !decide (E = 0)) = true from by simp] at HST
    go_enter Tryz.func137, Tryz.ntmps137
    go_wp2_with fail
    refine HG2.out.mono ?_
    rintro e' w' ⟨rfl, rfl⟩
    go_wp2
    go_ret
    exact ⟨S, true, l.drop K, rfl, (HFIN.out true).1, (HFIN.out true).2, HST⟩
  | false =>
    by_cases hE : E = 0
    · subst hE
      rw [show (false || !decide ((0 : Nat) = 0)) = false from by simp] at HST
      go_enter Tryz.func137, Tryz.ntmps137
      go_wp2_with fail
      refine HG2.out.mono ?_
      rintro e' w' ⟨rfl, rfl⟩
      go_wp2
      go_ret
      exact ⟨S, false, l.drop K, rfl, (HFIN.out false).1, (HFIN.out false).2, HST⟩
    · have hd : ((E : Int) != 0) = true := by simp; omega
      have hd2 : ((E : Int) == 0) = false := by simp; omega
      rw [show (false || !decide (E = 0)) = true from by simp [hE]] at HST
      go_enter Tryz.func137, Tryz.ntmps137
      go_wp2_with fail
      refine HG2.out.mono ?_
      rintro e' w' ⟨rfl, rfl⟩
      go_wp2
      go_ret
      exact ⟨S, true, l.drop K, rfl, (HFIN.out true).1, (HFIN.out true).2, HST⟩
-- MAY
set_option maxRecDepth 100000 in
set_option maxHeartbeats 1000000 in
theorem refMayF_any (w : World) (f : PF) :
    Calls Tryz.prog 60 #[.agg #[.int .u32 f.n, .int .i64 f.lv, .string f.a, .string f.b]] w fun e w' => e = .returned (.bool (mayF f)) ∧ Below w.heap.size w w' := by
  obtain ⟨fn, fl, fa, fb⟩ := f
  simp only
  obtain ⟨B, hB⟩ : ∃ B, B = mayF ⟨fn, fl, fa, fb⟩ := ⟨_, rfl⟩
  rw [← hB]
  have HB := Lib.hid hB
  clear hB
  have hbs : checkK fb.data.toList = true → fb.size ≤ 9223372036854775807 := fun h => by
    unfold checkK at h
    simp only [size_data, decide_eq_true_eq] at h
    omega
  by_cases p0 : 0 ≤ fl
  · have d0 : decide (0 ≤ fl) = true := by simpa using p0
    by_cases p1 : fl < 4
    · have d1 : decide (fl < 4) = true := by simpa using p1
      cases p2 : checkK fa.data.toList
      case false =>
        clear hbs
        go_enter Tryz.func60, Tryz.ntmps60
        go_wp2_with (go_at_call 155; refine (refCheck_any _ _).mono ?_; rintro e w' ⟨rfl, rfl⟩)
        go_ret
        have e : mayF ⟨fn, fl, fa, fb⟩ = false := by simp only [mayF, d0, d1, p2, Bool.true_and, Bool.false_and, Bool.and_true]
        exact ⟨by rw [HB.out, e]; rfl, alloc_bel _ _⟩
      case true =>
        cases p3 : checkK fb.data.toList
        case false =>
          clear hbs
          go_enter Tryz.func60, Tryz.ntmps60
          go_wp2_with (go_at_call 155; refine (refCheck_any _ _).mono ?_; rintro e w' ⟨rfl, rfl⟩)
          go_ret
          have e : mayF ⟨fn, fl, fa, fb⟩ = false := by simp only [mayF, d0, d1, p2, p3, Bool.true_and, Bool.false_and, Bool.and_true]
          exact ⟨by rw [HB.out, e]; rfl, alloc_bel _ _⟩
        case true =>
          replace hbs := hbs p3
          go_enter Tryz.func60, Tryz.ntmps60
          go_wp2_with (first | (go_at_call 155; refine (refCheck_any _ _).mono ?_; rintro e w' ⟨rfl, rfl⟩) | (go_at_call 156; refine (refLess_any _ _ _ hbs).mono ?_; rintro e w' ⟨rfl, dn, rfl⟩))
          go_ret
          have e : mayF ⟨fn, fl, fa, fb⟩ = !ltB fb.data.toList fa.data.toList := by simp only [mayF, d0, d1, p2, p3, Bool.true_and, Bool.and_true]
          exact ⟨by rw [HB.out, e]; rfl, (alloc_bel _ _).trans ((drewN_below _ _).mono (alloc_bel _ _).size)⟩
    · have d1 : decide (fl < 4) = false := by simpa using p1
      clear hbs
      go_enter Tryz.func60, Tryz.ntmps60
      go_wp2_with (go_at_call 155; refine (refCheck_any _ _).mono ?_; rintro e w' ⟨rfl, rfl⟩)
      go_ret
      have e : mayF ⟨fn, fl, fa, fb⟩ = false := by simp only [mayF, d0, d1, Bool.true_and, Bool.false_and]
      exact ⟨by rw [HB.out, e]; rfl, alloc_bel _ _⟩
  · have d0 : decide (0 ≤ fl) = false := by simpa using p0
    clear hbs
    go_enter Tryz.func60, Tryz.ntmps60
    go_wp2_with (go_at_call 155; refine (refCheck_any _ _).mono ?_; rintro e w' ⟨rfl, rfl⟩)
    go_ret
    have e : mayF ⟨fn, fl, fa, fb⟩ = false := by simp only [mayF, d0, Bool.false_and]
    exact ⟨by rw [HB.out, e]; rfl, alloc_bel _ _⟩
end Go.Proofs.YtimfcinkjjaigaaGreatDoor
namespace Go.Proofs.YtimfcinkjjaigaaGreatDoor
open Go.RowKit

set_option maxRecDepth 100000 in
set_option maxHeartbeats 8000000 in
theorem refPutX_any (w : World) (vx : Value) (x : PX) (hx : RdX w vx x) (hf : x.fit) :
    Calls Tryz.prog 36 #[vx] w (RetPutX x w) := by
  obtain ⟨va, vr, rfl, hva, hvr⟩ := hx
  obtain ⟨f1, f2, f3, f4, f5, f6, f7⟩ := hf
  obtain ⟨aa, ac, hae, ha1, ha2, -⟩ := id hva
  obtain ⟨ra, rc, hre, hr1, hr2, -⟩ := id hvr
  obtain ⟨an, han⟩ : ∃ n, n = x.add.length := ⟨_, rfl⟩
  obtain ⟨rn, hrn⟩ : ∃ n, n = x.rem.length := ⟨_, rfl⟩
  rw [← han] at hae ha1 f1
  rw [← hrn] at hre hr1 f2
  subst hae
  subst hre
  obtain ⟨jo, hjo⟩ : ∃ j, j = x.jo := ⟨_, rfl⟩
  obtain ⟨nx, hnx⟩ : ∃ j, j = x.nx := ⟨_, rfl⟩
  obtain ⟨sq, hsq⟩ : ∃ j, j = x.sq := ⟨_, rfl⟩
  obtain ⟨W, hW⟩ : ∃ W, W = w.alloc (.cells #[.slice aa an ac, .slice ra rn rc, .int .u32 x.jo, .int .u32 x.nx, .int .u64 x.sq] 27) := ⟨_, rfl⟩
  have HBW : Hid (Below w.heap.size w W) := Lib.hid (by rw [hW]; exact alloc_bel _ _)
  have hBlk : Blk W w.heap.size #[.slice aa an ac, .slice ra rn rc, .int .u32 x.jo, .int .u32 x.nx, .int .u64 x.sq] 27 := by rw [hW]; exact Blk.new _ _ _
  obtain ⟨gx, hgx⟩ : ∃ g, g = w.heap.size := ⟨_, rfl⟩
  have HC : Hid (∀ w', Below W.heap.size W w' → (w'.cell? ⟨gx, 0, none⟩ = some (.slice aa an ac) ∧ w'.cell? ⟨gx, 1, none⟩ = some (.slice ra rn rc) ∧ w'.cell? ⟨gx, 2, none⟩ = some (.int .u32 jo) ∧ w'.cell? ⟨gx, 3, none⟩ = some (.int .u32 nx) ∧ w'.cell? ⟨gx, 4, none⟩ = some (.int .u64 sq) ∧ Below W.heap.size W w')) :=
    Lib.hid fun w' hb => by rw [hgx, hjo, hnx, hsq]; exact ⟨Below.keeps hb _ _ _ (hBlk.cell 0), Below.keeps hb _ _ _ (hBlk.cell 1), Below.keeps hb _ _ _ (hBlk.cell 2), Below.keeps hb _ _ _ (hBlk.cell 3), Below.keeps hb _ _ _ (hBlk.cell 4), hb⟩
  have HSC : Hid (∀ w1 w2, (fun w' => w'.cell? ⟨gx, 0, none⟩ = some (.slice aa an ac) ∧ w'.cell? ⟨gx, 1, none⟩ = some (.slice ra rn rc) ∧ w'.cell? ⟨gx, 2, none⟩ = some (.int .u32 jo) ∧ w'.cell? ⟨gx, 3, none⟩ = some (.int .u32 nx) ∧ w'.cell? ⟨gx, 4, none⟩ = some (.int .u64 sq) ∧ Below W.heap.size W w') w1 → Below w1.heap.size w1 w2 → (fun w' => w'.cell? ⟨gx, 0, none⟩ = some (.slice aa an ac) ∧ w'.cell? ⟨gx, 1, none⟩ = some (.slice ra rn rc) ∧ w'.cell? ⟨gx, 2, none⟩ = some (.int .u32 jo) ∧ w'.cell? ⟨gx, 3, none⟩ = some (.int .u32 nx) ∧ w'.cell? ⟨gx, 4, none⟩ = some (.int .u64 sq) ∧ Below W.heap.size W w') w2) := Lib.hid fun w1 w2 h hb => HC.out w2 (h.2.2.2.2.2.trans (hb.mono h.2.2.2.2.2.size))
  have HV : Hid (∀ w', Below W.heap.size W w' → RdF w' (.slice aa an ac) x.add ∧ RdU w' (.slice ra rn rc) x.rem) := Lib.hid fun w' hb => ⟨hva.below (HBW.out.trans (hb.mono HBW.out.size)), hvr.below (HBW.out.trans (hb.mono HBW.out.size))⟩
  have HF3 := Lib.hid f3
  have HF4 := Lib.hid f4
  have HAN := Lib.hid han
  have HRN := Lib.hid hrn
  have HJ := Lib.hid hjo
  have HNX := Lib.hid hnx
  have HSQ := Lib.hid hsq
  have hwa : IntKind.u64.wrap (an : Int) = an := wrapU an (by omega)
  have hwr : IntKind.u64.wrap (rn : Int) = rn := wrapU rn (by omega)
  rw [← hjo] at f5
  rw [← hnx] at f6
  rw [← hsq] at f7
  have hwj : IntKind.u64.wrap (jo : Int) = jo := wrapU jo (by omega)
  have hwn : IntKind.u64.wrap (nx : Int) = nx := wrapU nx (by omega)
  have hva10 := vint_le an
  have hvr10 := vint_le rn
  have hvj10 := vint_le jo
  have hvn10 := vint_le nx
  clear f3 f4 hBlk han hrn
  go_enter Tryz.func36, Tryz.ntmps36
  go_upto_region 1 with (fail)
  rw [← hW, ← hgx]
  clear hW hgx hjo hnx hsq
  obtain ⟨c0, -, -, -, -, -⟩ := HC.out W (Below.refl _ _)
  go_wp2_with fail
  refine (refPut_any _ _ [] an (rd_nil _) (by omega) (by simp)).mono ?_
  rintro e w1 ⟨ba, bn, bc, rfl, HBN, HBO, b1⟩
  rw [List.nil_append] at HBN HBO
  have HB1 := Lib.hid b1
  clear b1 c0
  go_upto_region 3 with (fail)
  try show Code.wp _ _ _ _ _
  go_loopw [4, 5] (fun b i wr => ∃ (k n c : Nat) (a : Option Addr), k ≤ an ∧ i = .int .i64 k ∧ b = .slice a n c ∧ Hid (∀ f ∈ x.add.take k, mayF f = true) ∧ Hid (n = (vint an ++ (x.add.take k).flatMap fput).length) ∧
    Hid (Own wr W.heap.size 5 1 (.slice a n c) n (u8s (vint an ++ (x.add.take k).flatMap fput))) ∧ Hid (Below W.heap.size W wr)) (fun _ i _ => an - (intOf i).toNat)
  case atStart => exact ⟨0, bn, bc, ba, Nat.zero_le _, rfl, rfl, Lib.hid (fun f hf => by simp at hf), Lib.hid (by rw [HBN.out]; simp), Lib.hid (by simpa using HBO.out), HB1⟩
  case round =>
    clear HBO HBN HB1
    obtain ⟨k, n, c, a, hk, rfl, rfl, HMAY, HNN, HOO, HBR⟩ := hrel
    by_cases hlt : k < an
    · obtain ⟨c0, -, -, -, -, -⟩ := HC.out wr HBR.out
      have hkl : k < x.add.length := by rw [← HAN.out]; exact hlt
      have hk0 : (0 : Int) ≤ (k : Int) := by omega
      have hkn : (k : Int) < (an : Int) := by omega
      have hva := (HV.out wr HBR.out).1
      obtain ⟨_, _, he, _, _, hcell⟩ := hva
      simp only [Value.slice.injEq] at he
      obtain ⟨b, off, hab, q0, q1, q2, q3⟩ := hcell k hkl
      rw [← he.1] at hab
      clear he hcell
      subst hab
      have HTK := Lib.hid (List.take_succ_eq_append_getElem hkl)
      have hfn := HF3.out _ (List.getElem_mem hkl)
      obtain ⟨f, hf⟩ : ∃ f, f = x.add[k] := ⟨_, rfl⟩
      rw [← hf] at q0 q1 q2 q3 HTK hfn
      clear hf hkl
      obtain ⟨fn, lv, fa, fb⟩ := f
      simp only at q0 q1 q2 q3 hfn
      obtain ⟨WF, hWF⟩ : ∃ W, W = wr.alloc (.cells #[.int .u32 fn, .int .i64 lv, .string fa, .string fb] 86) := ⟨_, rfl⟩
      have hBF : Blk WF wr.heap.size #[.int .u32 fn, .int .i64 lv, .string fa, .string fb] 86 := by rw [hWF]; exact Blk.new _ _ _
      have hbF : Below wr.heap.size wr WF := by rw [hWF]; exact alloc_bel _ _
      have HBF := Lib.hid (HBR.out.trans (hbF.mono HBR.out.size))
      have HOF := Lib.hid (own_below HOO.out hbF)
      have HBLK := Lib.hid hBF
      obtain ⟨gF, hgF⟩ : ∃ g, g = wr.heap.size := ⟨_, rfl⟩
      rw [← hgF] at HBLK
      have p0 := HBLK.out.cellv 0 _ rfl
      have p1 := HBLK.out.cellv 1 _ rfl
      have p2 := HBLK.out.cellv 2 _ rfl
      have p3 := HBLK.out.cellv 3 _ rfl
      clear hBF hbF
      go_upto_region 6 with (fail)
      rw [← hWF, ← hgF]
      clear hWF hgF q0 q1 q2 q3 c0
      have HM := Lib.hid (refMayF_any WF ⟨fn, lv, fa, fb⟩)
      go_wp2_with fail
      refine HM.out.mono ?_
      rintro e w2 ⟨rfl, b2⟩
      have HB2 := Lib.hid (HBF.out.trans (b2.mono HBF.out.size))
      have HO2 := Lib.hid (own_below HOF.out b2)
      have HBK2 := Lib.hid (HBLK.out.below b2)
      clear b2 HM p0 p1 p2 p3
      obtain ⟨M, hM⟩ : ∃ m, m = mayF ⟨fn, lv, fa, fb⟩ := ⟨_, rfl⟩
      have HMM := Lib.hid hM
      rw [← hM]
      clear hM
      cases M with
      | false =>
        have HF : Hid (x.add.all mayF = false) := Lib.hid (by
          refine Bool.eq_false_iff.2 fun h => ?_
          have := List.all_eq_true.1 h ⟨fn, lv, fa, fb⟩ (List.mem_of_mem_take (i := k + 1) (by rw [HTK.out]; simp))
          rw [← HMM.out] at this; cases this)
        go_wp2
        go_ret2
        exact ⟨[], 1, none, 0, 0, rfl, Lib.hid (.inr ⟨HF.out, rfl, rfl⟩), rfl, own_nil _ _ _ _, HBW.out.trans (HB2.out.mono HBW.out.size), fun _ => rfl⟩
      | true =>
        obtain ⟨⟨hl0, hl4⟩, hfa, hfb⟩ := may_len HMM.out.symm
        simp only at hl0 hl4 hfa hfb
        obtain ⟨lv, rfl⟩ : ∃ m : Nat, lv = m := ⟨lv.toNat, by omega⟩
        obtain ⟨L, hL⟩ : ∃ L, L = vint an ++ (x.add.take k).flatMap fput := ⟨_, rfl⟩
        have HLE := Lib.hid hL
        have HLL : Hid (L.length ≤ 11000000) := Lib.hid (by
          have h1 := flatMap_le fput 104 (x.add.take k) (fun f hf => fput_le (HMAY.out f hf))
          rw [hL, List.length_append]
          rw [List.length_take] at h1
          have : min k x.add.length ≤ 100000 := by omega
          omega)
        rw [← hL] at HO2
        have HD0 : Hid (Own w2.drew W.heap.size 5 1 (.slice a n c) n (u8s L)) := Lib.hid (own_below HO2.out (Below.drew (Below.refl _ _)))
        have HSW : Hid ((fun w' => w'.cell? ⟨gF, 0, none⟩ = some (.int .u32 fn) ∧ w'.cell? ⟨gF, 1, none⟩ = some (.int .i64 lv) ∧ w'.cell? ⟨gF, 2, none⟩ = some (.string fa) ∧ w'.cell? ⟨gF, 3, none⟩ = some (.string fb) ∧ Below W.heap.size W w') w2.drew) := Lib.hid ⟨HBK2.out.cellv 0 _ rfl, HBK2.out.cellv 1 _ rfl, HBK2.out.cellv 2 _ rfl, HBK2.out.cellv 3 _ rfl, HB2.out.trans ((Below.drew (Below.refl _ _)).mono HB2.out.size)⟩
        have HSB : Hid (∀ w1 w2, (fun w' => w'.cell? ⟨gF, 0, none⟩ = some (.int .u32 fn) ∧ w'.cell? ⟨gF, 1, none⟩ = some (.int .i64 lv) ∧ w'.cell? ⟨gF, 2, none⟩ = some (.string fa) ∧ w'.cell? ⟨gF, 3, none⟩ = some (.string fb) ∧ Below W.heap.size W w') w1 → Below w1.heap.size w1 w2 → (fun w' => w'.cell? ⟨gF, 0, none⟩ = some (.int .u32 fn) ∧ w'.cell? ⟨gF, 1, none⟩ = some (.int .i64 lv) ∧ w'.cell? ⟨gF, 2, none⟩ = some (.string fa) ∧ w'.cell? ⟨gF, 3, none⟩ = some (.string fb) ∧ Below W.heap.size W w') w2) :=
          Lib.hid fun w1 w2 ⟨p0, p1, p2, p3, p4⟩ hb => ⟨Below.keeps hb _ _ _ p0, Below.keeps hb _ _ _ p1, Below.keeps hb _ _ _ p2, Below.keeps hb _ _ _ p3, p4.trans (hb.mono p4.size)⟩
        have hw1 : IntKind.u64.wrap (fn : Int) = fn := wrapU fn (by omega)
        have hw2 : IntKind.u64.wrap (lv : Int) = lv := wrapU lv (by omega)
        have q1 := vint_le fn
        have q2 := vint_le lv
        have q3 := vint_le fa.size
        clear hL HBK2
        go_upto_region 8 with (fail)
        refine wp_region_held_drew (S := fun w' => w'.cell? ⟨gF, 0, none⟩ = some (.int .u32 fn) ∧ w'.cell? ⟨gF, 1, none⟩ = some (.int .i64 lv) ∧ w'.cell? ⟨gF, 2, none⟩ = some (.string fa) ∧ w'.cell? ⟨gF, 3, none⟩ = some (.string fb) ∧ Below W.heap.size W w') (by kernel_rfl) (HSW.out) (fun hHeld => ?_)
        refine wpAnyH_take (i := 0) (v := ?vq1) (by simp only [List.getElem?_toArray]; rfl) (by kernel_rfl) (by kernel_rfl) (by kernel_rfl) (by exact fun _ _ _ h => h) (Or.inl ⟨by rfl, ?yq1⟩) (by assumption) ?rq1
        case yq1 => (intro w hSw; (try dsimp only at hSw); go_simp; try with_reducible rfl)
        try simp only [Act.put, List.setIfInBounds_toArray, List.set_cons_zero, List.set_cons_succ]
        refine wpAnyH_take (i := 1) (v := ?vq2) (by simp only [List.getElem?_toArray]; rfl) (by kernel_rfl) (by kernel_rfl) (by kernel_rfl) (by exact fun _ _ _ h => h) (Or.inl ⟨by rfl, ?yq2⟩) (by assumption) ?rq2
        case yq2 => (intro w hSw; (try dsimp only at hSw); go_simp; try with_reducible rfl)
        try simp only [Act.put, List.setIfInBounds_toArray, List.set_cons_zero, List.set_cons_succ]
        refine wpAnyH_take (i := 2) (v := ?vq3) (by simp only [List.getElem?_toArray]; rfl) (by kernel_rfl) (by kernel_rfl) (by kernel_rfl) (by exact fun _ _ _ h => h) (Or.inl ⟨by rfl, ?yq3⟩) (by assumption) ?rq3
        case yq3 => (intro w hSw; (try dsimp only at hSw); go_simp; try with_reducible rfl)
        try simp only [Act.put, List.setIfInBounds_toArray, List.set_cons_zero, List.set_cons_succ]
        refine wpAnyH_take (i := 3) (v := ?vq4) (by simp only [List.getElem?_toArray]; rfl) (by kernel_rfl) (by kernel_rfl) (by kernel_rfl) (by exact fun _ _ _ h => h) (Or.inl ⟨by rfl, ?yq4⟩) (by assumption) ?rq4
        case yq4 => (intro w hSw; (try dsimp only at hSw); go_simp; try with_reducible rfl)
        try simp only [Act.put, List.setIfInBounds_toArray, List.set_cons_zero, List.set_cons_succ]
        refine wpAnyH_take (i := 5) (v := ?vq5) (by simp only [List.getElem?_toArray]; rfl) (by kernel_rfl) (by kernel_rfl) (by kernel_rfl) (by exact fun _ _ _ h => h) (Or.inl ⟨by rfl, ?yq5⟩) (by assumption) ?rq5
        case yq5 => (intro w hSw; (try dsimp only at hSw); go_simp; try with_reducible rfl)
        try simp only [Act.put, List.setIfInBounds_toArray, List.set_cons_zero, List.set_cons_succ]
        refine wpAnyH_take (i := 6) (v := ?vq6) (by simp only [List.getElem?_toArray]; rfl) (by kernel_rfl) (by kernel_rfl) (by kernel_rfl) (by exact fun _ _ _ h => h) (Or.inl ⟨by rfl, ?yq6⟩) (by assumption) ?rq6
        case yq6 => (intro w hSw; (try dsimp only at hSw); go_simp; try with_reducible rfl)
        try simp only [Act.put, List.setIfInBounds_toArray, List.set_cons_zero, List.set_cons_succ]
        refine wpAnyH_take (i := 7) (v := ?vq7) (by simp only [List.getElem?_toArray]; rfl) (by kernel_rfl) (by kernel_rfl) (by kernel_rfl) (by exact fun _ _ _ h => h) (Or.inl ⟨by rfl, ?yq7⟩) (by assumption) ?rq7
        case yq7 => (intro w hSw; (try dsimp only at hSw); go_simp; try with_reducible rfl)
        try simp only [Act.put, List.setIfInBounds_toArray, List.set_cons_zero, List.set_cons_succ]
        refine wpAnyH_ready (rs := [4]) (by kernel_rfl) (by simp) ?_
        refine AllReadyH.cons (by simp only [List.getElem?_toArray]; rfl) (fun K hK => ?_) AllReadyH.nil
        go_simp
        refine (refPut_any _ _ L fn (rd_of_own HD0.out).2 (by omega) (by have := HLL.out; omega)).mono ?_
        rintro e1 w5 ⟨a1, n1, k1, rfl, HN1, HQ1, b1⟩
        refine hK.out _ _ (HSB.out _ _ hHeld b1) (fun hHeld => ?_)
        clear hK K
        try simp only [Act.put, List.setIfInBounds_toArray, List.set_cons_zero, List.set_cons_succ]
        refine wpAnyH_ready (rs := [8]) (by kernel_rfl) (by simp) ?_
        refine AllReadyH.cons (by simp only [List.getElem?_toArray]; rfl) (fun K hK => ?_) AllReadyH.nil
        go_simp
        refine (refPut_any _ _ (L ++ vint fn) lv (rd_of_own HQ1.out).2 (by omega) (by rw [List.length_append]; have := HLL.out; omega)).mono ?_
        rintro e2 w6 ⟨a2, n2, k2, rfl, HN2, HQ2, b2⟩
        refine hK.out _ _ (HSB.out _ _ hHeld b2) (fun hHeld => ?_)
        clear hK K
        try simp only [Act.put, List.setIfInBounds_toArray, List.set_cons_zero, List.set_cons_succ]
        refine wpAnyH_take (i := 9) (v := ?vq8) (by simp only [List.getElem?_toArray]; rfl) (by kernel_rfl) (by kernel_rfl) (by kernel_rfl) (by exact fun _ _ _ h => h) (Or.inl ⟨by rfl, ?yq8⟩) (by assumption) ?rq8
        case yq8 => (intro w hSw; (try dsimp only at hSw); go_simp; try with_reducible rfl)
        try simp only [Act.put, List.setIfInBounds_toArray, List.set_cons_zero, List.set_cons_succ]
        refine wpAnyH_done (by kernel_rfl) ?_ _
        have HQ2' := Lib.hid (own_below HQ2.out ((Below.drew (Below.refl w6.heap.size w6))))
        have HH := Lib.hid (HSB.out _ _ hHeld (Below.drew (Below.refl w6.heap.size w6)))
        clear hHeld HQ2
        go_upto_region 9 with (fail)
        refine wp_region_held_drew (S := fun w' => w'.cell? ⟨gF, 0, none⟩ = some (.int .u32 fn) ∧ w'.cell? ⟨gF, 1, none⟩ = some (.int .i64 lv) ∧ w'.cell? ⟨gF, 2, none⟩ = some (.string fa) ∧ w'.cell? ⟨gF, 3, none⟩ = some (.string fb) ∧ Below W.heap.size W w') (by kernel_rfl) (HH.out) (fun hHeld => ?_)
        refine wpAnyH_take (i := 0) (v := ?vq9) (by simp only [List.getElem?_toArray]; rfl) (by kernel_rfl) (by kernel_rfl) (by kernel_rfl) (by exact fun _ _ _ h => h) (Or.inl ⟨by rfl, ?yq9⟩) (by assumption) ?rq9
        case yq9 => (intro w hSw; (try dsimp only at hSw); go_simp; try with_reducible rfl)
        try simp only [Act.put, List.setIfInBounds_toArray, List.set_cons_zero, List.set_cons_succ]
        refine wpAnyH_take (i := 1) (v := ?vq10) (by simp only [List.getElem?_toArray]; rfl) (by kernel_rfl) (by kernel_rfl) (by kernel_rfl) (by exact fun _ _ _ h => h) (Or.inl ⟨by rfl, ?yq10⟩) (by assumption) ?rq10
        case yq10 => (intro w hSw; (try dsimp only at hSw); go_simp; try with_reducible rfl)
        try simp only [Act.put, List.setIfInBounds_toArray, List.set_cons_zero, List.set_cons_succ]
        refine wpAnyH_take (i := 2) (v := ?vq11) (by simp only [List.getElem?_toArray]; rfl) (by kernel_rfl) (by kernel_rfl) (by kernel_rfl) (by exact fun _ _ _ h => h) (Or.inl ⟨by rfl, ?yq11⟩) (by assumption) ?rq11
        case yq11 => (intro w hSw; (try dsimp only at hSw); go_simp; try with_reducible rfl)
        try simp only [Act.put, List.setIfInBounds_toArray, List.set_cons_zero, List.set_cons_succ]
        refine wpAnyH_take (i := 4) (v := ?vq12) (by simp only [List.getElem?_toArray]; rfl) (by kernel_rfl) (by kernel_rfl) (by kernel_rfl) (by exact fun _ _ _ h => h) (Or.inl ⟨by rfl, ?yq12⟩) (by assumption) ?rq12
        case yq12 => (intro w hSw; (try dsimp only at hSw); go_simp; try with_reducible rfl)
        try simp only [Act.put, List.setIfInBounds_toArray, List.set_cons_zero, List.set_cons_succ]
        refine wpAnyH_take (i := 5) (v := ?vq13) (by simp only [List.getElem?_toArray]; rfl) (by kernel_rfl) (by kernel_rfl) (by kernel_rfl) (by exact fun _ _ _ h => h) (Or.inl ⟨by rfl, ?yq13⟩) (by assumption) ?rq13
        case yq13 => (intro w hSw; (try dsimp only at hSw); go_simp; try with_reducible rfl)
        try simp only [Act.put, List.setIfInBounds_toArray, List.set_cons_zero, List.set_cons_succ]
        refine wpAnyH_ready (rs := [3]) (by kernel_rfl) (by simp) ?_
        refine AllReadyH.cons (by simp only [List.getElem?_toArray]; rfl) (fun K hK => ?_) AllReadyH.nil
        go_simp
        refine (refPutText_any _ _ (L ++ vint fn ++ vint lv) fa (rd_of_own HQ2'.out).2 (by omega) (by rw [List.length_append, List.length_append]; have := HLL.out; omega)).mono ?_
        rintro e3 w7 ⟨a3, n3, k3, rfl, HN3, HQ3, b3⟩
        refine hK.out _ _ (HSB.out _ _ hHeld b3) (fun hHeld => ?_)
        clear hK K
        try simp only [Act.put, List.setIfInBounds_toArray, List.set_cons_zero, List.set_cons_succ]
        refine wpAnyH_ready (rs := [6]) (by kernel_rfl) (by simp) ?_
        refine AllReadyH.cons (by simp only [List.getElem?_toArray]; rfl) (fun K hK => ?_) AllReadyH.nil
        go_simp
        have hz3 := hHeld.2.2.2.2.size
        refine (refPutText_any _ _ (L ++ vint fn ++ vint lv ++ (vint fa.size ++ fa.data.toList)) fb (rd_of_own HQ3.out).2 (by omega) (by simp only [List.length_append, size_data]; have := HLL.out; omega)).mono ?_
        rintro e4 w8 ⟨a4, n4, k4, rfl, HN4, HQ4, b4⟩
        refine hK.out _ _ (HSB.out _ _ hHeld b4) (fun hHeld => ?_)
        clear hK K
        try simp only [Act.put, List.setIfInBounds_toArray, List.set_cons_zero, List.set_cons_succ]
        refine wpAnyH_take (i := 7) (v := ?vq14) (by simp only [List.getElem?_toArray]; rfl) (by kernel_rfl) (by kernel_rfl) (by kernel_rfl) (by exact fun _ _ _ h => h) (Or.inl ⟨by rfl, ?yq14⟩) (by assumption) ?rq14
        case yq14 => (intro w hSw; (try dsimp only at hSw); go_simp; try with_reducible rfl)
        try simp only [Act.put, List.setIfInBounds_toArray, List.set_cons_zero, List.set_cons_succ]
        refine wpAnyH_done (by kernel_rfl) ?_ _
        have HSZ8 : Hid (W.heap.size ≤ w7.heap.size) := Lib.hid hz3
        have HB8 := Lib.hid hHeld.2.2.2.2
        have e : (vint an ++ (x.add.take (k + 1)).flatMap fput) = L ++ vint fn ++ vint lv ++ (vint fa.size ++ fa.data.toList) ++ (vint fb.size ++ fb.data.toList) := by rw [HTK.out, HLE.out]; simp [fput, tx, tput]
        have HMAY2 : Hid (∀ f ∈ x.add.take (k + 1), mayF f = true) := Lib.hid fun y hy => by
          rw [HTK.out] at hy
          rcases List.mem_append.1 hy with h | h
          · exact HMAY.out y h
          · rw [List.mem_singleton.1 h]; exact HMM.out.symm
        rw [← e] at HN4 HQ4
        have HO8 := Lib.hid (own_mono HQ4.out HSZ8.out)
        have HB9 := Lib.hid (HB8.out)
        clear hHeld hz3 HQ4 HD0 HO2 HQ2' HQ3 HQ1 e
        go_wp2_with fail
        go_roundw
        case rel => exact ⟨k + 1, n4, k4, a4, by omega, by go_num, rfl, HMAY2, HN4, HO8, HB9⟩
        case measure => simp [intOf]; omega
    · obtain rfl : k = an := by omega
      have e1 : x.add.take k = x.add := List.take_of_length_le (by rw [← HAN.out]; exact Nat.le_refl _)
      rw [e1] at HMAY HNN HOO
      have HALL : Hid (x.add.all mayF = true) := Lib.hid (List.all_eq_true.2 HMAY.out)
      obtain ⟨L0, hL0⟩ : ∃ L, L = vint k ++ x.add.flatMap fput := ⟨_, rfl⟩
      have HL0 : Hid (L0 = manyP fput x.add) := Lib.hid (by rw [hL0]; unfold manyP; rw [HAN.out])
      have HLM : Hid (L0.length ≤ 11000000) := Lib.hid (by
        have h1 := flatMap_le fput 104 x.add (fun f hf => fput_le (HMAY.out f hf))
        rw [hL0, List.length_append]
        have := HAN.out
        omega)
      rw [← hL0] at HNN HOO
      obtain ⟨c0, c1, -, -, -, -⟩ := HC.out wr HBR.out
      clear e1 hL0 HMAY
      go_wp2_with fail
      refine (refPut_any _ _ L0 rn (rd_of_own HOO.out).2 (by omega) (by have := HLM.out; omega)).mono ?_
      rintro e w3 ⟨ca, cn, cc, rfl, HCN, HCO, b3⟩
      have HB3 := Lib.hid (HBR.out.trans (b3.mono HBR.out.size))
      have HO3 := Lib.hid (own_mono HCO.out HBR.out.size)
      clear b3 c0 c1 HOO HNN HCO HBR
      go_upto_region 12 with (fail)
      try show Code.wp _ _ _ _ _
      go_loopw [4, 7] (fun b i wr => ∃ (j n c : Nat) (a : Option Addr), j ≤ rn ∧ i = .int .i64 j ∧ b = .slice a n c ∧ Hid (n = (L0 ++ (vint rn ++ (x.rem.take j).flatMap vint)).length) ∧
        Hid (Own wr W.heap.size 5 1 (.slice a n c) n (u8s (L0 ++ (vint rn ++ (x.rem.take j).flatMap vint)))) ∧ Hid (Below W.heap.size W wr)) (fun _ i _ => rn - (intOf i).toNat)
      case atStart => exact ⟨0, cn, cc, ca, Nat.zero_le _, rfl, rfl, Lib.hid (by rw [HCN.out]; simp), Lib.hid (by simpa using HO3.out), HB3⟩
      case round =>
        clear HO3 HCN HB3
        obtain ⟨j, n2, c2, a2, hj, rfl, rfl, HNN, HOO, HBR⟩ := hrel
        by_cases hlt2 : j < rn
        · obtain ⟨-, c1, -, -, -, -⟩ := HC.out wr HBR.out
          have hkl : j < x.rem.length := by rw [← HRN.out]; exact hlt2
          have hk0 : (0 : Int) ≤ (j : Int) := by omega
          have hkn : (j : Int) < (rn : Int) := by omega
          have hvr := (HV.out wr HBR.out).2
          obtain ⟨_, _, he, _, _, hcell⟩ := hvr
          simp only [Value.slice.injEq] at he
          obtain ⟨b, off, hab, q0⟩ := hcell j hkl
          rw [← he.1] at hab
          clear he hcell
          subst hab
          have HTK := Lib.hid (List.take_succ_eq_append_getElem hkl)
          have hfn := HF4.out _ (List.getElem_mem hkl)
          obtain ⟨f, hf⟩ : ∃ f, f = x.rem[j] := ⟨_, rfl⟩
          rw [← hf] at q0 HTK hfn
          clear hf hkl
          have hw1 : IntKind.u64.wrap (f : Int) = f := wrapU f (by omega)
          have HLJ : Hid ((L0 ++ (vint rn ++ (x.rem.take j).flatMap vint)).length ≤ 30000000) := Lib.hid (by
            have h1 := flatMap_le vint 10 (x.rem.take j) (fun f _ => vint_le f)
            rw [List.length_take] at h1
            have h2 : min j x.rem.length ≤ 100000 := by omega
            have := HLM.out
            rw [List.length_append, List.length_append]
            omega)
          go_wp2_with fail
          refine (refPut_any _ _ _ f (rd_of_own HOO.out).2 (by omega) (by have := HLJ.out; omega)).mono ?_
          rintro e w4 ⟨da, dn, dc, rfl, HDN, HDO, b4⟩
          have HB4 := Lib.hid (HBR.out.trans (b4.mono HBR.out.size))
          have HO4 := Lib.hid (own_mono HDO.out HBR.out.size)
          have e : L0 ++ (vint rn ++ (x.rem.take (j + 1)).flatMap vint) = L0 ++ (vint rn ++ (x.rem.take j).flatMap vint) ++ vint f := by rw [HTK.out]; simp
          rw [← e] at HDN HO4
          clear b4 HDO HOO HNN q0 c1 e
          go_wp2_with fail
          go_roundw
          case rel => exact ⟨j + 1, dn, dc, da, by omega, by go_num, rfl, HDN, HO4, HB4⟩
          case measure => simp [intOf]; omega
        · obtain rfl : j = rn := by omega
          have e1 : x.rem.take j = x.rem := List.take_of_length_le (by rw [← HRN.out]; exact Nat.le_refl _)
          rw [e1] at HNN HOO
          obtain ⟨L, hL⟩ : ∃ L, L = L0 ++ (vint j ++ x.rem.flatMap vint) := ⟨_, rfl⟩
          have HLE : Hid (L = manyP fput x.add ++ manyP vint x.rem) := Lib.hid (by rw [hL, HL0.out]; unfold manyP; rw [HRN.out])
          have HLN : Hid (L.length ≤ 30000000) := Lib.hid (by
            have h1 := flatMap_le vint 10 x.rem (fun f _ => vint_le f)
            have := HLM.out
            have := HRN.out
            rw [hL, List.length_append, List.length_append]
            omega)
          rw [← hL] at HOO
          have HD1 : Hid (Own wr.drew W.heap.size 5 1 (.slice a2 n2 c2) n2 (u8s L)) := Lib.hid (own_below HOO.out (Below.drew (Below.refl _ _)))
          have HSX : Hid ((fun w' => w'.cell? ⟨gx, 0, none⟩ = some (.slice aa k ac) ∧ w'.cell? ⟨gx, 1, none⟩ = some (.slice ra j rc) ∧ w'.cell? ⟨gx, 2, none⟩ = some (.int .u32 jo) ∧ w'.cell? ⟨gx, 3, none⟩ = some (.int .u32 nx) ∧ w'.cell? ⟨gx, 4, none⟩ = some (.int .u64 sq) ∧ Below W.heap.size W w') wr.drew) := Lib.hid (HC.out _ (Below.drew HBR.out))
          obtain ⟨-, c1, -, -, -, -⟩ := HC.out wr HBR.out
          clear e1 hL HNN
          go_upto_region 15 with (fail)
          clear c1
          refine wp_region_held_drew (S := fun w' => w'.cell? ⟨gx, 0, none⟩ = some (.slice aa k ac) ∧ w'.cell? ⟨gx, 1, none⟩ = some (.slice ra j rc) ∧ w'.cell? ⟨gx, 2, none⟩ = some (.int .u32 jo) ∧ w'.cell? ⟨gx, 3, none⟩ = some (.int .u32 nx) ∧ w'.cell? ⟨gx, 4, none⟩ = some (.int .u64 sq) ∧ Below W.heap.size W w') (by kernel_rfl) (HSX.out) (fun hHeld => ?_)
          refine wpAnyH_take (i := 0) (v := ?vq15) (by simp only [List.getElem?_toArray]; rfl) (by kernel_rfl) (by kernel_rfl) (by kernel_rfl) (by exact fun _ _ _ h => h) (Or.inl ⟨by rfl, ?yq15⟩) (by assumption) ?rq15
          case yq15 => (intro w hSw; (try dsimp only at hSw); go_simp; try with_reducible rfl)
          try simp only [Act.put, List.setIfInBounds_toArray, List.set_cons_zero, List.set_cons_succ]
          refine wpAnyH_take (i := 1) (v := ?vq16) (by simp only [List.getElem?_toArray]; rfl) (by kernel_rfl) (by kernel_rfl) (by kernel_rfl) (by exact fun _ _ _ h => h) (Or.inl ⟨by rfl, ?yq16⟩) (by assumption) ?rq16
          case yq16 => (intro w hSw; (try dsimp only at hSw); go_simp; try with_reducible rfl)
          try simp only [Act.put, List.setIfInBounds_toArray, List.set_cons_zero, List.set_cons_succ]
          refine wpAnyH_take (i := 2) (v := ?vq17) (by simp only [List.getElem?_toArray]; rfl) (by kernel_rfl) (by kernel_rfl) (by kernel_rfl) (by exact fun _ _ _ h => h) (Or.inl ⟨by rfl, ?yq17⟩) (by assumption) ?rq17
          case yq17 => (intro w hSw; (try dsimp only at hSw); go_simp; try with_reducible rfl)
          try simp only [Act.put, List.setIfInBounds_toArray, List.set_cons_zero, List.set_cons_succ]
          refine wpAnyH_take (i := 3) (v := ?vq18) (by simp only [List.getElem?_toArray]; rfl) (by kernel_rfl) (by kernel_rfl) (by kernel_rfl) (by exact fun _ _ _ h => h) (Or.inl ⟨by rfl, ?yq18⟩) (by assumption) ?rq18
          case yq18 => (intro w hSw; (try dsimp only at hSw); go_simp; try with_reducible rfl)
          try simp only [Act.put, List.setIfInBounds_toArray, List.set_cons_zero, List.set_cons_succ]
          refine wpAnyH_take (i := 5) (v := ?vq19) (by simp only [List.getElem?_toArray]; rfl) (by kernel_rfl) (by kernel_rfl) (by kernel_rfl) (by exact fun _ _ _ h => h) (Or.inl ⟨by rfl, ?yq19⟩) (by assumption) ?rq19
          case yq19 => (intro w hSw; (try dsimp only at hSw); go_simp; try with_reducible rfl)
          try simp only [Act.put, List.setIfInBounds_toArray, List.set_cons_zero, List.set_cons_succ]
          refine wpAnyH_take (i := 6) (v := ?vq20) (by simp only [List.getElem?_toArray]; rfl) (by kernel_rfl) (by kernel_rfl) (by kernel_rfl) (by exact fun _ _ _ h => h) (Or.inl ⟨by rfl, ?yq20⟩) (by assumption) ?rq20
          case yq20 => (intro w hSw; (try dsimp only at hSw); go_simp; try with_reducible rfl)
          try simp only [Act.put, List.setIfInBounds_toArray, List.set_cons_zero, List.set_cons_succ]
          refine wpAnyH_take (i := 7) (v := ?vq21) (by simp only [List.getElem?_toArray]; rfl) (by kernel_rfl) (by kernel_rfl) (by kernel_rfl) (by exact fun _ _ _ h => h) (Or.inl ⟨by rfl, ?yq21⟩) (by assumption) ?rq21
          case yq21 => (intro w hSw; (try dsimp only at hSw); go_simp; try with_reducible rfl)
          try simp only [Act.put, List.setIfInBounds_toArray, List.set_cons_zero, List.set_cons_succ]
          refine wpAnyH_ready (rs := [4]) (by kernel_rfl) (by simp) ?_
          refine AllReadyH.cons (by simp only [List.getElem?_toArray]; rfl) (fun K hK => ?_) AllReadyH.nil
          go_simp
          refine (refPut_any _ _ L jo (rd_of_own HD1.out).2 (by omega) (by have := HLN.out; omega)).mono ?_
          rintro e1 w5 ⟨a1, n1, k1, rfl, HN1, HQ1, b1⟩
          refine hK.out _ _ (HSC.out _ _ hHeld b1) (fun hHeld => ?_)
          clear hK K
          try simp only [Act.put, List.setIfInBounds_toArray, List.set_cons_zero, List.set_cons_succ]
          refine wpAnyH_ready (rs := [8]) (by kernel_rfl) (by simp) ?_
          refine AllReadyH.cons (by simp only [List.getElem?_toArray]; rfl) (fun K hK => ?_) AllReadyH.nil
          go_simp
          have hz5 := hHeld.2.2.2.2.2.size
          refine (refPut_any _ _ (L ++ vint jo) nx (rd_of_own HQ1.out).2 (by omega) (by rw [List.length_append]; have := HLN.out; omega)).mono ?_
          rintro e2 w6 ⟨a2, n2, k2, rfl, HN2, HQ2, b2⟩
          refine hK.out _ _ (HSC.out _ _ hHeld b2) (fun hHeld => ?_)
          clear hK K
          try simp only [Act.put, List.setIfInBounds_toArray, List.set_cons_zero, List.set_cons_succ]
          refine wpAnyH_take (i := 9) (v := ?vq22) (by simp only [List.getElem?_toArray]; rfl) (by kernel_rfl) (by kernel_rfl) (by kernel_rfl) (by exact fun _ _ _ h => h) (Or.inl ⟨by rfl, ?yq22⟩) (by assumption) ?rq22
          case yq22 => (intro w hSw; (try dsimp only at hSw); go_simp; try with_reducible rfl)
          try simp only [Act.put, List.setIfInBounds_toArray, List.set_cons_zero, List.set_cons_succ]
          refine wpAnyH_done (by kernel_rfl) ?_ _
          have hz6 := hHeld.2.2.2.2.2.size
          have HB6 := Lib.hid hHeld.2.2.2.2.2
          have HSZ5 : Hid (W.heap.size ≤ w5.heap.size) := Lib.hid hz5
          have HO6 := Lib.hid (own_mono HQ2.out HSZ5.out)
          obtain ⟨-, -, -, -, c4, -⟩ := HC.out w6 HB6.out
          clear hHeld HQ2 HQ1 HD1 HOO hz5
          go_wp2_with fail
          refine (refPut_any _ _ (L ++ vint jo ++ vint nx) sq (rd_of_own HO6.out).2 (by omega) (by rw [List.length_append, List.length_append]; have := HLN.out; omega)).mono ?_
          rintro e w7 ⟨ea, en, ec, rfl, HEN, HEO, b7⟩
          have HB7 := Lib.hid (HB6.out.trans (b7.mono HB6.out.size))
          have e : ePut x = L ++ vint jo ++ vint nx ++ vint sq := by rw [HLE.out, HJ.out, HNX.out, HSQ.out]; simp [ePut]
          rw [← e] at HEN HEO
          have HO7 := Lib.hid (own_mono HEO.out (Nat.le_trans HBW.out.size HB6.out.size))
          clear b7 e
          go_wp2
          go_ret2
          exact ⟨ePut x, 0, ea, en, ec, rfl, Lib.hid (.inl ⟨HALL.out, rfl, rfl⟩), HEN, HO7, HBW.out.trans (HB7.out.mono HBW.out.size), Lib.hid (fun h => by have := ePut_ge x; have := HEN.out; omega)⟩
end Go.Proofs.YtimfcinkjjaigaaGreatDoor
namespace Go.Proofs.YtimfcinkjjaigaaGreatDoor
open Go.RowKit

/-- several are read, no more than M -/
theorem Sev.doneM {α : Type} {enc : α → List UInt8} {P : α → Prop} {n0 M : Nat} {b b0 : Bool} {l l0 : List UInt8} {xs : List α} {bad : Bool} {l' : List UInt8} (h : Sev enc P n0 b0 l0 xs bad l') (hd : xs.length = n0 ∨ bad = true)
    (hn : Step vint (fun n => n ≤ M) b l n0 b0 l0) : Step (manyP enc) (fun xs => xs.length ≤ M ∧ ∀ x ∈ xs, P x) b l xs bad l' := by
  obtain ⟨h1, h2, h3, h4, h5, h6⟩ := h
  obtain ⟨s1, s2, s3⟩ := hn
  refine ⟨fun hb => ?_, fun y r hb hp hl => ?_, by omega⟩
  · obtain ⟨a1, a2, a3⟩ := h2 hb
    obtain ⟨c1, c2, c3⟩ := s1 a1
    have hd' : xs.length = n0 := by
      rcases hd with h | h
      · exact h
      · rw [h] at hb; cases hb
    exact ⟨c1, ⟨by rw [hd']; exact c2, a2⟩, by unfold manyP; rw [hd', c3, a3, List.append_assoc]⟩
  · unfold manyP at hl
    rw [List.append_assoc] at hl
    obtain ⟨rfl, c2, c3⟩ := s2 _ _ hb hp.1 hl
    obtain ⟨d1, d2, d3⟩ := h3 y r c2 rfl hp.2 c3
    have hd' : xs.length = y.length := by
      rcases hd with h | h
      · exact h
      · rw [h] at d1; cases d1
    rw [hd', List.take_length] at d2
    rw [hd', List.drop_length] at d3
    exact ⟨d2, d1, by simpa using d3⟩
def PXreadM (M : Nat) (x : PX) : Prop := (x.add.length ≤ M ∧ ∀ f ∈ x.add, PFread f) ∧ (x.rem.length ≤ M ∧ ∀ k ∈ x.rem, k ≤ 4294967295) ∧ x.jo ≤ 4294967295 ∧ x.nx ≤ 4294967295 ∧ x.sq ≤ 18446744073709551615
theorem flatMap_ge {α : Type} (enc : α → List UInt8) (h : ∀ x, 1 ≤ (enc x).length) : ∀ l : List α, l.length ≤ (l.flatMap enc).length
  | [] => by simp
  | x :: l => by
    have h1 := flatMap_ge enc h l
    have h2 := h x
    rw [List.flatMap_cons, List.length_append, List.length_cons]
    omega
theorem pxreadM_of {x : PX} {b : List UInt8} (h : x.add.all mayF = true) (hf : x.fit) (he : ePut x = b) : PXreadM b.length x := by
  obtain ⟨⟨_, p1⟩, ⟨_, p2⟩, p3⟩ := pxread_of h hf
  have h1 := flatMap_ge fput fput_ge x.add
  have h2 := flatMap_ge vint vint_ge x.rem
  have h3 : x.add.length ≤ b.length ∧ x.rem.length ≤ b.length := by
    rw [← he]
    unfold ePut manyP
    simp only [List.length_append]
    omega
  exact ⟨⟨h3.1, p1⟩, ⟨h3.2, p2⟩, p3⟩
theorem step_editM {M : Nat} {b b1 b2 b3 b4 b5 : Bool} {l l1 l2 l3 l4 l5 : List UInt8} {xs : List PF} {ks : List Nat} {j n s : Nat} (h1 : Step (manyP fput) (fun xs => xs.length ≤ M ∧ ∀ x ∈ xs, PFread x) b l xs b1 l1)
    (h2 : Step (manyP vint) (fun xs => xs.length ≤ M ∧ ∀ x ∈ xs, x ≤ 4294967295) b1 l1 ks b2 l2) (h3 : Step vint (fun n => n ≤ 4294967295) b2 l2 j b3 l3) (h4 : Step vint (fun n => n ≤ 4294967295) b3 l3 n b4 l4) (h5 : Step vint (fun n => n ≤ 18446744073709551615) b4 l4 s b5 l5) :
    Step ePut (PXreadM M) b l ⟨xs, ks, j, n, s⟩ b5 l5 := by
  refine Step.map ((((h1.then h2).then h3).then h4).then h5) (PX.mk xs ks j n s) (fun hp => ?_) (fun y hy => ?_)
  · obtain ⟨⟨⟨⟨p1, p2⟩, p3⟩, p4⟩, p5⟩ := hp
    refine ⟨⟨p1, p2, p3, p4, p5⟩, ?_⟩
    show manyP fput xs ++ (manyP vint ks ++ (vint j ++ (vint n ++ vint s))) = manyP fput xs ++ manyP vint ks ++ vint j ++ vint n ++ vint s
    simp
  · obtain ⟨yx, yk, yj, yn, ys⟩ := y
    obtain ⟨p1, p2, p3, p4, p5⟩ := hy
    refine ⟨((((yx, yk), yj), yn), ys), ?_, ?_, fun e => ?_⟩
    · exact ⟨⟨⟨⟨p1, p2⟩, p3⟩, p4⟩, p5⟩
    · show manyP fput yx ++ manyP vint yk ++ vint yj ++ vint yn ++ vint ys = manyP fput yx ++ (manyP vint yk ++ (vint yj ++ (vint yn ++ vint ys)))
      simp
    simp only [Prod.mk.injEq] at e
    obtain ⟨⟨⟨⟨rfl, rfl⟩, rfl⟩, rfl⟩, rfl⟩ := e
    rfl
section
variable {b l : List UInt8} {x : PX} {bad : Bool}
theorem getM_bad (h : Step ePut (PXreadM b.length) false b x true l) : GetR b PX.zero 4 := by
  refine ⟨.inr ⟨rfl, rfl⟩, fun y h1 h2 h3 => ?_⟩
  have := (h.2.1 y [] rfl (pxreadM_of h1 h2 h3) (by rw [h3, List.append_nil])).2.1
  cases this
theorem getM_may (h : Step ePut (PXreadM b.length) false b x bad l) (hm : x.add.all mayF = false) : GetR b PX.zero 4 := by
  refine ⟨.inr ⟨rfl, rfl⟩, fun y h1 h2 h3 => ?_⟩
  obtain ⟨rfl, _⟩ := h.2.1 y [] rfl (pxreadM_of h1 h2 h3) (by rw [h3, List.append_nil])
  rw [h1] at hm; cases hm
theorem getM_ne (h : Step ePut (PXreadM b.length) false b x bad l) (hm : ePut x ≠ b) : GetR b PX.zero 4 := by
  refine ⟨.inr ⟨rfl, rfl⟩, fun y h1 h2 h3 => ?_⟩
  obtain ⟨rfl, _⟩ := h.2.1 y [] rfl (pxreadM_of h1 h2 h3) (by rw [h3, List.append_nil])
  exact absurd h3 hm
theorem getM_ok (h : Step ePut (PXreadM b.length) false b x bad l) (hm : x.add.all mayF = true) (hf : x.fit) (he : ePut x = b) : GetR b x 0 := by
  refine ⟨.inl ⟨rfl, hm, hf, he⟩, fun y h1 h2 h3 => ?_⟩
  obtain ⟨rfl, _⟩ := h.2.1 y [] rfl (pxreadM_of h1 h2 h3) (by rw [h3, List.append_nil])
  exact ⟨rfl, rfl⟩
end
theorem step_num {b b1 : Bool} {l l1 : List UInt8} {n m : Nat} (h : Step vint (fun n => n ≤ 4294967295) b l n b1 l1) (hm : m = n % 4294967296) : Step vint (fun n => n ≤ 4294967295) b l m b1 l1 := by
  refine h.map m (fun hp => ?_) (fun y hy => ⟨y, hy, rfl, fun e => ?_⟩)
  · have hp' : n ≤ 4294967295 := hp
    have : m = n := by omega
    rw [this]; exact ⟨hp, rfl⟩
  · have hy' : y ≤ 4294967295 := hy
    omega
theorem step_file {b b1 b2 b4 b5 : Bool} {l l1 l2 l4 l5 : List UInt8} {n1 n2 : Nat} {lv : Int} {s4 s5 : ByteArray} (S1 : Step vint (fun n => n ≤ 4294967295) b l n1 b1 l1) (S2 : Step vint (fun n => n ≤ 4) b1 l1 n2 b2 l2)
    (S4 : Step tx (fun s => s.size < 18446744073709551616) b2 l2 s4 b4 l4) (S5 : Step tx (fun s => s.size < 18446744073709551616) b4 l4 s5 b5 l5) (hn1 : n1 < 4294967296) (hw : wrap64 (n2 : Int) = lv) : Step fput PFread b l ⟨n1, lv, s4, s5⟩ b5 l5 := by
  refine Step.map (((S1.then S2).then S4).then S5) (PF.mk n1 lv s4 s5) (fun hp => ?_) (fun y hy => ?_)
  · obtain ⟨⟨⟨p1, p2⟩, p3⟩, p4⟩ := hp
    simp only at p1 p2 p3 p4
    have hl2 : lv = n2 := by rw [← hw]; exact wrap64_small n2 (by omega)
    refine ⟨⟨hn1, show 0 ≤ lv ∧ lv ≤ 4 by omega, p3, p4⟩, ?_⟩
    show vint n1 ++ (vint lv.toNat ++ (tx s4 ++ tx s5)) = vint n1 ++ vint n2 ++ tx s4 ++ tx s5
    rw [hl2, Int.toNat_natCast]
    simp
  · obtain ⟨yn, yl, ya, yb⟩ := y
    obtain ⟨p1, p2, p3, p4⟩ := hy
    simp only at p1 p2 p3 p4
    refine ⟨(((yn, yl.toNat), ya), yb), ?_, ?_, fun e => ?_⟩
    · show ((yn ≤ 4294967295 ∧ yl.toNat ≤ 4) ∧ ya.size < 18446744073709551616) ∧ yb.size < 18446744073709551616
      exact ⟨⟨⟨by omega, by omega⟩, p3⟩, p4⟩
    · show vint yn ++ vint yl.toNat ++ tx ya ++ tx yb = vint yn ++ (vint yl.toNat ++ (tx ya ++ tx yb))
      simp
    simp only [Prod.mk.injEq] at e
    obtain ⟨⟨⟨rfl, q2⟩, rfl⟩, rfl⟩ := e
    have hl2 : lv = n2 := by rw [← hw]; exact wrap64_small n2 (by omega)
    have : lv = yl := by omega
    rw [this]
def zeroX : Array Value := #[.slice none 0 0, .slice none 0 0, .int .u32 0, .int .u32 0, .int .u64 0]
theorem Blk.underB {w w' : World} {b B : Nat} {cs : Array Value} {t : TypeId} (h : Blk w b cs t) (hb : Below B w w') (hlt : b < B) : Blk w' b cs t := by
  unfold Blk at *
  rw [hb.block b hlt]; exact h
/-- the reader, the edit that grows, the answer's place -/
structure GS (w : World) (g gx gr : Nat) (wr : World) (bad : Bool) (r : List UInt8) (cs : Array Value) : Prop where
  rq : RQ w wr g bad r
  bx : Blk wr gx cs 27
  br : Blk wr gr zeroX 27
  bel : Below w.heap.size w wr
  num : gr = w.heap.size ∧ g = gr + 1 ∧ gx = gr + 2 ∧ gr + 3 ≤ wr.heap.size
section
variable {w wr w' : World} {g gx gr : Nat} {bad bad' : Bool} {r r' : List UInt8} {cs : Array Value}
theorem GS.later (h : GS w g gx gr wr bad r cs) (hb : Below wr.heap.size wr w') : GS w g gx gr w' bad r cs :=
  ⟨h.rq.other hb, h.bx.below hb, h.br.below hb, h.bel.trans (hb.mono h.bel.size), h.num.1, h.num.2.1, h.num.2.2.1, Nat.le_trans h.num.2.2.2 hb.size⟩
theorem GS.read (h : GS w g gx gr wr bad r cs) (hr : RQ w w' g bad' r') (ho : Only wr w' g) : GS w g gx gr w' bad' r' cs := by
  obtain ⟨n1, n2, n3, n4⟩ := h.num
  exact ⟨hr, h.bx.only ho (by omega), h.br.only ho (by omega), Only.below h.bel ho (by omega) h.bel.size, n1, n2, n3, Nat.le_trans n4 ho.size⟩
theorem GS.under {B : Nat} (h : GS w g gx gr wr bad r cs) (hb : Below B wr w') (hB : gx < B) : GS w g gx gr w' bad r cs := by
  obtain ⟨n1, n2, n3, n4⟩ := h.num
  exact ⟨h.rq.under hb (by omega), h.bx.underB hb hB, h.br.underB hb (by omega), h.bel.trans (hb.mono (by omega)), n1, n2, n3, Nat.le_trans n4 hb.size⟩
theorem GS.setx (h : GS w g gx gr wr bad r cs) (i : Nat) (v : Value) : GS w g gx gr (wr.setCell ⟨gx, i, none⟩ v) bad r (cs.setIfInBounds i v) := by
  obtain ⟨n1, n2, n3, n4⟩ := h.num
  exact ⟨h.rq.set _ (by simp; omega) (by simp; omega) v, h.bx.set i v, h.br.set_other _ (by simp; omega) v, h.bel.setCell (by simp; omega) v, n1, n2, n3, by simpa using n4⟩
theorem GS.setF (h : GS w g gx gr wr bad r cs) (p : Addr) (hp : gx < p.block) (v : Value) : GS w g gx gr (wr.setCell p v) bad r cs := by
  obtain ⟨n1, n2, n3, n4⟩ := h.num
  exact ⟨h.rq.set _ (by omega) (by omega) v, h.bx.set_other _ (by omega) v, h.br.set_other _ (by omega) v, h.bel.setCell (by omega) v, n1, n2, n3, by simpa using n4⟩
end
/-- what lay from base on lies as it lay -/
def Mid (base : Nat) (w w' : World) : Prop := w.heap.size ≤ w'.heap.size ∧ ∀ j, base ≤ j → j < w.heap.size → w'.heap[j]? = w.heap[j]?
section
variable {base g : Nat} {w w1 w2 : World}
theorem Mid.refl (base : Nat) (w : World) : Mid base w w := ⟨Nat.le_refl _, fun _ _ _ => rfl⟩
theorem Mid.own (h : Mid base w w1) {e : TypeId} {sz n : Nat} {v : Value} {xs : List Value} (ho : Own w base e sz v n xs) : Own w1 base e sz v n xs := by
  rcases ho with h' | ⟨h1, g, cap, cur, fr, rfl, h3, h4, h5⟩
  · exact .inl h'
  · exact .inr ⟨h1, g, cap, cur, fr, rfl, h3, by rw [h.2 g h3 (Array.getElem?_eq_some_iff.1 h4).1]; exact h4, h5⟩
theorem Mid.only (h : Mid base w w1) (ho : Only w1 w2 g) (hg : g < base) : Mid base w w2 :=
  ⟨Nat.le_trans h.1 ho.size, fun j h1 h2 => (ho.block j (Nat.lt_of_lt_of_le h2 h.1) (by simp; omega)).trans (h.2 j h1 h2)⟩
theorem Mid.later (h : Mid base w w1) (hb : Below w1.heap.size w1 w2) : Mid base w w2 :=
  ⟨Nat.le_trans h.1 hb.size, fun j h1 h2 => (hb.block j (Nat.lt_of_lt_of_le h2 h.1)).trans (h.2 j h1 h2)⟩
theorem Mid.setHigh (h : Mid base w w1) (p : Addr) (hp : w.heap.size ≤ p.block) (v : Value) : Mid base w (w1.setCell p v) :=
  ⟨by simpa using h.1, fun j h1 h2 => by rw [Below.heap_setCell _ _ _ _ (by omega)]; exact h.2 j h1 h2⟩
end
set_option maxRecDepth 100000 in
theorem res_editQ (tmps : Array Value) (w : World) (g : Nat) (cs : Array Value) (q : Nat) (hc : cs.size = 5) (hp : tmps.getD 2 undef = .pointer (some ⟨g, 0, none⟩)) (hq : tmps.getD 3 undef = .int .i64 q) (hb : Blk w g cs 27) :
    (results Tryz.f37 tmps).run Tryz.prog w = .ok (.tuple #[.agg cs, .int .i64 q]) w := by
  rw [results_cell_tmp (p := 2) (u := 3) (ty := 27) rfl, hp, hq]
  simp [asAddr, run_loadVar_row w g 27 27 cs (0, 0) _ hb Tryz.underlying27 rfl (by rw [hc]; exact info_edit_size), Result.andThen]
set_option maxRecDepth 100000 in
set_option maxHeartbeats 8000000 in
theorem refGetX_any (w : World) (v : Value) (b : List UInt8) (hv : Rd w v b) (hb : b.length ≤ 50000) :
    Calls Tryz.prog 37 #[v] w (RetGetX b w) := by
  obtain ⟨sa, sn, sc, rfl, hsn⟩ := rd_len hv
  have HV := Lib.hid hv
  have HSN := Lib.hid hsn
  have HBL := Lib.hid hb
  obtain ⟨W0, hW0⟩ : ∃ W, W = w.alloc (.cells #[.slice none 0 0, .slice none 0 0, .int .u32 0, .int .u32 0, .int .u64 0] 27) := ⟨_, rfl⟩
  obtain ⟨W1, hW1⟩ : ∃ W, W = W0.alloc (.cells #[.slice sa sn sc, .bool false] 132) := ⟨_, rfl⟩
  obtain ⟨W, hW⟩ : ∃ W, W = W1.alloc (.cells #[.slice none 0 0, .slice none 0 0, .int .u32 0, .int .u32 0, .int .u64 0] 27) := ⟨_, rfl⟩
  have hz0 : W0.heap.size = w.heap.size + 1 := by rw [hW0]; simp
  have hz1 : W1.heap.size = w.heap.size + 2 := by rw [hW1]; simp [hz0]
  have hz : W.heap.size = w.heap.size + 3 := by rw [hW]; simp [hz1]
  have hB0 : Below w.heap.size w W0 := by rw [hW0]; exact alloc_bel _ _
  have hB1 : Below W0.heap.size W0 W1 := by rw [hW1]; exact alloc_bel _ _
  have hB2 : Below W1.heap.size W1 W := by rw [hW]; exact alloc_bel _ _
  have hbr : Blk W0 w.heap.size zeroX 27 := by rw [hW0]; exact Blk.new _ _ _
  have hbg : Blk W1 W0.heap.size #[.slice sa sn sc, .bool false] 132 := by rw [hW1]; exact Blk.new _ _ _
  have hbx : Blk W W1.heap.size zeroX 27 := by rw [hW]; exact Blk.new _ _ _
  rw [hz0] at hbg
  rw [hz1] at hbx
  have hBW : Below w.heap.size w W := hB0.trans ((hB1.trans (hB2.mono hB1.size)).mono hB0.size)
  obtain ⟨gr, hgr⟩ : ∃ g, g = w.heap.size := ⟨_, rfl⟩
  obtain ⟨g, hg⟩ : ∃ g, g = w.heap.size + 1 := ⟨_, rfl⟩
  obtain ⟨gx, hgx⟩ : ∃ g, g = w.heap.size + 2 := ⟨_, rfl⟩
  have HGS : Hid (GS w g gx gr W false b zeroX) := Lib.hid ⟨⟨sa, sn, sc, by rw [hg]; exact hbg.below hB2, HV.out, hBW, by omega⟩, by rw [hgx]; exact hbx, by rw [hgr]; exact (hbr.below hB1).below hB2, hBW, hgr, by omega, by omega, by omega⟩
  have hgW : g < W.heap.size := by omega
  have hgxW : gx < W.heap.size := by omega
  have hwsn : IntKind.u64.wrap (sn : Int) = sn := wrapU sn (by omega)
  have HT1 := Lib.hid (numQ_any w W g false b sn HGS.out.rq (by omega))
  clear hv hB0 hB1 hB2 hbr hbg hbx hBW hsn hb
  go_enter Tryz.func37, Tryz.ntmps37
  go_wp2_with fail
  rw [← hW0, ← hW1, ← hW, ← hg]
  refine HT1.out.mono ?_
  rintro e1 w1 ⟨n0, b0, l0, rfl, hn0, R1, O1, S1⟩
  have HG1 := Lib.hid (HGS.out.read R1.out O1.out)
  have HL0 := Lib.hid S1.out.2.2
  have HS1 : Hid (W.heap.size ≤ w1.heap.size) := Lib.hid O1.out.size
  clear HT1 HGS R1 O1 hW0 hW1 hz0 hz1
  go_upto_block 0 with (fail)
  rw [← hgx, ← hg, ← hgr]
  have hgrg : gr < W.heap.size := by omega
  have HNUM : Hid (gr = w.heap.size ∧ g = gr + 1 ∧ gx = gr + 2 ∧ W.heap.size = gr + 3) := Lib.hid ⟨hgr, by omega, by omega, by omega⟩
  clear hW hg hgx hgr hz
  try show Code.wp _ _ _ _ _
  obtain ⟨i0, hi, hz, hz1, hz2⟩ := info_parts info_file
  have HSTB := Lib.hid S1
  go_cut [6, 7] from 19 to 48 (fun s6 s7 w' => ∃ (k c : Nat) (a : Option Addr) (xs : List PF) (bd : Bool) (r : List UInt8) (z : World) (z6 z7 : Value), z = w' ∧ z6 = s6 ∧ z7 = s7 ∧ Hid (k = xs.length) ∧ Hid (Own z W.heap.size 86 4 (.slice a k c) k (fcells xs)) ∧ Hid (∀ f ∈ xs, f.n < 4294967296) ∧
      Hid (GS w g gx gr z bd r #[.slice a k c, .slice none 0 0, .int .u32 0, .int .u32 0, .int .u64 0]) ∧ Hid (W.heap.size ≤ z.heap.size) ∧ Hid (Step (manyP fput) (fun xs => xs.length ≤ b.length ∧ ∀ x ∈ xs, PFread x) false b xs bd r) ∧ Hid (k = 0 → a = none) ∧ Hid (k ≤ 50001))
  case rest =>
    obtain ⟨ak, ac, aa, xs, bd1, r1, z, z6, z7, rfl, rfl, rfl, HAK, HOA, HAX, HG, HSW, HSA, HIA, HAL⟩ := hcut
    have HT2 := Lib.hid (numQ_any w z g bd1 r1 sn HG.out.rq (by have := HSN.out; have := HBL.out; omega))
    clear HG1 HS1 HL0 HSTB S1
    go_wp2_with fail
    refine HT2.out.mono ?_
    rintro e2 w2 ⟨m0, b2, l2, rfl, hm0, R2, O2, S2⟩
    have HG2 := Lib.hid (HG.out.read R2.out O2.out)
    have HOA2 := Lib.hid (((Mid.refl W.heap.size z).only O2.out hgW).own HOA.out)
    have HSW2 : Hid (W.heap.size ≤ w2.heap.size) := Lib.hid (Nat.le_trans HSW.out O2.out.size)
    have HL2 : Hid (l2.length ≤ 50000) := Lib.hid (by have := S2.out.2.2; have := HSA.out.2.2; have := HBL.out; omega)
    clear HT2 HG HOA HSW R2 O2
    obtain ⟨j0, hj, hy, hy1, hy2⟩ := info_parts info_u32
    go_upto_block 2 with (fail)
    have HGR2 : Hid (Apart w2 (.slice aa ak ac) (.slice none 0 0)) := Lib.hid (fun q hq => by
      by_cases h : ak = 0
      · rw [HIA.out h] at hq; simp [Value.ownBlock] at hq
      · exact ⟨(own_lt HOA2.out (by omega) q hq).2, by simp [Value.ownBlock]⟩)
    go_cut [8] from 54 to 72 (fun s8 w' => ∃ (rk rc : Nat) (ra : Option Addr) (ks : List Nat) (bd : Bool) (r : List UInt8) (z : World) (z8 : Value), z = w' ∧ z8 = s8 ∧ Hid (rk = ks.length) ∧ Hid (Own z W.heap.size 24 1 (.slice ra rk rc) rk (ucells ks)) ∧ Hid (Own z W.heap.size 86 4 (.slice aa ak ac) ak (fcells xs)) ∧ Hid (∀ f ∈ ks, f < 4294967296) ∧
      Hid (GS w g gx gr z bd r #[.slice aa ak ac, .slice ra rk rc, .int .u32 0, .int .u32 0, .int .u64 0]) ∧ Hid (W.heap.size ≤ z.heap.size) ∧ Hid (Step (manyP vint) (fun xs => xs.length ≤ b.length ∧ ∀ x ∈ xs, x ≤ 4294967295) bd1 r1 ks bd r) ∧ Hid (rk = 0 → ra = none) ∧ Hid (rk ≤ 50001) ∧ Hid (∀ k, (Value.slice aa ak ac).ownBlock = some k → (Value.slice ra rk rc).ownBlock ≠ some k))
    case rest =>
      obtain ⟨rk, rc, ra, ks, bd3, r3, z3, z8, rfl, rfl, HRK, HR3, HA3, HRX, HG3, HW3, HSB, HIR, HRL, HAPX⟩ := hcut
      clear HG2 HSW2 HOA2 HGR2 HL2 S2
      have HT5 := Lib.hid (numQ_any w z3 g bd3 r3 4294967295 HG3.out.rq (by omega))
      go_wp2_with fail
      refine HT5.out.mono ?_
      rintro e5 w5 ⟨n5, b5, l5, rfl, hn5, R5, O5, S5⟩
      obtain ⟨jo, hm5⟩ : ∃ m, m = n5 % 4294967296 := ⟨_, rfl⟩
      have hw5 : (n5 : Int) % 4294967296 = jo := by omega
      have HN5 : Hid (jo < 4294967296) := Lib.hid (by omega)
      have HS5 := Lib.hid (step_num S5.out hm5)
      clear hm5
      have HG5 := Lib.hid (HG3.out.read R5.out O5.out)
      have HM5 := Lib.hid ((Mid.refl W.heap.size z3).only O5.out hgW)
      have HA5 := Lib.hid (HM5.out.own HA3.out)
      have HR5 := Lib.hid (HM5.out.own HR3.out)
      have HW5 : Hid (W.heap.size ≤ w5.heap.size) := Lib.hid (Nat.le_trans HW3.out HM5.out.1)
      have k5 := HG5.out.bx.cellv 2 _ rfl
      have u5 := HG5.out.bx.free 2
      clear HT5 HG3 HA3 HR3 HW3 HM5 R5 O5
      go_upto_region 15 with (fail)
      have HGb5 := Lib.hid (HG5.out.setx 2 (.int .u32 jo))
      have HAb5 := Lib.hid (own_set HA5.out ⟨gx, 2, none⟩ hgxW (.int .u32 jo))
      have HRb5 := Lib.hid (own_set HR5.out ⟨gx, 2, none⟩ hgxW (.int .u32 jo))
      have HWb5 : Hid (W.heap.size ≤ (w5.setCell ⟨gx, 2, none⟩ (.int .u32 jo)).heap.size) := Lib.hid (by simpa using HW5.out)
      clear k5 u5 HG5 HA5 HR5 HW5 hw5
      generalize w5.setCell ⟨gx, 2, none⟩ (.int .u32 jo) = v5 at HGb5 HAb5 HRb5 HWb5 ⊢
      have HG5 := HGb5
      have HA5 := HAb5
      have HR5 := HRb5
      have HW5 := HWb5
      clear HGb5 HAb5 HRb5 HWb5
      have HT6 := Lib.hid (numQ_any w v5 g b5 l5 4294967295 HG5.out.rq (by omega))
      go_wp2_with fail
      refine HT6.out.mono ?_
      rintro e6 w6 ⟨n6, b6, l6, rfl, hn6, R6, O6, S6⟩
      obtain ⟨nx, hm6⟩ : ∃ m, m = n6 % 4294967296 := ⟨_, rfl⟩
      have hw6 : (n6 : Int) % 4294967296 = nx := by omega
      have HN6 : Hid (nx < 4294967296) := Lib.hid (by omega)
      have HS6 := Lib.hid (step_num S6.out hm6)
      clear hm6
      have HG6 := Lib.hid (HG5.out.read R6.out O6.out)
      have HM6 := Lib.hid ((Mid.refl W.heap.size v5).only O6.out hgW)
      have HA6 := Lib.hid (HM6.out.own HA5.out)
      have HR6 := Lib.hid (HM6.out.own HR5.out)
      have HW6 : Hid (W.heap.size ≤ w6.heap.size) := Lib.hid (Nat.le_trans HW5.out HM6.out.1)
      have k6 := HG6.out.bx.cellv 3 _ rfl
      have u6 := HG6.out.bx.free 3
      clear HT6 HG5 HA5 HR5 HW5 HM6 R6 O6
      go_upto_region 16 with (fail)
      have HGb6 := Lib.hid (HG6.out.setx 3 (.int .u32 nx))
      have HAb6 := Lib.hid (own_set HA6.out ⟨gx, 3, none⟩ hgxW (.int .u32 nx))
      have HRb6 := Lib.hid (own_set HR6.out ⟨gx, 3, none⟩ hgxW (.int .u32 nx))
      have HWb6 : Hid (W.heap.size ≤ (w6.setCell ⟨gx, 3, none⟩ (.int .u32 nx)).heap.size) := Lib.hid (by simpa using HW6.out)
      clear k6 u6 HG6 HA6 HR6 HW6 hw6
      generalize w6.setCell ⟨gx, 3, none⟩ (.int .u32 nx) = v6 at HGb6 HAb6 HRb6 HWb6 ⊢
      have HG6 := HGb6
      have HA6 := HAb6
      have HR6 := HRb6
      have HW6 := HWb6
      clear HGb6 HAb6 HRb6 HWb6
      have HT7 := Lib.hid (numQ_any w v6 g b6 l6 18446744073709551615 HG6.out.rq (by omega))
      go_wp2_with fail
      refine HT7.out.mono ?_
      rintro e7 w7 ⟨n7, b7, l7, rfl, hn7, R7, O7, S7⟩
      obtain ⟨sq, hm7⟩ : ∃ m, m = n7 := ⟨_, rfl⟩
      rw [← hm7] at hn7 S7 ⊢
      clear hm7
      have HN7 := Lib.hid hn7
      have HS7 := S7
      have HG7 := Lib.hid (HG6.out.read R7.out O7.out)
      have HM7 := Lib.hid ((Mid.refl W.heap.size v6).only O7.out hgW)
      have HA7 := Lib.hid (HM7.out.own HA6.out)
      have HR7 := Lib.hid (HM7.out.own HR6.out)
      have HW7 : Hid (W.heap.size ≤ w7.heap.size) := Lib.hid (Nat.le_trans HW6.out HM7.out.1)
      have k7 := HG7.out.bx.cellv 4 _ rfl
      have u7 := HG7.out.bx.free 4
      clear HT7 HG6 HA6 HR6 HW6 HM7 R7 O7
      go_upto_region 17 with (fail)
      have HGb7 := Lib.hid (HG7.out.setx 4 (.int .u64 sq))
      have HAb7 := Lib.hid (own_set HA7.out ⟨gx, 4, none⟩ hgxW (.int .u64 sq))
      have HRb7 := Lib.hid (own_set HR7.out ⟨gx, 4, none⟩ hgxW (.int .u64 sq))
      have HWb7 : Hid (W.heap.size ≤ (w7.setCell ⟨gx, 4, none⟩ (.int .u64 sq)).heap.size) := Lib.hid (by simpa using HW7.out)
      clear k7 u7 HG7 HA7 HR7 HW7
      generalize w7.setCell ⟨gx, 4, none⟩ (.int .u64 sq) = v7 at HGb7 HAb7 HRb7 HWb7 ⊢
      have HG7 := HGb7
      have HA7 := HAb7
      have HR7 := HRb7
      have HW7 := HWb7
      clear HGb7 HAb7 HRb7 HWb7
      have HG8 : Hid (GS w g gx gr v7 b7 l7 #[.slice aa ak ac, .slice ra rk rc, .int .u32 jo, .int .u32 nx, .int .u64 sq]) := Lib.hid HG7.out
      have HS := Lib.hid (step_editM HSA.out HSB.out HS5.out HS6.out HS7.out)
      have HFIT : Hid ((PX.mk xs ks jo nx sq).fit) := Lib.hid ⟨by have := HAK.out; have := HAL.out; show xs.length ≤ 100000; omega, by have := HRK.out; have := HRL.out; show ks.length ≤ 100000; omega, HAX.out, HRX.out, HN5.out, HN6.out, HN7.out⟩
      have HPUT := Lib.hid (refPutX_any v7 (.agg #[.slice aa ak ac, .slice ra rk rc, .int .u32 jo, .int .u32 nx, .int .u64 sq]) (PX.mk xs ks jo nx sq) ⟨_, _, rfl, (rdF_of (reads_of_own HA7.out)).2, (rdU_of (reads_of_own HR7.out)).2⟩ HFIT.out)
      have k0 := HG8.out.bx.cellv 0 _ rfl
      have k1 := HG8.out.bx.cellv 1 _ rfl
      have k2 := HG8.out.bx.cellv 2 _ rfl
      have k3 := HG8.out.bx.cellv 3 _ rfl
      have k4 := HG8.out.bx.cellv 4 _ rfl
      clear HG7 HS5 HS6 HS7 HSA HSB S5 S6 S7 hn5 hn6 hn7 HN5 HN6 HN7
      go_wp2_with fail
      refine HPUT.out.mono ?_
      rintro e9 w9 ⟨pl, q, pa, pn, pc, rfl, HQ, HPN, HPO, b9, -⟩
      have HG9 := Lib.hid (HG8.out.later b9)
      have HB9 : Hid (Below w.heap.size w w9) := Lib.hid HG9.out.bel
      have hwW : w.heap.size ≤ W.heap.size := by have := HNUM.out; omega
      have HA9 := Lib.hid (own_below HA7.out b9)
      have HR9 := Lib.hid (own_below HR7.out b9)
      clear k0 k1 k2 k3 k4 HG8 HA7 HR7 HW7 HPUT b9
      obtain ⟨ga, gn, gc, hBg, -, -, -⟩ := HG9.out.rq
      have gk1 := hBg.cellv 1 _ rfl
      clear hBg
      have x0 : w9.cell? ⟨gx, 0, none⟩ = some (.slice aa ak ac) := HG9.out.bx.cellv 0 _ rfl
      have x1 : w9.cell? ⟨gx, 1, none⟩ = some (.slice ra rk rc) := HG9.out.bx.cellv 1 _ rfl
      have x2 : w9.cell? ⟨gx, 2, none⟩ = some (.int .u32 jo) := HG9.out.bx.cellv 2 _ rfl
      have x3 : w9.cell? ⟨gx, 3, none⟩ = some (.int .u32 nx) := HG9.out.bx.cellv 3 _ rfl
      have x4 : w9.cell? ⟨gx, 4, none⟩ = some (.int .u64 sq) := HG9.out.bx.cellv 4 _ rfl
      have y0 : w9.cell? ⟨gr, 0, none⟩ = some (.slice none 0 0) := HG9.out.br.cellv 0 _ rfl
      have y1 : w9.cell? ⟨gr, 1, none⟩ = some (.slice none 0 0) := HG9.out.br.cellv 1 _ rfl
      have y2 : w9.cell? ⟨gr, 2, none⟩ = some (.int .u32 0) := HG9.out.br.cellv 2 _ rfl
      have y3 : w9.cell? ⟨gr, 3, none⟩ = some (.int .u32 0) := HG9.out.br.cellv 3 _ rfl
      have y4 : w9.cell? ⟨gr, 4, none⟩ = some (.int .u64 0) := HG9.out.br.cellv 4 _ rfl
      have u0 := HG9.out.br.free 0
      have u1 := HG9.out.br.free 1
      have u2 := HG9.out.br.free 2
      have u3 := HG9.out.br.free 3
      have u4 := HG9.out.br.free 4
      go_upto_region 18 with (fail)
      have HZ : Hid (Blk w9 gr #[.slice none 0 0, .slice none 0 0, .int .u32 0, .int .u32 0, .int .u64 0] 27) := Lib.hid HG9.out.br
      cases b7 with
      | true =>
        have HGT := Lib.hid (getM_bad HS.out)
        clear x0 x1 x2 x3 x4
        have hgw : w.heap.size ≤ gr := by have := HNUM.out; omega
        have HZ5 : Hid (Blk (((((w9.setCell ⟨gr, 0, none⟩ (.slice none 0 0)).setCell ⟨gr, 1, none⟩ (.slice none 0 0)).setCell ⟨gr, 2, none⟩ (.int .u32 0)).setCell ⟨gr, 3, none⟩ (.int .u32 0)).setCell ⟨gr, 4, none⟩ (.int .u64 0)) gr #[.slice none 0 0, .slice none 0 0, .int .u32 0, .int .u32 0, .int .u64 0] 27) := Lib.hid (((((HZ.out.set 0 (.slice none 0 0)).set 1 (.slice none 0 0)).set 2 (.int .u32 0)).set 3 (.int .u32 0)).set 4 (.int .u64 0))
        have HBX := Lib.hid (((((HB9.out.setCell (p := ⟨gr, 0, none⟩) hgw (.slice none 0 0)).setCell (p := ⟨gr, 1, none⟩) hgw (.slice none 0 0)).setCell (p := ⟨gr, 2, none⟩) hgw (.int .u32 0)).setCell (p := ⟨gr, 3, none⟩) hgw (.int .u32 0)).setCell (p := ⟨gr, 4, none⟩) hgw (.int .u64 0))
        go_wp2
        refine bodyPost_ret (v := .tuple #[.agg #[.slice none 0 0, .slice none 0 0, .int .u32 0, .int .u32 0, .int .u64 0], .int .i64 ((4 : Nat) : Int)]) (res_editQ _ _ gr _ 4 rfl rfl rfl HZ5.out) rfl ⟨PX.zero, 4, .slice none 0 0, .slice none 0 0, rfl, HGT, own_nil _ _ _ _, own_nil _ _ _ _, HBX.out, fun _ => ⟨_, _, rfl⟩, fun _ => ⟨_, _, rfl⟩, fun k hk => by simp [Value.ownBlock] at hk⟩
      | false =>
        rcases HQ.out with ⟨hm, rfl, rfl⟩ | ⟨hm, rfl, rfl⟩
        · have HMA := Lib.hid hm
          have kx := run_str (rd_of_own HPO.out).2
          have ky := run_str (HV.out.below HB9.out)
          clear hm
          by_cases he : ePut (PX.mk xs ks jo nx sq) = b
          · have HE := Lib.hid he
            have HGT := Lib.hid (getM_ok HS.out HMA.out HFIT.out he)
            rw [he] at kx
            clear he HPO
            generalize bs b = sx at kx ky
            have HX9 : Hid (Blk (((((w9.setCell ⟨gr, 0, none⟩ (.slice aa ak ac)).setCell ⟨gr, 1, none⟩ (.slice ra rk rc)).setCell ⟨gr, 2, none⟩ (.int .u32 jo)).setCell ⟨gr, 3, none⟩ (.int .u32 nx)).setCell ⟨gr, 4, none⟩ (.int .u64 sq)) gr #[.slice aa ak ac, .slice ra rk rc, .int .u32 jo, .int .u32 nx, .int .u64 sq] 27) := Lib.hid (((((HZ.out.set 0 (.slice aa ak ac)).set 1 (.slice ra rk rc)).set 2 (.int .u32 jo)).set 3 (.int .u32 nx)).set 4 (.int .u64 sq))
            have hgw : w.heap.size ≤ gr := by have := HNUM.out; omega
            have HBX := Lib.hid (((((HB9.out.setCell (p := ⟨gr, 0, none⟩) hgw (.slice aa ak ac)).setCell (p := ⟨gr, 1, none⟩) hgw (.slice ra rk rc)).setCell (p := ⟨gr, 2, none⟩) hgw (.int .u32 jo)).setCell (p := ⟨gr, 3, none⟩) hgw (.int .u32 nx)).setCell (p := ⟨gr, 4, none⟩) hgw (.int .u64 sq))
            have HA10 := Lib.hid (own_mono (own_set (own_set (own_set (own_set (own_set HA9.out ⟨gr, 0, none⟩ hgrg (.slice aa ak ac)) ⟨gr, 1, none⟩ hgrg (.slice ra rk rc)) ⟨gr, 2, none⟩ hgrg (.int .u32 jo)) ⟨gr, 3, none⟩ hgrg (.int .u32 nx)) ⟨gr, 4, none⟩ hgrg (.int .u64 sq)) hwW)
            have HR10 := Lib.hid (own_mono (own_set (own_set (own_set (own_set (own_set HR9.out ⟨gr, 0, none⟩ hgrg (.slice aa ak ac)) ⟨gr, 1, none⟩ hgrg (.slice ra rk rc)) ⟨gr, 2, none⟩ hgrg (.int .u32 jo)) ⟨gr, 3, none⟩ hgrg (.int .u32 nx)) ⟨gr, 4, none⟩ hgrg (.int .u64 sq)) hwW)
            clear HA9 HR9
            go_wp2_with fail
            refine bodyPost_ret (v := .tuple #[.agg #[.slice aa ak ac, .slice ra rk rc, .int .u32 jo, .int .u32 nx, .int .u64 sq], .int .i64 ((0 : Nat) : Int)]) (res_editQ _ _ gr _ 0 rfl rfl rfl HX9.out) rfl ⟨PX.mk xs ks jo nx sq, 0, .slice aa ak ac, .slice ra rk rc, rfl, HGT, ?_, ?_, HBX.out, Lib.hid (fun h => ⟨ak, ac, by rw [HIA.out (HAK.out.trans h)]⟩), Lib.hid (fun h => ⟨rk, rc, by rw [HIR.out (HRK.out.trans h)]⟩), HAPX⟩
            · show Hid (Own _ w.heap.size 86 4 (.slice aa ak ac) xs.length (fcells xs))
              rw [← HAK.out]; exact HA10
            · show Hid (Own _ w.heap.size 24 1 (.slice ra rk rc) ks.length (ucells ks))
              rw [← HRK.out]; exact HR10
          · have HGT := Lib.hid (getM_ne HS.out he)
            have hne : ((bs (ePut (PX.mk xs ks jo nx sq))).toList == (bs b).toList) = false := by
              rw [Lib.toList_data, Lib.toList_data, bs_data, bs_data, beq_eq_false_iff_ne]
              exact he
            clear he HPO
            generalize bs b = sx at kx ky hne
            generalize bs (ePut (PX.mk xs ks jo nx sq)) = sy at kx hne
            clear x0 x1 x2 x3 x4
            have hgw : w.heap.size ≤ gr := by have := HNUM.out; omega
            have HZ5 : Hid (Blk (((((w9.setCell ⟨gr, 0, none⟩ (.slice none 0 0)).setCell ⟨gr, 1, none⟩ (.slice none 0 0)).setCell ⟨gr, 2, none⟩ (.int .u32 0)).setCell ⟨gr, 3, none⟩ (.int .u32 0)).setCell ⟨gr, 4, none⟩ (.int .u64 0)) gr #[.slice none 0 0, .slice none 0 0, .int .u32 0, .int .u32 0, .int .u64 0] 27) := Lib.hid (((((HZ.out.set 0 (.slice none 0 0)).set 1 (.slice none 0 0)).set 2 (.int .u32 0)).set 3 (.int .u32 0)).set 4 (.int .u64 0))
            have HBX := Lib.hid (((((HB9.out.setCell (p := ⟨gr, 0, none⟩) hgw (.slice none 0 0)).setCell (p := ⟨gr, 1, none⟩) hgw (.slice none 0 0)).setCell (p := ⟨gr, 2, none⟩) hgw (.int .u32 0)).setCell (p := ⟨gr, 3, none⟩) hgw (.int .u32 0)).setCell (p := ⟨gr, 4, none⟩) hgw (.int .u64 0))
            go_wp2
            refine bodyPost_ret (v := .tuple #[.agg #[.slice none 0 0, .slice none 0 0, .int .u32 0, .int .u32 0, .int .u64 0], .int .i64 ((4 : Nat) : Int)]) (res_editQ _ _ gr _ 4 rfl rfl rfl HZ5.out) rfl ⟨PX.zero, 4, .slice none 0 0, .slice none 0 0, rfl, HGT, own_nil _ _ _ _, own_nil _ _ _ _, HBX.out, fun _ => ⟨_, _, rfl⟩, fun _ => ⟨_, _, rfl⟩, fun k hk => by simp [Value.ownBlock] at hk⟩
        · have HGT := Lib.hid (getM_may HS.out hm)
          clear hm
          clear x0 x1 x2 x3 x4
          have hgw : w.heap.size ≤ gr := by have := HNUM.out; omega
          have HZ5 : Hid (Blk (((((w9.setCell ⟨gr, 0, none⟩ (.slice none 0 0)).setCell ⟨gr, 1, none⟩ (.slice none 0 0)).setCell ⟨gr, 2, none⟩ (.int .u32 0)).setCell ⟨gr, 3, none⟩ (.int .u32 0)).setCell ⟨gr, 4, none⟩ (.int .u64 0)) gr #[.slice none 0 0, .slice none 0 0, .int .u32 0, .int .u32 0, .int .u64 0] 27) := Lib.hid (((((HZ.out.set 0 (.slice none 0 0)).set 1 (.slice none 0 0)).set 2 (.int .u32 0)).set 3 (.int .u32 0)).set 4 (.int .u64 0))
          have HBX := Lib.hid (((((HB9.out.setCell (p := ⟨gr, 0, none⟩) hgw (.slice none 0 0)).setCell (p := ⟨gr, 1, none⟩) hgw (.slice none 0 0)).setCell (p := ⟨gr, 2, none⟩) hgw (.int .u32 0)).setCell (p := ⟨gr, 3, none⟩) hgw (.int .u32 0)).setCell (p := ⟨gr, 4, none⟩) hgw (.int .u64 0))
          go_wp2
          refine bodyPost_ret (v := .tuple #[.agg #[.slice none 0 0, .slice none 0 0, .int .u32 0, .int .u32 0, .int .u64 0], .int .i64 ((4 : Nat) : Int)]) (res_editQ _ _ gr _ 4 rfl rfl rfl HZ5.out) rfl ⟨PX.zero, 4, .slice none 0 0, .slice none 0 0, rfl, HGT, own_nil _ _ _ _, own_nil _ _ _ _, HBX.out, fun _ => ⟨_, _, rfl⟩, fun _ => ⟨_, _, rfl⟩, fun k hk => by simp [Value.ownBlock] at hk⟩
    case first =>
      go_upto_region 11 with (fail)
      show Code.wp _ _ _ _ _
      go_loopw [8] (fun nv wr => ∃ (m rk rc : Nat) (ra : Option Addr) (ks : List Nat) (bd : Bool) (r : List UInt8), nv = .int .u64 m ∧ m + rk = m0 ∧ Hid (rk = ks.length) ∧ Hid (Own wr W.heap.size 24 1 (.slice ra rk rc) rk (ucells ks)) ∧ Hid (Own wr W.heap.size 86 4 (.slice aa ak ac) ak (fcells xs)) ∧ Hid (Apart wr (.slice aa ak ac) (.slice ra rk rc)) ∧ Hid (∀ f ∈ ks, f < 4294967296) ∧
          Hid (GS w g gx gr wr bd r #[.slice aa ak ac, .slice ra rk rc, .int .u32 0, .int .u32 0, .int .u64 0]) ∧ Hid (W.heap.size ≤ wr.heap.size) ∧ Hid (Sev vint (fun x => x ≤ 4294967295) m0 b2 l2 ks bd r) ∧ Hid (rk = 0 → ra = none))
        (fun i _ => (intOf i).toNat)
      case atStart => exact ⟨m0, 0, 0, none, [], b2, l2, rfl, rfl, rfl, own_nil _ _ _ _, HOA2, HGR2, Lib.hid (fun _ h => by cases h), HG2, HSW2, Lib.hid Sev.start, Lib.hid (fun _ => rfl)⟩
      case round =>
        clear HG2 HSW2 HOA2 HGR2
        obtain ⟨m, rk, rc, ra, ks, bd, r, rfl, hmk, HRK, HOR, HOB, HAP, HRX, HG, HSV, HS, HI⟩ := hrel
        obtain ⟨va, vn, vc, hB, -, -, -⟩ := HG.out.rq
        have c1 := hB.cellv 1 _ rfl
        clear hB
        by_cases hgo : m ≠ 0 ∧ bd = false
        · obtain ⟨hm, rfl⟩ := hgo
          have hd : decide ((m : Int) > 0) = true := by simp; omega
          have hd2 : decide ((0 : Int) < (m : Int)) = true := by simp; omega
          go_upto_region 13 with (fail)
          have hk : rk ≤ 1000000 := by have := HS.out.2.2.2.2.1 rfl; have := HL2.out; have := HRK.out; omega
          obtain ⟨m', rfl⟩ : ∃ m', m = m' + 1 := ⟨m - 1, by omega⟩
          have hwm : IntKind.u64.wrap (m' : Int) = m' := wrapU m' (by omega)
          clear c1 hd hd2
          refine wp_region_held_drew (S := fun _ => True) (by kernel_rfl) (trivial) (fun hHeld => ?_)
          have HGd := Lib.hid (HG.out.later (Below.drew (Below.refl _ _)))
          have HMd := Lib.hid ((Mid.refl W.heap.size wr).later (Below.drew (Below.refl _ _)))
          generalize wr.drew = wd at HGd HMd ⊢
          refine wpAnyH_take (i := 0) (v := ?vq1) (by simp only [List.getElem?_toArray]; rfl) (by kernel_rfl) (by kernel_rfl) (by kernel_rfl) (by exact fun _ _ _ h => h) (Or.inl ⟨by rfl, ?yq1⟩) (by assumption) ?rq1
          case yq1 => (intro w hSw; (try dsimp only at hSw); go_simp; try with_reducible rfl)
          try simp only [Act.put, List.setIfInBounds_toArray, List.set_cons_zero, List.set_cons_succ]
          refine wpAnyH_take (i := 2) (v := ?vq2) (by simp only [List.getElem?_toArray]; rfl) (by kernel_rfl) (by kernel_rfl) (by kernel_rfl) (by exact fun _ _ _ h => h) (Or.inl ⟨by rfl, ?yq2⟩) (by assumption) ?rq2
          case yq2 => (intro w hSw; (try dsimp only at hSw); go_simp; try with_reducible rfl)
          try simp only [Act.put, List.setIfInBounds_toArray, List.set_cons_zero, List.set_cons_succ]
          refine wpAnyH_ready (rs := [1, 3]) (by kernel_rfl) (by simp) ?_
          refine AllReadyH.cons (by simp only [List.getElem?_toArray]; rfl) (fun K hK => ?way1) (AllReadyH.cons (by simp only [List.getElem?_toArray]; rfl) (fun K hK => ?way2) AllReadyH.nil)
          case way1 =>
            have z1 := HGd.out.bx.cellv 1 _ rfl
            go_simp
            refine hK.out _ _ trivial (fun hHeld => ?_)
            clear hK K
            try simp only [Act.put, List.setIfInBounds_toArray, List.set_cons_zero, List.set_cons_succ]
            clear z1
            refine wpAnyH_ready (rs := [3]) (by kernel_rfl) (by simp) ?_
            refine AllReadyH.cons (by simp only [List.getElem?_toArray]; rfl) (fun K hK => ?_) AllReadyH.nil
            go_simp
            refine (numQ_any w wd g false r 4294967295 HGd.out.rq (by omega)).mono ?_
            rintro e4 w4 ⟨n1, b4, l4, rfl, hn1, R4, O4, S4⟩
            refine hK.out _ _ trivial (fun hHeld => ?_)
            clear hK K
            try simp only [Act.put, List.setIfInBounds_toArray, List.set_cons_zero, List.set_cons_succ]
            obtain ⟨m1, hm1⟩ : ∃ m, m = n1 % 4294967296 := ⟨_, rfl⟩
            have HWB : Hid (IntKind.u32.wrap (n1 : Int) = m1) := Lib.hid (by rw [IntKind.wrap_u32]; omega)
            have HM1 := Lib.hid hm1
            have hm1l : m1 < 4294967296 := by omega
            clear hm1
            have HG4 := Lib.hid (HGd.out.read R4.out O4.out)
            have HM4 := Lib.hid (HMd.out.only O4.out hgW)
            have HSU := Lib.hid (step_num S4.out HM1.out)
            refine wpAnyH_take (i := 4) (v := ?vq3) (by simp only [List.getElem?_toArray]; rfl) (by kernel_rfl) (by kernel_rfl) (by kernel_rfl) (by exact fun _ _ _ h => h) (Or.inl ⟨by rfl, ?yq3⟩) (by assumption) ?rq3
            case yq3 => (intro w hSw; (try dsimp only at hSw); go_simp; try with_reducible rfl)
            try simp only [Act.put, List.setIfInBounds_toArray, List.set_cons_zero, List.set_cons_succ]
            rw [HWB.out]
            refine wpAnyH_ready (rs := [5]) (by kernel_rfl) (by simp) ?_
            refine AllReadyH.cons (by simp only [List.getElem?_toArray]; rfl) (fun K hK => ?_) AllReadyH.nil
            go_simp
            refine hK.out _ _ trivial (fun hHeld => ?_)
            clear hK K
            try simp only [Act.put, List.setIfInBounds_toArray, List.set_cons_zero, List.set_cons_succ]
            have hal : Below w4.heap.size w4 (w4.alloc (.cells #[.int .u32 m1] 24)) := alloc_bel _ _
            have HG5 := Lib.hid (HG4.out.later hal)
            have HM5 := Lib.hid (HM4.out.later hal)
            have HOR5 := Lib.hid (HM5.out.own HOR.out)
            have HOA5 := Lib.hid (HM5.out.own HOB.out)
            have HAP5 := Lib.hid (HAP.out.later HM5.out.1)
            have HRF := Lib.hid (reads_u32 w4 m1 24)
            have HSZ5 : Hid (W.heap.size ≤ (w4.alloc (.cells #[.int .u32 m1] 24)).heap.size) := Lib.hid (Nat.le_trans HSV.out HM5.out.1)
            refine wpAnyH_ready (rs := [6]) (by kernel_rfl) (by simp) ?_
            refine AllReadyH.cons (by simp only [List.getElem?_toArray]; rfl) (fun K hK => ?_) AllReadyH.nil
            refine step_app_el2 rfl _ _ rfl Tryz.underlying23 hj hy hy1 hy2 rfl (by omega) W.heap.size rk 1 (.slice ra rk rc) _ (ucells ks) (ucells [m1]) (ucells (ks ++ [m1])) (rk + 1) rfl rfl HOR5.out HRF.out (one_ucells _) rfl (by rw [ucells_app]) (by omega) (by omega) HSZ5.out ?_
            intro ua uc w9 HX9 HG9
            refine hK.out _ _ trivial (fun hHeld => ?_)
            clear hK K
            try simp only [Act.put, List.setIfInBounds_toArray, List.set_cons_zero, List.set_cons_succ]
            have HG10 := Lib.hid (HG5.out.under HG9.out.below hgxW)
            have z9 := HG10.out.bx.cellv 1 _ rfl
            have y9 := HG10.out.bx.free 1
            refine wpAnyH_take (i := 7) (v := ?vq4) (by simp only [List.getElem?_toArray]; rfl) (by kernel_rfl) (by kernel_rfl) (by kernel_rfl) (by exact fun _ _ _ h => h) (Or.inl ⟨by rfl, ?yq4⟩) (by assumption) ?rq4
            case yq4 => (intro w hSw; (try dsimp only at hSw); go_simp; try with_reducible rfl)
            try simp only [Act.put, List.setIfInBounds_toArray, List.set_cons_zero, List.set_cons_succ]
            refine wpAnyH_ready (rs := [8]) (by kernel_rfl) (by simp) ?_
            refine AllReadyH.cons (by simp only [List.getElem?_toArray]; rfl) (fun K hK => ?_) AllReadyH.nil
            go_simp
            refine hK.out _ _ trivial (fun hHeld => ?_)
            clear hK K
            try simp only [Act.put, List.setIfInBounds_toArray, List.set_cons_zero, List.set_cons_succ]
            refine wpAnyH_done (by kernel_rfl) ?_ _
            have HG11 := Lib.hid (HG10.out.setx 1 (.slice ua (rk + 1) uc))
            have HO11 := Lib.hid (own_set HX9.out ⟨gx, 1, none⟩ hgxW (.slice ua (rk + 1) uc))
            have HA11 := Lib.hid (own_set (HG9.out.keep _ _ _ _ _ _ HOA5.out HAP5.out) ⟨gx, 1, none⟩ hgxW (.slice ua (rk + 1) uc))
            have HP11 := Lib.hid ((HG9.out.apart _ HAP5.out).later (w' := w9.setCell ⟨gx, 1, none⟩ (.slice ua (rk + 1) uc)) (by simp))
            have HS11 : Hid (W.heap.size ≤ (w9.setCell ⟨gx, 1, none⟩ (.slice ua (rk + 1) uc)).heap.size) := Lib.hid (by have h1 := HG9.out.below.size; have h2 := HSZ5.out; simp at h1 h2 ⊢; omega)
            have HS2 := Lib.hid (HS.out.step (x := m1) (by have := HRK.out; omega) vint_ge HSU.out)
            generalize w9.setCell ⟨gx, 1, none⟩ (.slice ua (rk + 1) uc) = wz at HG11 HO11 HA11 HP11 HS11 ⊢
            clear z9 y9 HG10 HX9 HG9 HG5 HM5 HOR5 HOA5 HAP5 HRF HSZ5 HG4 HM4 hal
            go_wp2_with fail
            go_roundw
            case rel => exact ⟨m', rk + 1, uc, ua, ks ++ [m1], b4, l4, by first | rfl | go_num, by omega, Lib.hid (by rw [List.length_append, HRK.out]; rfl), HO11, HA11, HP11, Lib.hid (fun y hy => by rcases List.mem_append.1 hy with h | h; exact HRX.out y h; rw [List.mem_singleton.1 h]; exact hm1l), HG11, HS11, HS2, Lib.hid (fun h => absurd h (Nat.succ_ne_zero _))⟩
            case measure => simp [intOf]
          case way2 =>
            go_simp
            refine (numQ_any w wd g false r 4294967295 HGd.out.rq (by omega)).mono ?_
            rintro e4 w4 ⟨n1, b4, l4, rfl, hn1, R4, O4, S4⟩
            refine hK.out _ _ trivial (fun hHeld => ?_)
            clear hK K
            try simp only [Act.put, List.setIfInBounds_toArray, List.set_cons_zero, List.set_cons_succ]
            obtain ⟨m1, hm1⟩ : ∃ m, m = n1 % 4294967296 := ⟨_, rfl⟩
            have HWB : Hid (IntKind.u32.wrap (n1 : Int) = m1) := Lib.hid (by rw [IntKind.wrap_u32]; omega)
            have HM1 := Lib.hid hm1
            have hm1l : m1 < 4294967296 := by omega
            clear hm1
            have HG4 := Lib.hid (HGd.out.read R4.out O4.out)
            have HM4 := Lib.hid (HMd.out.only O4.out hgW)
            have HSU := Lib.hid (step_num S4.out HM1.out)
            refine wpAnyH_take (i := 4) (v := ?vq5) (by simp only [List.getElem?_toArray]; rfl) (by kernel_rfl) (by kernel_rfl) (by kernel_rfl) (by exact fun _ _ _ h => h) (Or.inl ⟨by rfl, ?yq5⟩) (by assumption) ?rq5
            case yq5 => (intro w hSw; (try dsimp only at hSw); go_simp; try with_reducible rfl)
            try simp only [Act.put, List.setIfInBounds_toArray, List.set_cons_zero, List.set_cons_succ]
            rw [HWB.out]
            refine wpAnyH_ready (rs := [1, 5]) (by kernel_rfl) (by simp) ?_
            refine AllReadyH.cons (by simp only [List.getElem?_toArray]; rfl) (fun K hK => ?way3) (AllReadyH.cons (by simp only [List.getElem?_toArray]; rfl) (fun K hK => ?way4) AllReadyH.nil)
            case way3 =>
              have z1 := HG4.out.bx.cellv 1 _ rfl
              go_simp
              refine hK.out _ _ trivial (fun hHeld => ?_)
              clear hK K
              try simp only [Act.put, List.setIfInBounds_toArray, List.set_cons_zero, List.set_cons_succ]
              clear z1
              refine wpAnyH_ready (rs := [5]) (by kernel_rfl) (by simp) ?_
              refine AllReadyH.cons (by simp only [List.getElem?_toArray]; rfl) (fun K hK => ?_) AllReadyH.nil
              go_simp
              refine hK.out _ _ trivial (fun hHeld => ?_)
              clear hK K
              try simp only [Act.put, List.setIfInBounds_toArray, List.set_cons_zero, List.set_cons_succ]
              have hal : Below w4.heap.size w4 (w4.alloc (.cells #[.int .u32 m1] 24)) := alloc_bel _ _
              have HG5 := Lib.hid (HG4.out.later hal)
              have HM5 := Lib.hid (HM4.out.later hal)
              have HOR5 := Lib.hid (HM5.out.own HOR.out)
              have HOA5 := Lib.hid (HM5.out.own HOB.out)
              have HAP5 := Lib.hid (HAP.out.later HM5.out.1)
              have HRF := Lib.hid (reads_u32 w4 m1 24)
              have HSZ5 : Hid (W.heap.size ≤ (w4.alloc (.cells #[.int .u32 m1] 24)).heap.size) := Lib.hid (Nat.le_trans HSV.out HM5.out.1)
              refine wpAnyH_ready (rs := [6]) (by kernel_rfl) (by simp) ?_
              refine AllReadyH.cons (by simp only [List.getElem?_toArray]; rfl) (fun K hK => ?_) AllReadyH.nil
              refine step_app_el2 rfl _ _ rfl Tryz.underlying23 hj hy hy1 hy2 rfl (by omega) W.heap.size rk 1 (.slice ra rk rc) _ (ucells ks) (ucells [m1]) (ucells (ks ++ [m1])) (rk + 1) rfl rfl HOR5.out HRF.out (one_ucells _) rfl (by rw [ucells_app]) (by omega) (by omega) HSZ5.out ?_
              intro ua uc w9 HX9 HG9
              refine hK.out _ _ trivial (fun hHeld => ?_)
              clear hK K
              try simp only [Act.put, List.setIfInBounds_toArray, List.set_cons_zero, List.set_cons_succ]
              have HG10 := Lib.hid (HG5.out.under HG9.out.below hgxW)
              have z9 := HG10.out.bx.cellv 1 _ rfl
              have y9 := HG10.out.bx.free 1
              refine wpAnyH_take (i := 7) (v := ?vq6) (by simp only [List.getElem?_toArray]; rfl) (by kernel_rfl) (by kernel_rfl) (by kernel_rfl) (by exact fun _ _ _ h => h) (Or.inl ⟨by rfl, ?yq6⟩) (by assumption) ?rq6
              case yq6 => (intro w hSw; (try dsimp only at hSw); go_simp; try with_reducible rfl)
              try simp only [Act.put, List.setIfInBounds_toArray, List.set_cons_zero, List.set_cons_succ]
              refine wpAnyH_ready (rs := [8]) (by kernel_rfl) (by simp) ?_
              refine AllReadyH.cons (by simp only [List.getElem?_toArray]; rfl) (fun K hK => ?_) AllReadyH.nil
              go_simp
              refine hK.out _ _ trivial (fun hHeld => ?_)
              clear hK K
              try simp only [Act.put, List.setIfInBounds_toArray, List.set_cons_zero, List.set_cons_succ]
              refine wpAnyH_done (by kernel_rfl) ?_ _
              have HG11 := Lib.hid (HG10.out.setx 1 (.slice ua (rk + 1) uc))
              have HO11 := Lib.hid (own_set HX9.out ⟨gx, 1, none⟩ hgxW (.slice ua (rk + 1) uc))
              have HA11 := Lib.hid (own_set (HG9.out.keep _ _ _ _ _ _ HOA5.out HAP5.out) ⟨gx, 1, none⟩ hgxW (.slice ua (rk + 1) uc))
              have HP11 := Lib.hid ((HG9.out.apart _ HAP5.out).later (w' := w9.setCell ⟨gx, 1, none⟩ (.slice ua (rk + 1) uc)) (by simp))
              have HS11 : Hid (W.heap.size ≤ (w9.setCell ⟨gx, 1, none⟩ (.slice ua (rk + 1) uc)).heap.size) := Lib.hid (by have h1 := HG9.out.below.size; have h2 := HSZ5.out; simp at h1 h2 ⊢; omega)
              have HS2 := Lib.hid (HS.out.step (x := m1) (by have := HRK.out; omega) vint_ge HSU.out)
              generalize w9.setCell ⟨gx, 1, none⟩ (.slice ua (rk + 1) uc) = wz at HG11 HO11 HA11 HP11 HS11 ⊢
              clear z9 y9 HG10 HX9 HG9 HG5 HM5 HOR5 HOA5 HAP5 HRF HSZ5 HG4 HM4 hal
              go_wp2_with fail
              go_roundw
              case rel => exact ⟨m', rk + 1, uc, ua, ks ++ [m1], b4, l4, by first | rfl | go_num, by omega, Lib.hid (by rw [List.length_append, HRK.out]; rfl), HO11, HA11, HP11, Lib.hid (fun y hy => by rcases List.mem_append.1 hy with h | h; exact HRX.out y h; rw [List.mem_singleton.1 h]; exact hm1l), HG11, HS11, HS2, Lib.hid (fun h => absurd h (Nat.succ_ne_zero _))⟩
              case measure => simp [intOf]
            case way4 =>
              go_simp
              refine hK.out _ _ trivial (fun hHeld => ?_)
              clear hK K
              try simp only [Act.put, List.setIfInBounds_toArray, List.set_cons_zero, List.set_cons_succ]
              have hal : Below w4.heap.size w4 (w4.alloc (.cells #[.int .u32 m1] 24)) := alloc_bel _ _
              have HG5 := Lib.hid (HG4.out.later hal)
              have HM5 := Lib.hid (HM4.out.later hal)
              have HOR5 := Lib.hid (HM5.out.own HOR.out)
              have HOA5 := Lib.hid (HM5.out.own HOB.out)
              have HAP5 := Lib.hid (HAP.out.later HM5.out.1)
              have HRF := Lib.hid (reads_u32 w4 m1 24)
              have HSZ5 : Hid (W.heap.size ≤ (w4.alloc (.cells #[.int .u32 m1] 24)).heap.size) := Lib.hid (Nat.le_trans HSV.out HM5.out.1)
              refine wpAnyH_ready (rs := [1]) (by kernel_rfl) (by simp) ?_
              refine AllReadyH.cons (by simp only [List.getElem?_toArray]; rfl) (fun K hK => ?_) AllReadyH.nil
              have z1 := HG5.out.bx.cellv 1 _ rfl
              go_simp
              refine hK.out _ _ trivial (fun hHeld => ?_)
              clear hK K
              try simp only [Act.put, List.setIfInBounds_toArray, List.set_cons_zero, List.set_cons_succ]
              clear z1
              refine wpAnyH_ready (rs := [6]) (by kernel_rfl) (by simp) ?_
              refine AllReadyH.cons (by simp only [List.getElem?_toArray]; rfl) (fun K hK => ?_) AllReadyH.nil
              refine step_app_el2 rfl _ _ rfl Tryz.underlying23 hj hy hy1 hy2 rfl (by omega) W.heap.size rk 1 (.slice ra rk rc) _ (ucells ks) (ucells [m1]) (ucells (ks ++ [m1])) (rk + 1) rfl rfl HOR5.out HRF.out (one_ucells _) rfl (by rw [ucells_app]) (by omega) (by omega) HSZ5.out ?_
              intro ua uc w9 HX9 HG9
              refine hK.out _ _ trivial (fun hHeld => ?_)
              clear hK K
              try simp only [Act.put, List.setIfInBounds_toArray, List.set_cons_zero, List.set_cons_succ]
              have HG10 := Lib.hid (HG5.out.under HG9.out.below hgxW)
              have z9 := HG10.out.bx.cellv 1 _ rfl
              have y9 := HG10.out.bx.free 1
              refine wpAnyH_take (i := 7) (v := ?vq7) (by simp only [List.getElem?_toArray]; rfl) (by kernel_rfl) (by kernel_rfl) (by kernel_rfl) (by exact fun _ _ _ h => h) (Or.inl ⟨by rfl, ?yq7⟩) (by assumption) ?rq7
              case yq7 => (intro w hSw; (try dsimp only at hSw); go_simp; try with_reducible rfl)
              try simp only [Act.put, List.setIfInBounds_toArray, List.set_cons_zero, List.set_cons_succ]
              refine wpAnyH_ready (rs := [8]) (by kernel_rfl) (by simp) ?_
              refine AllReadyH.cons (by simp only [List.getElem?_toArray]; rfl) (fun K hK => ?_) AllReadyH.nil
              go_simp
              refine hK.out _ _ trivial (fun hHeld => ?_)
              clear hK K
              try simp only [Act.put, List.setIfInBounds_toArray, List.set_cons_zero, List.set_cons_succ]
              refine wpAnyH_done (by kernel_rfl) ?_ _
              have HG11 := Lib.hid (HG10.out.setx 1 (.slice ua (rk + 1) uc))
              have HO11 := Lib.hid (own_set HX9.out ⟨gx, 1, none⟩ hgxW (.slice ua (rk + 1) uc))
              have HA11 := Lib.hid (own_set (HG9.out.keep _ _ _ _ _ _ HOA5.out HAP5.out) ⟨gx, 1, none⟩ hgxW (.slice ua (rk + 1) uc))
              have HP11 := Lib.hid ((HG9.out.apart _ HAP5.out).later (w' := w9.setCell ⟨gx, 1, none⟩ (.slice ua (rk + 1) uc)) (by simp))
              have HS11 : Hid (W.heap.size ≤ (w9.setCell ⟨gx, 1, none⟩ (.slice ua (rk + 1) uc)).heap.size) := Lib.hid (by have h1 := HG9.out.below.size; have h2 := HSZ5.out; simp at h1 h2 ⊢; omega)
              have HS2 := Lib.hid (HS.out.step (x := m1) (by have := HRK.out; omega) vint_ge HSU.out)
              generalize w9.setCell ⟨gx, 1, none⟩ (.slice ua (rk + 1) uc) = wz at HG11 HO11 HA11 HP11 HS11 ⊢
              clear z9 y9 HG10 HX9 HG9 HG5 HM5 HOR5 HOA5 HAP5 HRF HSZ5 HG4 HM4 hal
              go_wp2_with fail
              go_roundw
              case rel => exact ⟨m', rk + 1, uc, ua, ks ++ [m1], b4, l4, by first | rfl | go_num, by omega, Lib.hid (by rw [List.length_append, HRK.out]; rfl), HO11, HA11, HP11, Lib.hid (fun y hy => by rcases List.mem_append.1 hy with h | h; exact HRX.out y h; rw [List.mem_singleton.1 h]; exact hm1l), HG11, HS11, HS2, Lib.hid (fun h => absurd h (Nat.succ_ne_zero _))⟩
              case measure => simp [intOf]
        · have HDN : Hid (ks.length = m0 ∨ bd = true) := Lib.hid (by
            by_cases h : m = 0
            · left; have := HRK.out; omega
            · right
              cases bd with
              | true => rfl
              | false => exact absurd ⟨h, rfl⟩ hgo)
          have HST := Lib.hid (HS.out.doneM (M := b.length) HDN.out (by have h := S2.out; rwa [HSN.out] at h))
          have HKL : Hid (rk ≤ 50001) := Lib.hid (by have := HS.out.2.2.2.1; have := HL2.out; have := HRK.out; omega)
          by_cases hm : m = 0
          · have hd : decide ((m : Int) > 0) = false := by simp; omega
            have hd2 : decide ((0 : Int) < (m : Int)) = false := by simp; omega
            subst hm
            clear hgo
            go_wp2_with fail
            go_meet
            case rel => exact ⟨rk, rc, ra, ks, bd, r, _, _, rfl, rfl, HRK, HOR, HOB, HRX, HG, HSV, HST, HI, HKL, Lib.hid (fun k hk => (HAP.out k hk).2)⟩
          · have hbd : bd = true := by
              cases bd with
              | true => rfl
              | false => exact absurd ⟨hm, rfl⟩ hgo
            subst hbd
            clear hgo
            have hd : decide ((m : Int) > 0) = true := by simp; omega
            have hd2 : decide ((0 : Int) < (m : Int)) = true := by simp; omega
            go_wp2_with fail
            go_meet
            case rel => exact ⟨rk, rc, ra, ks, true, r, _, _, rfl, rfl, HRK, HOR, HOB, HRX, HG, HSV, HST, HI, HKL, Lib.hid (fun k hk => (HAP.out k hk).2)⟩
  case first =>
  go_upto_region 4 with (fail)
  show Code.wp _ _ _ _ _
  go_loopw [6] (fun nv wr => ∃ (m k c : Nat) (a : Option Addr) (xs : List PF) (bd : Bool) (r : List UInt8), nv = .int .u64 m ∧ m + k = n0 ∧ Hid (k = xs.length) ∧ Hid (Own wr W.heap.size 86 4 (.slice a k c) k (fcells xs)) ∧ Hid (∀ f ∈ xs, f.n < 4294967296) ∧
      Hid (GS w g gx gr wr bd r #[.slice a k c, .slice none 0 0, .int .u32 0, .int .u32 0, .int .u64 0]) ∧ Hid (W.heap.size ≤ wr.heap.size) ∧ Hid (Sev fput PFread n0 b0 l0 xs bd r) ∧ Hid (k = 0 → a = none))
    (fun i _ => (intOf i).toNat)
  case atStart => exact ⟨n0, 0, 0, none, [], b0, l0, rfl, rfl, rfl, own_nil _ _ _ _, Lib.hid (fun _ h => by cases h), HG1, HS1, Lib.hid Sev.start, Lib.hid (fun _ => rfl)⟩
  case round =>
    clear HG1 HS1
    obtain ⟨m, k, c, a, xs, bd, r, rfl, hmk, HK, HO, HX, HG, HSW, HS, HI⟩ := hrel
    obtain ⟨ra, rn, rc, hB, -, -, -⟩ := HG.out.rq
    have c1 := hB.cellv 1 _ rfl
    clear hB
    by_cases hgo : m ≠ 0 ∧ bd = false
    · obtain ⟨hm, rfl⟩ := hgo
      have hd : decide ((m : Int) > 0) = true := by simp; omega
      have hd2 : decide ((0 : Int) < (m : Int)) = true := by simp; omega
      have HN1 := Lib.hid (numQ_any w wr g false r 4294967295 HG.out.rq (by omega))
      go_wp2_with fail
      refine HN1.out.mono ?_
      rintro e2 w2 ⟨n1, b1, l1, rfl, hn1, R1, O1, S2⟩
      have HG2 := Lib.hid (HG.out.read R1.out O1.out)
      have HM2 := Lib.hid ((Mid.refl W.heap.size wr).only O1.out hgW)
      have HSW2 : Hid (W.heap.size ≤ w2.heap.size) := Lib.hid (Nat.le_trans HSW.out O1.out.size)
      have HN2 := Lib.hid (numQ_any w w2 g b1 l1 4 HG2.out.rq (by omega))
      obtain ⟨m1, hm1⟩ : ∃ m, m = n1 % 4294967296 := ⟨_, rfl⟩
      have hw1 : (n1 : Int) % 4294967296 = m1 := by omega
      have HM1 := Lib.hid hm1
      clear hm1
      clear HN1 R1 O1 HG HSW c1 hd hd2
      go_wp2_with fail
      refine HN2.out.mono ?_
      rintro e3 w3 ⟨n2, b2, l2, rfl, hn2, R2, O2, S3⟩
      obtain ⟨lv, hlv⟩ : ∃ lv, lv = wrap64 (n2 : Int) := ⟨_, rfl⟩
      have hw : wrap64 (n2 : Int) = lv := hlv.symm
      obtain ⟨WF, hWF⟩ : ∃ W, W = w3.alloc (.cells #[.int .u32 m1, .int .i64 lv, .string ⟨#[]⟩, .string ⟨#[]⟩] 86) := ⟨_, rfl⟩
      have hbF : Below w3.heap.size w3 WF := by rw [hWF]; exact alloc_bel _ _
      obtain ⟨gF, hgF⟩ : ∃ q, q = w3.heap.size := ⟨_, rfl⟩
      have HF3 : Hid (Blk WF gF #[.int .u32 m1, .int .i64 lv, .string ⟨#[]⟩, .string ⟨#[]⟩] 86) := Lib.hid (by rw [hWF, hgF]; exact Blk.new _ _ _)
      have hgFW : W.heap.size ≤ gF := by rw [hgF]; exact Nat.le_trans HSW2.out O2.out.size
      have HG3 := Lib.hid ((HG2.out.read R2.out O2.out).later hbF)
      have HM3 := Lib.hid ((HM2.out.only O2.out hgW).later hbF)
      have HGF : Hid (wr.heap.size ≤ gF) := Lib.hid (by rw [hgF]; exact (HM2.out.only O2.out hgW).1)
      have HT3 := Lib.hid (textQ_any w WF g b2 l2 HG3.out.rq)
      have hFg : gF ≠ g := by omega
      clear HN2 R2 O2 HG2 HM2 HSW2 hlv hbF
      go_wp2_with fail
      rw [← hWF, ← hgF]
      clear hWF hgF
      refine HT3.out.mono ?_
      rintro e4 w4 ⟨s4, b4, l4, rfl, R4, O4, S4⟩
      have HF4 := Lib.hid (HF3.out.only O4.out hFg)
      have HG4 := Lib.hid (HG3.out.read R4.out O4.out)
      have HM4 := Lib.hid (HM3.out.only O4.out hgW)
      have k2 := HF4.out.cellv 2 _ rfl
      have u2 := HF4.out.free 2
      clear HT3 HF3 HG3 HM3 R4 O4
      go_upto_region 8 with (fail)
      have HF5 := Lib.hid (HF4.out.set 2 (.string s4))
      have HG5 := Lib.hid (HG4.out.setF ⟨gF, 2, none⟩ (by simp; omega) (.string s4))
      have HM5 := Lib.hid (HM4.out.setHigh ⟨gF, 2, none⟩ HGF.out (.string s4))
      generalize w4.setCell ⟨gF, 2, none⟩ (.string s4) = w5 at HF5 HG5 HM5 ⊢
      have HT5 := Lib.hid (textQ_any w w5 g b4 l4 HG5.out.rq)
      clear k2 u2 HF4 HG4 HM4
      go_wp2_with fail
      refine HT5.out.mono ?_
      rintro e6 w6 ⟨s5, b6, l6, rfl, R6, O6, S5⟩
      have HF6 := Lib.hid (HF5.out.only O6.out hFg)
      have HG6 := Lib.hid (HG5.out.read R6.out O6.out)
      have HM6 := Lib.hid (HM5.out.only O6.out hgW)
      have k3 := HF6.out.cellv 3 _ rfl
      have u3 := HF6.out.free 3
      clear HT5 HF5 HG5 HM5 R6 O6
      go_upto_region 9 with (fail)
      have HF7 := Lib.hid (HF6.out.set 3 (.string s5))
      have HG7 := Lib.hid (HG6.out.setF ⟨gF, 3, none⟩ (by simp; omega) (.string s5))
      have HM7 := Lib.hid (HM6.out.setHigh ⟨gF, 3, none⟩ HGF.out (.string s5))
      generalize w6.setCell ⟨gF, 3, none⟩ (.string s5) = w7 at HF7 HG7 HM7 ⊢
      have HF8 : Hid (Blk w7 gF #[.int .u32 m1, .int .i64 lv, .string s4, .string s5] 86) := Lib.hid HF7.out
      have q0 := HF8.out.cellv 0 _ rfl
      have q1 := HF8.out.cellv 1 _ rfl
      have q2 := HF8.out.cellv 2 _ rfl
      have q3 := HF8.out.cellv 3 _ rfl
      have z0 := HG7.out.bx.cellv 0 _ rfl
      have hm1l : m1 < 4294967296 := by rw [HM1.out]; omega
      have HSF := Lib.hid (step_file (step_num S2.out HM1.out) S3.out S4.out S5.out hm1l hw)
      have HS2 := Lib.hid (HS.out.step (x := ⟨m1, lv, s4, s5⟩) (by have := HK.out; omega) fput_ge HSF.out)
      have hal : Below w7.heap.size w7 (w7.alloc (.cells #[.int .u32 m1, .int .i64 lv, .string s4, .string s5] 86)) := alloc_bel _ _
      have HG8 := Lib.hid (HG7.out.later hal)
      have HM8 := Lib.hid (HM7.out.later hal)
      have HO8 := Lib.hid (HM8.out.own HO.out)
      have HSZ8 : Hid (W.heap.size ≤ (w7.alloc (.cells #[.int .u32 m1, .int .i64 lv, .string s4, .string s5] 86)).heap.size) := Lib.hid (Nat.le_trans hgFW (Nat.le_of_lt (Nat.lt_of_lt_of_le HF8.out.lt hal.size)))
      have HRF := Lib.hid (reads_file w7 ⟨m1, lv, s4, s5⟩ 86)
      have hk : k ≤ 1000000 := by have := HS.out.2.2.2.2.1 rfl; have := HL0.out; have := HK.out; have := HBL.out; omega
      obtain ⟨m', rfl⟩ : ∃ m', m = m' + 1 := ⟨m - 1, by omega⟩
      have hwm : IntKind.u64.wrap (m' : Int) = m' := wrapU m' (by omega)
      clear k3 u3 HF6 HG6 HM6 HF7 HG7 HM7 hal S2 S3 S4 S5 hw hw1 HF8 HO
      go_wp2_with (at_builtin; go_loud (refine wp_app_el2 rfl _ _ rfl Tryz.underlying22 hi hz hz1 hz2 rfl (by omega) W.heap.size k 1 (.slice a k c) _ (fcells xs) (fcells [⟨m1, lv, s4, s5⟩]) (fcells (xs ++ [⟨m1, lv, s4, s5⟩])) (k + 1) rfl rfl HO8.out HRF.out (one_fcells _) rfl (by rw [fcells_app]) (by omega) (by omega) HSZ8.out ?_); intro ua uc w9 HX9 HG9; have HG10 := Lib.hid (HG8.out.under HG9.out.below hgxW); have z9 := HG10.out.bx.cellv 0 _ rfl; have y9 := HG10.out.bx.free 0)
      have HG11 := Lib.hid (HG10.out.setx 0 (.slice ua (k + 1) uc))
      have HO11 := Lib.hid (own_set HX9.out ⟨gx, 0, none⟩ hgxW (.slice ua (k + 1) uc))
      have HS11 : Hid (W.heap.size ≤ (w9.setCell ⟨gx, 0, none⟩ (.slice ua (k + 1) uc)).heap.size) := Lib.hid (by have h1 := HG9.out.below.size; have h2 := HSZ8.out; simp at h1 h2 ⊢; omega)
      go_roundw
      case rel => exact ⟨m', k + 1, uc, ua, xs ++ [⟨m1, lv, s4, s5⟩], b6, l6, by first | rfl | go_num, by omega, Lib.hid (by rw [List.length_append, HK.out]; rfl), HO11, Lib.hid (fun y hy => by rcases List.mem_append.1 hy with h | h; exact HX.out y h; rw [List.mem_singleton.1 h]; exact hm1l), HG11, HS11, HS2, Lib.hid (fun h => absurd h (Nat.succ_ne_zero _))⟩
      case measure => simp [intOf]
    · have HDN : Hid (xs.length = n0 ∨ bd = true) := Lib.hid (by
        by_cases h : m = 0
        · left; have := HK.out; omega
        · right
          cases bd with
          | true => rfl
          | false => exact absurd ⟨h, rfl⟩ hgo)
      have HST := Lib.hid (HS.out.doneM (M := b.length) HDN.out (by have h := S1; rwa [HSN.out] at h))
      have HKL : Hid (k ≤ 50001) := Lib.hid (by have := HS.out.2.2.2.1; have := HL0.out; have := HK.out; have := HBL.out; omega)
      by_cases hm : m = 0
      · have hd : decide ((m : Int) > 0) = false := by simp; omega
        have hd2 : decide ((0 : Int) < (m : Int)) = false := by simp; omega
        subst hm
        clear hgo
        go_wp2_with fail
        go_meet
        case rel => exact ⟨k, c, a, xs, bd, r, _, _, _, rfl, rfl, rfl, HK, HO, HX, HG, HSW, HST, HI, HKL⟩
      · have hbd : bd = true := by
          cases bd with
          | true => rfl
          | false => exact absurd ⟨hm, rfl⟩ hgo
        subst hbd
        clear hgo
        have hd : decide ((m : Int) > 0) = true := by simp; omega
        have hd2 : decide ((0 : Int) < (m : Int)) = true := by simp; omega
        go_wp2_with fail
        go_meet
        case rel => exact ⟨k, c, a, xs, true, r, _, _, _, rfl, rfl, rfl, HK, HO, HX, HG, HSW, HST, HI, HKL⟩
end Go.Proofs.YtimfcinkjjaigaaGreatDoor

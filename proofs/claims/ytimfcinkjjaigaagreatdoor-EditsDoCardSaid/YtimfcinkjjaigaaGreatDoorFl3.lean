/- Walks of law01.EditSize, law11.great, law01.SameEdit. The condition: values that read as files, as an edit. -/
import Derived.Test.YtimfcinkjjaigaaGreatDoorFl2
namespace Go.Proofs.YtimfcinkjjaigaaGreatDoor
open Go.RowKit

def xcells (a r : Value) (x : PX) : Array Value := #[a, r, .int .u32 x.jo, .int .u32 x.nx, .int .u64 x.sq]
theorem alloc_bel (w : World) (o : Obj) : Below w.heap.size w (w.alloc o) := (Below.refl _ _).alloc (Nat.le_refl _) _

set_option maxRecDepth 100000 in
theorem idsSize_any (w : World) (v : Value) (l : List Nat) (hv : RdU w v l) :
    Calls Tryz.prog 147 #[v] w fun e w' => e = .returned (.int .i64 l.length) ∧ Below w.heap.size w w' := by
  obtain ⟨a, cap, rfl, h1, h2, h3⟩ := hv
  clear h3
  go_enter Tryz.func147, Tryz.ntmps147
  go_wp2
  go_ret
  exact ⟨rfl, Below.refl _ _⟩

set_option maxRecDepth 100000 in
set_option maxHeartbeats 1000000 in
theorem editSize_any (w : World) (v : Value) (x : PX) (hv : RdX w v x) (hok : x.ok) :
    Calls Tryz.prog 46 #[v] w fun e w' => ∃ n : Nat, e = .returned (.int .i64 n) ∧ (n ≤ 1048576 → n = 1 + (x.add.length + filesLen x.add) + x.rem.length) ∧ n ≤ 2251799813685248 ∧ Below w.heap.size w w' := by
  obtain ⟨a, r, rfl, ha, hr⟩ := hv
  have HA := Lib.hid ha
  have HR := Lib.hid hr
  have HK := Lib.hid hok
  clear ha hr hok
  have hAL := fun (o : Obj) => alloc_bel w o
  have h1 := fun (o : Obj) => filesSize_any (w.alloc o) a x.add (HA.out.below (alloc_bel w o)) (by have := HK.out.1.1; omega) HK.out.1.2
  have H1 := Lib.hid h1
  clear h1
  go_enter Tryz.func46, Tryz.ntmps46
  go_wp2_with fail
  refine (H1.out _).mono ?_
  rintro e w2 ⟨n, rfl, hn, hn2, bel⟩
  have hb2 : Blk w2 w.heap.size (xcells a r x) 27 := (Blk.new w (xcells a r x) 27).below bel
  have hr2 : RdU w2 r x.rem := (HR.out.below (alloc_bel w _)).below bel
  have c1 : w2.cell? ⟨w.heap.size, 1, none⟩ = some r := hb2.cell 1
  have hbel : Below w.heap.size w w2 := Below.trans (alloc_bel w _) (bel.mono (alloc_bel w _).size)
  have HB := Lib.hid hbel
  have HR2 := Lib.hid hr2
  have h2 := idsSize_any w2 r x.rem hr2
  have hlr := HK.out.2.1.1
  have hla := HK.out.1.1
  clear hb2 bel hbel H1 HR HA hr2
  by_cases hbig : 1 + n ≤ 1048576
  · have hd : decide ((1 : Int) + n ≤ 1048576) = true := by simp; omega
    go_wp2_with fail
    refine h2.mono ?_
    rintro e w3 ⟨rfl, bel⟩
    go_wp2
    go_ret
    refine ⟨1 + n + x.rem.length, by first | rfl | go_num, ?_, by omega, HB.out.trans (bel.mono HB.out.size)⟩
    intro h
    have := hn (by omega)
    omega
  · have hd : decide ((1 : Int) + n ≤ 1048576) = false := by simp; omega
    go_wp2
    go_ret
    exact ⟨1 + n, by first | rfl | go_num, fun h => absurd h hbig, by omega, HB.out⟩

set_option maxRecDepth 100000 in
set_option maxHeartbeats 2000000 in
theorem great_any (w : World) (v vx : Value) (l : List PF) (x : PX) (hv : RdF w v l) (hx : RdX w vx x) (hl : l.length ≤ 2932031007402 ∧ ∀ f ∈ l, f.ok) (hok : x.ok) :
    Calls Tryz.prog 8 #[v, vx] w fun e w' => ∃ b, e = .returned (.bool b) ∧ (b = false → l.length + x.add.length + x.rem.length ≤ 300 ∧ filesLen l + filesLen x.add ≤ 20000) ∧ Below w.heap.size w w' := by
  have HV0 := Lib.hid hv
  obtain ⟨va, vc, rfl, h1, h2, h3⟩ := hv
  obtain ⟨a, r, rfl, ha, hr⟩ := hx
  have HA0 := Lib.hid ha
  have HR0 := Lib.hid hr
  obtain ⟨aa, ac, rfl, a1, a2, a3⟩ := ha
  obtain ⟨ra, rc, rfl, r1, r2, r3⟩ := hr
  clear h3 a3 r3
  obtain ⟨hln, hlo⟩ := hl
  have HLO := Lib.hid hlo
  have HK := Lib.hid hok
  have hla := hok.1.1
  have hlr := hok.2.1.1
  clear hlo hok
  obtain ⟨W, hW⟩ : ∃ W, W = w.alloc (.cells #[.slice aa x.add.length ac, .slice ra x.rem.length rc, .int .u32 x.jo, .int .u32 x.nx, .int .u64 x.sq] 27) := ⟨_, rfl⟩
  have hbl : Below w.heap.size w W := by rw [hW]; exact alloc_bel w _
  have hb1 : Blk W w.heap.size #[.slice aa x.add.length ac, .slice ra x.rem.length rc, .int .u32 x.jo, .int .u32 x.nx, .int .u64 x.sq] 27 := by rw [hW]; exact Blk.new _ _ _
  have hvW := Lib.hid (HV0.out.below hbl)
  have hxW : Hid (RdX W (.agg #[.slice aa x.add.length ac, .slice ra x.rem.length rc, .int .u32 x.jo, .int .u32 x.nx, .int .u64 x.sq]) x) := Lib.hid ⟨_, _, rfl, HA0.out.below hbl, HR0.out.below hbl⟩
  have c0 : W.cell? ⟨w.heap.size, 0, none⟩ = some (.slice aa x.add.length ac) := hb1.cell 0
  have c1 : W.cell? ⟨w.heap.size, 1, none⟩ = some (.slice ra x.rem.length rc) := hb1.cell 1
  have c2 : W.cell? ⟨w.heap.size, 2, none⟩ = some (.int .u32 x.jo) := hb1.cell 2
  have c3 : W.cell? ⟨w.heap.size, 3, none⟩ = some (.int .u32 x.nx) := hb1.cell 3
  have c4 : W.cell? ⟨w.heap.size, 4, none⟩ = some (.int .u64 x.sq) := hb1.cell 4
  have hlt : w.heap.size < W.heap.size := hb1.lt
  have HBL := Lib.hid hbl
  clear hb1 hbl HV0 HA0 HR0
  obtain ⟨n, hn⟩ : ∃ n, n = l.length := ⟨_, rfl⟩
  obtain ⟨na, hna⟩ : ∃ n, n = x.add.length := ⟨_, rfl⟩
  obtain ⟨nr, hnr⟩ : ∃ n, n = x.rem.length := ⟨_, rfl⟩
  rw [← hn] at h1 hln hvW ⊢
  rw [← hna] at a1 hla hxW c0 hW ⊢
  rw [← hnr] at r1 hlr hxW c1 hW ⊢
  have HN := Lib.hid hn
  have HNA := Lib.hid hna
  have HNR := Lib.hid hnr
  clear hn hna hnr
  obtain ⟨xa, xr, xj, xn, xs⟩ := x
  simp only at *
  have hwr : IntKind.i64.wrap ((n : Int) + (na : Int)) = (n : Int) + (na : Int) := IntWalk.i64_in _ (by omega)
  have hwr2 : IntKind.i64.wrap ((n : Int) + (na : Int) + (nr : Int)) = (n : Int) + (na : Int) + (nr : Int) := IntWalk.i64_in _ (by omega)
  by_cases hb : 300 < n + na + nr
  · have hd : decide (300 < (n : Int) + (na : Int) + (nr : Int)) = true := by simp; omega
    go_enter Tryz.func8, Tryz.ntmps8
    go_wp2
    rw [← hW]
    clear hW
    go_quiet (fail)
    go_wp2
    go_ret
    exact ⟨true, rfl, by simp, HBL.out.trans ((drewN_below _ _).mono HBL.out.size)⟩
  · have hd : decide (300 < (n : Int) + (na : Int) + (nr : Int)) = false := by simp; omega
    have cF : ∀ w', Below W.heap.size W w' → Hid (Calls Tryz.prog 45 #[.slice va n vc] w' fun e w2 => ∃ n : Nat, e = .returned (.int .i64 n) ∧ Hid ((n ≤ 1048576 → n = l.length + filesLen l) ∧ n ≤ 1125899906842624) ∧ Below w'.heap.size w' w2) := fun w' h => Lib.hid ((filesSize_any w' _ l (hvW.out.below h) (by rw [← HN.out]; omega) HLO.out).mono fun e w2 ⟨k, h1, h2, h3, h4⟩ => ⟨k, h1, Lib.hid ⟨h2, h3⟩, h4⟩)
    have cE : ∀ w', Below W.heap.size W w' → Hid (Calls Tryz.prog 46 #[.agg #[.slice aa na ac, .slice ra nr rc, .int .u32 xj, .int .u32 xn, .int .u64 xs]] w' fun e w2 => ∃ n : Nat, e = .returned (.int .i64 n) ∧ Hid ((n ≤ 1048576 → n = 1 + (xa.length + filesLen xa) + xr.length) ∧ n ≤ 2251799813685248) ∧ Below w'.heap.size w' w2) := fun w' h => Lib.hid ((editSize_any w' _ ⟨xa, xr, xj, xn, xs⟩ (hxW.out.below h) HK.out).mono fun e w2 ⟨k, h1, h2, h3, h4⟩ => ⟨k, h1, Lib.hid ⟨h2, h3⟩, h4⟩)
    have CF := Lib.hid cF
    have CE := Lib.hid cE
    clear cF cE
    have hWW : Below W.heap.size W W := Below.refl _ _
    have HS : Hid (∀ w', Below W.heap.size W w' → w'.cell? ⟨w.heap.size, 0, none⟩ = some (.slice aa na ac) ∧ w'.cell? ⟨w.heap.size, 1, none⟩ = some (.slice ra nr rc) ∧ w'.cell? ⟨w.heap.size, 2, none⟩ = some (.int .u32 xj) ∧
        w'.cell? ⟨w.heap.size, 3, none⟩ = some (.int .u32 xn) ∧ w'.cell? ⟨w.heap.size, 4, none⟩ = some (.int .u64 xs) ∧ Below W.heap.size W w') := Lib.hid fun w' h => ⟨Below.keeps h _ _ _ c0, Below.keeps h _ _ _ c1, Below.keeps h _ _ _ c2, Below.keeps h _ _ _ c3, Below.keeps h _ _ _ c4, h⟩
    go_enter Tryz.func8, Tryz.ntmps8
    go_wp2_with fail
    rw [← hW]
    clear hW
    go_region_held3 (fun w' => w'.cell? ⟨w.heap.size, 0, none⟩ = some (.slice aa na ac) ∧ w'.cell? ⟨w.heap.size, 1, none⟩ = some (.slice ra nr rc) ∧ w'.cell? ⟨w.heap.size, 2, none⟩ = some (.int .u32 xj) ∧
        w'.cell? ⟨w.heap.size, 3, none⟩ = some (.int .u32 xn) ∧ w'.cell? ⟨w.heap.size, 4, none⟩ = some (.int .u64 xs) ∧ Below W.heap.size W w')
      ((go_split_ands; refine HS.out _ ?_; first | assumption | exact Below.drew hWW | exact Below.trans (by assumption) (hb2.mono (Below.size (by assumption))) | exact Below.trans (by assumption) (hb3.mono (Below.size (by assumption)))))
      (first | (go_at_call 45; refine (CF.out _ (by go_split_ands; assumption)).out.mono ?_; rintro e w' ⟨k1, rfl, HX1, hb2⟩) | (go_at_call 46; refine (CE.out _ (by go_split_ands; assumption)).out.mono ?_; rintro e w' ⟨k2, rfl, HX2, hb3⟩))
    all_goals
      have hwk : IntKind.i64.wrap ((k1 : Int) + (k2 : Int)) = (k1 : Int) + (k2 : Int) := IntWalk.i64_in _ (by have := HX1.out.2; have := HX2.out.2; omega)
      rename_i hH
      have hfin := Below.trans HBL.out (hH.2.2.2.2.2.mono HBL.out.size)
      clear hH HS CE CF
      go_wp2
      go_ret
      refine ⟨_, rfl, fun h => ?_, hfin⟩
      have h20 : ¬ (20000 < (k1 : Int) + (k2 : Int)) := by have h := of_decide_eq_false h; rw [hwk] at h; exact h
      have e1 := HX1.out.1 (by omega)
      have e2 := HX2.out.1 (by omega)
      exact ⟨by omega, by omega⟩
end Go.Proofs.YtimfcinkjjaigaaGreatDoor

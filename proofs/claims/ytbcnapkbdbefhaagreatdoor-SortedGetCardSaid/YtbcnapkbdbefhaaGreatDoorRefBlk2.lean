/- Walks of the reference's alike, and of its Put of blocks. The condition: entries whose numbers are of 64 bits. -/
import Derived.Test.YtbcnapkbdbefhaaGreatDoorRefBlk
import Derived.Test.YtbcnapkbdbefhaaGreatDoorBlocksA
import Derived.Test.YtbcnapkbdbefhaaGreatDoorRefPutA
import Derived.Test.YtbcnapkbdbefhaaGreatDoorKindA
import Derived.Deep.RegionHeld3
import Derived.Deep.Cut
import Derived.Deep.CutRange
namespace Go.Proofs.YtbcnapkbdbefhaaGreatDoor
open Go.RowKit

set_option maxRecDepth 100000 in
set_option maxHeartbeats 2000000 in
theorem refAlike_any (s t : ByteArray) (w : World) (hs : s.size ≤ 9223372036854775807) :
    Calls Tryz.prog 147 #[.string s, .string t] w fun e w' => e = .returned (.int .i64 (alikeL s.data.toList t.data.toList)) ∧ Below w.heap.size w w' := by
  have hle1 := alikeL_le1 s.data.toList t.data.toList
  have hle2 := alikeL_le2 s.data.toList t.data.toList
  rw [size_data] at hle1 hle2
  obtain ⟨n, hn⟩ : ∃ n, n = alikeL s.data.toList t.data.toList := ⟨_, rfl⟩
  rw [← hn] at hle1 hle2 ⊢
  have HN := Lib.hid hn
  clear hn
  go_enter Tryz.func147, Tryz.ntmps147
  go_wp2_with fail
  show Code.wp _ _ _ _ _
  go_loopw [5] (fun i wr => ∃ k : Nat, k ≤ n ∧ i = .int .i64 k ∧ Below w.heap.size w wr) (fun i _ => n - (intOf i).toNat)
  case atStart => exact ⟨0, Nat.zero_le _, rfl, Below.refl _ _⟩
  case round =>
    obtain ⟨k, hk, rfl, belr⟩ := hrel
    by_cases hlt : k < n
    · have hks : ((k : Nat) : Int) < ((s.size : Nat) : Int) := by omega
      have hkt : ((k : Nat) : Int) < ((t.size : Nat) : Int) := by omega
      have hkd : decide (((k : Nat) : Int) < ((s.size : Nat) : Int)) = true := decide_eq_true hks
      have hke : decide (((k : Nat) : Int) < ((t.size : Nat) : Int)) = true := decide_eq_true hkt
      have hkd2 : decide (k < s.size) = true := decide_eq_true (by omega)
      have hke2 : decide (k < t.size) = true := decide_eq_true (by omega)
      have heq : (((s[k]'(by omega)).toNat : Int) == ((t[k]'(by omega)).toNat : Int)) = true := by
        have h := alikeL_end s.data.toList t.data.toList k (by rw [← HN.out]; exact hlt) (by rw [size_data]; omega) (by rw [size_data]; omega)
        have h' : s[k]'(by omega) = t[k]'(by omega) := h
        rw [h']; simp
      go_wp2_with fail
      go_quiet (fail)
      clear hkd hke hkd2 hke2
      have hdw := drewN_below wr nq
      go_wp2_with fail
      go_round
      case rel => exact ⟨k + 1, by omega, by go_num, Below.trans belr (hdw.mono belr.size)⟩
      case measure => simp [intOf]; omega
    · obtain rfl : k = n := by omega
      by_cases hks' : k < s.size
      · have hks : ((k : Nat) : Int) < ((s.size : Nat) : Int) := by omega
        have hkd2 : decide (k < s.size) = true := decide_eq_true hks'
        by_cases hkt' : k < t.size
        · have hkt : ((k : Nat) : Int) < ((t.size : Nat) : Int) := by omega
          have hke2 : decide (k < t.size) = true := decide_eq_true hkt'
          have heq : (((s[k]'(by omega)).toNat : Int) == ((t[k]'(by omega)).toNat : Int)) = false := by
            have h := alikeL_stop s.data.toList t.data.toList (by rw [← HN.out, size_data]; omega) (by rw [← HN.out, size_data]; omega)
            simp only [← HN.out] at h
            have h' : s[k]'(by omega) ≠ t[k]'(by omega) := h
            simp only [beq_eq_false_iff_ne, ne_eq]
            intro e
            exact h' (UInt8.toNat_inj.1 (by omega))
          go_wp2_with fail
          go_quiet (fail)
          clear hkd2 hke2
          have hdw := drewN_below wr nq
          go_wp2_with fail
          go_ret
          exact ⟨rfl, Below.trans belr (hdw.mono belr.size)⟩
        · have hke2 : decide (k < t.size) = false := decide_eq_false hkt'
          go_wp2_with fail
          go_quiet (fail)
          clear hkd2 hke2
          have hdw := drewN_below wr nq
          go_wp2_with fail
          go_ret
          exact ⟨rfl, Below.trans belr (hdw.mono belr.size)⟩
      · have hkd2 : decide (k < s.size) = false := decide_eq_false hks'
        go_wp2_with fail
        go_quiet (fail)
        clear hkd2
        have hdw := drewN_below wr nq
        go_wp2_with fail
        go_ret
        exact ⟨rfl, Below.trans belr (hdw.mono belr.size)⟩

/-- the walk's two rows: places, bytes -/
structure RfSt (w0 : World) (P : List Nat) (B : List UInt8) (w : World) (pa : Option Addr) (np pc : Nat) (ba : Option Addr) (nb bc : Nat) : Prop where
  op : Own w w0.heap.size 3 1 (.slice pa np pc) np (i64s P)
  ob : Own w w0.heap.size 5 1 (.slice ba nb bc) nb (u8s B)
  pb : Apart w (.slice pa np pc) (.slice ba nb bc)
  bp : Apart w (.slice ba nb bc) (.slice pa np pc)
  bel : Below w0.heap.size w0 w
section
variable {w0 : World} {P : List Nat} {B : List UInt8} {w w' : World} {pa : Option Addr} {np pc : Nat} {ba : Option Addr} {nb bc : Nat}
theorem RfSt.new (w0 : World) : RfSt w0 [] [] w0 none 0 0 none 0 0 := ⟨own_none _ _ _ _, own_none _ _ _ _, Apart.none _ _, Apart.none _ _, Below.refl _ _⟩
theorem RfSt.later (h : RfSt w0 P B w pa np pc ba nb bc) (hb : Below w.heap.size w w') : RfSt w0 P B w' pa np pc ba nb bc :=
  ⟨own_below h.op hb, own_below h.ob hb, h.pb.later hb.size, h.bp.later hb.size, h.bel.trans (hb.mono h.bel.size)⟩
theorem RfSt.growP (h : RfSt w0 P B w pa np pc ba nb bc) {q : List Nat} {ua : Option Addr} {un uc : Nat} (hX : Own w' w0.heap.size 3 1 (.slice ua un uc) un (i64s q)) (hun : 0 < un)
    (hG : Grew w w' w0.heap.size (.slice pa np pc) (.slice ua un uc)) : RfSt w0 q B w' ua un uc ba nb bc :=
  ⟨hX, hG.keep _ _ _ _ _ _ h.ob h.bp, (hG.apart _ h.bp).comm hX hun, hG.apart _ h.bp, h.bel.trans hG.below⟩
theorem RfSt.growB (h : RfSt w0 P B w pa np pc ba nb bc) {q : List UInt8} {ua : Option Addr} {un uc : Nat} (hX : Own w' w0.heap.size 5 1 (.slice ua un uc) un (u8s q)) (hun : 0 < un)
    (hG : Grew w w' w0.heap.size (.slice ba nb bc) (.slice ua un uc)) : RfSt w0 P q w' pa np pc ua un uc :=
  ⟨hG.keep _ _ _ _ _ _ h.op h.pb, hX, hG.apart _ h.pb, (hG.apart _ h.pb).comm hX hun, h.bel.trans hG.below⟩
theorem RfSt.newB (h : RfSt w0 P B w pa np pc ba nb bc) {q : List UInt8} {ua : Option Addr} {un uc : Nat} (hX : Own w' w.heap.size 5 1 (.slice ua un uc) un (u8s q)) (hun : 0 < un)
    (hb : Below w.heap.size w w') : RfSt w0 P q w' pa np pc ua un uc := by
  have h' := h.later hb
  have hpb : Apart w' (.slice pa np pc) (.slice ua un uc) := fun k hk => ⟨(h'.pb k hk).1, fun e => by
    have h1 := (h.pb k hk).1
    have h2 := (own_lt hX hun k e).1
    omega⟩
  have hX' := own_mono hX h.bel.size
  exact ⟨h'.op, hX', hpb, hpb.comm hX' hun, h'.bel⟩
theorem RfSt.fresh (h : RfSt w0 P B w pa np pc ba nb bc) (o : Obj) (i : Nat) (x : Value) : RfSt w0 P B ((w.alloc o).setCell ⟨w.heap.size, i, none⟩ x) pa np pc ba nb bc := by
  have hal : Below w.heap.size w (w.alloc o) := (Below.refl _ _).alloc (Nat.le_refl _) _
  have h1 := h.later hal
  have hO := Only.set (w.alloc o) w.heap.size i x
  refine ⟨own_kept h1.op hO (.inr fun e => ?_), own_kept h1.ob hO (.inr fun e => ?_), h1.pb.later hO.size, h1.bp.later hO.size, Only.below h1.bel hO h.bel.size h1.bel.size⟩
  · have := (h.pb _ e).1; omega
  · have := (h.bp _ e).1; omega
end
theorem two_cells (p q r : Nat) (hq : q = p / 256) (hq2 : q < 256) (hr : r = p % 256) : [Value.int .u8 (q : Int), .int .u8 (r : Int)] = u8s (two p) := by
  subst hq hr
  simp only [u8s, two, List.map_cons, List.map_nil, UInt8.toNat_ofNat', Nat.reducePow]
  rw [Nat.mod_eq_of_lt hq2]
theorem reads_two8 (w : World) (p q r : Nat) (hq : q = p / 256) (hq2 : q < 256) (hr : r = p % 256) (ty : TypeId) : Reads (w.alloc (.cells #[.int .u8 (q : Int), .int .u8 (r : Int)] ty)) 1 (.slice (some ⟨w.heap.size, 0, none⟩) 2 2) 2 (u8s (two p)) := by
  have h := reads_new w #[.int .u8 (q : Int), .int .u8 (r : Int)] ty 2 1 rfl (by decide)
  have e : (#[Value.int .u8 (q : Int), .int .u8 (r : Int)] : Array Value).toList = u8s (two p) := two_cells p q r hq hq2 hr
  rwa [e] at h
set_option maxRecDepth 100000 in
set_option maxHeartbeats 8000000 in
theorem refBlkPut_any (w : World) (v : Value) (l : List PE) (hv : RdE w v l) (hks : ∀ x ∈ l, x.k.size ≤ 9223372036854775807) (hs : ∀ x ∈ l, x.s < 18446744073709551616) :
    Calls Tryz.prog 84 #[v] w (RetPut (entsOf l) w) := by
  have HV0 := Lib.hid hv
  have HS := Lib.hid hs
  have HMY := Lib.hid (refMay_any w v l hv hks)
  obtain ⟨i0, hi, hz, hz1, hz2⟩ := info_parts info_i64
  obtain ⟨j0, ji, jz, jz1, jz2⟩ := info_parts info_u8
  obtain ⟨va, vc, rfl, h1, h2, h3⟩ := hv
  clear h3 hks hs
  obtain ⟨vn, hvn⟩ : ∃ n, n = l.length := ⟨_, rfl⟩
  have HVN := Lib.hid hvn
  rw [← hvn] at h1 HV0 HMY ⊢
  clear hvn
  have HEL : Hid ((entsOf l).length = vn) := Lib.hid (by rw [entsOf_length, HVN.out])
  go_enter Tryz.func84, Tryz.ntmps84
  go_wp2_with fail
  refine HMY.out.mono ?_
  rintro e w1 ⟨rfl, bel1⟩
  have HV1 := Lib.hid (HV0.out.below bel1)
  have HB1 := Lib.hid bel1
  clear bel1
  cases hm : mayL (entsOf l)
  case false =>
    have HM := Lib.hid hm
    clear hm
    go_wp2_with fail
    go_ret2
    exact ⟨HB1.out, .inr ⟨HM.out, rfl⟩⟩
  case true =>
  have HM := Lib.hid hm
  clear hm
  obtain ⟨⟨hl0, hl64⟩, hok⟩ := (mayL_iff _).1 HM.out
  rw [HEL.out] at hl0 hl64 hok
  have HOK := Lib.hid hok
  clear hok
  have HBS : Hid (∀ k, k ≤ vn → (bodyN (entsOf l) k).length ≤ 25600) := Lib.hid fun k hk => by
    have := body_small (entsOf l) (by rw [HEL.out]; exact HOK.out) k (by rw [HEL.out]; exact hk)
    omega
  have HPS : Hid (∀ k, k ≤ vn → ∀ p ∈ placesN (entsOf l) k, p < 65536) := Lib.hid fun k hk p hp => by
    have := places_small (entsOf l) (by rw [HEL.out]; exact HOK.out) k (by rw [HEL.out]; exact hk) p hp
    omega
  have HPL : Hid (∀ k, (placesN (entsOf l) k).length = (k + 3) / 4) := Lib.hid fun k => placesN_length _ k
  go_upto_region 6 with (fail)
  try show Code.wp _ _ _ _ _
  go_loopw [4, 5, 6] (fun o p i wr => ∃ (k : Nat) (pa : Option Addr) (np pc : Nat) (ba : Option Addr) (nb bc : Nat), k ≤ vn ∧ o = .slice ba nb bc ∧ p = .slice pa np pc ∧ i = .int .i64 k ∧ Hid (RfSt w1 (placesN (entsOf l) k) (bodyN (entsOf l) k) wr pa np pc ba nb bc)) (fun _ _ i _ => vn - (intOf i).toNat)
  case atStart => exact ⟨0, none, 0, 0, none, 0, 0, Nat.zero_le _, rfl, rfl, rfl, Lib.hid (RfSt.new w1)⟩
  case round =>
    obtain ⟨k, pa, np, pc, ba, nb, bc, hk, rfl, rfl, rfl, HST⟩ := hrel
    obtain ⟨wa, hwa⟩ : ∃ z, z = wr := ⟨_, rfl⟩
    subst hwa
    by_cases hlt : k < vn
    · have hkl : k < l.length := by rw [← HVN.out]; exact hlt
      obtain ⟨b, off, hab⟩ : ∃ b off, va = some ⟨b, off, none⟩ := by
        obtain ⟨a', c', hve, _, _, hcell⟩ := HV1.out
        obtain ⟨b, off, hae, _⟩ := hcell k hkl
        simp only [Value.slice.injEq] at hve
        exact ⟨b, off, by rw [hve.1, hae]⟩
      subst hab
      have HC0 : Hid (∀ (m : Nat) (hm : m < l.length) (w' : World), Below w1.heap.size w1 w' → w'.cell? ⟨b, off + m * 4, none⟩ = some (.string l[m].k) ∧ w'.cell? ⟨b, off + m * 4 + 1, none⟩ = some (.int .u64 l[m].s) ∧ w'.cell? ⟨b, off + m * 4 + 2, none⟩ = some (.bool l[m].g) ∧ w'.cell? ⟨b, off + m * 4 + 3, none⟩ = some (.string l[m].u)) := Lib.hid fun m hm w' hb => by
        obtain ⟨a', c', hve, _, _, hcell⟩ := HV1.out.below hb
        obtain ⟨b', off', hae, hh⟩ := hcell m hm
        simp only [Value.slice.injEq] at hve
        rw [hae] at hve
        simp only [Option.some.injEq, Addr.mk.injEq, and_true] at hve
        obtain ⟨⟨rfl, rfl⟩, _⟩ := hve
        exact hh
      have hfit : fitE (atE (entsOf l) k) = true := by
        have := HOK.out k hlt
        unfold okAt at this
        rw [Bool.and_eq_true] at this
        exact this.1
      have HAK := Lib.hid (entsOf_at l k hkl)
      have hxs := HS.out _ (List.getElem_mem hkl)
      have HCK := Lib.hid (HC0.out k hkl)
      have HCJ : Hid (¬ k % 4 = 0 → ∃ (j : Nat) (y : PE), k = j + 1 ∧ atE (entsOf l) (k - 1) = y.ent ∧ y.k.size ≤ 32 ∧ ∀ (w' : World), Below w1.heap.size w1 w' → w'.cell? ⟨b, off + j * 4, none⟩ = some (.string y.k)) := Lib.hid fun h4 => by
        refine ⟨k - 1, l[k - 1]'(by omega), by omega, entsOf_at l (k - 1) (by omega), ?_, fun w' hb => (HC0.out (k - 1) (by omega) w' hb).1⟩
        have := HOK.out (k - 1) (by omega)
        unfold okAt at this
        rw [Bool.and_eq_true, fitE_iff, entsOf_at l (k - 1) (by omega)] at this
        have h5 := this.1.1
        simp only [checkK, PE.ent, entOf, decide_eq_true_eq, size_data] at h5
        omega
      obtain ⟨x, hx⟩ : ∃ x, x = l[k] := ⟨_, rfl⟩
      rw [← hx] at HCK hxs HAK
      clear hx HC0
      obtain ⟨xk, xs, xg, xu⟩ := x
      simp only at HCK hxs
      rw [HAK.out, fitE_iff] at hfit
      have hxk : xk.size ≤ 32 := by
        have h5 := hfit.1
        simp only [checkK, PE.ent, entOf, decide_eq_true_eq, size_data] at h5
        omega
      have hxu : xu.size ≤ 256 := by
        have h5 := hfit.2.1
        simpa only [PE.ent, entOf, size_data] using h5
      clear hfit
      obtain ⟨n, hn⟩ : ∃ n, n = alikeAt (entsOf l) k := ⟨_, rfl⟩
      have HN := Lib.hid hn
      have hnk : n ≤ xk.size := by
        rw [hn, alikeAt]
        split
        · omega
        · have := alikeL_le2 (atE (entsOf l) (k - 1)).key (atE (entsOf l) k).key
          rw [HAK.out] at this
          simpa only [PE.ent, entOf, size_data, HAK.out] using this
      clear hn
      have hnb0 : nb ≤ 25600 := by have := HBS.out k hk; rw [(rd_of_own HST.out.ob).1]; exact this
      have hnp0 : np ≤ 17 := by have := HPL.out k; have h5 := own_reads HST.out.op; rw [i64s_length] at h5; omega
      have HNB : Hid (nb = (bodyN (entsOf l) k).length) := Lib.hid (rd_of_own HST.out.ob).1
      go_upto_if 21 with (fail)
      go_cut [5, 7] from 21 to 40 (fun s5 s7 w' => ∃ (pa : Option Addr) (np pc : Nat) (z : World), z = w' ∧ s5 = .slice pa np pc ∧ s7 = .int .i64 (n : Int) ∧ Hid (RfSt w1 (placesN (entsOf l) (k + 1)) (bodyN (entsOf l) k) z pa np pc ba nb bc))
      case first =>
        by_cases hk4 : k % 4 = 0
        · have hm : ((k : Int) % 4 == 0) = true := by simp; omega
          have hN0 : n = 0 := by rw [HN.out, alikeAt, if_pos hk4]
          subst hN0
          have hal : Below wa.heap.size wa (wa.alloc (.cells #[.int .i64 nb] 3)) := (Below.refl _ _).alloc (Nat.le_refl _) _
          have HST2 := Lib.hid (HST.out.later hal)
          have HPN : Hid (placesN (entsOf l) k ++ [nb] = placesN (entsOf l) (k + 1)) := Lib.hid (by rw [placesN, if_pos hk4, HNB.out])
          clear hal
          go_wp2_with (at_builtin; go_loud (refine wp_app_el2 rfl _ _ rfl Tryz.underlying86 hi hz hz1 hz2 rfl (by omega) w1.heap.size np 1 (.slice pa np pc) _ (i64s (placesN (entsOf l) k)) [.int .i64 nb] (i64s (placesN (entsOf l) (k + 1))) (np + 1) rfl rfl HST2.out.op (reads_one wa _ _) (by simp [Value.oneCell']) rfl (by rw [← HPN.out, i64s_app]; rfl) (by omega) (by omega) HST2.out.bel.size ?_); intro ua uc w9 HX9 HG9)
          have HF := Lib.hid (HST2.out.growP HX9.out (Nat.succ_pos _) HG9.out)
          go_meet
          case rel => exact ⟨ua, _, uc, _, rfl, rfl, rfl, HF⟩
        · have hm : ((k : Int) % 4 == 0) = false := by simp; omega
          obtain ⟨j, ⟨yk, ys, yg, yu⟩, hj, hye, hyk, hyc⟩ := HCJ.out hk4
          simp only at hyk hyc
          have HYC := Lib.hid hyc
          have hkj : ((k : Int) - 1) = (j : Int) := by omega
          have hwj : IntKind.i64.wrap (j : Int) = (j : Int) := IntWalk.i64_in _ (by omega)
          have hwj2 : IntKind.i64.wrap ((k : Int) - 1) = (j : Int) := by rw [IntWalk.i64_in _ (by omega)]; omega
          have hj0 : (0 : Int) ≤ (j : Int) := by omega
          have hjn : (j : Int) < (vn : Int) := by omega
          have HNA : Hid (n = alikeL yk.data.toList xk.data.toList) := Lib.hid (by rw [HN.out, alikeAt, if_neg hk4, hye, HAK.out]; rfl)
          have HCA : Hid (∀ wd, Calls Tryz.prog 147 #[.string yk, .string xk] wd fun e w' => e = .returned (.int .i64 (n : Int)) ∧ Below wd.heap.size wd w') := Lib.hid fun wd => by
            rw [HNA.out]; exact refAlike_any yk xk wd (by omega)
          have HPN : Hid (placesN (entsOf l) k = placesN (entsOf l) (k + 1)) := Lib.hid (by rw [placesN, if_neg hk4, List.append_nil])
          have HSW : Hid (∀ w', Below wa.heap.size wa w' → w'.cell? ⟨b, off + k * 4, none⟩ = some (.string xk) ∧ w'.cell? ⟨b, off + j * 4, none⟩ = some (.string yk) ∧ Below wa.heap.size wa w') := Lib.hid fun w' hb =>
            ⟨(HCK.out w' (HST.out.bel.trans (hb.mono HST.out.bel.size))).1, HYC.out w' (HST.out.bel.trans (hb.mono HST.out.bel.size)), hb⟩
          have h00 : Below wa.heap.size wa wa := Below.refl _ _
          clear hj hye hyc
          go_upto_region 11 with (fail)
          go_region_held3 (fun w' => w'.cell? ⟨b, off + k * 4, none⟩ = some (.string xk) ∧ w'.cell? ⟨b, off + j * 4, none⟩ = some (.string yk) ∧ Below wa.heap.size wa w')
            ((go_split_ands; refine HSW.out _ ?_; first | assumption | exact Below.drew h00 | exact Below.trans (by assumption) (bel9.mono (Below.size (by assumption)))))
            ((go_at_call 147; refine (HCA.out _).mono ?_; rintro e w9 ⟨rfl, bel9⟩))
          have B9 : Below wa.heap.size wa w9 := by go_split_ands; assumption
          have HF := Lib.hid (HST.out.later B9)
          rw [HPN.out] at HF
          clear B9
          go_wp2_with fail
          go_meet
          case rel => exact ⟨pa, np, pc, _, rfl, rfl, rfl, HF⟩
      case rest =>
        obtain ⟨qa, nq2, qc, z, rfl, rfl, rfl, HS2⟩ := hcut
        obtain ⟨z0, z1, z2, z3⟩ := HCK.out z HS2.out.bel
        have hn0 : (0 : Int) ≤ (n : Int) := by omega
        have hnk2 : (n : Int) ≤ (xk.size : Int) := by omega
        go_upto_region 13 with (fail)
        clear z0 z1 z2 z3
        have hX0 : Blk (z.alloc (.cells #[.string xk, .int .u64 xs, .bool xg, .string xu] 34)) z.heap.size #[.string xk, .int .u64 xs, .bool xg, .string xu] 34 := Blk.new _ _ _
        have hX2 : Blk (z.alloc (.cells #[.string (xk.extract n xk.size), .int .u64 xs, .bool xg, .string xu] 34)) z.heap.size #[.string (xk.extract n xk.size), .int .u64 xs, .bool xg, .string xu] 34 := Blk.new _ _ _
        have hS3 := HS2.out.later ((Below.refl _ _).alloc (Nat.le_refl _) (.cells #[.string (xk.extract n xk.size), .int .u64 xs, .bool xg, .string xu] 34))
        have HZK : Hid ((xk.extract n xk.size).data.toList = xk.data.toList.drop n) := Lib.hid (extract_drop xk n)
        have HZS : Hid ((xk.extract n xk.size).size ≤ 32) := by show _ ≤ _; rw [← size_data, HZK.out, List.length_drop, size_data]; omega
        have x0 := hX0.cellv 0 (.string xk) rfl
        have xf := hX0.free 0
        have HX2 := Lib.hid hX2
        have HS3 := Lib.hid hS3
        clear hX0 hX2 hS3
        go_upto_region 14 with (fail)
        generalize z.alloc (.cells #[.string (xk.extract n xk.size), .int .u64 xs, .bool xg, .string xu] 34) = W at HX2 HS3 ⊢
        generalize xk.extract n xk.size = zk at HX2 HZK HZS ⊢
        clear x0 xf
        have hzs := HZS.out
        have hwn : IntKind.u64.wrap (n : Int) = (n : Int) := IntWalk.u64_in _ (by omega)
        have h22 : Below W.heap.size W W := Below.refl _ _
        have hvl := vint_le n
        have HB3 : Hid ((bodyN (entsOf l) k).length ≤ 25600) := Lib.hid (by rw [← HNB.out]; omega)
        have HB2 : Hid (((bodyN (entsOf l) k) ++ vint n).length ≤ 30000) := Lib.hid (by rw [List.length_append, ← HNB.out]; omega)
        have HSW : Hid (∀ w', Below W.heap.size W w' → Rd w' (.slice ba nb bc) (bodyN (entsOf l) k) ∧ w'.cell? ⟨z.heap.size, 0, none⟩ = some (.string zk) ∧ w'.cell? ⟨z.heap.size, 1, none⟩ = some (.int .u64 xs) ∧ w'.cell? ⟨z.heap.size, 2, none⟩ = some (.bool xg) ∧ w'.cell? ⟨z.heap.size, 3, none⟩ = some (.string xu) ∧ Below W.heap.size W w') := Lib.hid fun w' hb =>
          ⟨(rd_of_own (own_below HS3.out.ob hb)).2, (HX2.out.below hb).cellv 0 _ rfl, (HX2.out.below hb).cellv 1 _ rfl, (HX2.out.below hb).cellv 2 _ rfl, (HX2.out.below hb).cellv 3 _ rfl, hb⟩
        clear hvl
        go_region_held3 (fun w' => Rd w' (.slice ba nb bc) (bodyN (entsOf l) k) ∧ w'.cell? ⟨z.heap.size, 0, none⟩ = some (.string zk) ∧ w'.cell? ⟨z.heap.size, 1, none⟩ = some (.int .u64 xs) ∧ w'.cell? ⟨z.heap.size, 2, none⟩ = some (.bool xg) ∧ w'.cell? ⟨z.heap.size, 3, none⟩ = some (.string xu) ∧ Below W.heap.size W w')
          ((go_split_ands; refine HSW.out _ ?_; first | assumption | exact Below.drew h22 | exact Below.trans (by assumption) (bel8.mono (Below.size (by assumption))) | exact Below.trans (by assumption) (bel7.mono (Below.size (by assumption)))))
          (first
            | (go_at_call 83; refine (refPut_any _ _ (bodyN (entsOf l) k) n (by go_split_ands; assumption) (by omega) (Nat.le_trans HB3.out (by decide))).mono ?_; rintro e w7 ⟨ta, tn, tc, rfl, HQN, HQ, bel7⟩)
            | (go_at_call 148; refine (refOrderPut_any _ _ (bodyN (entsOf l) k ++ vint n) zk xu xs xg (rd_of_own HQ.out).2 (Nat.le_trans HB2.out (by decide)) (by omega) (by omega) hxs).mono ?_; rintro e w8 ⟨ra, rn, rc, rfl, HRN, HR, bel8⟩; replace HR := Lib.hid (own_mono HR.out (Below.size (w := W) (by go_split_ands; assumption)))))
        have B8 : Below W.heap.size W w8 := by go_split_ands; assumption
        have hrn : 0 < rn := by rw [HRN.out, List.length_append]; have := eput_pos ⟨zk.data.toList, xs, xg, xu.data.toList⟩; omega
        have eB : (bodyN (entsOf l) k ++ vint n) ++ eput ⟨zk.data.toList, xs, xg, xu.data.toList⟩ = bodyN (entsOf l) (k + 1) := by
          rw [bodyN, encAt, HAK.out, ← HN.out, List.append_assoc, HZK.out]; rfl
        have hf := HS3.out.newB HR.out hrn B8
        rw [eB] at hf
        have HF := Lib.hid hf
        clear hf eB B8 HR HRN HQ HQN bel7 bel8 HSW HX2 HS3 HS2 hwn hrn
        go_wp2_with fail
        go_roundw
        case rel => exact ⟨k + 1, qa, nq2, qc, ra, rn, rc, by omega, rfl, rfl, by go_num, HF⟩
        case measure => simp [intOf]; omega
    · obtain rfl : k = vn := by omega
      have hnb0 : nb ≤ 25600 := by have := HBS.out k hk; rw [(rd_of_own HST.out.ob).1]; exact this
      have HNP : Hid (np = (placesN (entsOf l) k).length) := Lib.hid (by have h5 := own_reads HST.out.op; rw [i64s_length] at h5; omega)
      have hnp0 : np ≤ 17 := by have := HPL.out k; rw [HNP.out]; omega
      have HNB : Hid (nb = (bodyN (entsOf l) k).length) := Lib.hid (rd_of_own HST.out.ob).1
      have HPS2 := Lib.hid (HPS.out k (Nat.le_refl _))
      have HBP : Hid (bodyN (entsOf l) k ++ twos (placesN (entsOf l) k) ++ two np = blkPut (entsOf l)) := Lib.hid (by unfold blkPut; rw [HEL.out, HNP.out])
      generalize placesN (entsOf l) k = P at HST HNP HPS2 HBP
      generalize bodyN (entsOf l) k = B at HST HNB HBP
      go_upto_region 16 with (fail)
      try show Code.wp _ _ _ _ _
      go_loopw [4, 9] (fun o i wr => ∃ (j : Nat) (ba : Option Addr) (bc : Nat), j ≤ np ∧ o = .slice ba (nb + 2 * j) bc ∧ i = .int .i64 j ∧ Hid (RfSt w1 P (B ++ twos (P.take j)) wr pa np pc ba (nb + 2 * j) bc)) (fun _ i _ => np - (intOf i).toNat)
      case atStart => exact ⟨0, ba, bc, Nat.zero_le _, rfl, rfl, by rw [List.take_zero]; simpa [twos] using HST⟩
      case round =>
        clear HST
        obtain ⟨j, ya, yc, hj, rfl, rfl, HST⟩ := hrel
        by_cases hlt : j < np
        · have hjl : j < P.length := by rw [← HNP.out]; exact hlt
          obtain ⟨c, hcp, hcell⟩ : ∃ c, pa = some ⟨c, 0, none⟩ ∧ ∀ w', Own w' w1.heap.size 3 1 (.slice pa np pc) np (i64s P) → w'.cell? ⟨c, j, none⟩ = some (.int .i64 (P[j] : Nat)) := by
            rcases HST.out.op with ⟨h0, _⟩ | ⟨_, g, cap, cur, fr, he, _⟩
            · omega
            · simp only [Value.slice.injEq] at he
              refine ⟨g, he.1, fun w' ho => ?_⟩
              rw [he.1] at ho
              obtain ⟨u, hu, hc⟩ := own_cellv ho j (by omega)
              rw [hc, ← hu, i64s]
              simp [hjl]
          subst hcp
          have HCE := Lib.hid hcell
          have hp := HPS2.out _ (List.getElem_mem hjl)
          have HTK : Hid (B ++ twos (P.take j) ++ two P[j] = B ++ twos (P.take (j + 1))) := Lib.hid (by rw [List.take_succ_eq_append_getElem hjl, twos_app, List.append_assoc]; simp [twos])
          obtain ⟨p, hpe⟩ : ∃ p, p = P[j] := ⟨_, rfl⟩
          rw [← hpe] at HCE hp HTK
          clear hpe hcell
          obtain ⟨q, hq⟩ : ∃ q, q = p / 256 := ⟨_, rfl⟩
          obtain ⟨r, hr⟩ : ∃ r, r = p % 256 := ⟨_, rfl⟩
          have hq2 : q < 256 := by omega
          have e1 : (p : Int).tdiv 256 = (q : Int) := by rw [hq]; simp
          have e2 : (p : Int) / 256 = (q : Int) := by omega
          have e3 : IntKind.i64.wrap (q : Int) = (q : Int) := IntWalk.i64_in _ (by omega)
          have e4 : IntKind.u8.wrap (q : Int) = (q : Int) := IntWalk.u8_in _ (by omega)
          have e5 : IntKind.u8.wrap (p : Int) = (r : Int) := by rw [IntKind.wrap_u8]; omega
          have HTWO : Hid (∀ w' : World, Reads (w'.alloc (.cells #[.int .u8 (q : Int), .int .u8 (r : Int)] 5)) 1 (.slice (some ⟨w'.heap.size, 0, none⟩) 2 2) 2 (u8s (two p))) := Lib.hid fun w' => reads_two8 w' p q r hq hq2 hr _
          have hj0 : (0 : Int) ≤ (j : Int) := by omega
          have hjn : (j : Int) < (np : Int) := by omega
          obtain ⟨wq, hwq⟩ : ∃ z, z = wr := ⟨_, rfl⟩
          subst hwq
          have HSW : Hid (∀ w', Below wq.heap.size wq w' → (w'.cell? ⟨c, j, none⟩ = some (.int .i64 (p : Nat)) ∧ Below w1.heap.size w1 w' ∧ RfSt w1 P (B ++ twos (P.take j)) w' (some ⟨c, 0, none⟩) np pc ya (nb + 2 * j) yc)) := Lib.hid fun w' hb =>
            ⟨HCE.out w' (own_below HST.out.op hb), HST.out.bel.trans (hb.mono HST.out.bel.size), HST.out.later hb⟩
          clear hq hr
          go_upto_region 18 with (fail)
          refine wp_region_held_drew (S := fun w' => w'.cell? ⟨c, j, none⟩ = some (.int .i64 (p : Nat))) (by kernel_rfl) ((HSW.out _ (Below.drew (Below.refl _ _))).1) (fun hHeld => ?_)
          refine wpAnyH_take (i := 0) (v := ?vq1) (by simp only [List.getElem?_toArray]; rfl) (by kernel_rfl) (by kernel_rfl) (by kernel_rfl) (by exact fun _ _ _ h => h) (Or.inl ⟨by rfl, ?yq1⟩) (by assumption) ?rq1
          case yq1 => (intro w hSw; (try dsimp only at hSw); go_simp; try with_reducible rfl)
          try simp only [Act.put, List.setIfInBounds_toArray, List.set_cons_zero, List.set_cons_succ]
          refine wpAnyH_take (i := 1) (v := ?vq2) (by simp only [List.getElem?_toArray]; rfl) (by kernel_rfl) (by kernel_rfl) (by kernel_rfl) (by exact fun _ _ _ h => h) (Or.inl ⟨by rfl, ?yq2⟩) (by assumption) ?rq2
          case yq2 => (intro w hSw; (try dsimp only at hSw); go_simp; try with_reducible rfl)
          try simp only [Act.put, List.setIfInBounds_toArray, List.set_cons_zero, List.set_cons_succ]
          refine wpAnyH_take (i := 2) (v := ?vq3) (by simp only [List.getElem?_toArray]; rfl) (by kernel_rfl) (by kernel_rfl) (by kernel_rfl) (by exact fun _ _ _ h => h) (Or.inl ⟨by rfl, ?yq3⟩) (by assumption) ?rq3
          case yq3 => (intro w hSw; (try dsimp only at hSw); go_simp; try with_reducible rfl)
          try simp only [Act.put, List.setIfInBounds_toArray, List.set_cons_zero, List.set_cons_succ]
          refine wpAnyH_take (i := 3) (v := ?vq4) (by simp only [List.getElem?_toArray]; rfl) (by kernel_rfl) (by kernel_rfl) (by kernel_rfl) (by exact fun _ _ _ h => h) (Or.inl ⟨by rfl, ?yq4⟩) (by assumption) ?rq4
          case yq4 => (intro w hSw; (try dsimp only at hSw); go_simp; try with_reducible rfl)
          try simp only [Act.put, List.setIfInBounds_toArray, List.set_cons_zero, List.set_cons_succ]
          refine wpAnyH_take (i := 4) (v := ?vq5) (by simp only [List.getElem?_toArray]; rfl) (by kernel_rfl) (by kernel_rfl) (by kernel_rfl) (by exact fun _ _ _ h => h) (Or.inl ⟨by rfl, ?yq5⟩) (by assumption) ?rq5
          case yq5 => (intro w hSw; (try dsimp only at hSw); go_simp; try with_reducible rfl)
          try simp only [Act.put, List.setIfInBounds_toArray, List.set_cons_zero, List.set_cons_succ]
          refine wpAnyH_take (i := 5) (v := ?vq6) (by simp only [List.getElem?_toArray]; rfl) (by kernel_rfl) (by kernel_rfl) (by kernel_rfl) (by exact fun _ _ _ h => h) (Or.inl ⟨by rfl, ?yq6⟩) (by assumption) ?rq6
          case yq6 => (intro w hSw; (try dsimp only at hSw); go_simp; try with_reducible rfl)
          try simp only [Act.put, List.setIfInBounds_toArray, List.set_cons_zero, List.set_cons_succ]
          refine wpAnyH_take (i := 6) (v := ?vq7) (by simp only [List.getElem?_toArray]; rfl) (by kernel_rfl) (by kernel_rfl) (by kernel_rfl) (by exact fun _ _ _ h => h) (Or.inl ⟨by rfl, ?yq7⟩) (by assumption) ?rq7
          case yq7 => (intro w hSw; (try dsimp only at hSw); go_simp; try with_reducible rfl)
          try simp only [Act.put, List.setIfInBounds_toArray, List.set_cons_zero, List.set_cons_succ]
          refine wpAnyH_take (i := 7) (v := ?vq8) (by simp only [List.getElem?_toArray]; rfl) (by kernel_rfl) (by kernel_rfl) (by kernel_rfl) (by exact fun _ _ _ h => h) (Or.inl ⟨by rfl, ?yq8⟩) (by assumption) ?rq8
          case yq8 => (intro w hSw; (try dsimp only at hSw); go_simp; try with_reducible rfl)
          try simp only [Act.put, List.setIfInBounds_toArray, List.set_cons_zero, List.set_cons_succ]
          refine wpAnyH_take (i := 8) (v := ?vq9) (by simp only [List.getElem?_toArray]; rfl) (by kernel_rfl) (by kernel_rfl) (by kernel_rfl) (by exact fun _ _ _ h => h) (Or.inl ⟨by rfl, ?yq9⟩) (by assumption) ?rq9
          case yq9 => (intro w hSw; (try dsimp only at hSw); go_simp; try with_reducible rfl)
          try simp only [Act.put, List.setIfInBounds_toArray, List.set_cons_zero, List.set_cons_succ]
          refine wpAnyH_take (i := 9) (v := ?vq10) (by simp only [List.getElem?_toArray]; rfl) (by kernel_rfl) (by kernel_rfl) (by kernel_rfl) (by exact fun _ _ _ h => h) (Or.inl ⟨by rfl, ?yq10⟩) (by assumption) ?rq10
          case yq10 => (intro w hSw; (try dsimp only at hSw); go_simp; try with_reducible rfl)
          try simp only [Act.put, List.setIfInBounds_toArray, List.set_cons_zero, List.set_cons_succ]
          refine wpAnyH_take (i := 10) (v := ?vq11) (by simp only [List.getElem?_toArray]; rfl) (by kernel_rfl) (by kernel_rfl) (by kernel_rfl) (by exact fun _ _ _ h => h) (Or.inl ⟨by rfl, ?yq11⟩) (by assumption) ?rq11
          case yq11 => (intro w hSw; (try dsimp only at hSw); go_simp; try with_reducible rfl)
          try simp only [Act.put, List.setIfInBounds_toArray, List.set_cons_zero, List.set_cons_succ]
          refine wpAnyH_take (i := 11) (v := ?vq12) (by simp only [List.getElem?_toArray]; rfl) (by kernel_rfl) (by kernel_rfl) (by kernel_rfl) (by exact fun _ _ _ h => h) (Or.inl ⟨by rfl, ?yq12⟩) (by assumption) ?rq12
          case yq12 => (intro w hSw; (try dsimp only at hSw); go_simp; try with_reducible rfl)
          try simp only [Act.put, List.setIfInBounds_toArray, List.set_cons_zero, List.set_cons_succ]
          refine wpAnyH_ready (rs := [12]) (by kernel_rfl) (by simp) ?_
          refine AllReadyH.cons (by simp only [List.getElem?_toArray]; rfl) (fun K hK => ?_) AllReadyH.nil
          go_simp
          refine hK.out _ _ ((HSW.out _ (by first | exact ((Below.refl _ _).alloc (Nat.le_refl _) _).drew | exact ((Below.refl _ _).drew).alloc (Nat.le_refl _) _)).1) (fun hHeld => ?_)
          clear hK K
          try simp only [Act.put, List.setIfInBounds_toArray, List.set_cons_zero, List.set_cons_succ]
          refine wpAnyH_ready (rs := [13]) (by kernel_rfl) (by simp) ?_
          refine AllReadyH.cons (by simp only [List.getElem?_toArray]; rfl) (fun K hK => ?_) AllReadyH.nil
          have HR0 : Hid (RfSt w1 P (B ++ twos (P.take j)) (wq.alloc (.cells #[.int .u8 (q : Int), .int .u8 (r : Int)] 5)).drew (some ⟨c, 0, none⟩) np pc ya (nb + 2 * j) yc) := Lib.hid (HSW.out _ (((Below.refl _ _).alloc (Nat.le_refl _) _).drew)).2.2
          refine step_app_el2 rfl _ _ rfl Tryz.underlying22 ji jz jz1 jz2 rfl (by omega) w1.heap.size (nb + 2 * j) 2 (.slice ya (nb + 2 * j) yc) _ (u8s (B ++ twos (P.take j))) (u8s (two p)) (u8s (B ++ twos (P.take (j + 1)))) (nb + 2 * j + 2) rfl rfl HR0.out.ob (HTWO.out _) (one_u8s _) rfl (by rw [← HTK.out]; exact (u8s_append _ _).symm) (by omega) (by omega) HR0.out.bel.size ?_
          intro ua uc w9 HX9 HG9
          have HF := Lib.hid (HR0.out.growB HX9.out (by omega) HG9.out)
          refine hK.out _ _ ((HCE.out _ HF.out.op)) (fun hHeld => ?_)
          clear hK K
          try simp only [Act.put, List.setIfInBounds_toArray, List.set_cons_zero, List.set_cons_succ]
          refine wpAnyH_take (i := 14) (v := ?vq13) (by simp only [List.getElem?_toArray]; rfl) (by kernel_rfl) (by kernel_rfl) (by kernel_rfl) (by exact fun _ _ _ h => h) (Or.inl ⟨by rfl, ?yq13⟩) (by assumption) ?rq13
          case yq13 => (intro w hSw; (try dsimp only at hSw); go_simp; try with_reducible rfl)
          try simp only [Act.put, List.setIfInBounds_toArray, List.set_cons_zero, List.set_cons_succ]
          refine wpAnyH_done (by kernel_rfl) ?_ _
          go_wp2_with fail
          go_roundw
          case rel => exact ⟨j + 1, ua, uc, by omega, rfl, by go_num, HF⟩
          case measure => simp [intOf]; omega
        · obtain rfl : j = np := by omega
          have e : P.take j = P := List.take_of_length_le (by rw [← HNP.out]; exact Nat.le_refl _)
          rw [e] at HST
          obtain ⟨q, hq⟩ : ∃ q, q = j / 256 := ⟨_, rfl⟩
          obtain ⟨r, hr⟩ : ∃ r, r = j % 256 := ⟨_, rfl⟩
          have hq2 : q < 256 := by omega
          have e1 : (j : Int).tdiv 256 = (q : Int) := by rw [hq]; simp
          have e2 : (j : Int) / 256 = (q : Int) := by omega
          have e3 : IntKind.i64.wrap (q : Int) = (q : Int) := IntWalk.i64_in _ (by omega)
          have e4 : IntKind.u8.wrap (q : Int) = (q : Int) := IntWalk.u8_in _ (by omega)
          have e5 : IntKind.u8.wrap (j : Int) = (r : Int) := by rw [IntKind.wrap_u8]; omega
          have HTWO : Hid (Reads (wr.alloc (.cells #[.int .u8 (q : Int), .int .u8 (r : Int)] 5)) 1 (.slice (some ⟨wr.heap.size, 0, none⟩) 2 2) 2 (u8s (two j))) := Lib.hid (reads_two8 wr j q r hq hq2 hr _)
          have HS2 := Lib.hid (HST.out.later ((Below.refl _ _).alloc (Nat.le_refl _) (.cells #[.int .u8 (q : Int), .int .u8 (r : Int)] 5)))
          clear hq hr e
          go_wp2_with (at_builtin; go_loud (refine wp_app_el2 rfl _ _ rfl Tryz.underlying22 ji jz jz1 jz2 rfl (by omega) w1.heap.size (nb + 2 * j) 2 (.slice ya (nb + 2 * j) yc) _ (u8s (B ++ twos P)) (u8s (two j)) (u8s (blkPut (entsOf l))) (nb + 2 * j + 2) rfl rfl HS2.out.ob HTWO.out (one_u8s _) rfl (by rw [← HBP.out]; exact (u8s_append _ _).symm) (by omega) (by omega) HS2.out.bel.size ?_); intro ua uc w9 HX9 HG9)
          have HF := HS2.out.bel.trans HG9.out.below
          go_ret2
          exact ⟨HB1.out.trans (HF.mono HB1.out.size), .inl ⟨HM.out, ua, _, uc, rfl, (rd_of_own HX9.out).1, own_mono HX9.out HB1.out.size⟩⟩
end Go.Proofs.YtbcnapkbdbefhaaGreatDoor

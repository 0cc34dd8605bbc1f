/- Walk of the reference's Get of entries. The condition: bytes of less than 2^47. -/
import Derived.Test.YtdamfcldkaidjaaOrderGet
import Derived.Test.YtdamfcldkaidjaaInts3
import Derived.Test.YtdamfcldkaidjaaMore
import Derived.Deep.Cut
namespace Go.Proofs.Ytdamfcldkaidjaa
open Go.RowKit

set_option maxRecDepth 100000 in
theorem ent_end_ref {w WF : World} {k0 u0 : ByteArray} {s0 : Nat} {g0 : Bool} (hx : Blk WF w.heap.size #[.string k0, .int .u64 s0, .bool g0, .string u0] 55) (hb : Below w.heap.size w WF) (r : Ent × Nat × Nat) (a : Act) (n er : Nat) (hr : r = (⟨k0.data.toList, s0, g0, u0.data.toList⟩, n, er))
    (h2 : a.tmps.getD 2 undef = .pointer (some ⟨w.heap.size, 0, none⟩)) (h3 : a.tmps.getD 3 undef = .int .i64 n) (h4 : a.tmps.getD 4 undef = .int .i64 er) (hd : a.defers = []) :
    bodyPost Try.prog Try.f60 (RetEnt r w) .ret a WF := by
  have x0 := hx.cellv 0 (.string k0) rfl
  have x1 := hx.cellv 1 (.int .u64 s0) rfl
  have x2 := hx.cellv 2 (.bool g0) rfl
  have x3 := hx.cellv 3 (.string u0) rfl
  refine bodyPost_ret (v := .tuple #[.agg #[.string k0, .int .u64 s0, .bool g0, .string u0], .int .i64 n, .int .i64 er]) ?_ hd ⟨?_, hb⟩
  · simp only [Array.getD_eq_getD_getElem?] at h2 h3 h4
    simp [results, Try.results60, go_sem, h2, h3, h4, x0, x1, x2, x3]
  · subst hr
    simp [bs]
theorem set4 {w WF : World} {k0 u0 k u : ByteArray} {s0 s : Nat} {g0 g : Bool} (hx : Blk WF w.heap.size #[.string k0, .int .u64 s0, .bool g0, .string u0] 55) :
    Blk ((((WF.setCell ⟨w.heap.size, 0, none⟩ (.string k)).setCell ⟨w.heap.size, 1, none⟩ (.int .u64 s)).setCell ⟨w.heap.size, 2, none⟩ (.bool g)).setCell ⟨w.heap.size, 3, none⟩ (.string u)) w.heap.size #[.string k, .int .u64 s, .bool g, .string u] 55 :=
  (((hx.set 0 _).set 1 _).set 2 _).set 3 _
theorem set4b {w WF : World} {x0 x1 x2 x3 : Value} (hb : Below w.heap.size w WF) : Below w.heap.size w ((((WF.setCell ⟨w.heap.size, 0, none⟩ x0).setCell ⟨w.heap.size, 1, none⟩ x1).setCell ⟨w.heap.size, 2, none⟩ x2).setCell ⟨w.heap.size, 3, none⟩ x3) :=
  (((hb.setCell (Nat.le_refl _) _).setCell (Nat.le_refl _) _).setCell (Nat.le_refl _) _).setCell (Nat.le_refl _) _

set_option maxRecDepth 100000 in
set_option maxHeartbeats 4000000 in
theorem refOrderGet_any (w : World) (v : Value) (l : List UInt8) (hv : Rd w v l) (hl : l.length ≤ 140737488351232) :
    Calls Try.prog 60 #[v] w (RetEnt (eget l) w) := by
  obtain ⟨va, vn, vc, rfl, hvn⟩ := rd_len hv
  rcases ht : tget l with ⟨ks, kn, ke⟩
  have HVN := Lib.hid hvn
  have HV := Lib.hid hv
  rw [← hvn] at hl
  clear hvn hv
  have HT := Lib.hid ht
  clear ht
  go_enter Try.func60, Try.ntmps60
  go_upto_region 1 with (fail)
  have HX : Blk (w.alloc (.cells #[.string ⟨#[]⟩, .int .u64 0, .bool false, .string ⟨#[]⟩] 55)) w.heap.size #[.string ⟨#[]⟩, .int .u64 (0 : Nat), .bool false, .string ⟨#[]⟩] 55 := Blk.new _ _ _
  have HB : Below w.heap.size w (w.alloc (.cells #[.string ⟨#[]⟩, .int .u64 0, .bool false, .string ⟨#[]⟩] 55)) := (Below.refl _ _).alloc (Nat.le_refl _) _
  obtain ⟨B, hB⟩ : ∃ B, B = w.heap.size := ⟨_, rfl⟩
  generalize w.alloc (.cells #[.string ⟨#[]⟩, .int .u64 0, .bool false, .string ⟨#[]⟩] 55) = w1 at HX HB ⊢
  have x0 := HX.cellv 0 (.string ⟨#[]⟩) rfl
  have x1 := HX.cellv 1 (.int .u64 (0 : Nat)) rfl
  have x2 := HX.cellv 2 (.bool false) rfl
  have x3 := HX.cellv 3 (.string ⟨#[]⟩) rfl
  have f0 := HX.free 0
  have f1 := HX.free 1
  have f2 := HX.free 2
  have f3 := HX.free 3
  have HXX := Lib.hid HX
  have HBB := Lib.hid HB
  clear HX HB hB
  go_wp2_with fail
  refine (refGetText_any _ l w1 (HV.out.below HBB.out)).mono ?_
  rintro e w2 ⟨rfl, rfl⟩
  rw [HT.out]
  obtain ⟨K, hK⟩ : ∃ K, K = bs ks := ⟨_, rfl⟩
  have HK := Lib.hid hK
  rw [← hK]
  clear hK
  by_cases hke : ke = 0
  · subst hke
    obtain ⟨hkn1, hkn2, hks1, hks2, _⟩ := tget_got HT.out
    rw [← HVN.out] at hkn2
    have hkd : K.data.toList = ks := by rw [HK.out]; exact bs_data _
    by_cases hck : checkK ks = true
    · have hck2 : checkK K.data.toList = true := by rw [hkd]; exact hck
      have HCK := Lib.hid hck2
      have HEG := Lib.hid (eget_key HT.out hck)
      clear hck hck2 hkd
      obtain ⟨sa, sc, hcut, hrd⟩ := cut_from HV.out kn (by rw [← HVN.out]; exact hkn2)
      rw [← HVN.out] at hcut hrd
      rcases hs : vget (l.drop kn) with ⟨sn, bn, be⟩
      have hbn : kn + bn ≤ vn := by
        by_cases h0 : be = 0
        · subst h0; have := (vget_got hs).2.2.1; rw [List.length_drop, ← HVN.out] at this; omega
        · rcases vget_bad (l := l.drop kn) (by rw [hs]; exact h0) with ⟨h1, _⟩ | ⟨h1, _⟩ <;> rw [h1] at hs <;> cases hs <;> omega
      have HSN := Lib.hid hs
      have HRD := Lib.hid hrd
      clear hs hrd
      go_wp2_with fail
      refine (refCheck_any K _).mono ?_
      rintro e w3 ⟨rfl, rfl⟩
      rw [HCK.out]
      go_wp2_with fail
      refine (refGet_any _ (l.drop kn) w1 (HRD.out.below HBB.out)).mono ?_
      rintro e w3 ⟨rfl, rfl⟩
      rw [HSN.out]
      by_cases hB : be = 0
      · subst hB
        have hsn : sn < 18446744073709551616 := (vget_got HSN.out).1
        replace HEG : Hid (eget l = egetF ks sn (kn + bn) (l.drop (kn + bn))) := by
          show _ = _
          rw [HEG.out, egetS_ok HSN.out, List.drop_drop]
        cases hd : l.drop (kn + bn) with
        | nil =>
          have hkl : kn + bn = l.length := by have := congrArg List.length hd; rw [List.length_drop, ← HVN.out] at this; simp at this; rw [← HVN.out]; omega
          rw [← HVN.out] at hkl
          subst hkl
          rw [hd] at HEG
          clear hd
          go_wp2
          refine ent_end_ref (set4 (s := 0) HXX.out) (set4b HBB.out) _ _ 0 5 ?_ rfl rfl rfl rfl
          rw [HEG.out]; rfl
        | cons d t =>
          have HD := Lib.hid hd
          rw [hd] at HEG
          clear hd
          have hlt : kn + bn < vn := by have := congrArg List.length HD.out; rw [List.length_drop, ← HVN.out] at this; simp at this; omega
          have hne : ((kn : Int) + (bn : Int) == (vn : Int)) = false := by simp; omega
          have hne2 : ¬ (kn : Int) + (bn : Int) = (vn : Int) := by omega
          have hcell : ∃ b off, va = some ⟨b, off, none⟩ ∧ w1.cell? ⟨b, off + (kn + bn), none⟩ = some (.int .u8 d.toNat) := by
            obtain ⟨a2, c2, e2, _, _, hr⟩ := HV.out.below HBB.out
            simp only [Value.slice.injEq] at e2
            obtain ⟨b, off, e3, hc⟩ := hr (kn + bn) (by rw [← HVN.out]; exact hlt)
            refine ⟨b, off, by rw [e2.1, e3], ?_⟩
            rw [hc]
            have h5 : l[kn + bn]'(by rw [← HVN.out]; exact hlt) = d := by
              have h6 := List.drop_eq_getElem_cons (l := l) (i := kn + bn) (by rw [← HVN.out]; exact hlt)
              rw [HD.out] at h6
              exact (List.cons.inj h6).1.symm
            rw [h5]
          obtain ⟨b, off, rfl, hc⟩ := hcell
          have hd256 := d.toNat_lt
          by_cases hd1 : 1 < d.toNat
          · replace HEG : Hid (eget l = (Ent.none, 0, 4)) := by
              show _ = _
              rw [HEG.out, egetF_bad _ _ _ _ hd1]
            generalize d.toNat = D at *
            go_wp2
            refine ent_end_ref (set4 (s := 0) HXX.out) (set4b HBB.out) _ _ 0 4 ?_ rfl rfl rfl rfl
            rw [HEG.out]; rfl
          · by_cases hd2 : d.toNat = 1
            · replace HEG : Hid (eget l = (⟨ks, sn, true, []⟩, kn + bn + 1, 0)) := by
                show _ = _
                rw [HEG.out, egetF_gone _ _ _ _ hd2]
              rw [hd2] at hc
              clear hd1 hd2
              go_upto_region 15 with (fail)
              obtain ⟨Y, hY⟩ : ∃ Y, Y = w1.heap.size := ⟨_, rfl⟩
              have hb12 : Below w1.heap.size w1 (w1.alloc (.cells #[.string K, .int .u64 sn, .bool true, .string ⟨#[]⟩] 55)) := (Below.refl _ _).alloc (Nat.le_refl _) _
              have HYY : Hid (Blk (w1.alloc (.cells #[.string K, .int .u64 sn, .bool true, .string ⟨#[]⟩] 55)) Y #[.string K, .int .u64 sn, .bool true, .string ⟨#[]⟩] 55) := Blk.new_at _ _ _ _ hY
              have hYw : w.heap.size < Y := by have := HXX.out.lt; omega
              rw [← hY]
              replace HXX := Lib.hid (HXX.out.below hb12)
              replace HBB := Lib.hid (Below.trans HBB.out (hb12.mono HBB.out.size))
              clear hb12 hY x0 x1 x2 x3 f0 f1 f2 f3 hc
              generalize w1.alloc (.cells #[.string K, .int .u64 sn, .bool true, .string ⟨#[]⟩] 55) = w2 at HXX HBB HYY ⊢
              have x0 := HXX.out.cellv 0 (.string ⟨#[]⟩) rfl
              have x1 := HXX.out.cellv 1 (.int .u64 (0 : Nat)) rfl
              have x2 := HXX.out.cellv 2 (.bool false) rfl
              have x3 := HXX.out.cellv 3 (.string ⟨#[]⟩) rfl
              have f0 := HXX.out.free 0
              have f1 := HXX.out.free 1
              have f2 := HXX.out.free 2
              have f3 := HXX.out.free 3
              have y0 := HYY.out.cellv 0 (.string K) rfl
              have y1 := HYY.out.cellv 1 (.int .u64 sn) rfl
              have y2 := HYY.out.cellv 2 (.bool true) rfl
              have y3 := HYY.out.cellv 3 (.string ⟨#[]⟩) rfl
              go_wp2
              refine ent_end_ref (set4 (s := sn) HXX.out) (set4b HBB.out) _ _ (kn + bn + 1) 0 ?_ rfl (by rfl) rfl rfl
              rw [HEG.out, HK.out]; simp [bs]
            · have hd0 : d.toNat = 0 := by omega
              have hdt : l.drop (kn + bn + 1) = t := by rw [← List.drop_drop, HD.out]; rfl
              replace HEG : Hid (eget l = egetV ks sn (kn + bn + 1) (l.drop (kn + bn + 1))) := by
                show _ = _
                rw [HEG.out, egetF_val _ _ _ _ hd0, hdt]
              rw [hd0] at hc
              clear hd1 hd2 hd0 hdt
              rcases hu : tget (l.drop (kn + bn + 1)) with ⟨us, un, ue⟩
              have HU := Lib.hid hu
              clear hu
              have hun : kn + bn + 1 + un ≤ vn := by
                by_cases h0 : ue = 0
                · subst h0; have := (tget_got HU.out).2.1; rw [List.length_drop, ← HVN.out] at this; omega
                · have hx : (tget (l.drop (kn + bn + 1))).2.2 ≠ 0 := by rw [HU.out]; exact h0
                  rcases tget_err hx with h1 | h1 <;> rw [HU.out] at h1 <;> cases h1 <;> omega
              obtain ⟨ta, tc, hcut2, hrd2⟩ := cut_from HV.out (kn + bn + 1) (by rw [← HVN.out]; omega)
              rw [← HVN.out] at hcut2 hrd2
              have hcut3 : ∀ w', (Instr.slice 22 (.slice (some ⟨b, off, none⟩) vn vc) (some (.int .i64 ((kn : Int) + (bn : Int) + 1))) none none).run Try.prog w' = .ok (.slice ta (vn - (kn + bn + 1)) tc) w' := fun w' => by
                have := hcut2 w' .i64
                rwa [show ((kn + bn + 1 : Nat) : Int) = (kn : Int) + (bn : Int) + 1 from by omega] at this
              have HRD2 := Lib.hid hrd2
              clear hrd2 hcut2
              obtain ⟨U, hU⟩ : ∃ U, U = bs us := ⟨_, rfl⟩
              have HUU := Lib.hid hU
              have hus : U.size = us.length := by rw [hU]; exact bs_size us
              have HUS := Lib.hid hus
              clear hU hus
              go_upto_region 15 with (fail)
              obtain ⟨Y, hY⟩ : ∃ Y, Y = w1.heap.size := ⟨_, rfl⟩
              have hb12 : Below w1.heap.size w1 (w1.alloc (.cells #[.string K, .int .u64 sn, .bool false, .string ⟨#[]⟩] 55)) := (Below.refl _ _).alloc (Nat.le_refl _) _
              have HYY : Hid (Blk (w1.alloc (.cells #[.string K, .int .u64 sn, .bool false, .string ⟨#[]⟩] 55)) Y #[.string K, .int .u64 sn, .bool false, .string ⟨#[]⟩] 55) := Blk.new_at _ _ _ _ hY
              have hYw : w.heap.size < Y := by have := HXX.out.lt; omega
              rw [← hY]
              replace HXX := Lib.hid (HXX.out.below hb12)
              replace HBB := Lib.hid (Below.trans HBB.out (hb12.mono HBB.out.size))
              clear hb12 hY x0 x1 x2 x3 f0 f1 f2 f3 hc
              generalize w1.alloc (.cells #[.string K, .int .u64 sn, .bool false, .string ⟨#[]⟩] 55) = w2 at HXX HBB HYY ⊢
              have x0 := HXX.out.cellv 0 (.string ⟨#[]⟩) rfl
              have x1 := HXX.out.cellv 1 (.int .u64 (0 : Nat)) rfl
              have x2 := HXX.out.cellv 2 (.bool false) rfl
              have x3 := HXX.out.cellv 3 (.string ⟨#[]⟩) rfl
              have f0 := HXX.out.free 0
              have f1 := HXX.out.free 1
              have f2 := HXX.out.free 2
              have f3 := HXX.out.free 3
              have y0 := HYY.out.cellv 0 (.string K) rfl
              have y1 := HYY.out.cellv 1 (.int .u64 sn) rfl
              have y2 := HYY.out.cellv 2 (.bool false) rfl
              have y3 := HYY.out.cellv 3 (.string ⟨#[]⟩) rfl
              have g3 := HYY.out.free 3
              go_wp2_with fail
              refine (refGetText_any _ (l.drop (kn + bn + 1)) w2 (HRD2.out.below HBB.out)).mono ?_
              rintro e w3 ⟨rfl, rfl⟩
              rw [HU.out]
              simp only [← HUU.out]
              by_cases hue : ue = 0
              · subst hue
                by_cases h256 : us.length ≤ 256
                · replace HEG : Hid (eget l = (⟨ks, sn, false, us⟩, kn + bn + 1 + un, 0)) := by
                    show _ = _
                    rw [HEG.out, egetV_ok HU.out h256]
                  have hd : decide ((256 : Int) < (U.size : Int)) = false := by rw [HUS.out]; simp; omega
                  have hd' : decide (256 < U.size) = false := by rw [HUS.out]; simp; omega
                  have huz : U.size ≤ 256 := by rw [HUS.out]; exact h256
                  clear h256
                  go_upto_region 24 with (fail)
                  have HY3 := Lib.hid (HYY.out.set 3 (.string U))
                  have HX3 := Lib.hid (Blk.set_other HXX.out ⟨Y, 3, none⟩ (by simp; omega) (.string U))
                  have HB3 := Lib.hid (HBB.out.setCell (p := ⟨Y, 3, none⟩) (by simp; omega) (.string U))
                  clear x0 x1 x2 x3 f0 f1 f2 f3 y0 y1 y2 y3 g3
                  generalize w2.setCell ⟨Y, 3, none⟩ (.string U) = w4 at HY3 HX3 HB3 ⊢
                  have x0 := HX3.out.cellv 0 (.string ⟨#[]⟩) rfl
                  have x1 := HX3.out.cellv 1 (.int .u64 (0 : Nat)) rfl
                  have x2 := HX3.out.cellv 2 (.bool false) rfl
                  have x3 := HX3.out.cellv 3 (.string ⟨#[]⟩) rfl
                  have f0 := HX3.out.free 0
                  have f1 := HX3.out.free 1
                  have f2 := HX3.out.free 2
                  have f3 := HX3.out.free 3
                  have y0 := HY3.out.cellv 0 (.string K) rfl
                  have y1 := HY3.out.cellv 1 (.int .u64 sn) rfl
                  have y2 := HY3.out.cellv 2 (.bool false) rfl
                  have y3 := HY3.out.cellv 3 (.string U) rfl
                  go_wp2
                  refine ent_end_ref (set4 (s := sn) HX3.out) (set4b HB3.out) _ _ (kn + bn + 1 + un) 0 ?_ rfl (by rfl) rfl rfl
                  rw [HEG.out, HK.out, HUU.out]; simp [bs]
                · replace HEG : Hid (eget l = (Ent.none, 0, 4)) := by
                    show _ = _
                    have hx : (if 0 = 0 then (if us.length ≤ 256 then 0 else 4) else 0) ≠ 0 := by simp [h256]
                    rw [HEG.out, egetV_no HU.out hx]; simp [h256]
                  have hd : decide ((256 : Int) < (U.size : Int)) = true := by rw [HUS.out]; simp; omega
                  have hd' : decide (256 < U.size) = true := by rw [HUS.out]; simp; omega
                  clear h256
                  go_wp2
                  refine ent_end_ref (set4 (s := 0) HXX.out) (set4b HBB.out) _ _ 0 4 ?_ rfl rfl rfl rfl
                  rw [HEG.out]; rfl
              · have hA2 : ((ue : Int) == 0) = false := by simp; omega
                have hA3 : ((ue : Int) != 0) = true := by simp; omega
                replace HEG : Hid (eget l = (Ent.none, 0, ue)) := by
                  show _ = _
                  have hx : (if ue = 0 then (if us.length ≤ 256 then 0 else 4) else ue) ≠ 0 := by simp [hue]
                  rw [HEG.out, egetV_no HU.out hx]; simp [hue]
                clear hue
                go_wp2
                refine ent_end_ref (set4 (s := 0) HXX.out) (set4b HBB.out) _ _ 0 ue ?_ rfl rfl rfl rfl
                rw [HEG.out]; rfl
      · have hB2 : ((be : Int) == 0) = false := by simp; omega
        have hB3 : ((be : Int) != 0) = true := by simp; omega
        replace HEG : Hid (eget l = (Ent.none, 0, be)) := by
          show _ = _
          rw [HEG.out, egetS_no HSN.out hB]
        clear hB
        go_wp2
        refine ent_end_ref (set4 (s := 0) HXX.out) (set4b HBB.out) _ _ 0 be ?_ rfl rfl rfl rfl
        rw [HEG.out]; rfl
    · have hck2 : checkK K.data.toList = false := by rw [hkd]; simpa using hck
      have HCK := Lib.hid hck2
      have HEG : Hid (eget l = (Ent.none, 0, 4)) := by
        show _ = _
        unfold eget; rw [HT.out]; simp [hck]
      clear hck hck2 hkd
      go_wp2_with fail
      refine (refCheck_any K _).mono ?_
      rintro e w3 ⟨rfl, rfl⟩
      rw [HCK.out]
      go_wp2
      refine ent_end_ref (set4 (s := 0) HXX.out) (set4b HBB.out) _ _ 0 4 ?_ rfl rfl rfl rfl
      rw [HEG.out]; rfl
  · have hA2 : ((ke : Int) == 0) = false := by simp; omega
    have hA3 : ((ke : Int) != 0) = true := by simp; omega
    have HEG : Hid (eget l = (Ent.none, 0, ke)) := by
      show _ = _
      unfold eget; rw [HT.out]; simp [hke]
    clear hke
    go_wp2
    refine ent_end_ref (set4 (s := 0) HXX.out) (set4b HBB.out) _ _ 0 ke ?_ rfl rfl rfl rfl
    rw [HEG.out]; rfl
end Go.Proofs.Ytdamfcldkaidjaa

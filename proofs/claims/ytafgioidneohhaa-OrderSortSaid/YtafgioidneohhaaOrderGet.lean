/- Walk of order.Get: the entry that bytes begin with. The condition: bytes of less than 2^47. -/
import Derived.Test.YtafgioidneohhaaReader2
import Derived.Test.YtafgioidneohhaaOrder2
import Derived.BigRegion
namespace Go.Proofs.Ytafgioidneohhaa
open Go.RowKit

/-- an entry as the program holds it -/
def entCells (k : ByteArray) (s : Nat) (g : Bool) (u : ByteArray) : Array Value := #[.string k, .int .u64 s, .bool g, .string u]
def RetEnt (r : Ent × Nat × Nat) (w : World) (e : Ending) (w' : World) : Prop :=
  e = .returned (.tuple #[.agg #[.string (bs r.1.key), .int .u64 r.1.seq, .bool r.1.gone, .string (bs r.1.val)], .int .i64 r.2.1, .int .i64 r.2.2]) ∧ Below w.heap.size w w'

/-- the reader, the entry and what was there -/
structure St (w wr : World) (v : Value) (k e : Nat) (k0 : ByteArray) (s0 : Nat) (g0 : Bool) (u0 : ByteArray) : Prop where
  r : Rdr wr (w.heap.size + 1) v k e
  x : Blk wr w.heap.size #[.string k0, .int .u64 s0, .bool g0, .string u0] 30
  b : Below w.heap.size w wr
theorem St.only {w wr w' : World} {v v' : Value} {k e k' e' : Nat} {k0 u0 : ByteArray} {s0 : Nat} {g0 : Bool} (h : St w wr v k e k0 s0 g0 u0) (hr : Rdr w' (w.heap.size + 1) v' k' e') (ho : Only wr w' (w.heap.size + 1)) : St w w' v' k' e' k0 s0 g0 u0 :=
  ⟨hr, h.x.only ho (by omega), ho.below h.b (by omega) h.b.size⟩
theorem St.setK {w wr : World} {v : Value} {k e : Nat} {k0 u0 : ByteArray} {s0 : Nat} {g0 : Bool} (h : St w wr v k e k0 s0 g0 u0) (y : ByteArray) : St w (wr.setCell ⟨w.heap.size, 0, none⟩ (.string y)) v k e y s0 g0 u0 :=
  ⟨Blk.set_other h.r _ (by simp) _, h.x.set 0 _, h.b.setCell (Nat.le_refl _) _⟩
theorem St.setS {w wr : World} {v : Value} {k e : Nat} {k0 u0 : ByteArray} {s0 : Nat} {g0 : Bool} (h : St w wr v k e k0 s0 g0 u0) (y : Nat) : St w (wr.setCell ⟨w.heap.size, 1, none⟩ (.int .u64 y)) v k e k0 y g0 u0 :=
  ⟨Blk.set_other h.r _ (by simp) _, h.x.set 1 _, h.b.setCell (Nat.le_refl _) _⟩
theorem St.setG {w wr : World} {v : Value} {k e : Nat} {k0 u0 : ByteArray} {s0 : Nat} {g0 : Bool} (h : St w wr v k e k0 s0 g0 u0) (y : Bool) : St w (wr.setCell ⟨w.heap.size, 2, none⟩ (.bool y)) v k e k0 s0 y u0 :=
  ⟨Blk.set_other h.r _ (by simp) _, h.x.set 2 _, h.b.setCell (Nat.le_refl _) _⟩
theorem St.setU {w wr : World} {v : Value} {k e : Nat} {k0 u0 : ByteArray} {s0 : Nat} {g0 : Bool} (h : St w wr v k e k0 s0 g0 u0) (y : ByteArray) : St w (wr.setCell ⟨w.heap.size, 3, none⟩ (.string y)) v k e k0 s0 g0 y :=
  ⟨Blk.set_other h.r _ (by simp) _, h.x.set 3 _, h.b.setCell (Nat.le_refl _) _⟩
theorem St.drewN {w wr : World} {v : Value} {k e : Nat} {k0 u0 : ByteArray} {s0 : Nat} {g0 : Bool} (h : St w wr v k e k0 s0 g0 u0) (n : Nat) : St w (wr.drewN n) v k e k0 s0 g0 u0 := ⟨h.r, h.x, ⟨h.b.1, h.b.2, h.b.3, h.b.4, h.b.5⟩⟩

theorem eget_key {l ks : List UInt8} {kn : Nat} (h : tget l = (ks, kn, 0)) (hc : checkK ks = true) : eget l = egetS ks kn (l.drop kn) := by
  unfold eget; rw [h]; simp [hc]
theorem egetS_ok {k r : List UInt8} {a s b : Nat} (h : vget r = (s, b, 0)) : egetS k a r = egetF k s (a + b) (r.drop b) := by
  unfold egetS; rw [h]; simp
theorem egetS_no {k r : List UInt8} {a s b e : Nat} (h : vget r = (s, b, e)) (he : e ≠ 0) : egetS k a r = (Ent.none, 0, e) := by
  unfold egetS; rw [h]; simp [he]
theorem egetF_bad (k : List UInt8) (s a : Nat) {d : UInt8} (t : List UInt8) (h : 1 < d.toNat) : egetF k s a (d :: t) = (Ent.none, 0, 4) := if_pos h
theorem egetF_gone (k : List UInt8) (s a : Nat) {d : UInt8} (t : List UInt8) (h : d.toNat = 1) : egetF k s a (d :: t) = (⟨k, s, true, []⟩, a + 1, 0) := by
  show (if 1 < d.toNat then _ else if d.toNat = 1 then _ else _) = _
  rw [if_neg (by omega), if_pos h]
theorem egetF_val (k : List UInt8) (s a : Nat) {d : UInt8} (t : List UInt8) (h : d.toNat = 0) : egetF k s a (d :: t) = egetV k s (a + 1) t := by
  show (if 1 < d.toNat then _ else if d.toNat = 1 then _ else _) = _
  rw [if_neg (by omega), if_neg (by omega)]
theorem egetV_ok {k r v : List UInt8} {s a n : Nat} (h : tget r = (v, n, 0)) (hv : v.length ≤ 256) : egetV k s a r = (⟨k, s, false, v⟩, a + n, 0) := by
  unfold egetV; rw [h]; simp [hv]
theorem egetV_no {k r v : List UInt8} {s a n e : Nat} (h : tget r = (v, n, e)) (he : (if e = 0 then (if v.length ≤ 256 then 0 else 4) else e) ≠ 0) : egetV k s a r = (Ent.none, 0, if e = 0 then (if v.length ≤ 256 then 0 else 4) else e) := by
  unfold egetV; rw [h]
  by_cases h0 : e = 0
  · by_cases hv : v.length ≤ 256
    · simp [h0, hv] at he
    · simp [h0, hv]
  · simp [h0]

set_option maxRecDepth 100000 in
theorem ent_end {w WF : World} {v : Value} {k e : Nat} {k0 u0 : ByteArray} {s0 : Nat} {g0 : Bool} (h : St w WF v k e k0 s0 g0 u0) (r : Ent × Nat × Nat) (a : Act) (n er : Nat) (hr : r = (⟨k0.data.toList, s0, g0, u0.data.toList⟩, n, er))
    (h2 : a.tmps.getD 2 undef = .pointer (some ⟨w.heap.size, 0, none⟩)) (h3 : a.tmps.getD 3 undef = .int .i64 n) (h4 : a.tmps.getD 4 undef = .int .i64 er) (hd : a.defers = []) :
    bodyPost Try.prog Try.f13 (RetEnt r w) .ret a WF := by
  have x0 := h.x.cellv 0 (.string k0) rfl
  have x1 := h.x.cellv 1 (.int .u64 s0) rfl
  have x2 := h.x.cellv 2 (.bool g0) rfl
  have x3 := h.x.cellv 3 (.string u0) rfl
  refine bodyPost_ret (v := .tuple #[.agg #[.string k0, .int .u64 s0, .bool g0, .string u0], .int .i64 n, .int .i64 er]) ?_ hd ⟨?_, h.b⟩
  · simp only [Array.getD_eq_getD_getElem?] at h2 h3 h4
    simp [results, Try.results13, go_sem, h2, h3, h4, x0, x1, x2, x3]
  · subst hr
    simp [bs]

set_option maxRecDepth 100000 in
set_option maxHeartbeats 4000000 in
theorem orderGet_any (w : World) (v : Value) (l : List UInt8) (hv : Rd w v l) (hl : l.length ≤ 140737488351232) :
    Calls Try.prog 13 #[v] w (RetEnt (eget l) w) := by
  obtain ⟨va, vn, vc, rfl, hvn⟩ := rd_len hv
  rcases ht : tget l with ⟨ks, kn, ke⟩
  have ht0 : tget (l.drop 0) = (ks, kn, ke) := ht
  have HVN := Lib.hid hvn
  rw [← hvn] at hl
  have HV := Lib.hid hv
  clear hvn hv
  obtain ⟨w1, hw1⟩ : ∃ w1, w1 = (w.alloc (.cells #[.string ⟨#[]⟩, .int .u64 0, .bool false, .string ⟨#[]⟩] 30)).alloc (.cells #[.slice va vn vc, .int .i64 0, .int .i64 0] 65) := ⟨_, rfl⟩
  have R1 : Rdr w1 (w.heap.size + 1) (.slice va vn vc) 0 0 := by rw [hw1]; exact Blk.new_at _ _ _ _ (by simp)
  have X1 : Blk w1 w.heap.size #[.string ⟨#[]⟩, .int .u64 0, .bool false, .string ⟨#[]⟩] 30 := by rw [hw1]; exact Blk.alloc (Blk.new _ _ _) _
  have B1 : Below w.heap.size w w1 := by rw [hw1]; exact below2' _ _ _
  have H1 := Lib.hid R1
  have H2 := Lib.hid X1
  have H3 := Lib.hid B1
  have HW1 := Lib.hid hw1
  clear R1 X1 B1 hw1
  have HT := Lib.hid ht
  have HT0 := Lib.hid ht0
  clear ht ht0
  have hst : St w w1 (.slice va vn vc) 0 0 ⟨#[]⟩ 0 false ⟨#[]⟩ := ⟨H1.out, H2.out, H3.out⟩
  have HS1 := Lib.hid hst
  clear hst H1 H2 H3
  obtain ⟨e1, he1⟩ : ∃ e1, e1 = (if ke = 0 then (if checkK ks = true then 0 else 4) else ke) := ⟨_, rfl⟩
  have HE1 := Lib.hid he1
  clear he1
  go_enter Try.func13, Try.ntmps13
  go_wp2_with fail
  rw [← HW1.out]
  refine (text_check w1 _ _ l 0 HS1.out.r (HV.out.below HS1.out.b) (Nat.zero_le _) (by rw [← HVN.out]; exact hl) ks kn ke HT0.out).mono ?_
  rintro e w2 ⟨rfl, hr, ho⟩
  rw [← HE1.out] at hr
  have HS2 := Lib.hid ((HS1.out.only hr ho).setK (bs ks))
  have c0 := (HS1.out.only hr ho).x.cellv 0 (.string ⟨#[]⟩) rfl
  have f0 := (HS1.out.only hr ho).x.free 0
  have c2 := HS2.out.r.cellv 2 (.int .i64 e1) rfl
  clear hr ho
  by_cases hA : e1 = 0
  · have hke : ke = 0 ∧ checkK ks = true := by
      have h1 := HE1.out
      by_cases hk : ke = 0
      · rw [if_pos hk] at h1
        by_cases hc : checkK ks = true
        · exact ⟨hk, hc⟩
        · rw [if_neg hc] at h1; omega
      · rw [if_neg hk] at h1; omega
    obtain ⟨rfl, hck⟩ := hke
    obtain ⟨hkn1, hkn2, hks1, hks2, _⟩ := tget_got HT.out
    rw [← HVN.out] at hkn2
    have HEG : Hid (eget l = egetS ks kn (l.drop kn)) := by
      exact eget_key HT.out hck
    subst hA
    rw [Nat.zero_add] at HS2
    obtain ⟨sa, sc, hcut, hrd⟩ := cut_from HV.out kn (by rw [← HVN.out]; exact hkn2)
    rw [← HVN.out] at hcut hrd
    rcases hs : vget (l.drop kn) with ⟨sn, bn, be⟩
    have hbn : kn + bn ≤ vn := by
      by_cases h0 : be = 0
      · subst h0; have := (vget_got hs).2.2.1; rw [List.length_drop, ← HVN.out] at this; omega
      · rcases vget_bad (l := l.drop kn) (by rw [hs]; exact h0) with ⟨h1, _⟩ | ⟨h1, _⟩ <;> rw [h1] at hs <;> cases hs <;> omega
    have c1 := HS2.out.r.cellv 1 (.int .i64 kn) rfl
    have HSN := Lib.hid hs
    have HRD := Lib.hid hrd
    clear hs hrd hck
    go_wp2_with fail
    generalize w2.setCell ⟨w.heap.size, 0, none⟩ (.string (bs ks)) = W at HS2 c1 c2 ⊢
    clear c0 f0
    refine (intsGet_any _ (l.drop kn) W (HRD.out.below HS2.out.b)).mono ?_
    rintro e w3 ⟨rfl, rfl⟩
    rw [HSN.out]
    have x1 := HS2.out.x.cellv 1 (.int .u64 (0 : Nat)) rfl
    have f1 := HS2.out.x.free 1
    have HS3 := Lib.hid (HS2.out.setS sn)
    go_wp2_with fail
    refine (took_any _ _ _ kn bn be HS3.out.r (by omega)).mono ?_
    rintro e w4 ⟨rfl, hr, ho⟩
    have HS4 := Lib.hid (HS3.out.only hr ho)
    clear hr ho x1 f1 c1 c2 HS3
    have c2 := HS4.out.r.cellv 2 (.int .i64 be) rfl
    by_cases hB : be = 0
    · subst hB
      have hsn : sn < 18446744073709551616 := (vget_got HSN.out).1
      replace HEG : Hid (eget l = egetF ks sn (kn + bn) (l.drop (kn + bn))) := by
        show _ = _
        rw [HEG.out, egetS_ok HSN.out, List.drop_drop]
      cases hd : l.drop (kn + bn) with
      | nil =>
        have hkl : kn + bn = l.length := by have := congrArg List.length hd; rw [List.length_drop, ← HVN.out] at this; simp at this; rw [← HVN.out]; omega
        have HKL := Lib.hid hkl
        rw [hd] at HEG
        clear hd hkl
        have x2 := HS4.out.x.cellv 2 (.bool false) rfl
        have f2 := HS4.out.x.free 2
        go_wp2_with fail
        refine (byte_nil _ _ _ l _ HS4.out.r (HV.out.below HS4.out.b) (by rw [← HVN.out]; exact hl) HKL.out).mono ?_
        rintro e w5 ⟨rfl, hr, ho⟩
        have HS5 := Lib.hid ((HS4.out.only hr ho).setG false)
        have x2' := (HS4.out.only hr ho).x.cellv 2 (.bool false) rfl
        have f2' := (HS4.out.only hr ho).x.free 2
        clear hr ho x2 f2 c2
        have c2 := HS5.out.r.cellv 2 (.int .i64 (5 : Nat)) rfl
        go_wp2_with fail
        generalize w5.setCell ⟨w.heap.size, 2, none⟩ (.bool false) = W at HS5 c2 ⊢
        have x0 := HS5.out.x.cellv 0 (.string (bs ks)) rfl
        have x1 := HS5.out.x.cellv 1 (.int .u64 (sn : Nat)) rfl
        have x2 := HS5.out.x.cellv 2 (.bool false) rfl
        have x3 := HS5.out.x.cellv 3 (.string ⟨#[]⟩) rfl
        have f0 := HS5.out.x.free 0
        have f1 := HS5.out.x.free 1
        have f2 := HS5.out.x.free 2
        have f3 := HS5.out.x.free 3
        have c2 := HS5.out.r.cellv 2 (.int .i64 (5 : Nat)) rfl
        go_region
        go_wp2
        refine ent_end (St.drewN ((((HS5.out.setK ⟨#[]⟩).setS 0).setG false).setU ⟨#[]⟩) 1) _ _ 0 5 ?_ rfl rfl rfl rfl
        rw [HEG.out]; rfl
      | cons d t =>
        have HD := Lib.hid hd
        rw [hd] at HEG
        clear hd
        by_cases hd1 : 1 < d.toNat
        · replace HEG : Hid (eget l = (Ent.none, 0, 4)) := by
            show _ = _
            rw [HEG.out, egetF_bad _ _ _ _ hd1]
          go_wp2_with fail
          refine (byte_any w _ _ _ l _ HS4.out.r HV.out HS4.out.b (by omega) (by rw [← HVN.out]; exact hl) d t HD.out).mono ?_
          rw [if_pos hd1, if_pos hd1]
          rintro e w5 ⟨rfl, hr, ho⟩
          have hde : ((d.toNat : Int) == 1) = false := by simp; omega
          have HS5 := Lib.hid ((HS4.out.only hr ho).setG false)
          have x2' := (HS4.out.only hr ho).x.cellv 2 (.bool false) rfl
          have f2' := (HS4.out.only hr ho).x.free 2
          clear hr ho c2
          have c2 := HS5.out.r.cellv 2 (.int .i64 (4 : Nat)) rfl
          go_wp2_with fail
          generalize w5.setCell ⟨w.heap.size, 2, none⟩ (.bool false) = W at HS5 c2 ⊢
          have x0 := HS5.out.x.cellv 0 (.string (bs ks)) rfl
          have x1 := HS5.out.x.cellv 1 (.int .u64 (sn : Nat)) rfl
          have x2 := HS5.out.x.cellv 2 (.bool false) rfl
          have x3 := HS5.out.x.cellv 3 (.string ⟨#[]⟩) rfl
          have f0 := HS5.out.x.free 0
          have f1 := HS5.out.x.free 1
          have f2 := HS5.out.x.free 2
          have f3 := HS5.out.x.free 3
          have c2 := HS5.out.r.cellv 2 (.int .i64 (4 : Nat)) rfl
          go_region
          go_wp2
          refine ent_end (St.drewN ((((HS5.out.setK ⟨#[]⟩).setS 0).setG false).setU ⟨#[]⟩) 1) _ _ 0 4 ?_ rfl rfl rfl rfl
          rw [HEG.out]; rfl
        · go_wp2_with fail
          refine (byte_any w _ _ _ l _ HS4.out.r HV.out HS4.out.b (by omega) (by rw [← HVN.out]; exact hl) d t HD.out).mono ?_
          rw [if_neg hd1, if_neg hd1]
          rintro e w5 ⟨rfl, hr, ho⟩
          have hkt : kn + bn + 1 ≤ vn := by have := congrArg List.length HD.out; rw [List.length_drop, ← HVN.out] at this; simp at this; omega
          by_cases hd2 : d.toNat = 1
          · have hde : ((d.toNat : Int) == 1) = true := by simp; omega
            replace HEG : Hid (eget l = (⟨ks, sn, true, []⟩, kn + bn + 1, 0)) := by
              show _ = _
              rw [HEG.out, egetF_gone _ _ _ _ hd2]
            have HS5 := Lib.hid ((HS4.out.only hr ho).setG true)
            have x2' := (HS4.out.only hr ho).x.cellv 2 (.bool false) rfl
            have f2' := (HS4.out.only hr ho).x.free 2
            clear hr ho c2 hd1 hd2
            have c2 := HS5.out.r.cellv 2 (.int .i64 (0 : Nat)) rfl
            have c3 := HS5.out.x.cellv 2 (.bool true) rfl
            go_wp2_with fail
            generalize w5.setCell ⟨w.heap.size, 2, none⟩ (.bool true) = W at HS5 c2 c3 ⊢
            have x0 := HS5.out.x.cellv 0 (.string (bs ks)) rfl
            have x1 := HS5.out.x.cellv 1 (.int .u64 (sn : Nat)) rfl
            have x2 := HS5.out.x.cellv 2 (.bool true) rfl
            have x3 := HS5.out.x.cellv 3 (.string ⟨#[]⟩) rfl
            have f0 := HS5.out.x.free 0
            have f1 := HS5.out.x.free 1
            have f2 := HS5.out.x.free 2
            have f3 := HS5.out.x.free 3
            have c1 := HS5.out.r.cellv 1 (.int .i64 ((kn + bn + 1) : Nat)) rfl
            go_region
            go_wp2
            refine ent_end (St.drewN ((((HS5.out.setK (bs ks)).setS sn).setG true).setU ⟨#[]⟩) 1) _ _ (kn + bn + 1) 0 ?_ rfl rfl rfl rfl
            rw [HEG.out]; rfl
          · have hd0 : d.toNat = 0 := by omega
            have hde : ((d.toNat : Int) == 1) = false := by simp; omega
            have hdt : l.drop (kn + bn + 1) = t := by rw [← List.drop_drop, HD.out]; rfl
            replace HEG : Hid (eget l = egetV ks sn (kn + bn + 1) (l.drop (kn + bn + 1))) := by
              show _ = _
              rw [HEG.out, egetF_val _ _ _ _ hd0, hdt]
            have HS5 := Lib.hid ((HS4.out.only hr ho).setG false)
            have x2' := (HS4.out.only hr ho).x.cellv 2 (.bool false) rfl
            have f2' := (HS4.out.only hr ho).x.free 2
            clear hr ho c2 hd1 hd2 hd0 hdt
            have c2 := HS5.out.r.cellv 2 (.int .i64 (0 : Nat)) rfl
            have c3 := HS5.out.x.cellv 2 (.bool false) rfl
            rcases hu : tget (l.drop (kn + bn + 1)) with ⟨us, un, ue⟩
            have HU := Lib.hid hu
            clear hu
            go_wp2_with fail
            generalize w5.setCell ⟨w.heap.size, 2, none⟩ (.bool false) = W5 at HS5 c2 c3 ⊢
            refine (text_short _ _ _ l _ HS5.out.r (HV.out.below HS5.out.b) (by rw [← HVN.out]; exact hkt) (by rw [← HVN.out]; exact hl) us un ue HU.out).mono ?_
            rintro e w6 ⟨rfl, hr, ho⟩
            obtain ⟨e6, he6⟩ : ∃ e6, e6 = (if ue = 0 then (if us.length ≤ 256 then 0 else 4) else ue) := ⟨_, rfl⟩
            rw [← he6] at hr
            have HE6 := Lib.hid he6
            have HS6 := Lib.hid ((HS5.out.only hr ho).setU (bs us))
            have x3' := (HS5.out.only hr ho).x.cellv 3 (.string ⟨#[]⟩) rfl
            have f3' := (HS5.out.only hr ho).x.free 3
            clear hr ho c2 c3 he6
            by_cases hF : e6 = 0
            · subst hF
              have hue : ue = 0 ∧ us.length ≤ 256 := by
                have h1 := HE6.out
                by_cases hk : ue = 0
                · rw [if_pos hk] at h1
                  by_cases hc : us.length ≤ 256
                  · exact ⟨hk, hc⟩
                  · rw [if_neg hc] at h1; omega
                · rw [if_neg hk] at h1; omega
              obtain ⟨rfl, hus⟩ := hue
              have c2 := HS6.out.r.cellv 2 (.int .i64 (0 : Nat)) rfl
              replace HEG : Hid (eget l = (⟨ks, sn, false, us⟩, kn + bn + 1 + un, 0)) := by
                show _ = _
                rw [HEG.out, egetV_ok HU.out hus]
              go_wp2_with fail
              generalize w6.setCell ⟨w.heap.size, 3, none⟩ (.string (bs us)) = W at HS6 c2 ⊢
              have x0 := HS6.out.x.cellv 0 (.string (bs ks)) rfl
              have x1 := HS6.out.x.cellv 1 (.int .u64 (sn : Nat)) rfl
              have x2 := HS6.out.x.cellv 2 (.bool false) rfl
              have x3 := HS6.out.x.cellv 3 (.string (bs us)) rfl
              have f0 := HS6.out.x.free 0
              have f1 := HS6.out.x.free 1
              have f2 := HS6.out.x.free 2
              have f3 := HS6.out.x.free 3
              have c1 := HS6.out.r.cellv 1 (.int .i64 ((kn + bn + 1 + un) : Nat)) rfl
              go_region
              go_wp2
              refine ent_end (St.drewN ((((HS6.out.setK (bs ks)).setS sn).setG false).setU (bs us)) 1) _ _ (kn + bn + 1 + un) 0 ?_ rfl rfl rfl rfl
              rw [HEG.out]; simp [bs]
            · have hF2 : ((e6 : Int) == 0) = false := by simp; omega
              have hF3 : ((e6 : Int) != 0) = true := by simp; omega
              have c2 := HS6.out.r.cellv 2 (.int .i64 e6) rfl
              replace HEG : Hid (eget l = (Ent.none, 0, e6)) := by
                show _ = _
                rw [HEG.out, egetV_no HU.out (by rw [← HE6.out]; exact hF), ← HE6.out]
              clear hF
              go_wp2_with fail
              generalize w6.setCell ⟨w.heap.size, 3, none⟩ (.string (bs us)) = W at HS6 c2 ⊢
              have x0 := HS6.out.x.cellv 0 (.string (bs ks)) rfl
              have x1 := HS6.out.x.cellv 1 (.int .u64 (sn : Nat)) rfl
              have x2 := HS6.out.x.cellv 2 (.bool false) rfl
              have x3 := HS6.out.x.cellv 3 (.string (bs us)) rfl
              have f0 := HS6.out.x.free 0
              have f1 := HS6.out.x.free 1
              have f2 := HS6.out.x.free 2
              have f3 := HS6.out.x.free 3
              have c2 := HS6.out.r.cellv 2 (.int .i64 (e6 : Nat)) rfl
              go_region
              go_wp2
              refine ent_end (St.drewN ((((HS6.out.setK ⟨#[]⟩).setS 0).setG false).setU ⟨#[]⟩) 1) _ _ 0 e6 ?_ rfl rfl rfl rfl
              rw [HEG.out]; rfl
    · have hB2 : ((be : Int) == 0) = false := by simp; omega
      have hB3 : ((be : Int) != 0) = true := by simp; omega
      replace HEG : Hid (eget l = (Ent.none, 0, be)) := by
        show _ = _
        rw [HEG.out, egetS_no HSN.out hB]
      clear hB
      go_wp2_with fail
      generalize w4 = W at HS4 c2 ⊢
      have x0 := HS4.out.x.cellv 0 (.string (bs ks)) rfl
      have x1 := HS4.out.x.cellv 1 (.int .u64 (sn : Nat)) rfl
      have x2 := HS4.out.x.cellv 2 (.bool false) rfl
      have x3 := HS4.out.x.cellv 3 (.string ⟨#[]⟩) rfl
      have f0 := HS4.out.x.free 0
      have f1 := HS4.out.x.free 1
      have f2 := HS4.out.x.free 2
      have f3 := HS4.out.x.free 3
      have c2 := HS4.out.r.cellv 2 (.int .i64 (be : Nat)) rfl
      go_region
      go_wp2
      refine ent_end (St.drewN ((((HS4.out.setK ⟨#[]⟩).setS 0).setG false).setU ⟨#[]⟩) 1) _ _ 0 be ?_ rfl rfl rfl rfl
      rw [HEG.out]; rfl
  · have hA2 : ((e1 : Int) == 0) = false := by simp; omega
    have hA3 : ((e1 : Int) != 0) = true := by simp; omega
    have HEG : Hid (eget l = (Ent.none, 0, e1)) := by
      show _ = _
      have h1 := HE1.out
      unfold eget
      rw [HT.out]
      simp only
      by_cases hk : ke = 0
      · rw [if_pos hk] at h1 ⊢
        by_cases hc : checkK ks = true
        · rw [if_pos hc] at h1; exact absurd h1 hA
        · rw [if_neg hc] at h1 ⊢; rw [h1]
      · rw [if_neg hk] at h1 ⊢; rw [h1]
    clear hA
    go_wp2_with fail
    generalize w2.setCell ⟨w.heap.size, 0, none⟩ (.string (bs ks)) = W at HS2 c2 ⊢
    have x0 := HS2.out.x.cellv 0 (.string (bs ks)) rfl
    have x1 := HS2.out.x.cellv 1 (.int .u64 (0 : Nat)) rfl
    have x2 := HS2.out.x.cellv 2 (.bool false) rfl
    have x3 := HS2.out.x.cellv 3 (.string ⟨#[]⟩) rfl
    have f0 := HS2.out.x.free 0
    have f1 := HS2.out.x.free 1
    have f2 := HS2.out.x.free 2
    have f3 := HS2.out.x.free 3
    have c2 := HS2.out.r.cellv 2 (.int .i64 (e1 : Nat)) rfl
    go_region
    go_wp2
    refine ent_end (St.drewN ((((HS2.out.setK ⟨#[]⟩).setS 0).setG false).setU ⟨#[]⟩) 1) _ _ 0 e1 ?_ rfl rfl rfl rfl
    rw [HEG.out]; rfl
end Go.Proofs.Ytafgioidneohhaa

/- Walks of blooms.May and of the reference's place and May. The condition: bytes and texts of less than 2^28. -/
import Derived.Test.YtdamfcldkaidjaaBlooms1
namespace Go.Proofs.Ytdamfcldkaidjaa
open Go.RowKit

def bloomMay (b key : List UInt8) : Bool × Nat := if b.length < 9 ∨ b.getD (b.length - 1) 0 ≠ 6 then (false, 4) else (mayAll b key (b.length - 1), 0)
def RetMay (b key : List UInt8) (w : World) (e : Ending) (w' : World) : Prop := e = .returned (.tuple #[.bool (bloomMay b key).1, .int .i64 (bloomMay b key).2]) ∧ Below w.heap.size w w'
theorem ret_may {b key : List UInt8} {w w' : World} {r : Bool} {n : Nat} {x : Bool} {y : Int} (h : bloomMay b key = (r, n)) (h1 : x = r) (h2 : y = n) (h3 : Below w.heap.size w w') : RetMay b key w (.returned (.tuple #[.bool x, .int .i64 y])) w' := by
  subst h1 h2
  exact ⟨by rw [h], h3⟩
theorem neq_six (d : Nat) : ((d : Int) != 6) = decide (d ≠ 6) := by rw [Bool.eq_iff_iff]; simp; omega

set_option maxRecDepth 100000 in
set_option maxHeartbeats 800000 in
theorem may_any (key : ByteArray) (v : Value) (b : List UInt8) (w : World) (hkey : key.size ≤ 268435456) (hb : b.length ≤ 268435456) (hv : Rd w v b) :
    Calls Try.prog 40 #[v, .string key] w (RetMay b key.data.toList w) := by
  have hv0 := hv
  obtain ⟨a, cap, rfl, h1, h2, h3⟩ := hv
  have hvW := hv0.below (w' := w.alloc (.cells #[.slice a b.length cap] 22)) ((Below.refl _ _).alloc (Nat.le_refl _) _)
  have hcW : (w.alloc (.cells #[.slice a b.length cap] 22)).cell? ⟨w.heap.size, 0, none⟩ = some (.slice a b.length cap) := by rw [World.cell?_alloc_at _ _ _ _ rfl]; rfl
  have HW := Lib.hid hvW
  clear hvW hv0
  by_cases h9 : b.length < 9
  · have HM : Hid (bloomMay b key.data.toList = (false, 4)) := if_pos (.inl h9)
    clear h3
    go_enter Try.func40, Try.ntmps40
    go_wp2
    go_ret2
    exact ret_may HM.out rfl rfl ((Below.refl _ _).alloc (Nat.le_refl _) _)
  · obtain ⟨bb, off, rfl, hc⟩ := h3 (b.length - 1) (by omega)
    obtain ⟨d, hd⟩ : ∃ d : Nat, d = (b[b.length - 1]'(by omega)).toNat := ⟨_, rfl⟩
    rw [← hd] at hc
    have hget : b.getD (b.length - 1) 0 = b[b.length - 1]'(by omega) := by rw [List.getD_eq_getElem?_getD, List.getElem?_eq_getElem (by omega)]; rfl
    have hc2 := (Below.keeps ((Below.refl w.heap.size w).alloc (Nat.le_refl _) (.cells #[.slice (some ⟨bb, off, none⟩) b.length cap] 22))) _ _ _ hc
    clear h3 hc
    obtain ⟨n, hn⟩ : ∃ n, n = b.length - 1 := ⟨_, rfl⟩
    have hn1 : n + 1 = b.length := by omega
    by_cases h6 : d = 6
    · have HM : Hid (bloomMay b key.data.toList = (mayAll b key.data.toList n, 0)) := by
        show _ = _
        unfold bloomMay
        rw [if_neg, hn]
        rintro (h | h)
        · omega
        · apply h; rw [hget]; apply UInt8.toNat_inj.1; rw [← hd, h6]; rfl
      have hb6 : ((d : Int) != 6) = false := by rw [neq_six]; simp [h6]
      have H := Lib.hid (eachMay_any key n w.heap.size _ b _ (by omega) (by omega) (by omega) (by omega) hcW HW.out)
      rw [← hn] at hc2
      rw [show ((8 * n : Nat) : Int) = 8 * (n : Int) from by omega] at H
      have e2 : (b.length : Int) - 1 = (n : Int) := by omega
      have hn9 : 8 ≤ n := by omega
      clear hd hget hn h6 hcW
      have HN1 := Lib.hid hn1
      have hnb : n < b.length := by omega
      clear hn1
      go_enter Try.func40, Try.ntmps40
      go_wp2_with fail
      refine H.out.mono ?_
      rintro e w1 ⟨rfl, hbel⟩
      have hfin : Below w.heap.size w w1 := ((Below.refl _ w).alloc (Nat.le_refl _) _).trans (hbel.mono (by simp))
      go_wp2
      go_ret2
      exact ret_may HM.out rfl rfl hfin
    · have HM : Hid (bloomMay b key.data.toList = (false, 4)) := by
        show _ = _
        unfold bloomMay
        rw [if_pos]
        refine .inr fun h => h6 ?_
        rw [hget] at h
        rw [hd, h]; rfl
      have hb6 : ((d : Int) != 6) = true := by rw [neq_six]; simp [h6]
      clear hd hget hn h6
      go_enter Try.func40, Try.ntmps40
      go_wp2
      go_ret2
      exact ret_may HM.out rfl rfl ((Below.refl _ _).alloc (Nat.le_refl _) _)

set_option maxRecDepth 100000 in
set_option maxHeartbeats 800000 in
theorem place_any (key : ByteArray) (i n : Nat) (w : World) (hkey : key.size ≤ 268435456) (hi : i < 6) (hn : 0 < n) (hn2 : 8 * n < 4294967296) :
    Calls Try.prog 86 #[.string key, .int .i64 i, .int .i64 (8 * (n : Int))] w fun e w' => e = .returned (.int .i64 ((placeN key.data.toList (8 * n) i : Nat) : Int)) ∧ Below w.heap.size w w' := by
  obtain ⟨x, hx⟩ : ∃ x, x = crcOn 0 key.data.toList := ⟨_, rfl⟩
  obtain ⟨y, hy⟩ : ∃ y, y = crcOn 0 (key.data.toList ++ [1]) := ⟨_, rfl⟩
  have hxl : x < 4294967296 := by rw [hx]; exact crcOn_lt _ _
  have hyl : y < 4294967296 := by rw [hy]; exact crcOn_lt _ _
  have HX := Lib.hid hx
  have HY := Lib.hid hy
  have HP : Hid (placeN key.data.toList (8 * n) i = (x + i * y) % 4294967296 % (8 * n)) := by
    show _ = _
    rw [hx, hy, ← crcOn_more]; rfl
  clear hx hy
  go_enter Try.func86, Try.ntmps86
  go_wp2_with (with_reducible refine wp_bytes rfl _ rfl key rfl (by omega) ?_; intro vb w1 hown1 hbel1)
  obtain ⟨hsz1, hrd1⟩ := rd_of_own hown1
  have HS := Lib.hid hsz1
  clear hsz1
  refine (refOwn_any vb _ _ hrd1).mono ?_
  rintro e w2 ⟨rfl, hbel2⟩
  have hb2 : Below w.heap.size w w2 := hbel1.trans (hbel2.mono hbel1.size)
  rw [← HX.out]
  clear hown1 hrd1 hbel1 hbel2
  go_wp2_with (first | (with_reducible refine wp_bytes rfl _ rfl key rfl (by omega) ?_; intro vc w3 hown3 hbel3) | (at_builtin; go_loud (refine wp_app rfl _ _ rfl w2.heap.size key.size 1 _ _ key.data.toList [1] rfl rfl (own_below hown3 ((Below.refl _ _).alloc (Nat.le_refl _) _)) (rd_lit1 w3 _) rfl (by omega) (Nat.le_trans hbel3.size (by simp)) ?_); intro vd w4 hown4 _ hbel4))
  obtain ⟨hsz4, hrd4⟩ := rd_of_own hown4
  have hb3 : Below w.heap.size w (w3.alloc (.cells #[.int .u8 1] 5)) := (hb2.trans (hbel3.mono hb2.size)).alloc (Nat.le_trans hb2.size hbel3.size) _
  have hb4 : Below w.heap.size w w4 := hb3.trans (hbel4.mono hb2.size)
  clear hsz4 hown4 hbel4 hb3 hbel3 hown3
  refine (refOwn_any vd _ _ hrd4).mono ?_
  rintro e w5 ⟨rfl, hbel5⟩
  have hb5 : Below w.heap.size w w5 := hb4.trans (hbel5.mono hb4.size)
  rw [← HY.out]
  clear hb4 hbel5 hrd4 hb2
  have HB := Lib.hid hb5
  clear hb5
  go_wp2
  go_ret
  refine ⟨ret_int ?_, HB.out⟩
  rw [HP.out]
  have hp : (x + i * y) % 4294967296 % (8 * n) < 8 * n := Nat.mod_lt _ (by omega)
  generalize hz : (x + i * y) % 4294967296 % (8 * n) = p at hp
  have e : ((x : Int) + (i : Int) * (y : Int)) % 4294967296 % (8 * (n : Int)) = (p : Int) := by rw [← hz]; simp
  rw [e]
  exact IntWalk.wrap64_in _ ⟨by omega, by omega⟩

set_option maxRecDepth 100000 in
set_option maxHeartbeats 1600000 in
theorem refMay_any (key : ByteArray) (v : Value) (b : List UInt8) (w : World) (hkey : key.size ≤ 268435456) (hb : b.length ≤ 268435456) (hv : Rd w v b) :
    Calls Try.prog 41 #[v, .string key] w (RetMay b key.data.toList w) := by
  have hv0 := hv
  obtain ⟨a, cap, rfl, h1, h2, h3⟩ := hv
  have HV := Lib.hid hv0
  clear hv0
  by_cases h9 : b.length < 9
  · have HM : Hid (bloomMay b key.data.toList = (false, 4)) := if_pos (.inl h9)
    clear h3
    go_enter Try.func41, Try.ntmps41
    go_wp2
    go_ret2
    exact ret_may HM.out rfl rfl (Below.refl _ _)
  · obtain ⟨bb, off, rfl, hc⟩ := h3 (b.length - 1) (by omega)
    obtain ⟨d, hd⟩ : ∃ d : Nat, d = (b[b.length - 1]'(by omega)).toNat := ⟨_, rfl⟩
    rw [← hd] at hc
    have hget : b.getD (b.length - 1) 0 = b[b.length - 1]'(by omega) := by rw [List.getD_eq_getElem?_getD, List.getElem?_eq_getElem (by omega)]; rfl
    have HC := Lib.hid h3
    clear h3
    obtain ⟨n, hn⟩ : ∃ n, n = b.length - 1 := ⟨_, rfl⟩
    have hn1 : n + 1 = b.length := by omega
    by_cases h6 : d = 6
    · have HM : Hid (bloomMay b key.data.toList = (mayAll b key.data.toList n, 0)) := by
        show _ = _
        unfold bloomMay
        rw [if_neg, hn]
        rintro (h | h)
        · omega
        · apply h; rw [hget]; apply UInt8.toNat_inj.1; rw [← hd, h6]; rfl
      have hb6 : ((d : Int) != 6) = false := by rw [neq_six]; simp [h6]
      rw [← hn] at hc
      have e2 : (b.length : Int) - 1 = (n : Int) := by omega
      have hn9 : 8 ≤ n := by omega
      clear hd hget hn h6
      have HN1 := Lib.hid hn1
      have hnb : n < b.length := by omega
      clear hn1
      go_enter Try.func41, Try.ntmps41
      go_wp2
      clear hc hb6
      go_loopw [6, 7] (fun c _ wr => ∃ k : Nat, k ≤ 6 ∧ c = .int .i64 k ∧ Hid (((List.range k).all fun i => bitAt b (placeN key.data.toList (8 * n) i)) = true) ∧ Below w.heap.size w wr) (fun c _ _ => (6 - intOf c).toNat)
      case atStart => exact ⟨0, by omega, rfl, rfl, Below.refl _ _⟩
      case round =>
        obtain ⟨k, hk, rfl, HK, hbel⟩ := hrel
        by_cases hlt : k < 6
        · have HB := Lib.hid hbel
          clear hbel
          go_wp2_with fail
          refine (place_any key k n _ hkey hlt (by omega) (by omega)).mono ?_
          rintro e w1 ⟨rfl, hbel1⟩
          have hb2 := HB.out.trans (hbel1.mono HB.out.size)
          have hpl := placeN_lt key.data.toList (8 * n) k (by omega)
          obtain ⟨p, hp⟩ : ∃ p, p = placeN key.data.toList (8 * n) k := ⟨_, rfl⟩
          have HP := Lib.hid hp
          rw [← hp] at hpl ⊢
          clear hp HB hbel1
          have hp8 : p / 8 < b.length := by omega
          obtain ⟨bb', off', e1, hcell⟩ := HC.out (p / 8) hp8
          cases e1
          have hcell2 := Below.keeps hb2 _ _ _ hcell
          clear hcell
          obtain ⟨d2, hd2⟩ : ∃ d2 : Nat, d2 = b[p / 8].toNat := ⟨_, rfl⟩
          have hd256 : d2 < 256 := by rw [hd2]; exact UInt8.toNat_lt _
          have HBIT : Hid (bitAt b p = (d2 / 2 ^ (p % 8) % 2 == 1)) := by
            show _ = _
            unfold bitAt
            rw [hd2, List.getD_eq_getElem?_getD, List.getElem?_eq_getElem hp8]; rfl
          rw [← hd2] at hcell2
          clear hd2
          obtain ⟨q, hq⟩ : ∃ q, q = p / 8 := ⟨_, rfl⟩
          obtain ⟨r, hr⟩ : ∃ r, r = p % 8 := ⟨_, rfl⟩
          have hr8 : r < 8 := by omega
          have w1e : IntKind.i64.wrap ((p : Int) / 8) = (q : Int) := by rw [IntWalk.i64_in _ (by omega)]; omega
          have w2e : IntKind.i64.wrap ((p : Int).tmod 8) = (r : Int) := by rw [Int.tmod_eq_emod_of_nonneg (by omega), IntWalk.i64_in _ (by omega)]; omega
          have w3e : (p : Int).tmod 8 = (r : Int) := by rw [Int.tmod_eq_emod_of_nonneg (by omega)]; omega
          have w4e : (p : Int) % 8 = (r : Int) := by omega
          rw [← hq] at hcell2 hp8
          rw [← hr] at HBIT
          have hq0 : (0 : Int) ≤ (q : Int) := by omega
          have hql : (q : Int) < (b.length : Int) := by omega
          have HQ := Lib.hid hq
          have HR := Lib.hid hr
          clear hq hr
          obtain ⟨m, hm⟩ : ∃ m, m = 2 ^ r := ⟨_, rfl⟩
          have hm1 : 1 ≤ m := by rw [hm]; exact Nat.one_le_two_pow
          have hm128 : m ≤ 128 := by rw [hm]; exact Nat.pow_le_pow_right (n := 2) (by omega) (show r ≤ 7 by omega)
          have w5e : IntKind.u8.wrap (2 ^ r) = (m : Int) := by
            rw [show ((2 : Int) ^ r) = ((2 ^ r : Nat) : Int) from by simp, ← hm, IntKind.wrap_u8]; omega
          have hm0 : ((m : Int) == 0) = false := by rw [beq_eq_false_iff_ne]; omega
          have hm00 : ¬ (m : Int) = 0 := by omega
          obtain ⟨t, ht⟩ : ∃ t, t = d2 / m := ⟨_, rfl⟩
          have ht256 : t < 256 := by rw [ht]; exact Nat.lt_of_le_of_lt (Nat.div_le_self _ _) hd256
          have w6e : (d2 : Int).tdiv (m : Int) = (t : Int) := by rw [ht]; simp
          have w7e : (d2 : Int) / (m : Int) = (t : Int) := by rw [ht]; simp
          rw [← hm, ← ht] at HBIT
          have HM2 := Lib.hid hm
          have HT := Lib.hid ht
          clear hm ht
          have HB := Lib.hid hb2
          clear hb2
          rcases Nat.mod_two_eq_zero_or_one t with ht2 | ht2
          · have w8e : (t : Int).tmod 2 = 0 := by rw [Int.tmod_eq_emod_of_nonneg (by omega)]; omega
            have w9e : (t : Int) % 2 = 0 := by omega
            have HF : Hid (mayAll b key.data.toList n = false) := all_no _ k 6 hlt (by simp only [← HP.out, HBIT.out, ht2]; rfl)
            clear ht2
            go_wp2
            go_quiet (fail)
            go_wp2
            go_ret2
            exact ret_may HM.out HF.out.symm rfl (HB.out.trans ((drewN_below _ _).mono HB.out.size))
          · have w8e : (t : Int).tmod 2 = 1 := by rw [Int.tmod_eq_emod_of_nonneg (by omega)]; omega
            have w9e : (t : Int) % 2 = 1 := by omega
            have HF := Lib.hid (all_next _ k HK.out (by simp only [← HP.out, HBIT.out, ht2]; rfl))
            clear ht2
            go_wp2
            go_quiet (fail)
            go_wp2
            refine ⟨⟨k + 1, by omega, by go_num, HF, HB.out.trans ((drewN_below _ _).mono HB.out.size)⟩, by simp [intOf]; omega⟩
        · obtain rfl : k = 6 := by omega
          go_wp2
          go_ret2
          exact ret_may HM.out HK.out.symm rfl hbel
    · have HM : Hid (bloomMay b key.data.toList = (false, 4)) := by
        show _ = _
        unfold bloomMay
        rw [if_pos]
        refine .inr fun h => h6 ?_
        rw [hget] at h
        rw [hd, h]; rfl
      have hb6 : ((d : Int) != 6) = true := by rw [neq_six]; simp [h6]
      clear hd hget hn h6
      go_enter Try.func41, Try.ntmps41
      go_wp2
      go_ret2
      exact ret_may HM.out rfl rfl (Below.refl _ _)
end Go.Proofs.Ytdamfcldkaidjaa

/- Walk of bucketlineref09.Put. The condition: texts of 2^28 bytes at most, 1000000 of them. -/
import Derived.Test.YtbcnapkbdbefhaaGreatDoorBloomsA
import Derived.Test.YtbcnapkbdbefhaaGreatDoorMemB
import Derived.Deep.RegionHeld3
import Derived.Deep.Cut
namespace Go.Proofs.YtbcnapkbdbefhaaGreatDoor
open Go.RowKit

theorem setBit_app (b : List UInt8) (c : UInt8) (p : Nat) (h : p / 8 < b.length) : setBit (b ++ [c]) p = setBit b p ++ [c] := by
  unfold setBit
  rw [List.set_append_left _ _ h, List.getD_eq_getElem?_getD, List.getElem?_append_left h, ← List.getD_eq_getElem?_getD]
theorem putBits_app1 (b key : List UInt8) (c : UInt8) (n k : Nat) (hn : 0 < n) (hb : n ≤ b.length) : putBits (b ++ [c]) key n k = putBits b key n k ++ [c] := by
  induction k with
  | zero => rfl
  | succ k ih =>
    have hp := placeN_lt key (8 * n) k (by omega)
    rw [putBits, putBits, ih, setBit_app _ _ _ (by rw [putBits_length]; omega)]
theorem putKeys_app1 (c : UInt8) (n : Nat) (hn : 0 < n) : ∀ (l : List (List UInt8)) (b : List UInt8), n ≤ b.length → putKeys (b ++ [c]) n l = putKeys b n l ++ [c]
  | [], b, _ => rfl
  | k :: l, b, hb => by rw [putKeys, putKeys, putBits_app1 _ _ _ _ _ hn hb, putKeys_app1 c n hn l _ (by simpa using hb)]
theorem or_add : ∀ d, d < 256 → ∀ r, r < 8 → (d / 2 ^ r % 2 = 0 → d ||| 2 ^ r = d + 2 ^ r) ∧ (d / 2 ^ r % 2 = 1 → d ||| 2 ^ r = d) := by decide +kernel
theorem setBit_yes (b : List UInt8) (p : Nat) (hp : p / 8 < b.length) (h : b[p / 8].toNat / 2 ^ (p % 8) % 2 = 1) : setBit b p = b := by
  unfold setBit
  rw [List.getD_eq_getElem?_getD, List.getElem?_eq_getElem hp, Option.getD_some, ((or_add _ (UInt8.toNat_lt _) _ (by omega)).2 h)]
  rw [show UInt8.ofNat b[p / 8].toNat = b[p / 8] from UInt8.ofNat_toNat]
  exact List.set_getElem_self hp
theorem setBit_no (b : List UInt8) (p : Nat) (hp : p / 8 < b.length) (h : b[p / 8].toNat / 2 ^ (p % 8) % 2 = 0) : b[p / 8].toNat + 2 ^ (p % 8) < 256 ∧ setBit b p = b.set (p / 8) (UInt8.ofNat (b[p / 8].toNat + 2 ^ (p % 8))) := by
  have h1 := (or_add _ (UInt8.toNat_lt b[p / 8]) (p % 8) (by omega)).1 h
  refine ⟨by rw [← h1]; exact or_bit_lt _ _ (by omega), ?_⟩
  unfold setBit
  rw [List.getD_eq_getElem?_getD, List.getElem?_eq_getElem hp, Option.getD_some, h1]
theorem madeZerosN (n : Nat) : madeCells #[Value.int .u8 0] n = (u8s (List.replicate n 0)).toArray := madeZeros n
set_option maxRecDepth 100000 in
set_option maxHeartbeats 4000000 in
theorem refBloom_any (w : World) (v : Value) (l : List ByteArray) (hv : RdT w v l) (hl : l.length ≤ 1000000) (hs : ∀ s ∈ l, s.size ≤ 268435456) :
    Calls Tryz.prog 87 #[v] w (RetMy (bloomPut (l.map fun s => s.data.toList)) w) := by
  have HV := Lib.hid hv
  have HS := Lib.hid hs
  clear hs
  obtain ⟨va, vc, rfl, h1, h2, h3⟩ := hv
  clear h3
  obtain ⟨vn, hvn⟩ : ∃ n, n = l.length := ⟨_, rfl⟩
  have HVN := Lib.hid hvn
  rw [← hvn] at h1 HV hl ⊢
  clear hvn
  obtain ⟨n, hn⟩ : ∃ n, n = bloomN vn := ⟨_, rfl⟩
  have hn8 : 8 ≤ n := by rw [hn]; exact bloomN_pos vn
  have hnb : n ≤ 1310728 := by rw [hn]; unfold bloomN; omega
  have HN := Lib.hid hn
  clear hn
  obtain ⟨i0, hi, hz, hz1, hz2⟩ := info_parts info_u8
  have hmk := fun (w : World) => run_make (P := Tryz.prog) w 22 5 i0 (.int .u8 0) Tryz.underlying22 hi hz .i64 .i64 (n : Int) (n : Int) (by omega) (by omega) (by rw [hz2]; omega) (by omega)
  have e1 : ((n : Int)).toNat = n := by omega
  rw [e1, hz1, Nat.mul_one] at hmk
  have e2 : madeCells (Value.int IntKind.u8 0).cells n = (u8s (List.replicate n 0)).toArray := madeZeros _
  rw [e2] at hmk
  have HMK := Lib.hid hmk
  clear e1 e2 hmk
  go_enter Tryz.func87, Tryz.ntmps87
  go_upto_region 1 with (fail)
  go_cut [3] from 8 (fun s3 w' => s3 = .int .i64 (n : Int) ∧ w = w')
  case first =>
    have hwr : IntKind.i64.wrap (10 * (vn : Int)) = 10 * (vn : Int) := IntWalk.i64_in _ (by omega)
    go_wp2
    all_goals
      go_meet
      case rel =>
        refine ⟨?_, rfl⟩
        have := HN.out
        unfold bloomN at this
        first | (congr 1; omega) | (simp; omega)
  case rest =>
    obtain ⟨rfl, rfl⟩ := hcut
    have hmk := HMK.out
    go_upto_region 3 with (fail)
    obtain ⟨W, hW⟩ : ∃ W, W = w.alloc (.cells (u8s (List.replicate n 0)).toArray 5) := ⟨_, rfl⟩
    have hg : Blk W w.heap.size (u8s (List.replicate n 0)).toArray 5 := by rw [hW]; exact Blk.new _ _ _
    have hbel : Below w.heap.size w W := by rw [hW]; exact (Below.refl _ _).alloc (Nat.le_refl _) _
    rw [← hW]
    clear hW hmk HMK
    obtain ⟨g, hgg⟩ : ∃ g, g = w.heap.size := ⟨_, rfl⟩
    rw [← hgg] at hg ⊢
    have HGG := Lib.hid hgg
    have HG0 := Lib.hid hg
    have HB0 := Lib.hid hbel
    clear hgg hg hbel
    go_upto_region 4 with (fail)
    try show Code.wp _ _ _ _ _
    go_loopw [5] (fun iv wr => ∃ k : Nat, k ≤ vn ∧ iv = .int .i64 k ∧ Hid (Blk wr g (u8s (putKeys (List.replicate n 0) n ((l.take k).map fun s => s.data.toList))).toArray 5) ∧ Hid (Below w.heap.size w wr)) (fun iv _ => vn - (intOf iv).toNat)
    case atStart => exact ⟨0, Nat.zero_le _, rfl, HG0, HB0⟩
    case round =>
      obtain ⟨k, hk, rfl, HK, HR⟩ := hrel
      by_cases hlt : k < vn
      · have hkl : k < l.length := by rw [← HVN.out]; exact hlt
        have hks := HS.out _ (List.getElem_mem (l := l) (n := k) hkl)
        have hkx : ∃ b off, va = some ⟨b, off, none⟩ := by
          obtain ⟨a', c', hve, _, _, hcell⟩ := HV.out
          obtain ⟨b, off, hae, _⟩ := hcell k hkl
          simp only [Value.slice.injEq] at hve
          exact ⟨b, off, by rw [hve.1, hae]⟩
        obtain ⟨b, off, rfl⟩ := hkx
        have HX : Hid (∀ w', Below w.heap.size w w' → w'.cell? ⟨b, off + k, none⟩ = some (.string l[k])) := Lib.hid fun w' hb => by
          obtain ⟨a', c', hve, _, _, hcell⟩ := HV.out.below hb
          obtain ⟨b', off', hae, hc⟩ := hcell k hkl
          simp only [Value.slice.injEq] at hve
          rw [hae] at hve
          simp only [Option.some.injEq, Addr.mk.injEq, and_true] at hve
          obtain ⟨⟨rfl, rfl⟩, _⟩ := hve
          exact hc
        have htk : (l.take (k + 1)).map (fun s => s.data.toList) = (l.take k).map (fun s => s.data.toList) ++ [l[k].data.toList] := by rw [List.take_succ_eq_append_getElem hkl, List.map_append]; rfl
        have HN2 : Hid (putKeys (List.replicate n 0) n ((l.take (k + 1)).map fun s => s.data.toList) = putBits (putKeys (List.replicate n 0) n ((l.take k).map fun s => s.data.toList)) l[k].data.toList n 6) := Lib.hid (by
          rw [htk, putKeys_app]; rfl)
        have HLB : Hid ((putKeys (List.replicate n 0) n ((l.take k).map fun s => s.data.toList)).length = n) := Lib.hid (by simp)
        generalize putKeys (List.replicate n 0) n ((l.take k).map fun s => s.data.toList) = B at HK HN2 HLB
        obtain ⟨x, hx⟩ : ∃ x, x = l[k] := ⟨_, rfl⟩
        rw [← hx] at HX hks HN2
        clear hx htk
        obtain ⟨wo, hwo⟩ : ∃ z, z = wr := ⟨_, rfl⟩
        subst hwo
        go_upto_region 7 with (fail)
        try show Code.wp _ _ _ _ _
        go_loopw [6] (fun iv wr => ∃ i : Nat, i ≤ 6 ∧ iv = .int .i64 i ∧ Hid (Blk wr g (u8s (putBits B x.data.toList n i)).toArray 5) ∧ Hid (Below w.heap.size w wr)) (fun iv _ => 6 - (intOf iv).toNat)
        case atStart => exact ⟨0, Nat.zero_le _, rfl, HK, HR⟩
        case round =>
          clear HK HR
          obtain ⟨i, hi6, rfl, HK, HR⟩ := hrel
          by_cases hlt6 : i < 6
          · have x0 := HX.out wr HR.out
            have HPL := Lib.hid (place_any x i n wr hks hlt6 (by omega) (by omega))
            have hpl := placeN_lt x.data.toList (8 * n) i (by omega)
            have HSB : Hid (putBits B x.data.toList n (i + 1) = setBit (putBits B x.data.toList n i) (placeN x.data.toList (8 * n) i)) := Lib.hid rfl
            obtain ⟨p, hp⟩ : ∃ p, p = placeN x.data.toList (8 * n) i := ⟨_, rfl⟩
            rw [← hp] at hpl HPL HSB
            clear hp
            have HLC : Hid ((putBits B x.data.toList n i).length = n) := Lib.hid (by rw [putBits_length]; exact HLB.out)
            generalize putBits B x.data.toList n i = Q at HK HSB HLC
            have hp8 : p / 8 < Q.length := by rw [HLC.out]; omega
            go_wp2_with fail
            refine HPL.out.mono ?_
            rintro e w1 ⟨rfl, b1⟩
            have HR1 := Lib.hid (HR.out.trans (b1.mono HR.out.size))
            have HK1 := Lib.hid (HK.out.below b1)
            clear b1 x0 HPL HK HR
            obtain ⟨d, hd⟩ : ∃ d : Nat, d = Q[p / 8].toNat := ⟨_, rfl⟩
            have HD := Lib.hid hd
            have hd256 : d < 256 := by rw [hd]; exact UInt8.toNat_lt _
            have hc0 : w1.cell? ⟨g, p / 8, none⟩ = some (.int .u8 d) := by
              rw [hd]
              exact HK1.out.cellv (p / 8) _ (u8s_get Q (p / 8) hp8)
            clear hd
            have HCA : Hid (∀ w', Blk w' g (u8s Q).toArray 5 → w'.cell? ⟨g, p / 8, none⟩ = some (.int .u8 d)) := Lib.hid fun w' h => by
              rw [HD.out]
              exact h.cellv (p / 8) _ (u8s_get Q (p / 8) hp8)
            obtain ⟨q, hq⟩ : ∃ q, q = p / 8 := ⟨_, rfl⟩
            obtain ⟨r, hr⟩ : ∃ r, r = p % 8 := ⟨_, rfl⟩
            have hr8 : r < 8 := by omega
            have w1e : IntKind.i64.wrap ((p : Int) / 8) = (q : Int) := by rw [IntWalk.i64_in _ (by omega)]; omega
            have w1f : (p : Int) / 8 = (q : Int) := by omega
            have w2e : IntKind.i64.wrap ((p : Int).tmod 8) = (r : Int) := by rw [Int.tmod_eq_emod_of_nonneg (by omega), IntWalk.i64_in _ (by omega)]; omega
            have w3e : (p : Int).tmod 8 = (r : Int) := by rw [Int.tmod_eq_emod_of_nonneg (by omega)]; omega
            have w4e : (p : Int) % 8 = (r : Int) := by omega
            have w0e : IntKind.i64.wrap (q : Int) = (q : Int) := IntWalk.i64_in _ (by omega)
            have w00e : IntKind.i64.wrap (r : Int) = (r : Int) := IntWalk.i64_in _ (by omega)
            rw [← hq] at hc0 HCA
            have hq0 : (0 : Int) ≤ (q : Int) := by omega
            have hql : (q : Int) < (n : Int) := by omega
            have HQ := Lib.hid hq
            have HR8 := Lib.hid hr
            clear hq hr
            obtain ⟨m, hm⟩ : ∃ m, m = 2 ^ r := ⟨_, rfl⟩
            have hm1 : 1 ≤ m := by rw [hm]; exact Nat.one_le_two_pow
            have hm128 : m ≤ 128 := by rw [hm]; exact Nat.pow_le_pow_right (n := 2) (by omega) (show r ≤ 7 by omega)
            have w5e : IntKind.u8.wrap (2 ^ r) = (m : Int) := by
              rw [show ((2 : Int) ^ r) = ((2 ^ r : Nat) : Int) from by simp, ← hm, IntKind.wrap_u8]; omega
            have hm0 : ((m : Int) == 0) = false := by rw [beq_eq_false_iff_ne]; omega
            have hm00 : ¬ (m : Int) = 0 := by omega
            obtain ⟨t, ht⟩ : ∃ t, t = d / m := ⟨_, rfl⟩
            have ht256 : t < 256 := by rw [ht]; exact Nat.lt_of_le_of_lt (Nat.div_le_self _ _) hd256
            have w6e : (d : Int).tdiv (m : Int) = (t : Int) := by rw [ht]; simp
            have w7e : (d : Int) / (m : Int) = (t : Int) := by rw [ht]; simp
            have HM2 := Lib.hid hm
            have HT := Lib.hid ht
            clear hm ht
            rcases Nat.mod_two_eq_zero_or_one t with ht2 | ht2
            · have w8e : (t : Int).tmod 2 = 0 := by rw [Int.tmod_eq_emod_of_nonneg (by omega)]; omega
              have w9e : (t : Int) % 2 = 0 := by omega
              have hno := setBit_no Q p hp8 (by rw [← HD.out, ← HR8.out, ← HM2.out, ← HT.out]; exact ht2)
              rw [← HD.out, ← HR8.out, ← HM2.out, ← HQ.out] at hno
              obtain ⟨dm, hdm⟩ : ∃ z, z = d + m := ⟨_, rfl⟩
              rw [← hdm] at hno
              have w10 : (d : Int) + (m : Int) = (dm : Int) := by omega
              have w11 : IntKind.u8.wrap (dm : Int) = (dm : Int) := IntWalk.u8_in _ (by have := hno.1; omega)
              have hdm2 : dm < 256 := hno.1
              have HSQ := Lib.hid hno.2
              clear ht2 hno hdm
              go_upto_region 10 with (fail)
              go_quiet (fail)
              have HKq := Lib.hid (HK1.out.drewN nq)
              have HRq := Lib.hid (HR1.out.trans ((drewN_below w1 nq).mono HR1.out.size))
              go_upto_region 11 with (fail)
              generalize w1.drewN nq = wq at HKq HRq ⊢
              have cq : wq.cell? ⟨g, q, none⟩ = some (.int .u8 d) := HCA.out wq HKq.out
              have cqd : wq.drew.cell? ⟨g, q, none⟩ = some (.int .u8 d) := cq
              have fq : wq.frozen? ⟨g, q, none⟩ = false := HKq.out.free q
              have HBN : Hid (Blk (wq.setCell ⟨g, q, none⟩ (.int .u8 (dm : Int))).drew g (u8s (setBit Q p)).toArray 5) := Lib.hid (by
                have h := HKq.out.set q (.int .u8 (dm : Int))
                have h2 := u8s_set Q q (UInt8.ofNat dm)
                rw [show (UInt8.ofNat dm).toNat = dm from by rw [UInt8.toNat_ofNat']; omega] at h2
                rw [h2, ← HSQ.out] at h
                exact h)
              have HRN : Hid (Below w.heap.size w (wq.setCell ⟨g, q, none⟩ (.int .u8 (dm : Int))).drew) := Lib.hid (HRq.out.setCell (p := ⟨g, q, none⟩) (by show w.heap.size ≤ g; rw [HGG.out]; exact Nat.le_refl _) _).drew
              clear hc0
              refine wp_region_held_drew (S := fun _ => True) (by kernel_rfl) (trivial) (fun hHeld => ?_)
              refine wpAnyH_take (i := 0) (v := ?vq1) (by simp only [List.getElem?_toArray]; rfl) (by kernel_rfl) (by kernel_rfl) (by kernel_rfl) (by exact fun _ _ _ h => h) (Or.inl ⟨by rfl, ?yq1⟩) (by assumption) ?rq1
              case yq1 => (intro w hSw; (try dsimp only at hSw); go_simp; try with_reducible rfl)
              try simp only [Act.put, List.setIfInBounds_toArray, List.set_cons_zero, List.set_cons_succ]
              refine wpAnyH_take (i := 1) (v := ?vq2) (by simp only [List.getElem?_toArray]; rfl) (by kernel_rfl) (by kernel_rfl) (by kernel_rfl) (by exact fun _ _ _ h => h) (Or.inl ⟨by rfl, ?yq2⟩) (by assumption) ?rq2
              case yq2 => (intro w hSw; (try dsimp only at hSw); go_simp; try with_reducible rfl)
              try simp only [Act.put, List.setIfInBounds_toArray, List.set_cons_zero, List.set_cons_succ]
              refine wpAnyH_take (i := 2) (v := ?vq3) (by simp only [List.getElem?_toArray]; rfl) (by kernel_rfl) (by kernel_rfl) (by kernel_rfl) (by exact fun _ _ _ h => h) (Or.inl ⟨by rfl, ?yq3⟩) (by assumption) ?rq3
              case yq3 => (intro w hSw; (try dsimp only at hSw); go_simp; try with_reducible rfl)
              try simp only [Act.put, List.setIfInBounds_toArray, List.set_cons_zero, List.set_cons_succ]
              refine wpAnyH_take (i := 3) (v := ?vq4) (by simp only [List.getElem?_toArray]; rfl) (by kernel_rfl) (by kernel_rfl) (by kernel_rfl) (by exact fun _ _ _ h => h) (Or.inl ⟨by rfl, ?yq4⟩) (by assumption) ?rq4
              case yq4 => (intro w hSw; (try dsimp only at hSw); go_simp; try with_reducible rfl)
              try simp only [Act.put, List.setIfInBounds_toArray, List.set_cons_zero, List.set_cons_succ]
              refine wpAnyH_take (i := 4) (v := ?vq5) (by simp only [List.getElem?_toArray]; rfl) (by kernel_rfl) (by kernel_rfl) (by kernel_rfl) (by exact fun _ _ _ h => h) (Or.inl ⟨by rfl, ?yq5⟩) (by assumption) ?rq5
              case yq5 => (intro w hSw; (try dsimp only at hSw); go_simp; try with_reducible rfl)
              try simp only [Act.put, List.setIfInBounds_toArray, List.set_cons_zero, List.set_cons_succ]
              refine wpAnyH_take (i := 5) (v := ?vq6) (by simp only [List.getElem?_toArray]; rfl) (by kernel_rfl) (by kernel_rfl) (by kernel_rfl) (by exact fun _ _ _ h => h) (Or.inl ⟨by rfl, ?yq6⟩) (by assumption) ?rq6
              case yq6 => (intro w hSw; (try dsimp only at hSw); go_simp; try with_reducible rfl)
              try simp only [Act.put, List.setIfInBounds_toArray, List.set_cons_zero, List.set_cons_succ]
              refine wpAnyH_take (i := 6) (v := ?vq7) (by simp only [List.getElem?_toArray]; rfl) (by kernel_rfl) (by kernel_rfl) (by kernel_rfl) (by exact fun _ _ _ h => h) (Or.inl ⟨by rfl, ?yq7⟩) (by assumption) ?rq7
              case yq7 => (intro w hSw; (try dsimp only at hSw); go_simp; try with_reducible rfl)
              try simp only [Act.put, List.setIfInBounds_toArray, List.set_cons_zero, List.set_cons_succ]
              refine wpAnyH_take (i := 8) (v := ?vq8) (by simp only [List.getElem?_toArray]; rfl) (by kernel_rfl) (by kernel_rfl) (by kernel_rfl) (by exact fun _ _ _ h => h) (Or.inl ⟨by rfl, ?yq8⟩) (by assumption) ?rq8
              case yq8 => (intro w hSw; (try dsimp only at hSw); go_simp; try with_reducible rfl)
              try simp only [Act.put, List.setIfInBounds_toArray, List.set_cons_zero, List.set_cons_succ]
              refine wpAnyH_take (i := 9) (v := ?vq9) (by simp only [List.getElem?_toArray]; rfl) (by kernel_rfl) (by kernel_rfl) (by kernel_rfl) (by exact fun _ _ _ h => h) (Or.inl ⟨by rfl, ?yq9⟩) (by assumption) ?rq9
              case yq9 => (intro w hSw; (try dsimp only at hSw); go_simp; try with_reducible rfl)
              try simp only [Act.put, List.setIfInBounds_toArray, List.set_cons_zero, List.set_cons_succ]
              refine wpAnyH_take (i := 10) (v := ?vq10) (by simp only [List.getElem?_toArray]; rfl) (by kernel_rfl) (by kernel_rfl) (by kernel_rfl) (by exact fun _ _ _ h => h) (Or.inl ⟨by rfl, ?yq10⟩) (by assumption) ?rq10
              case yq10 => (intro w hSw; (try dsimp only at hSw); go_simp; try with_reducible rfl)
              try simp only [Act.put, List.setIfInBounds_toArray, List.set_cons_zero, List.set_cons_succ]
              refine wpAnyH_ready (rs := [7]) (by kernel_rfl) (by simp) ?_
              refine AllReadyH.cons (by simp only [List.getElem?_toArray]; rfl) (fun K hK => ?_) AllReadyH.nil
              go_simp
              refine hK.out _ _ (trivial) (fun hHeld => ?_)
              clear hK K
              try simp only [Act.put, List.setIfInBounds_toArray, List.set_cons_zero, List.set_cons_succ]
              refine wpAnyH_take (i := 11) (v := ?vq11) (by simp only [List.getElem?_toArray]; rfl) (by kernel_rfl) (by kernel_rfl) (by kernel_rfl) (by exact fun _ _ _ h => h) (Or.inl ⟨by rfl, ?yq11⟩) (by assumption) ?rq11
              case yq11 => (intro w hSw; (try dsimp only at hSw); go_simp; try with_reducible rfl)
              try simp only [Act.put, List.setIfInBounds_toArray, List.set_cons_zero, List.set_cons_succ]
              refine wpAnyH_take (i := 12) (v := ?vq12) (by simp only [List.getElem?_toArray]; rfl) (by kernel_rfl) (by kernel_rfl) (by kernel_rfl) (by exact fun _ _ _ h => h) (Or.inl ⟨by rfl, ?yq12⟩) (by assumption) ?rq12
              case yq12 => (intro w hSw; (try dsimp only at hSw); go_simp; try with_reducible rfl)
              try simp only [Act.put, List.setIfInBounds_toArray, List.set_cons_zero, List.set_cons_succ]
              refine wpAnyH_ready (rs := [13]) (by kernel_rfl) (by simp) ?_
              refine AllReadyH.cons (by simp only [List.getElem?_toArray]; rfl) (fun K hK => ?_) AllReadyH.nil
              go_simp
              refine hK.out _ _ (trivial) (fun hHeld => ?_)
              clear hK K
              try simp only [Act.put, List.setIfInBounds_toArray, List.set_cons_zero, List.set_cons_succ]
              refine wpAnyH_done (by kernel_rfl) ?_ _
              generalize (wq.setCell ⟨g, q, none⟩ (.int .u8 (dm : Int))).drew = wt at HBN HRN ⊢
              rw [← HSB.out] at HBN
              clear cq cqd fq
              go_wp2_with fail
              go_roundw
              case rel => exact ⟨i + 1, by omega, by go_num, HBN, HRN⟩
              case measure => simp [intOf]; omega
            · have w8e : (t : Int).tmod 2 = 1 := by rw [Int.tmod_eq_emod_of_nonneg (by omega)]; omega
              have w9e : (t : Int) % 2 = 1 := by omega
              have HYES := Lib.hid (setBit_yes Q p hp8 (by rw [← HD.out, ← HR8.out, ← HM2.out, ← HT.out]; exact ht2))
              clear ht2
              go_upto_region 10 with (fail)
              go_quiet (fail)
              have HBN : Hid (Blk (w1.drewN nq) g (u8s (putBits B x.data.toList n (i + 1))).toArray 5) := Lib.hid (by rw [HSB.out, HYES.out]; exact HK1.out.drewN nq)
              have HRN := Lib.hid (HR1.out.trans ((drewN_below w1 nq).mono HR1.out.size))
              clear hc0
              generalize w1.drewN nq = wt at HBN HRN ⊢
              go_wp2_with fail
              go_roundw
              case rel => exact ⟨i + 1, by omega, by go_num, HBN, HRN⟩
              case measure => simp [intOf]; omega
          · obtain rfl : i = 6 := by omega
            rw [← HN2.out] at HK
            go_wp2_with fail
            go_roundw
            case rel => exact ⟨k + 1, by omega, by go_num, HK, HR⟩
            case measure => simp [intOf]; omega
      · have hkn : k = vn := by omega
        subst hkn
        have e : l.take k = l := List.take_of_length_le (by rw [← HVN.out]; exact Nat.le_refl _)
        rw [e] at HK
        have HB : Hid (putKeys (List.replicate n 0) n (l.map fun s => s.data.toList) ++ [6] = bloomPut (l.map fun s => s.data.toList)) := Lib.hid (by
          unfold bloomPut
          rw [List.length_map, ← HVN.out, ← HN.out, putKeys_app1 6 n (by omega) _ _ (by simp)])
        have hpl : (putKeys (List.replicate n 0) n (l.map fun s => s.data.toList)).length = n := by simp
        have HPL := Lib.hid hpl
        generalize putKeys (List.replicate n 0) n (l.map fun s => s.data.toList) = P at HK HB HPL
        clear hpl e
        have hOW : Own wr w.heap.size 5 1 (.slice (some ⟨g, 0, none⟩) n n) n (u8s P) := .inr ⟨by rw [u8s_length, HPL.out, Nat.mul_one], g, n, _, (0, 0), rfl, by rw [HGG.out]; exact Nat.le_refl _, HK.out, fun _ _ h => by omega, Nat.le_refl _, by unfold maxLen; omega, by simp [u8s, HPL.out], by rw [List.take_of_length_le (by simp [u8s, HPL.out])]⟩
        have hal : Below wr.heap.size wr (wr.alloc (.cells #[.int .u8 6] 5)) := (Below.refl _ _).alloc (Nat.le_refl _) _
        have HO2 := Lib.hid (own_below hOW hal)
        have HB3 := Lib.hid (HR.out.trans (hal.mono HR.out.size))
        have HR6 := Lib.hid (rd_reads (rd_one wr 6 6 rfl 5))
        clear hOW hal
        go_upto_region 12 with (fail)
        go_wp2_with (at_builtin; go_loud (refine wp_app_el2 rfl _ _ rfl Tryz.underlying22 hi hz hz1 hz2 rfl (by omega) w.heap.size n 1 (.slice (some ⟨g, 0, none⟩) n n) _ (u8s P) (u8s [6]) (u8s (P ++ [6])) (n + 1) rfl rfl HO2.out HR6.out (one_u8s _) rfl (by rw [u8s_append]) (by omega) (by omega) HB3.out.size ?_); intro ua uc w9 HX9 HG9)
        go_ret
        rw [← HB.out]
        exact ⟨ua, n + 1, uc, rfl, by rw [List.length_append, HPL.out]; rfl, HX9.out, HB3.out.trans HG9.out.below⟩
end Go.Proofs.YtbcnapkbdbefhaaGreatDoor

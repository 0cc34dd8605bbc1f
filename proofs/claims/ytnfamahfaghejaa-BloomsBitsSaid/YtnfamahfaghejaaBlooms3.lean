/- Walks of blooms.Put and law09.may. The condition: texts of less than 2^40 bytes, at most 2^20 of them. -/
import Derived.Test.YtnfamahfaghejaaBloomP
import Derived.Test.YtnfamahfaghejaaBlk
import Derived.Test.YtnfamahfaghejaaLists
import Derived.Deep.Cut
namespace Go.Proofs.Ytnfamahfaghejaa
open Go.RowKit

theorem u8s_set (b : List UInt8) (i : Nat) (c : UInt8) : (u8s b).toArray.setIfInBounds i (.int .u8 c.toNat) = (u8s (b.set i c)).toArray := by
  simp [u8s, List.map_set]
theorem u8s_get (b : List UInt8) (i : Nat) (h : i < b.length) : (u8s b).toArray[i]? = some (.int .u8 b[i].toNat) := by
  simp [u8s, h]

set_option maxRecDepth 100000 in
set_option maxHeartbeats 400000 in
theorem putBit_any (w : World) (g c p : Nat) (cap : Nat) (b : List UInt8) (hg : Blk w g (u8s b).toArray 5) (hc : w.cell? ⟨c, 0, none⟩ = some (.slice (some ⟨g, 0, none⟩) b.length cap)) (hp : p / 8 < b.length) (hp2 : p < 4294967296) (hl : b.length ≤ 268435456) :
    Calls Try.prog 40 #[.int .u32 p, .pointer (some ⟨c, 0, none⟩)] w fun e w' => e = .returned (.bool true) ∧ Blk w' g (u8s (setBit b p)).toArray 5 ∧ Only w w' g := by
  have hcell := hg.cellv (p / 8) _ (u8s_get b (p / 8) hp)
  have hfree := hg.free (p / 8)
  have hset := hg.set (p / 8) (.int .u8 (UInt8.ofNat ((b.getD (p / 8) 0).toNat ||| 2 ^ (p % 8))).toNat)
  rw [u8s_set] at hset
  have HS : Hid (Blk (w.setCell ⟨g, p / 8, none⟩ (.int .u8 (UInt8.ofNat ((b.getD (p / 8) 0).toNat ||| 2 ^ (p % 8))).toNat)) g (u8s (setBit b p)).toArray 5) := hset
  have HO := Only.set w g (p / 8) (.int .u8 (UInt8.ofNat ((b.getD (p / 8) 0).toNat ||| 2 ^ (p % 8))).toNat)
  have hgd : b.getD (p / 8) 0 = b[p / 8] := by rw [List.getD_eq_getElem?_getD, List.getElem?_eq_getElem hp]; rfl
  rw [UInt8.toNat_ofNat', Nat.mod_eq_of_lt (or_bit_lt _ _ (by omega)), hgd] at HS HO
  obtain ⟨d, hd⟩ : ∃ d : Nat, d = b[p / 8].toNat := ⟨_, rfl⟩
  rw [← hd] at hcell HS HO
  have hd256 : d < 256 := by rw [hd]; exact UInt8.toNat_lt _
  clear hset hgd hd hg
  have hr8 : p % 8 < 8 := by omega
  have hm256 : 2 ^ (p % 8) < 256 := by show 2 ^ (p % 8) < 2 ^ 8; exact Nat.pow_lt_pow_right (by omega) hr8
  have hsh : IntKind.u8.wrap (2 ^ (p % 8)) = ((2 ^ (p % 8) : Nat) : Int) := by
    rw [show ((2 : Int) ^ (p % 8)) = ((2 ^ (p % 8) : Nat) : Int) from by simp, wrap_u8_in _ hm256]
  have hor := u8_or_nat d (2 ^ (p % 8)) hd256 hm256
  have hql : ((p / 8 : Nat) : Int) < (b.length : Int) := by omega
  generalize hmm : 2 ^ (p % 8) = m at hsh hor HS HO hm256
  go_enter Try.func40, Try.ntmps40
  rw [IntKind.wrap_u8] at hsh
  go_wp2
  go_ret
  exact ⟨rfl, HS.out, HO⟩

set_option maxRecDepth 100000 in
set_option maxHeartbeats 800000 in
theorem eachPut_any (key : ByteArray) (n g c cap : Nat) (b : List UInt8) (w : World) (hkey : key.size ≤ 1099511627776) (hb : 0 < n) (hb2 : 8 * n < 4294967296) (hn : b.length = n + 1) (hl : b.length ≤ 268435456)
    (hg : Blk w g (u8s b).toArray 5) (hc : Blk w c #[.slice (some ⟨g, 0, none⟩) b.length cap] 25) (hgc : g ≠ c) :
    Calls Try.prog 39 #[.string key, .int .u32 ((8 * n : Nat) : Int), .func (.func 40) #[] #[.pointer (some ⟨c, 0, none⟩)]] w fun e w' => e = .returned (.bool true) ∧ Blk w' g (u8s (putBits b key.data.toList n 6)).toArray 5 ∧ Only w w' g := by
  have HC := Lib.hid hc
  have HV := Lib.hid hg
  clear hc hg
  obtain ⟨bits, hbits⟩ : ∃ bits, bits = 8 * n := ⟨_, rfl⟩
  have hbp : 0 < bits := by omega
  have HBN := Lib.hid hbits
  rw [← hbits] at hb2 ⊢
  clear hbits
  go_enter Try.func39, Try.ntmps39
  go_wp2_with fail
  refine (table_any _).mono ?_
  rintro e w1 ⟨rfl, hb1⟩
  have hst := run_storeCells_new (P := Try.prog) w1 108 Try.zeroCells108 (tabCells 256) (by rw [tabCells_size]; exact info_tab) (by rw [zero_tab, tabCells_size, tabCells_size]) (tabCells_one _)
  go_wp2_with (with_reducible refine wp_bytes rfl _ rfl key rfl (by omega) ?_; intro vb w2 hown2 hbel2)
  clear hst
  obtain ⟨hn2, hrd⟩ := rd_of_own hown2
  have hb2' : Below w.heap.size w (w1.alloc (.cells (tabCells 256) 108)) := hb1.alloc hb1.size _
  have hb3 : Below w.heap.size w w2 := hb2'.trans (hbel2.mono hb2'.size)
  have ht2 : TabAt w2 w1.heap.size := tab_below (heap_alloc_last w1 _) hbel2
  refine (sumsOf_any _ vb _ _ ht2 hrd).mono ?_
  rintro e w' ⟨rfl, rfl⟩
  have HX := Lib.hid (crcOn_lt 0 key.data.toList)
  clear hn2
  go_wp2_with fail
  have hb4 : Below w.heap.size w (w2.alloc (.cells #[.int .u8 1] 5)) := hb3.alloc hb3.size _
  refine (sumsOn_any _ _ _ [1] _ HX.out (tab_below ht2 ((Below.refl _ _).alloc (Nat.le_refl _) _)) (rd_lit1 _ _)).mono ?_
  rintro e w' ⟨rfl, rfl⟩
  obtain ⟨W, hW⟩ : ∃ W, W = w2.alloc (.cells #[.int .u8 1] 5) := ⟨_, rfl⟩
  rw [← hW] at hb4 ⊢
  clear hW hb3 ht2 hrd hown2 hbel2 hb2' hb1
  obtain ⟨x, hx⟩ : ∃ x, x = crcOn 0 key.data.toList := ⟨_, rfl⟩
  obtain ⟨y, hy⟩ : ∃ y, y = crcOn x [1] := ⟨_, rfl⟩
  have hxl : x < 4294967296 := by rw [hx]; exact crcOn_lt _ _
  have hyl : y < 4294967296 := by rw [hy]; exact crcOn_lt _ _
  have HP : Hid (∀ i, placeN key.data.toList (8 * n) i = (x + i * y) % 4294967296 % bits) := fun i => by rw [hy, hx, HBN.out]; rfl
  rw [← hx, ← hy]
  clear hx hy HX
  replace HC := Lib.hid (HC.out.below hb4)
  replace HV := Lib.hid (HV.out.below hb4)
  have HO : Hid (Only w W g) := Only.of_below hb4
  clear hb4
  go_wp2_with fail
  go_loopw [10, 18] (fun _ c wr => ∃ k : Nat, k ≤ 6 ∧ c = .int .i64 k ∧ Hid (Blk wr g (u8s (putBits b key.data.toList n k)).toArray 5) ∧ Hid (Only W wr g)) (fun _ c _ => (6 - intOf c).toNat)
  case atStart => exact ⟨0, by omega, rfl, HV, Lib.hid (Only.refl _ _)⟩
  case round =>
    obtain ⟨k, hk, rfl, HK, HR⟩ := hrel
    by_cases hlt : k < 6
    · have e : ((x : Int) + (k : Int) * (y : Int)) % 4294967296 % (bits : Int) = (((x + k * y) % 4294967296 % bits : Nat) : Int) := by simp
      have hpl : (x + k * y) % 4294967296 % bits < bits := Nat.mod_lt _ hbp
      have hpe := HP.out k
      obtain ⟨p, hp⟩ : ∃ p, p = (x + k * y) % 4294967296 % bits := ⟨_, rfl⟩
      rw [← hp] at e hpl hpe
      have HE := Lib.hid e
      have HPE := Lib.hid hpe
      have hp8 : p / 8 < b.length := by have := HBN.out; omega
      have hlb := putBits_length b key.data.toList n k
      have HN : Hid (putBits b key.data.toList n (k + 1) = setBit (putBits b key.data.toList n k) p) := by show _ = _; rw [← HPE.out]; rfl
      have hcc := (HC.out.only HR.out (Ne.symm hgc)).cellv 0 _ rfl
      clear e hp hpe
      generalize putBits b key.data.toList n k = B at HK hlb HN
      rw [← hlb] at hcc
      have HCC := Lib.hid hcc
      have HLB := Lib.hid hlb
      clear hcc hlb
      go_wp2_with fail
      rw [HE.out]
      refine (putBit_any _ g c p cap B HK.out HCC.out (by rw [HLB.out]; exact hp8) (by omega) (by rw [HLB.out]; exact hl)).mono ?_
      rintro e w' ⟨rfl, h1, h2⟩
      rw [← HN.out] at h1
      go_wp2
      exact ⟨⟨k + 1, by omega, by go_num, h1, HR.out.trans h2⟩, by simp [intOf]; omega⟩
    · obtain rfl : k = 6 := by omega
      go_wp2
      go_ret
      exact ⟨rfl, HK.out, HO.out.trans HR.out⟩

theorem madeZeros (n : Nat) : madeCells #[Value.int .u8 0] n = (u8s (List.replicate n 0)).toArray := by
  apply Array.ext'
  simp [madeCells, u8s, Nat.mod_one, List.map_const']

set_option maxRecDepth 100000 in
set_option maxHeartbeats 400000 in
theorem whole_any (w : World) (m : Nat) (hm : m ≤ 1099511627776) : Calls Try.prog 38 #[.int .i64 m] w fun e w' => e = .returned (.int .i64 (((m + 7) / 8 : Nat) : Int)) ∧ w = w' := by
  go_enter Try.func38, Try.ntmps38
  go_wp2
  go_ret
  exact ⟨ret_int (by omega), rfl⟩

set_option maxRecDepth 100000 in
set_option maxHeartbeats 1600000 in
theorem bloomsPut_any (w : World) (v : Value) (l : List ByteArray) (hv : RdT w v l) (hl : l.length ≤ 1048576) (hs : ∀ s ∈ l, s.size ≤ 1099511627776) :
    Calls Try.prog 17 #[v] w (RetMy (bloomPut (l.map fun s => s.data.toList)) w) := by
  have HV := Lib.hid hv
  have HS := Lib.hid hs
  clear hs
  obtain ⟨va, vc, rfl, h1, h2, h3⟩ := hv
  clear h3
  obtain ⟨vn, hvn⟩ : ∃ n, n = l.length := ⟨_, rfl⟩
  have HVN := Lib.hid hvn
  rw [← hvn] at h1 HV hl ⊢
  clear hvn
  obtain ⟨n, hn⟩ : ∃ n, n = bloomN vn := ⟨_, rfl⟩
  have hn8 : 8 ≤ n := by rw [hn]; exact bloomN_pos vn
  have hnb : n ≤ 1310728 := by rw [hn]; unfold bloomN; omega
  have HN := Lib.hid hn
  have hw64 : 10 * (vn : Int) ≤ 64 → Calls Try.prog 38 #[.int .i64 64] w fun e w' => e = .returned (.int .i64 (n : Int)) ∧ w = w' := fun h => by
    have e : n = (64 + 7) / 8 := by rw [hn]; unfold bloomN; omega
    rw [e]; exact whole_any w 64 (by omega)
  have hw10 : 64 < 10 * (vn : Int) → Calls Try.prog 38 #[.int .i64 (10 * (vn : Int))] w fun e w' => e = .returned (.int .i64 (n : Int)) ∧ w = w' := fun h => by
    have e : n = (10 * vn + 7) / 8 := by rw [hn]; unfold bloomN; omega
    have := whole_any w (10 * vn) (by omega)
    rw [e]
    simpa using this
  have HW1 := Lib.hid hw64
  have HW2 := Lib.hid hw10
  clear hw64 hw10 hn
  have hwr : IntKind.i64.wrap (10 * (vn : Int)) = 10 * (vn : Int) := IntWalk.i64_in _ (by omega)
  obtain ⟨i0, hi, hz, hz1, hz2⟩ := info_parts info_u8
  have hmk := fun (w : World) => run_make (P := Try.prog) w 25 5 i0 (.int .u8 0) Try.underlying25 hi hz .i64 .i64 ((n : Int) + 1) ((n : Int) + 1) (by omega) (by omega) (by rw [hz2]; omega) (by omega)
  have e1 : ((n : Int) + 1).toNat = n + 1 := by omega
  rw [e1, hz1, Nat.mul_one] at hmk
  have e2 : madeCells (Value.int IntKind.u8 0).cells (n + 1) = (u8s (List.replicate (n + 1) 0)).toArray := madeZeros _
  rw [e2] at hmk
  clear e1 e2 hi hz hz1 hz2
  go_enter Try.func17, Try.ntmps17
  go_wp2_with fail
  case' inl h => refine (HW2.out h).mono ?_
  case' inr h => refine (HW1.out h).mono ?_
  all_goals
    rintro e w' ⟨rfl, rfl⟩
    clear HW1 HW2
    obtain ⟨W, hW⟩ : ∃ W, W = (w.alloc (.cells (u8s (List.replicate (n + 1) 0)).toArray 5)).alloc (.cells #[.slice (some ⟨w.heap.size, 0, none⟩) (n + 1) (n + 1)] 25) := ⟨_, rfl⟩
    have hg : Blk W w.heap.size (u8s (List.replicate (n + 1) 0)).toArray 5 := by rw [hW]; exact (Blk.new _ _ _).alloc _
    have hc : Blk W (w.heap.size + 1) #[.slice (some ⟨w.heap.size, 0, none⟩) (n + 1) (n + 1)] 25 := by rw [hW]; exact Blk.new_at _ _ _ _ (by simp)
    have hbel : Below w.heap.size w W := by rw [hW]; exact ((Below.refl _ _).alloc (Nat.le_refl _) _).alloc (by simp) _
    go_upto_region 3 with (fail)
    rw [← hW]
    clear hW hmk hwr
    generalize hgc : w.heap.size + 1 = c at hg hc ⊢
    generalize hgg : w.heap.size = g at hg hc ⊢
    have hne : g ≠ c := by omega
    have c0 := hc.cellv 0 _ rfl
    have z0 := hg.cellv n (.int .u8 0) (by simp [u8s])
    have f0 := hg.free n
    have hg2 := hg.set n (.int .u8 6)
    have e6 : (u8s (List.replicate (n + 1) 0)).toArray.setIfInBounds n (.int .u8 6) = (u8s (List.replicate n 0 ++ [6])).toArray := by
      have := u8s_set (List.replicate (n + 1) 0) n 6
      rw [show ((6 : UInt8).toNat : Int) = 6 from rfl] at this
      rw [this, List.replicate_succ', List.set_append_right _ _ (by simp)]
      simp
    rw [e6] at hg2
    have hc2 := hc.set_other ⟨g, n, none⟩ hne (.int .u8 6)
    have hb2 : Below w.heap.size w (W.setCell ⟨g, n, none⟩ (.int .u8 6)) := hbel.setCell (p := ⟨g, n, none⟩) (by show w.heap.size ≤ g; omega) _
    go_upto_region 4 with (fail)
    clear c0 z0 f0 e6 hbel hg hc
    generalize W.setCell ⟨g, n, none⟩ (.int .u8 6) = W2 at hg2 hc2 hb2 ⊢
    have hgb : w.heap.size ≤ g := by omega
    have hsz : w.heap.size ≤ W2.heap.size := hb2.size
    clear h
    go_wp2_with fail
    go_loopw [6, 20] (fun _ i wr => ∃ k : Nat, k ≤ vn ∧ i = .int .i64 k ∧ Hid (Blk wr g (u8s (putKeys (List.replicate n 0 ++ [6]) n ((l.take k).map fun s => s.data.toList))).toArray 5) ∧ Hid (Only W2 wr g)) (fun _ i _ => vn - (intOf i).toNat)
    case atStart => exact ⟨0, Nat.zero_le _, rfl, hg2, Lib.hid (Only.refl _ _)⟩
    case round =>
      obtain ⟨k, hk, rfl, HK, HR⟩ := hrel
      by_cases hlt : k < vn
      · have hkl : k < l.length := by rw [← HVN.out]; exact hlt
        obtain ⟨a', c', hve, _, _, hcell⟩ := HV.out.below (Only.below hb2 HR.out hgb hsz)
        obtain ⟨b, off, hae, x0⟩ := hcell k hkl
        cases hve
        subst hae
        clear hcell
        have hks := HS.out _ (List.getElem_mem (l := l) (n := k) hkl)
        have htk : (l.take (k + 1)).map (fun s => s.data.toList) = (l.take k).map (fun s => s.data.toList) ++ [l[k].data.toList] := by rw [List.take_succ_eq_append_getElem hkl, List.map_append]; rfl
        have HN2 : Hid (putKeys (List.replicate n 0 ++ [6]) n ((l.take (k + 1)).map fun s => s.data.toList) = putBits (putKeys (List.replicate n 0 ++ [6]) n ((l.take k).map fun s => s.data.toList)) l[k].data.toList n 6) := by
          show _ = _
          rw [htk, putKeys_app]; rfl
        have hlb : (putKeys (List.replicate n 0 ++ [6]) n ((l.take k).map fun s => s.data.toList)).length = n + 1 := by simp
        generalize putKeys (List.replicate n 0 ++ [6]) n ((l.take k).map fun s => s.data.toList) = B at HK HN2 hlb
        obtain ⟨x, hx⟩ : ∃ x, x = l[k] := ⟨_, rfl⟩
        rw [← hx] at x0 hks HN2
        clear hx htk
        have hcc := hc2.only HR.out (Ne.symm hne)
        rw [← hlb] at hcc
        have HCC := Lib.hid hcc
        have HLB := Lib.hid hlb
        clear hcc hlb
        go_wp2_with fail
        refine (eachPut_any x n g c _ B _ hks (by omega) (by omega) HLB.out (by rw [HLB.out]; omega) HK.out HCC.out hne).mono ?_
        rintro e w' ⟨rfl, h1, h2⟩
        rw [← HN2.out] at h1
        go_wp2
        exact ⟨⟨k + 1, by omega, by go_num, h1, HR.out.trans h2⟩, by simp [intOf]; omega⟩
      · have hkn : k = vn := by omega
        subst hkn
        have e : l.take k = l := List.take_of_length_le (by rw [← HVN.out]; exact Nat.le_refl _)
        rw [e] at HK
        have HB : Hid (putKeys (List.replicate n 0 ++ [6]) n (l.map fun s => s.data.toList) = bloomPut (l.map fun s => s.data.toList)) := by
          show _ = _
          unfold bloomPut
          rw [List.length_map, ← HVN.out, ← HN.out]
        rw [HB.out] at HK
        have c0 := (hc2.only HR.out (Ne.symm hne)).cellv 0 _ rfl
        have HL : Hid ((bloomPut (l.map fun s => s.data.toList)).length = n + 1) := by
          show _ = _
          rw [← HB.out]; simp
        have hbf := Only.below hb2 HR.out hgb hsz
        have HF := Lib.hid hbf
        clear hbf
        go_wp2
        go_ret
        refine ⟨_, n + 1, n + 1, rfl, HL.out.symm, .inr ⟨by rw [u8s_length, HL.out]; omega, g, n + 1, _, (0, 0), rfl, hgb, HK.out, fun _ _ h => by omega, Nat.le_refl _, by unfold maxLen; omega, by simp [u8s, HL.out], ?_⟩, HF.out⟩
        rw [List.take_of_length_le (by simp [u8s, HL.out])]
end Go.Proofs.Ytnfamahfaghejaa

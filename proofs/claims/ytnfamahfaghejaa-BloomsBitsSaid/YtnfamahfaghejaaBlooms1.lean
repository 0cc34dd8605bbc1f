/- Walks of package blooms and of its reference that read: the places of a key, May. The condition: texts of less than 2^40 bytes. -/
import Derived.Test.YtnfamahfaghejaaSums3
namespace Go.Proofs.Ytnfamahfaghejaa
open Go.RowKit

/-- the i-th place of a key, of so many bits -/
def placeN (key : List UInt8) (bits i : Nat) : Nat := (crcOn 0 key + i * crcOn (crcOn 0 key) [1]) % 4294967296 % bits
theorem crcOn_more (l m : List UInt8) : crcOn (crcOn 0 l) m = crcOn 0 (l ++ m) := by
  have h := fold_lt l 4294967295 (by omega)
  unfold crcOn
  rw [List.foldl_append, Nat.sub_zero]
  congr 2
  omega
/-- is a bit of bytes set? -/
def bitAt (b : List UInt8) (p : Nat) : Bool := (b.getD (p / 8) 0).toNat / 2 ^ (p % 8) % 2 == 1

theorem rd_lit1 (w : World) (t : TypeId) : Rd (w.alloc (.cells #[.int .u8 1] t)) (.slice (some ⟨w.heap.size, 0, none⟩) 1 1) [1] := rd_one w 1 1 rfl t

theorem bit_words (d r : Nat) (hd : d < 256) : (bits BinOp.and IntKind.u8 ((d : Int) / 2 ^ r) 1 == 1) = (d / 2 ^ r % 2 == 1) := by
  have e : ((d : Int) / 2 ^ r) = ((d / 2 ^ r : Nat) : Int) := by simp
  have hl : d / 2 ^ r < 256 := Nat.lt_of_le_of_lt (Nat.div_le_self _ _) hd
  have h := u8_and_nat (d / 2 ^ r) 1 hl (by omega)
  rw [show ((1 : Nat) : Int) = 1 from rfl] at h
  rw [e, h, Nat.and_one_is_mod, Bool.eq_iff_iff]
  simp
  omega

set_option maxRecDepth 100000 in
set_option maxHeartbeats 400000 in
theorem mayBit_any (g p : Nat) (v : Value) (b : List UInt8) (w : World) (hc : w.cell? ⟨g, 0, none⟩ = some v) (hv : Rd w v b) (hp : p / 8 < b.length) (hp2 : p < 4294967296) :
    Calls Try.prog 68 #[.int .u32 p, .pointer (some ⟨g, 0, none⟩)] w fun e w' => e = .returned (.bool (bitAt b p)) ∧ w = w' := by
  obtain ⟨a, cap, rfl, h1, h2, h3⟩ := hv
  obtain ⟨bb, off, rfl, hcc⟩ := h3 (p / 8) hp
  obtain ⟨d, hd⟩ : ∃ d : Nat, d = b[p / 8].toNat := ⟨_, rfl⟩
  rw [← hd] at hcc
  have hd256 : d < 256 := by rw [hd]; exact UInt8.toNat_lt _
  have HB : Hid (bitAt b p = (d / 2 ^ (p % 8) % 2 == 1)) := by
    show _ = _
    unfold bitAt
    rw [hd, List.getD_eq_getElem?_getD, List.getElem?_eq_getElem hp]; rfl
  clear h3 hd
  have hql : ((p / 8 : Nat) : Int) < (b.length : Int) := by omega
  go_enter Try.func68, Try.ntmps68
  go_wp2
  go_ret
  exact ⟨ret_bool (by rw [HB.out]; exact bit_words d (p % 8) hd256), rfl⟩

/-- may a key be there, by n bytes of bits? -/
def mayAll (b key : List UInt8) (n : Nat) : Bool := (List.range 6).all fun i => bitAt b (placeN key (8 * n) i)
theorem placeN_lt (key : List UInt8) (bits i : Nat) (h : 0 < bits) : placeN key bits i < bits := Nat.mod_lt _ h
theorem all_next (f : Nat → Bool) (k : Nat) (h : ((List.range k).all f) = true) (hk : f k = true) : ((List.range (k + 1)).all f) = true := by
  rw [List.range_succ, List.all_append, h]; simp [hk]
theorem all_no (f : Nat → Bool) (k m : Nat) (hkm : k < m) (hk : f k = false) : ((List.range m).all f) = false := by
  rw [List.all_eq_false]
  exact ⟨k, by simpa using hkm, by simp [hk]⟩

set_option maxRecDepth 100000 in
set_option maxHeartbeats 800000 in
theorem eachMay_any (key : ByteArray) (n g : Nat) (v : Value) (b : List UInt8) (w : World) (hkey : key.size ≤ 1099511627776) (hb : 0 < n) (hb2 : 8 * n < 4294967296) (hn : n ≤ b.length)
    (hc : w.cell? ⟨g, 0, none⟩ = some v) (hv : Rd w v b) :
    Calls Try.prog 39 #[.string key, .int .u32 ((8 * n : Nat) : Int), .func (.func 68) #[] #[.pointer (some ⟨g, 0, none⟩)]] w fun e w' => e = .returned (.bool (mayAll b key.data.toList n)) ∧ Below w.heap.size w w' := by
  have HC := Lib.hid hc
  have HV := Lib.hid hv
  clear hc hv
  obtain ⟨bits, hbits⟩ : ∃ bits, bits = 8 * n := ⟨_, rfl⟩
  have hbp : 0 < bits := by omega
  have HBN := Lib.hid hbits
  rw [← hbits] at hb2 ⊢
  clear hbits
  go_enter Try.func39, Try.ntmps39
  go_wp2_with fail
  refine (table_any _).mono ?_
  rintro e w1 ⟨rfl, hb1⟩
  have hst := run_storeCells_new (P := Try.prog) w1 108 Try.zeroCells108 (tabCells 256) (by rw [tabCells_size]; exact info_tab) (by rw [zero_tab, tabCells_size, tabCells_size]) (tabCells_one _)
  go_wp2_with (with_reducible refine wp_bytes rfl _ rfl key rfl (by omega) ?_; intro vb w2 hown2 hbel2)
  clear hst
  obtain ⟨hn, hrd⟩ := rd_of_own hown2
  have hb2' : Below w.heap.size w (w1.alloc (.cells (tabCells 256) 108)) := hb1.alloc hb1.size _
  have hb3 : Below w.heap.size w w2 := hb2'.trans (hbel2.mono hb2'.size)
  have ht2 : TabAt w2 w1.heap.size := tab_below (heap_alloc_last w1 _) hbel2
  refine (sumsOf_any _ vb _ _ ht2 hrd).mono ?_
  rintro e w' ⟨rfl, rfl⟩
  have HX := Lib.hid (crcOn_lt 0 key.data.toList)
  clear hn
  go_wp2_with fail
  have hb4 : Below w.heap.size w (w2.alloc (.cells #[.int .u8 1] 5)) := hb3.alloc hb3.size _
  refine (sumsOn_any _ _ _ [1] _ HX.out (tab_below ht2 ((Below.refl _ _).alloc (Nat.le_refl _) _)) (rd_lit1 _ _)).mono ?_
  rintro e w' ⟨rfl, rfl⟩
  obtain ⟨W, hW⟩ : ∃ W, W = w2.alloc (.cells #[.int .u8 1] 5) := ⟨_, rfl⟩
  rw [← hW] at hb4 ⊢
  clear hW hb3 ht2 hrd hown2 hbel2 hb2' hb1
  obtain ⟨x, hx⟩ : ∃ x, x = crcOn 0 key.data.toList := ⟨_, rfl⟩
  obtain ⟨y, hy⟩ : ∃ y, y = crcOn x [1] := ⟨_, rfl⟩
  have hxl : x < 4294967296 := by rw [hx]; exact crcOn_lt _ _
  have hyl : y < 4294967296 := by rw [hy]; exact crcOn_lt _ _
  have HP : Hid (∀ i, placeN key.data.toList (8 * n) i = (x + i * y) % 4294967296 % bits) := fun i => by rw [hy, hx, HBN.out]; rfl
  rw [← hx, ← hy]
  clear hx hy HX
  have HB := Lib.hid hb4
  clear hb4
  go_wp2_with fail
  go_loop [10, 18] (fun _ c => ∃ k : Nat, k ≤ 6 ∧ c = .int .i64 k ∧ Hid (((List.range k).all fun i => bitAt b (placeN key.data.toList (8 * n) i)) = true)) (fun _ c => (6 - intOf c).toNat)
  case atStart => exact ⟨0, by omega, rfl, rfl⟩
  case round =>
    obtain ⟨k, hk, rfl, HK⟩ := hrel
    by_cases hlt : k < 6
    · have e : ((x : Int) + (k : Int) * (y : Int)) % 4294967296 % (bits : Int) = (((x + k * y) % 4294967296 % bits : Nat) : Int) := by simp
      have hpl : (x + k * y) % 4294967296 % bits < bits := Nat.mod_lt _ hbp
      have hpe := HP.out k
      obtain ⟨p, hp⟩ : ∃ p, p = (x + k * y) % 4294967296 % bits := ⟨_, rfl⟩
      rw [← hp] at e hpl hpe
      have HE := Lib.hid e
      have HPE := Lib.hid hpe
      have hp8 : p / 8 < b.length := by have := HBN.out; omega
      clear e hp hpe
      go_wp2_with fail
      rw [HE.out]
      refine (mayBit_any g p v b _ (Below.keeps HB.out _ _ _ HC.out) (HV.out.below HB.out) hp8 (by omega)).mono ?_
      rintro e w' ⟨rfl, rfl⟩
      cases hbit : bitAt b p
      · have HN : Hid (mayAll b key.data.toList n = false) := all_no _ k 6 hlt (by simp only [HPE.out, hbit])
        clear hbit
        go_wp2
        go_ret
        exact ⟨ret_bool HN.out.symm, HB.out⟩
      · have HN := Lib.hid (all_next _ k HK.out (by simp only [HPE.out, hbit]))
        clear hbit
        go_wp2
        exact ⟨⟨k + 1, by omega, by go_num, HN⟩, by simp [intOf]; omega⟩
    · obtain rfl : k = 6 := by omega
      go_wp2
      go_ret
      exact ⟨ret_bool HK.out.symm, HB.out⟩
end Go.Proofs.Ytnfamahfaghejaa

/- Walk of law10.alive: some answers that the document fixes. No condition. -/
import Derived.Test.YtbcnapkbdbefhaaSFromA
import Derived.Test.YtbcnapkbdbefhaaAlive1
namespace Go.Proofs.Ytbcnapkbdbefhaa
open Go.RowKit

theorem only_new10 {w w' : World} {g c : Nat} (h : Only w w' g) (hc : w.heap.size ≤ c) (i : Nat) (x : Value) : Only w (w'.setCell ⟨c, i, none⟩ x) g := by
  obtain ⟨a1, a2, a3, a4, a5⟩ := h
  obtain ⟨b1, b2, b3, b4, b5⟩ := Only.set w' c i x
  exact ⟨b1.trans a1, b2.trans a2, b3.trans a3, Nat.le_trans a4 b4, fun k hk hne => (b5 k (Nat.lt_of_lt_of_le hk a4) (fun e => by simp at e; omega)).trans (a5 k hk hne)⟩
set_option maxRecDepth 100000 in
set_option maxHeartbeats 400000 in
theorem res_entry10 {tmps : Array Value} {w : World} {c : Nat} {k u : ByteArray} {s : Int} {b : Bool} (hp : tmps[6]?.getD undef = .pointer (some ⟨c, 0, none⟩)) (hX : Blk w c #[.string k, .int .u64 s, .bool b, .string u] 37) :
    (results Try.f28 tmps).run Try.prog w = .ok (.agg #[.string k, .int .u64 s, .bool b, .string u]) w := by
  have c0 := hX.cellv 0 (.string k) rfl
  have c1 := hX.cellv 1 (.int .u64 s) rfl
  have c2 := hX.cellv 2 (.bool b) rfl
  have c3 := hX.cellv 3 (.string u) rfl
  simp only [results, Try.results28]
  simp [go_sem, hp, c0, c1, c2, c3]
set_option maxRecDepth 100000 in
set_option maxHeartbeats 1000000 in
theorem entry10_any (w : World) (k u : ByteArray) (s : Int) (g : Bool) (hg : g = decide (u = ⟨#[]⟩)) : Calls Try.prog 28 #[.string k, .int .u64 s, .string u] w fun e w' => e = .returned (.agg #[.string k, .int .u64 s, .bool g, .string u]) ∧ Below w.heap.size w w' := by
  obtain ⟨W, hW⟩ : ∃ W, W = w.alloc (.cells #[.string ⟨#[]⟩, .int .u64 0, .bool false, .string ⟨#[]⟩] 37) := ⟨_, rfl⟩
  have hX : Blk W w.heap.size #[.string ⟨#[]⟩, .int .u64 0, .bool false, .string ⟨#[]⟩] 37 := by rw [hW]; exact Blk.new _ _ _
  have hbW : Below w.heap.size w W := by rw [hW]; exact (Below.refl _ _).alloc (Nat.le_refl _) _
  have HW := Lib.hid hW
  clear hW
  go_enter Try.func28, Try.ntmps28
  go_upto_region 1 with (fail)
  rw [← HW.out]
  have x0 := hX.cellv 0 (.string ⟨#[]⟩) rfl
  have x1 := hX.cellv 1 (.int .u64 0) rfl
  have x2 := hX.cellv 2 (.bool false) rfl
  have x3 := hX.cellv 3 (.string ⟨#[]⟩) rfl
  have f0 := hX.free 0
  have f1 := hX.free 1
  have f2 := hX.free 2
  have f3 := hX.free 3
  go_wp2_with fail
  have hge : u.toList.isEmpty = g := by rw [hg]; exact empty_dec u
  rw [hge]
  have hXf := (((hX.set 0 (.string k)).set 1 (.int .u64 s)).set 2 (.bool g)).set 3 (.string u)
  have hO4 : Only w ((((W.setCell ⟨w.heap.size, 0, none⟩ (.string k)).setCell ⟨w.heap.size, 1, none⟩ (.int .u64 s)).setCell ⟨w.heap.size, 2, none⟩ (.bool g)).setCell ⟨w.heap.size, 3, none⟩ (.string u)) w.heap.size :=
    only_new10 (only_new10 (only_new10 (only_new10 (Only.of_below hbW) (Nat.le_refl _) 0 _) (Nat.le_refl _) 1 _) (Nat.le_refl _) 2 _) (Nat.le_refl _) 3 _
  exact bodyPost_ret (res_entry10 rfl hXf) rfl ⟨rfl, Only.below (Below.refl _ _) hO4 (Nat.le_refl _) (Nat.le_refl _)⟩
/-- Put that answers a file -/
theorem sput_is (w : World) (v : Value) (l : List PE) (hv : RdE w v l) (hs : ∀ x ∈ l, x.s < 18446744073709551616) (hl : l.length ≤ 1000000) (h : errS (entsOf l) = 0) :
    Calls Try.prog 12 #[v] w fun e w' => ∃ a n c, e = .returned (.tuple #[.slice a n c, .int .i64 0]) ∧ Hid (n = (fileS (entsOf l)).length) ∧ Hid (Own w' w.heap.size 5 1 (.slice a n c) n (u8s (fileS (entsOf l)))) ∧ Below w.heap.size w w' := by
  refine (sortedPut_any w v l hv hs hl).mono ?_
  rintro e w' ⟨a, n, c, rfl, h1, h2, h3⟩
  rw [outS_ok h] at h1 h2
  exact ⟨a, n, c, by rw [h]; rfl, h1, h2, h3⟩
/-- Put that refuses -/
theorem sput_no (w : World) (v : Value) (l : List PE) (r : Nat) (hv : RdE w v l) (hs : ∀ x ∈ l, x.s < 18446744073709551616) (hl : l.length ≤ 1000000) (h : errS (entsOf l) = r) (hr : r ≠ 0) :
    Calls Try.prog 12 #[v] w fun e w' => (∃ a c, e = .returned (.tuple #[.slice a 0 c, .int .i64 r])) ∧ Below w.heap.size w w' := by
  refine (sortedPut_any w v l hv hs hl).mono ?_
  rintro e w' ⟨a, n, c, rfl, h1, h2, h3⟩
  rw [outS_no (by rw [h]; exact hr)] at h1
  have h1 : n = 0 := h1.out
  subst h1
  exact ⟨⟨a, c, by rw [h]⟩, h3⟩
theorem sget_some (w : World) (v : Value) (b : List UInt8) (E : List Ent) (er : Nat) (k : ByteArray) (s : Nat) (x : Ent) (V : Value) (hv : Rd w v b) (hb : b.length ≤ 268435456) (hX : AllIs b E er) (h : getS k.data.toList s E = some x) (hV : entV x = V) :
    Calls Try.prog 16 #[v, .string k, .int .u64 s] w fun e w' => e = .returned (.tuple #[V, .bool true, .int .i64 er]) ∧ Below w.heap.size w w' := by
  refine (sortedGet_any w v b E er k s hv hb hX).mono ?_
  rintro e w' ⟨rfl, h3⟩
  rw [h]
  exact ⟨by rw [← hV]; rfl, h3⟩
theorem sget_none (w : World) (v : Value) (b : List UInt8) (E : List Ent) (er : Nat) (k : ByteArray) (s : Nat) (hv : Rd w v b) (hb : b.length ≤ 268435456) (hX : AllIs b E er) (h : getS k.data.toList s E = none) :
    Calls Try.prog 16 #[v, .string k, .int .u64 s] w fun e w' => e = .returned (.tuple #[.agg #[.string ⟨#[]⟩, .int .u64 0, .bool false, .string ⟨#[]⟩], .bool false, .int .i64 er]) ∧ Below w.heap.size w w' := by
  refine (sortedGet_any w v b E er k s hv hb hX).mono ?_
  rintro e w' ⟨rfl, h3⟩
  rw [h]
  exact ⟨rfl, h3⟩
theorem sall_bad (w : World) (v : Value) (b : List UInt8) (hv : Rd w v b) (hb : b.length ≤ 268435456) (hX : ∀ E, ¬ IsS b E) :
    Calls Try.prog 14 #[v] w fun e w' => (∃ a c, e = .returned (.tuple #[.slice a 0 c, .int .i64 4])) ∧ Below w.heap.size w w' := by
  refine (sortedAll_any w v b [] 4 hv hb (.inr ⟨rfl, rfl, hX⟩)).mono ?_
  rintro e w' ⟨a, n, c, rfl, h1, h2, h3⟩
  have h1 : n = 0 := h1.out
  subst h1
  exact ⟨⟨a, c, rfl⟩, h3⟩
theorem sall_n (w : World) (v : Value) (b : List UInt8) (E : List Ent) (er m : Nat) (hv : Rd w v b) (hb : b.length ≤ 268435456) (hX : AllIs b E er) (h : E.length = m) :
    Calls Try.prog 14 #[v] w fun e w' => (∃ a c, e = .returned (.tuple #[.slice a m c, .int .i64 er])) ∧ Below w.heap.size w w' := by
  refine (sortedAll_any w v b E er hv hb hX).mono ?_
  rintro e w' ⟨a, n, c, rfl, h1, h2, h3⟩
  have h1 : n = m := h1.out.trans h
  subst h1
  exact ⟨⟨a, c, rfl⟩, h3⟩
/-- From: how many -/
theorem sfrom_n (w : World) (v : Value) (b : List UInt8) (E : List Ent) (er : Nat) (mk : ByteArray) (ms : Nat) (mg : Bool) (most : Int) (m : Nat) (hv : Rd w v b) (hb : b.length ≤ 268435456) (hX : AllIs b E er) (hm1 : -9223372036854775808 ≤ most) (hm2 : most ≤ 9223372036854775807)
    (h : ((E.drop (seekAt mk.data.toList ms mg E)).take (mostN most (E.drop (seekAt mk.data.toList ms mg E)).length)).length = m) :
    Calls Try.prog 17 #[v, .agg #[.string mk, .int .u64 ms, .bool mg], .int .i64 most] w fun e w' => (∃ a c, e = .returned (.tuple #[.slice a m c, .int .i64 er])) ∧ Below w.heap.size w w' := by
  refine (sortedFrom_any w v b E er mk ms mg most hv hb hX hm1 hm2).mono ?_
  rintro e w' ⟨a, n, c, rfl, h1, h2, h3⟩
  have h1 : n = m := h1.out.trans h
  subst h1
  exact ⟨⟨a, c, rfl⟩, h3⟩
def s1 : PE := ⟨⟨#[97]⟩, 1, false, ⟨#[120]⟩⟩
def s2 : PE := ⟨⟨#[98]⟩, 5, true, ⟨#[]⟩⟩
def s3 : PE := ⟨⟨#[98]⟩, 2, false, ⟨#[121]⟩⟩
def s4 : PE := ⟨⟨#[98]⟩, 1, false, ⟨#[120]⟩⟩
def E3 : List Ent := entsOf [s1, s2, s3]
theorem e3a : errS (entsOf [s1, s2, s3]) = 0 := by kernel_rfl
theorem e3b : errS (entsOf []) = 1 := by kernel_rfl
theorem e3c : errS (entsOf [s4, s1]) = 1 := by kernel_rfl
theorem g3a : getS [98] 9 E3 = some ⟨[98], 5, true, []⟩ := by kernel_rfl
theorem g3b : getS [98] 4 E3 = some ⟨[98], 2, false, [121]⟩ := by kernel_rfl
theorem g3c : getS [98] 1 E3 = none := by kernel_rfl
theorem g3d : getS [99] 9 E3 = none := by kernel_rfl
theorem f3a : ((E3.drop (seekAt [98] 4 false E3)).take (mostN 9 (E3.drop (seekAt [98] 4 false E3)).length)).length = 1 := by kernel_rfl
theorem f3b : ((E3.drop (seekAt [97] 9 false E3)).take (mostN 2 (E3.drop (seekAt [97] 9 false E3)).length)).length = 2 := by kernel_rfl
theorem q3 : ∀ x ∈ [s1, s2, s3], x.s < 18446744073709551616 := by
  intro x hx
  simp only [List.mem_cons, List.not_mem_nil, or_false] at hx
  rcases hx with rfl | rfl | rfl <;> decide
theorem i3 : IsS (fileS E3) E3 := by
  have h := isS_put (E := E3) (fun x hx => by
    obtain ⟨y, hy, rfl⟩ := List.mem_map.1 hx
    exact q3 y hy) e3a
  rw [show outS E3 = fileS E3 from outS_ok e3a] at h
  exact h
theorem fileS_small {E : List Ent} (h : mayS E = true) (h2 : E.length ≤ 4096) : (fileS E).length ≤ 17000000 := by
  have h1 := framesN_small h (nBlk E) (Nat.le_refl _)
  have h3 := nBlk_le h2
  have h4 := idxP_small h h2
  have h5 := keysN_len E E.length
  unfold fileS
  simp only [List.length_append, fput_length, four_len, bloomPut_length]
  unfold bloomN
  omega
theorem l3 : (fileS E3).length ≤ 268435456 := by
  have := fileS_small i3.1 i3.2.2.1
  omega
set_option maxRecDepth 100000 in
set_option maxHeartbeats 4000000 in
theorem alive10_any (w : World) : Calls Try.prog 10 #[] w (RetTrue w) := by
  go_enter Try.func10, Try.ntmps10
  go_wp2_with fail
  refine (entry10_any _ _ _ _ false (by decide)).mono ?_
  rintro e w1 ⟨rfl, hb1⟩
  go_wp2_with fail
  refine (entry10_any _ _ _ _ true (by decide)).mono ?_
  rintro e w2 ⟨rfl, hb2⟩
  go_wp2_with fail
  refine (entry10_any _ _ _ _ false (by decide)).mono ?_
  rintro e w3 ⟨rfl, hb3⟩
  have HB3 := Lib.hid ((hb1.trans (hb2.mono hb1.size)).trans (hb3.mono (hb1.trans (hb2.mono hb1.size)).size))
  clear hb1 hb2 hb3
  have HAL : Hid (∀ o, Below w3.heap.size w3 (w3.alloc o)) := fun o => (Below.refl _ _).alloc (Nat.le_refl _) _
  have HP := Lib.hid (sput_is _ _ [s1, s2, s3] (rdE_new w3 [s1, s2, s3] _ 37 3 rfl rfl (by decide)) q3 (by decide) e3a)
  go_upto_region 2 with (go_at_call 12; refine HP.out.mono ?_; rintro e w4 ⟨pa, pn, pc, rfl, HN, HO, hb4⟩)
  have hb34 := (HAL.out _).trans (hb4.mono (HAL.out _).size)
  have HB4 := Lib.hid (HB3.out.trans (hb34.mono HB3.out.size))
  have hR4 := (rd_of_own HO.out).2
  have HR4 : Hid (Rd w4 (.slice pa pn pc) (fileS E3)) := hR4
  have h12 : 12 ≤ pn := by rw [HN.out]; exact fileS_len _
  have hpl : pn ≤ 268435456 := by rw [HN.out]; exact l3
  have HPN : Hid (pn = (fileS E3).length) := HN
  clear hb4 hb34 HP HAL HN HO HB3 hR4
  go_upto_region 4 with (fail)
  have HG := Lib.hid (sget_some w4 _ _ _ 0 ⟨#[98]⟩ 9 _ (.agg #[.string ⟨#[98]⟩, .int .u64 5, .bool true, .string ⟨#[]⟩]) HR4.out l3 (.inl ⟨rfl, i3⟩) g3a rfl)
  go_upto_region 5 with (go_at_call 16; refine HG.out.mono ?_; rintro e w5 ⟨rfl, hb5⟩)
  have HQ := Lib.hid hb5
  have HB5 := Lib.hid (HB4.out.trans (HQ.out.mono HB4.out.size))
  have HR5 := Lib.hid (HR4.out.below HQ.out)
  clear HG HQ hb5 HB4 HR4
  have HAL : Hid (∀ o, Below w5.heap.size w5 (w5.alloc o)) := fun o => (Below.refl _ _).alloc (Nat.le_refl _) _
  have HG := Lib.hid (fun o => sget_some (w5.alloc o) _ _ _ 0 ⟨#[98]⟩ 4 _ (.agg #[.string ⟨#[98]⟩, .int .u64 2, .bool false, .string ⟨#[121]⟩]) (HR5.out.below (HAL.out o)) l3 (.inl ⟨rfl, i3⟩) g3b rfl)
  go_upto_region 6 with (go_at_call 16; refine (HG.out _).mono ?_; rintro e w6 ⟨rfl, hb6⟩)
  have HQ := Lib.hid ((HAL.out _).trans (hb6.mono (HAL.out _).size))
  have HCA := Lib.hid ((Blk.new w5 #[.string ⟨#[98]⟩, .int .u64 5, .bool true, .string ⟨#[]⟩] 37).below hb6)
  have HB6 := Lib.hid (HB5.out.trans (HQ.out.mono HB5.out.size))
  have HR6 := Lib.hid (HR5.out.below HQ.out)
  clear HG HQ hb6 HB5 HR5 HAL
  have HAL : Hid (∀ o, Below w6.heap.size w6 (w6.alloc o)) := fun o => (Below.refl _ _).alloc (Nat.le_refl _) _
  have HG := Lib.hid (fun o => sget_none (w6.alloc o) _ _ _ 0 ⟨#[98]⟩ 1 (HR6.out.below (HAL.out o)) l3 (.inl ⟨rfl, i3⟩) g3c)
  go_upto_region 7 with (go_at_call 16; refine (HG.out _).mono ?_; rintro e w7 ⟨rfl, hb7⟩)
  have HQ := Lib.hid ((HAL.out _).trans (hb7.mono (HAL.out _).size))
  have HCB := Lib.hid ((Blk.new w6 #[.string ⟨#[98]⟩, .int .u64 2, .bool false, .string ⟨#[121]⟩] 37).below hb7)
  replace HCA := Lib.hid (HCA.out.below HQ.out)
  have HB7 := Lib.hid (HB6.out.trans (HQ.out.mono HB6.out.size))
  have HR7 := Lib.hid (HR6.out.below HQ.out)
  clear HG HQ hb7 HB6 HR6 HAL
  have HAL : Hid (∀ o, Below w7.heap.size w7 (w7.alloc o)) := fun o => (Below.refl _ _).alloc (Nat.le_refl _) _
  have HG := Lib.hid (fun o => sget_none (w7.alloc o) _ _ _ 0 ⟨#[99]⟩ 9 (HR7.out.below (HAL.out o)) l3 (.inl ⟨rfl, i3⟩) g3d)
  go_upto_region 8 with (go_at_call 16; refine (HG.out _).mono ?_; rintro e w8 ⟨rfl, hb8⟩)
  have HQ := Lib.hid ((HAL.out _).trans (hb8.mono (HAL.out _).size))
  replace HCA := Lib.hid (HCA.out.below HQ.out)
  replace HCB := Lib.hid (HCB.out.below HQ.out)
  have HB8 := Lib.hid (HB7.out.trans (HQ.out.mono HB7.out.size))
  have HR8 := Lib.hid (HR7.out.below HQ.out)
  clear HG HQ hb8 HB7 HR7 HAL
  have HAL : Hid (∀ o, Below w8.heap.size w8 (w8.alloc o)) := fun o => (Below.refl _ _).alloc (Nat.le_refl _) _
  have HG := Lib.hid (fun o => sfrom_n (w8.alloc o) _ _ _ 0 ⟨#[98]⟩ 4 false 9 1 (HR8.out.below (HAL.out o)) l3 (.inl ⟨rfl, i3⟩) (by decide) (by decide) f3a)
  go_upto_region 9 with (go_at_call 17; refine (HG.out _).mono ?_; rintro e w9 ⟨⟨la, lc, rfl⟩, hb9⟩)
  have HQ := Lib.hid ((HAL.out _).trans (hb9.mono (HAL.out _).size))
  replace HCA := Lib.hid (HCA.out.below HQ.out)
  replace HCB := Lib.hid (HCB.out.below HQ.out)
  have HB9 := Lib.hid (HB8.out.trans (HQ.out.mono HB8.out.size))
  have HR9 := Lib.hid (HR8.out.below HQ.out)
  clear HG HQ hb9 HB8 HR8 HAL
  have HG := Lib.hid (sfrom_n w9 _ _ _ 0 ⟨#[97]⟩ 9 false 2 2 HR9.out l3 (.inl ⟨rfl, i3⟩) (by decide) (by decide) f3b)
  go_upto_region 10 with (go_at_call 17; refine HG.out.mono ?_; rintro e w10 ⟨⟨ma, mc, rfl⟩, hb10⟩)
  have HQ := Lib.hid hb10
  replace HCA := Lib.hid (HCA.out.below HQ.out)
  replace HCB := Lib.hid (HCB.out.below HQ.out)
  have HB10 := Lib.hid (HB9.out.trans (HQ.out.mono HB9.out.size))
  have HR10 := Lib.hid (HR9.out.below HQ.out)
  clear HG HQ hb10 HB9 HR9
  have HG := Lib.hid (sall_n w10 _ _ _ 0 3 HR10.out l3 (.inl ⟨rfl, i3⟩) rfl)
  go_upto_region 11 with (go_at_call 14; refine HG.out.mono ?_; rintro e w11 ⟨⟨na, nc, rfl⟩, hb11⟩)
  have HQ := Lib.hid hb11
  replace HCA := Lib.hid (HCA.out.below HQ.out)
  replace HCB := Lib.hid (HCB.out.below HQ.out)
  have HB11 := Lib.hid (HB10.out.trans (HQ.out.mono HB10.out.size))
  have HR11 := Lib.hid (HR10.out.below HQ.out)
  clear HG HQ hb11 HB10 HR10
  have HG := Lib.hid (sput_no w11 (.slice none 0 0) [] 1 ⟨none, 0, rfl, Nat.le_refl _, by decide, fun j hj => absurd hj (by simp)⟩ (by simp) (by decide) e3b (by decide))
  go_upto_region 12 with (go_at_call 12; refine HG.out.mono ?_; rintro e w12 ⟨⟨qa, qc, rfl⟩, hb12⟩)
  have HQ := Lib.hid hb12
  replace HCA := Lib.hid (HCA.out.below HQ.out)
  replace HCB := Lib.hid (HCB.out.below HQ.out)
  have HB12 := Lib.hid (HB11.out.trans (HQ.out.mono HB11.out.size))
  have HR12 := Lib.hid (HR11.out.below HQ.out)
  clear HG HQ hb12 HB11 HR11
  go_wp2_with fail
  refine (entry10_any _ _ _ _ false (by decide)).mono ?_
  rintro e w13 ⟨rfl, hb13⟩
  go_wp2_with fail
  refine (entry10_any _ _ _ _ false (by decide)).mono ?_
  rintro e w14 ⟨rfl, hb14⟩
  have HQ := Lib.hid (hb13.trans (hb14.mono hb13.size))
  replace HCA := Lib.hid (HCA.out.below HQ.out)
  replace HCB := Lib.hid (HCB.out.below HQ.out)
  have HB14 := Lib.hid (HB12.out.trans (HQ.out.mono HB12.out.size))
  have HR14 := Lib.hid (HR12.out.below HQ.out)
  clear hb13 hb14 HQ HB12 HR12
  have HG := Lib.hid (sput_no (w14.alloc (.cells #[.string ⟨#[98]⟩, .int .u64 1, .bool false, .string ⟨#[120]⟩, .string ⟨#[97]⟩, .int .u64 1, .bool false, .string ⟨#[120]⟩] 37)) _ [s4, s1] 1 (rdE_new w14 [s4, s1] _ 37 2 rfl rfl (by decide)) (by intro x hx; simp only [List.mem_cons, List.not_mem_nil, or_false] at hx; rcases hx with rfl | rfl <;> decide) (by decide) e3c (by decide))
  go_upto_region 13 with (go_at_call 12; refine HG.out.mono ?_; rintro e w15 ⟨⟨ra, rc, rfl⟩, hb15⟩)
  have HQ : Hid (Below w14.heap.size w14 w15) := Lib.hid (((Below.refl _ _).alloc (Nat.le_refl _) _).trans (hb15.mono ((Below.refl _ _).alloc (Nat.le_refl _) _).size))
  replace HCA := Lib.hid (HCA.out.below HQ.out)
  replace HCB := Lib.hid (HCB.out.below HQ.out)
  have HB15 := Lib.hid (HB14.out.trans (HQ.out.mono HB14.out.size))
  have HR15 := Lib.hid (HR14.out.below HQ.out)
  clear HG HQ hb15 HB14 HR14
  obtain ⟨pq, hpq⟩ : ∃ z, z = pn - 1 := ⟨_, rfl⟩
  have hpi : (pn : Int) - 1 = (pq : Int) := by omega
  have hwp : IntKind.i64.wrap (pq : Int) = (pq : Int) := IntWalk.i64_in _ (by omega)
  have hpl2 : pq < (fileS E3).length := by have := HPN.out; omega
  obtain ⟨ta, tc, hcut, hcr⟩ := cut_to HR15.out pq (by omega)
  have hcut2 := fun w' => hcut w' .i64
  have HBAD := Lib.hid (sall_bad w15 _ _ hcr (by rw [List.length_take]; have := l3; omega) (fun E hE => isS_cut i3 hpl2 hE))
  clear hpq hcut hcr hpl2
  go_upto_region 14 with (go_at_call 14; refine HBAD.out.mono ?_; rintro e w16 ⟨⟨ua, uc, rfl⟩, hb16⟩)
  have HB16 := Lib.hid (HB15.out.trans (hb16.mono HB15.out.size))
  replace HCA := Lib.hid (HCA.out.below hb16)
  replace HCB := Lib.hid (HCB.out.below hb16)
  clear hb16 hcut2 HBAD HB15 HR15 hpi hwp
  have HSS : Hid (∀ w', Below w16.heap.size w16 w' → Below w16.heap.size w16 w' ∧ w'.cell? ⟨w5.heap.size, 0, none⟩ = some (.string ⟨#[98]⟩) ∧ w'.cell? ⟨w5.heap.size, 1, none⟩ = some (.int .u64 5) ∧ w'.cell? ⟨w5.heap.size, 2, none⟩ = some (.bool true) ∧ w'.cell? ⟨w5.heap.size, 3, none⟩ = some (.string ⟨#[]⟩) ∧
    w'.cell? ⟨w6.heap.size, 0, none⟩ = some (.string ⟨#[98]⟩) ∧ w'.cell? ⟨w6.heap.size, 1, none⟩ = some (.int .u64 2) ∧ w'.cell? ⟨w6.heap.size, 2, none⟩ = some (.bool false) ∧ w'.cell? ⟨w6.heap.size, 3, none⟩ = some (.string ⟨#[121]⟩)) := fun w' hb =>
    ⟨hb, (HCA.out.below hb).cellv 0 _ rfl, (HCA.out.below hb).cellv 1 _ rfl, (HCA.out.below hb).cellv 2 _ rfl, (HCA.out.below hb).cellv 3 _ rfl, (HCB.out.below hb).cellv 0 _ rfl, (HCB.out.below hb).cellv 1 _ rfl, (HCB.out.below hb).cellv 2 _ rfl, (HCB.out.below hb).cellv 3 _ rfl⟩
  refine wp_region_held_drew (S := fun w' => Below w16.heap.size w16 w' ∧ w'.cell? ⟨w5.heap.size, 0, none⟩ = some (.string ⟨#[98]⟩) ∧ w'.cell? ⟨w5.heap.size, 1, none⟩ = some (.int .u64 5) ∧ w'.cell? ⟨w5.heap.size, 2, none⟩ = some (.bool true) ∧ w'.cell? ⟨w5.heap.size, 3, none⟩ = some (.string ⟨#[]⟩) ∧ w'.cell? ⟨w6.heap.size, 0, none⟩ = some (.string ⟨#[98]⟩) ∧ w'.cell? ⟨w6.heap.size, 1, none⟩ = some (.int .u64 2) ∧ w'.cell? ⟨w6.heap.size, 2, none⟩ = some (.bool false) ∧ w'.cell? ⟨w6.heap.size, 3, none⟩ = some (.string ⟨#[121]⟩)) (by kernel_rfl) (HSS.out _ (Below.refl _ _).drew) (fun hHeld => ?_)
  refine wpAnyH_take (i := 0) (v := ?vq1) (by simp only [List.getElem?_toArray]; rfl) (by kernel_rfl) (by kernel_rfl) (by kernel_rfl) (by exact fun _ _ _ h => h) (Or.inl ⟨by rfl, ?yq1⟩) (by assumption) ?rq1
  case yq1 => (intro w hSw; (try dsimp only at hSw); go_simp; try with_reducible rfl)
  try simp only [Act.put, List.setIfInBounds_toArray, List.set_cons_zero, List.set_cons_succ]
  refine wpAnyH_take (i := 1) (v := ?vq2) (by simp only [List.getElem?_toArray]; rfl) (by kernel_rfl) (by kernel_rfl) (by kernel_rfl) (by exact fun _ _ _ h => h) (Or.inl ⟨by rfl, ?yq2⟩) (by assumption) ?rq2
  case yq2 => (intro w hSw; (try dsimp only at hSw); go_simp; try with_reducible rfl)
  try simp only [Act.put, List.setIfInBounds_toArray, List.set_cons_zero, List.set_cons_succ]
  refine wpAnyH_take (i := 2) (v := ?vq3) (by simp only [List.getElem?_toArray]; rfl) (by kernel_rfl) (by kernel_rfl) (by kernel_rfl) (by exact fun _ _ _ h => h) (Or.inl ⟨by rfl, ?yq3⟩) (by assumption) ?rq3
  case yq3 => (intro w hSw; (try dsimp only at hSw); go_simp; try with_reducible rfl)
  try simp only [Act.put, List.setIfInBounds_toArray, List.set_cons_zero, List.set_cons_succ]
  refine wpAnyH_take (i := 3) (v := ?vq4) (by simp only [List.getElem?_toArray]; rfl) (by kernel_rfl) (by kernel_rfl) (by kernel_rfl) (by exact fun _ _ _ h => h) (Or.inl ⟨by rfl, ?yq4⟩) (by assumption) ?rq4
  case yq4 => (intro w hSw; (try dsimp only at hSw); go_simp; try with_reducible rfl)
  try simp only [Act.put, List.setIfInBounds_toArray, List.set_cons_zero, List.set_cons_succ]
  refine wpAnyH_take (i := 4) (v := ?vq5) (by simp only [List.getElem?_toArray]; rfl) (by kernel_rfl) (by kernel_rfl) (by kernel_rfl) (by exact fun _ _ _ h => h) (Or.inl ⟨by rfl, ?yq5⟩) (by assumption) ?rq5
  case yq5 => (intro w hSw; (try dsimp only at hSw); go_simp; try with_reducible rfl)
  try simp only [Act.put, List.setIfInBounds_toArray, List.set_cons_zero, List.set_cons_succ]
  refine wpAnyH_take (i := 5) (v := ?vq6) (by simp only [List.getElem?_toArray]; rfl) (by kernel_rfl) (by kernel_rfl) (by kernel_rfl) (by exact fun _ _ _ h => h) (Or.inl ⟨by rfl, ?yq6⟩) (by assumption) ?rq6
  case yq6 => (intro w hSw; (try dsimp only at hSw); go_simp; try with_reducible rfl)
  try simp only [Act.put, List.setIfInBounds_toArray, List.set_cons_zero, List.set_cons_succ]
  refine wpAnyH_take (i := 6) (v := ?vq7) (by simp only [List.getElem?_toArray]; rfl) (by kernel_rfl) (by kernel_rfl) (by kernel_rfl) (by exact fun _ _ _ h => h) (Or.inl ⟨by rfl, ?yq7⟩) (by assumption) ?rq7
  case yq7 => (intro w hSw; (try dsimp only at hSw); go_simp; try with_reducible rfl)
  try simp only [Act.put, List.setIfInBounds_toArray, List.set_cons_zero, List.set_cons_succ]
  refine wpAnyH_take (i := 7) (v := ?vq8) (by simp only [List.getElem?_toArray]; rfl) (by kernel_rfl) (by kernel_rfl) (by kernel_rfl) (by exact fun _ _ _ h => h) (Or.inl ⟨by rfl, ?yq8⟩) (by assumption) ?rq8
  case yq8 => (intro w hSw; (try dsimp only at hSw); go_simp; try with_reducible rfl)
  try simp only [Act.put, List.setIfInBounds_toArray, List.set_cons_zero, List.set_cons_succ]
  refine wpAnyH_take (i := 8) (v := ?vq9) (by simp only [List.getElem?_toArray]; rfl) (by kernel_rfl) (by kernel_rfl) (by kernel_rfl) (by exact fun _ _ _ h => h) (Or.inl ⟨by rfl, ?yq9⟩) (by assumption) ?rq9
  case yq9 => (intro w hSw; (try dsimp only at hSw); go_simp; try with_reducible rfl)
  try simp only [Act.put, List.setIfInBounds_toArray, List.set_cons_zero, List.set_cons_succ]
  refine wpAnyH_take (i := 9) (v := ?vq10) (by simp only [List.getElem?_toArray]; rfl) (by kernel_rfl) (by kernel_rfl) (by kernel_rfl) (by exact fun _ _ _ h => h) (Or.inl ⟨by rfl, ?yq10⟩) (by assumption) ?rq10
  case yq10 => (intro w hSw; (try dsimp only at hSw); go_simp; try with_reducible rfl)
  try simp only [Act.put, List.setIfInBounds_toArray, List.set_cons_zero, List.set_cons_succ]
  refine wpAnyH_take (i := 10) (v := ?vq11) (by simp only [List.getElem?_toArray]; rfl) (by kernel_rfl) (by kernel_rfl) (by kernel_rfl) (by exact fun _ _ _ h => h) (Or.inl ⟨by rfl, ?yq11⟩) (by assumption) ?rq11
  case yq11 => (intro w hSw; (try dsimp only at hSw); go_simp; try with_reducible rfl)
  try simp only [Act.put, List.setIfInBounds_toArray, List.set_cons_zero, List.set_cons_succ]
  refine wpAnyH_take (i := 11) (v := ?vq12) (by simp only [List.getElem?_toArray]; rfl) (by kernel_rfl) (by kernel_rfl) (by kernel_rfl) (by exact fun _ _ _ h => h) (Or.inl ⟨by rfl, ?yq12⟩) (by assumption) ?rq12
  case yq12 => (intro w hSw; (try dsimp only at hSw); go_simp; try with_reducible rfl)
  try simp only [Act.put, List.setIfInBounds_toArray, List.set_cons_zero, List.set_cons_succ]
  refine wpAnyH_take (i := 12) (v := ?vq13) (by simp only [List.getElem?_toArray]; rfl) (by kernel_rfl) (by kernel_rfl) (by kernel_rfl) (by exact fun _ _ _ h => h) (Or.inl ⟨by rfl, ?yq13⟩) (by assumption) ?rq13
  case yq13 => (intro w hSw; (try dsimp only at hSw); go_simp; try with_reducible rfl)
  try simp only [Act.put, List.setIfInBounds_toArray, List.set_cons_zero, List.set_cons_succ]
  refine wpAnyH_take (i := 13) (v := ?vq14) (by simp only [List.getElem?_toArray]; rfl) (by kernel_rfl) (by kernel_rfl) (by kernel_rfl) (by exact fun _ _ _ h => h) (Or.inl ⟨by rfl, ?yq14⟩) (by assumption) ?rq14
  case yq14 => (intro w hSw; (try dsimp only at hSw); go_simp; try with_reducible rfl)
  try simp only [Act.put, List.setIfInBounds_toArray, List.set_cons_zero, List.set_cons_succ]
  refine wpAnyH_ready (rs := [14]) (by kernel_rfl) (by simp) ?_
  refine AllReadyH.cons (by simp only [List.getElem?_toArray]; rfl) (fun K hK => ?_) AllReadyH.nil
  go_simp
  refine (entry10_any _ ⟨#[98]⟩ ⟨#[]⟩ 5 true (by decide)).mono ?_
  rintro e w17 ⟨rfl, hb⟩
  have BC17 : Below w16.heap.size w16 w17 := hHeld.1.trans (hb.mono hHeld.1.size)
  refine hK.out _ _ (HSS.out _ BC17) (fun hHeld => ?_)
  clear hK K hb
  try simp only [Act.put, List.setIfInBounds_toArray, List.set_cons_zero, List.set_cons_succ]
  refine wpAnyH_take (i := 15) (v := ?vq15) (by simp only [List.getElem?_toArray]; rfl) (by kernel_rfl) (by kernel_rfl) (by kernel_rfl) (by exact fun _ _ _ h => h) (Or.inl ⟨by rfl, ?yq15⟩) (by assumption) ?rq15
  case yq15 => (intro w hSw; (try dsimp only at hSw); go_simp; try with_reducible rfl)
  try simp only [Act.put, List.setIfInBounds_toArray, List.set_cons_zero, List.set_cons_succ]
  refine wpAnyH_take (i := 16) (v := ?vq16) (by simp only [List.getElem?_toArray]; rfl) (by kernel_rfl) (by kernel_rfl) (by kernel_rfl) (by exact fun _ _ _ h => h) (Or.inl ⟨by rfl, ?yq16⟩) (by assumption) ?rq16
  case yq16 => (intro w hSw; (try dsimp only at hSw); go_simp; try with_reducible rfl)
  try simp only [Act.put, List.setIfInBounds_toArray, List.set_cons_zero, List.set_cons_succ]
  refine wpAnyH_take (i := 17) (v := ?vq17) (by simp only [List.getElem?_toArray]; rfl) (by kernel_rfl) (by kernel_rfl) (by kernel_rfl) (by exact fun _ _ _ h => h) (Or.inl ⟨by rfl, ?yq17⟩) (by assumption) ?rq17
  case yq17 => (intro w hSw; (try dsimp only at hSw); go_simp; try with_reducible rfl)
  try simp only [Act.put, List.setIfInBounds_toArray, List.set_cons_zero, List.set_cons_succ]
  refine wpAnyH_take (i := 18) (v := ?vq18) (by simp only [List.getElem?_toArray]; rfl) (by kernel_rfl) (by kernel_rfl) (by kernel_rfl) (by exact fun _ _ _ h => h) (Or.inl ⟨by rfl, ?yq18⟩) (by assumption) ?rq18
  case yq18 => (intro w hSw; (try dsimp only at hSw); go_simp; try with_reducible rfl)
  try simp only [Act.put, List.setIfInBounds_toArray, List.set_cons_zero, List.set_cons_succ]
  refine wpAnyH_ready (rs := [19]) (by kernel_rfl) (by simp) ?_
  refine AllReadyH.cons (by simp only [List.getElem?_toArray]; rfl) (fun K hK => ?_) AllReadyH.nil
  go_simp
  refine (entry10_any _ ⟨#[98]⟩ ⟨#[121]⟩ 2 false (by decide)).mono ?_
  rintro e w18 ⟨rfl, hb⟩
  have BC18 : Below w16.heap.size w16 w18 := hHeld.1.trans (hb.mono hHeld.1.size)
  refine hK.out _ _ (HSS.out _ BC18) (fun hHeld => ?_)
  clear hK K hb
  try simp only [Act.put, List.setIfInBounds_toArray, List.set_cons_zero, List.set_cons_succ]
  refine wpAnyH_take (i := 20) (v := ?vq19) (by simp only [List.getElem?_toArray]; rfl) (by kernel_rfl) (by kernel_rfl) (by kernel_rfl) (by exact fun _ _ _ h => h) (Or.inl ⟨by rfl, ?yq19⟩) (by assumption) ?rq19
  case yq19 => (intro w hSw; (try dsimp only at hSw); go_simp; try with_reducible rfl)
  try simp only [Act.put, List.setIfInBounds_toArray, List.set_cons_zero, List.set_cons_succ]
  refine wpAnyH_take (i := 21) (v := ?vq20) (by simp only [List.getElem?_toArray]; rfl) (by kernel_rfl) (by kernel_rfl) (by kernel_rfl) (by exact fun _ _ _ h => h) (Or.inl ⟨by rfl, ?yq20⟩) (by assumption) ?rq20
  case yq20 => (intro w hSw; (try dsimp only at hSw); go_simp; try with_reducible rfl)
  try simp only [Act.put, List.setIfInBounds_toArray, List.set_cons_zero, List.set_cons_succ]
  refine wpAnyH_take (i := 22) (v := ?vq21) (by simp only [List.getElem?_toArray]; rfl) (by kernel_rfl) (by kernel_rfl) (by kernel_rfl) (by exact fun _ _ _ h => h) (Or.inl ⟨by rfl, ?yq21⟩) (by assumption) ?rq21
  case yq21 => (intro w hSw; (try dsimp only at hSw); go_simp; try with_reducible rfl)
  try simp only [Act.put, List.setIfInBounds_toArray, List.set_cons_zero, List.set_cons_succ]
  refine wpAnyH_take (i := 23) (v := ?vq22) (by simp only [List.getElem?_toArray]; rfl) (by kernel_rfl) (by kernel_rfl) (by kernel_rfl) (by exact fun _ _ _ h => h) (Or.inl ⟨by rfl, ?yq22⟩) (by assumption) ?rq22
  case yq22 => (intro w hSw; (try dsimp only at hSw); go_simp; try with_reducible rfl)
  try simp only [Act.put, List.setIfInBounds_toArray, List.set_cons_zero, List.set_cons_succ]
  refine wpAnyH_take (i := 24) (v := ?vq23) (by simp only [List.getElem?_toArray]; rfl) (by kernel_rfl) (by kernel_rfl) (by kernel_rfl) (by exact fun _ _ _ h => h) (Or.inl ⟨by rfl, ?yq23⟩) (by assumption) ?rq23
  case yq23 => (intro w hSw; (try dsimp only at hSw); go_simp; try with_reducible rfl)
  try simp only [Act.put, List.setIfInBounds_toArray, List.set_cons_zero, List.set_cons_succ]
  refine wpAnyH_take (i := 25) (v := ?vq24) (by simp only [List.getElem?_toArray]; rfl) (by kernel_rfl) (by kernel_rfl) (by kernel_rfl) (by exact fun _ _ _ h => h) (Or.inl ⟨by rfl, ?yq24⟩) (by assumption) ?rq24
  case yq24 => (intro w hSw; (try dsimp only at hSw); go_simp; try with_reducible rfl)
  try simp only [Act.put, List.setIfInBounds_toArray, List.set_cons_zero, List.set_cons_succ]
  refine wpAnyH_take (i := 26) (v := ?vq25) (by simp only [List.getElem?_toArray]; rfl) (by kernel_rfl) (by kernel_rfl) (by kernel_rfl) (by exact fun _ _ _ h => h) (Or.inl ⟨by rfl, ?yq25⟩) (by assumption) ?rq25
  case yq25 => (intro w hSw; (try dsimp only at hSw); go_simp; try with_reducible rfl)
  try simp only [Act.put, List.setIfInBounds_toArray, List.set_cons_zero, List.set_cons_succ]
  refine wpAnyH_take (i := 27) (v := ?vq26) (by simp only [List.getElem?_toArray]; rfl) (by kernel_rfl) (by kernel_rfl) (by kernel_rfl) (by exact fun _ _ _ h => h) (Or.inl ⟨by rfl, ?yq26⟩) (by assumption) ?rq26
  case yq26 => (intro w hSw; (try dsimp only at hSw); go_simp; try with_reducible rfl)
  try simp only [Act.put, List.setIfInBounds_toArray, List.set_cons_zero, List.set_cons_succ]
  refine wpAnyH_take (i := 28) (v := ?vq27) (by simp only [List.getElem?_toArray]; rfl) (by kernel_rfl) (by kernel_rfl) (by kernel_rfl) (by exact fun _ _ _ h => h) (Or.inl ⟨by rfl, ?yq27⟩) (by assumption) ?rq27
  case yq27 => (intro w hSw; (try dsimp only at hSw); go_simp; try with_reducible rfl)
  try simp only [Act.put, List.setIfInBounds_toArray, List.set_cons_zero, List.set_cons_succ]
  refine wpAnyH_take (i := 29) (v := ?vq28) (by simp only [List.getElem?_toArray]; rfl) (by kernel_rfl) (by kernel_rfl) (by kernel_rfl) (by exact fun _ _ _ h => h) (Or.inl ⟨by rfl, ?yq28⟩) (by assumption) ?rq28
  case yq28 => (intro w hSw; (try dsimp only at hSw); go_simp; try with_reducible rfl)
  try simp only [Act.put, List.setIfInBounds_toArray, List.set_cons_zero, List.set_cons_succ]
  refine wpAnyH_take (i := 30) (v := ?vq29) (by simp only [List.getElem?_toArray]; rfl) (by kernel_rfl) (by kernel_rfl) (by kernel_rfl) (by exact fun _ _ _ h => h) (Or.inl ⟨by rfl, ?yq29⟩) (by assumption) ?rq29
  case yq29 => (intro w hSw; (try dsimp only at hSw); go_simp; try with_reducible rfl)
  try simp only [Act.put, List.setIfInBounds_toArray, List.set_cons_zero, List.set_cons_succ]
  refine wpAnyH_take (i := 31) (v := ?vq30) (by simp only [List.getElem?_toArray]; rfl) (by kernel_rfl) (by kernel_rfl) (by kernel_rfl) (by exact fun _ _ _ h => h) (Or.inl ⟨by rfl, ?yq30⟩) (by assumption) ?rq30
  case yq30 => (intro w hSw; (try dsimp only at hSw); go_simp; try with_reducible rfl)
  try simp only [Act.put, List.setIfInBounds_toArray, List.set_cons_zero, List.set_cons_succ]
  refine wpAnyH_take (i := 32) (v := ?vq31) (by simp only [List.getElem?_toArray]; rfl) (by kernel_rfl) (by kernel_rfl) (by kernel_rfl) (by exact fun _ _ _ h => h) (Or.inl ⟨by rfl, ?yq31⟩) (by assumption) ?rq31
  case yq31 => (intro w hSw; (try dsimp only at hSw); go_simp; try with_reducible rfl)
  try simp only [Act.put, List.setIfInBounds_toArray, List.set_cons_zero, List.set_cons_succ]
  refine wpAnyH_take (i := 33) (v := ?vq32) (by simp only [List.getElem?_toArray]; rfl) (by kernel_rfl) (by kernel_rfl) (by kernel_rfl) (by exact fun _ _ _ h => h) (Or.inl ⟨by rfl, ?yq32⟩) (by assumption) ?rq32
  case yq32 => (intro w hSw; (try dsimp only at hSw); go_simp; try with_reducible rfl)
  try simp only [Act.put, List.setIfInBounds_toArray, List.set_cons_zero, List.set_cons_succ]
  refine wpAnyH_take (i := 34) (v := ?vq33) (by simp only [List.getElem?_toArray]; rfl) (by kernel_rfl) (by kernel_rfl) (by kernel_rfl) (by exact fun _ _ _ h => h) (Or.inl ⟨by rfl, ?yq33⟩) (by assumption) ?rq33
  case yq33 => (intro w hSw; (try dsimp only at hSw); go_simp; try with_reducible rfl)
  try simp only [Act.put, List.setIfInBounds_toArray, List.set_cons_zero, List.set_cons_succ]
  refine wpAnyH_take (i := 35) (v := ?vq34) (by simp only [List.getElem?_toArray]; rfl) (by kernel_rfl) (by kernel_rfl) (by kernel_rfl) (by exact fun _ _ _ h => h) (Or.inl ⟨by rfl, ?yq34⟩) (by assumption) ?rq34
  case yq34 => (intro w hSw; (try dsimp only at hSw); go_simp; try with_reducible rfl)
  try simp only [Act.put, List.setIfInBounds_toArray, List.set_cons_zero, List.set_cons_succ]
  refine wpAnyH_take (i := 36) (v := ?vq35) (by simp only [List.getElem?_toArray]; rfl) (by kernel_rfl) (by kernel_rfl) (by kernel_rfl) (by exact fun _ _ _ h => h) (Or.inl ⟨by rfl, ?yq35⟩) (by assumption) ?rq35
  case yq35 => (intro w hSw; (try dsimp only at hSw); go_simp; try with_reducible rfl)
  try simp only [Act.put, List.setIfInBounds_toArray, List.set_cons_zero, List.set_cons_succ]
  refine wpAnyH_take (i := 37) (v := ?vq36) (by simp only [List.getElem?_toArray]; rfl) (by kernel_rfl) (by kernel_rfl) (by kernel_rfl) (by exact fun _ _ _ h => h) (Or.inl ⟨by rfl, ?yq36⟩) (by assumption) ?rq36
  case yq36 => (intro w hSw; (try dsimp only at hSw); go_simp; try with_reducible rfl)
  try simp only [Act.put, List.setIfInBounds_toArray, List.set_cons_zero, List.set_cons_succ]
  refine wpAnyH_take (i := 38) (v := ?vq37) (by simp only [List.getElem?_toArray]; rfl) (by kernel_rfl) (by kernel_rfl) (by kernel_rfl) (by exact fun _ _ _ h => h) (Or.inl ⟨by rfl, ?yq37⟩) (by assumption) ?rq37
  case yq37 => (intro w hSw; (try dsimp only at hSw); go_simp; try with_reducible rfl)
  try simp only [Act.put, List.setIfInBounds_toArray, List.set_cons_zero, List.set_cons_succ]
  refine wpAnyH_take (i := 39) (v := ?vq38) (by simp only [List.getElem?_toArray]; rfl) (by kernel_rfl) (by kernel_rfl) (by kernel_rfl) (by exact fun _ _ _ h => h) (Or.inl ⟨by rfl, ?yq38⟩) (by assumption) ?rq38
  case yq38 => (intro w hSw; (try dsimp only at hSw); go_simp; try with_reducible rfl)
  try simp only [Act.put, List.setIfInBounds_toArray, List.set_cons_zero, List.set_cons_succ]
  refine wpAnyH_take (i := 40) (v := ?vq39) (by simp only [List.getElem?_toArray]; rfl) (by kernel_rfl) (by kernel_rfl) (by kernel_rfl) (by exact fun _ _ _ h => h) (Or.inl ⟨by rfl, ?yq39⟩) (by assumption) ?rq39
  case yq39 => (intro w hSw; (try dsimp only at hSw); go_simp; try with_reducible rfl)
  try simp only [Act.put, List.setIfInBounds_toArray, List.set_cons_zero, List.set_cons_succ]
  refine wpAnyH_take (i := 41) (v := ?vq40) (by simp only [List.getElem?_toArray]; rfl) (by kernel_rfl) (by kernel_rfl) (by kernel_rfl) (by exact fun _ _ _ h => h) (Or.inl ⟨by rfl, ?yq40⟩) (by assumption) ?rq40
  case yq40 => (intro w hSw; (try dsimp only at hSw); go_simp; try with_reducible rfl)
  try simp only [Act.put, List.setIfInBounds_toArray, List.set_cons_zero, List.set_cons_succ]
  refine wpAnyH_take (i := 42) (v := ?vq41) (by simp only [List.getElem?_toArray]; rfl) (by kernel_rfl) (by kernel_rfl) (by kernel_rfl) (by exact fun _ _ _ h => h) (Or.inl ⟨by rfl, ?yq41⟩) (by assumption) ?rq41
  case yq41 => (intro w hSw; (try dsimp only at hSw); go_simp; try with_reducible rfl)
  try simp only [Act.put, List.setIfInBounds_toArray, List.set_cons_zero, List.set_cons_succ]
  refine wpAnyH_take (i := 43) (v := ?vq42) (by simp only [List.getElem?_toArray]; rfl) (by kernel_rfl) (by kernel_rfl) (by kernel_rfl) (by exact fun _ _ _ h => h) (Or.inl ⟨by rfl, ?yq42⟩) (by assumption) ?rq42
  case yq42 => (intro w hSw; (try dsimp only at hSw); go_simp; try with_reducible rfl)
  try simp only [Act.put, List.setIfInBounds_toArray, List.set_cons_zero, List.set_cons_succ]
  refine wpAnyH_take (i := 44) (v := ?vq43) (by simp only [List.getElem?_toArray]; rfl) (by kernel_rfl) (by kernel_rfl) (by kernel_rfl) (by exact fun _ _ _ h => h) (Or.inl ⟨by rfl, ?yq43⟩) (by assumption) ?rq43
  case yq43 => (intro w hSw; (try dsimp only at hSw); go_simp; try with_reducible rfl)
  try simp only [Act.put, List.setIfInBounds_toArray, List.set_cons_zero, List.set_cons_succ]
  refine wpAnyH_take (i := 45) (v := ?vq44) (by simp only [List.getElem?_toArray]; rfl) (by kernel_rfl) (by kernel_rfl) (by kernel_rfl) (by exact fun _ _ _ h => h) (Or.inl ⟨by rfl, ?yq44⟩) (by assumption) ?rq44
  case yq44 => (intro w hSw; (try dsimp only at hSw); go_simp; try with_reducible rfl)
  try simp only [Act.put, List.setIfInBounds_toArray, List.set_cons_zero, List.set_cons_succ]
  refine wpAnyH_take (i := 46) (v := ?vq45) (by simp only [List.getElem?_toArray]; rfl) (by kernel_rfl) (by kernel_rfl) (by kernel_rfl) (by exact fun _ _ _ h => h) (Or.inl ⟨by rfl, ?yq45⟩) (by assumption) ?rq45
  case yq45 => (intro w hSw; (try dsimp only at hSw); go_simp; try with_reducible rfl)
  try simp only [Act.put, List.setIfInBounds_toArray, List.set_cons_zero, List.set_cons_succ]
  refine wpAnyH_take (i := 47) (v := ?vq46) (by simp only [List.getElem?_toArray]; rfl) (by kernel_rfl) (by kernel_rfl) (by kernel_rfl) (by exact fun _ _ _ h => h) (Or.inl ⟨by rfl, ?yq46⟩) (by assumption) ?rq46
  case yq46 => (intro w hSw; (try dsimp only at hSw); go_simp; try with_reducible rfl)
  try simp only [Act.put, List.setIfInBounds_toArray, List.set_cons_zero, List.set_cons_succ]
  refine wpAnyH_take (i := 48) (v := ?vq47) (by simp only [List.getElem?_toArray]; rfl) (by kernel_rfl) (by kernel_rfl) (by kernel_rfl) (by exact fun _ _ _ h => h) (Or.inl ⟨by rfl, ?yq47⟩) (by assumption) ?rq47
  case yq47 => (intro w hSw; (try dsimp only at hSw); go_simp; try with_reducible rfl)
  try simp only [Act.put, List.setIfInBounds_toArray, List.set_cons_zero, List.set_cons_succ]
  refine wpAnyH_take (i := 49) (v := ?vq48) (by simp only [List.getElem?_toArray]; rfl) (by kernel_rfl) (by kernel_rfl) (by kernel_rfl) (by exact fun _ _ _ h => h) (Or.inl ⟨by rfl, ?yq48⟩) (by assumption) ?rq48
  case yq48 => (intro w hSw; (try dsimp only at hSw); go_simp; try with_reducible rfl)
  try simp only [Act.put, List.setIfInBounds_toArray, List.set_cons_zero, List.set_cons_succ]
  refine wpAnyH_take (i := 50) (v := ?vq49) (by simp only [List.getElem?_toArray]; rfl) (by kernel_rfl) (by kernel_rfl) (by kernel_rfl) (by exact fun _ _ _ h => h) (Or.inl ⟨by rfl, ?yq49⟩) (by assumption) ?rq49
  case yq49 => (intro w hSw; (try dsimp only at hSw); go_simp; try with_reducible rfl)
  try simp only [Act.put, List.setIfInBounds_toArray, List.set_cons_zero, List.set_cons_succ]
  refine wpAnyH_take (i := 51) (v := ?vq50) (by simp only [List.getElem?_toArray]; rfl) (by kernel_rfl) (by kernel_rfl) (by kernel_rfl) (by exact fun _ _ _ h => h) (Or.inl ⟨by rfl, ?yq50⟩) (by assumption) ?rq50
  case yq50 => (intro w hSw; (try dsimp only at hSw); go_simp; try with_reducible rfl)
  try simp only [Act.put, List.setIfInBounds_toArray, List.set_cons_zero, List.set_cons_succ]
  refine wpAnyH_take (i := 52) (v := ?vq51) (by simp only [List.getElem?_toArray]; rfl) (by kernel_rfl) (by kernel_rfl) (by kernel_rfl) (by exact fun _ _ _ h => h) (Or.inl ⟨by rfl, ?yq51⟩) (by assumption) ?rq51
  case yq51 => (intro w hSw; (try dsimp only at hSw); go_simp; try with_reducible rfl)
  try simp only [Act.put, List.setIfInBounds_toArray, List.set_cons_zero, List.set_cons_succ]
  refine wpAnyH_take (i := 53) (v := ?vq52) (by simp only [List.getElem?_toArray]; rfl) (by kernel_rfl) (by kernel_rfl) (by kernel_rfl) (by exact fun _ _ _ h => h) (Or.inl ⟨by rfl, ?yq52⟩) (by assumption) ?rq52
  case yq52 => (intro w hSw; (try dsimp only at hSw); go_simp; try with_reducible rfl)
  try simp only [Act.put, List.setIfInBounds_toArray, List.set_cons_zero, List.set_cons_succ]
  refine wpAnyH_take (i := 54) (v := ?vq53) (by simp only [List.getElem?_toArray]; rfl) (by kernel_rfl) (by kernel_rfl) (by kernel_rfl) (by exact fun _ _ _ h => h) (Or.inl ⟨by rfl, ?yq53⟩) (by assumption) ?rq53
  case yq53 => (intro w hSw; (try dsimp only at hSw); go_simp; try with_reducible rfl)
  try simp only [Act.put, List.setIfInBounds_toArray, List.set_cons_zero, List.set_cons_succ]
  refine wpAnyH_take (i := 55) (v := ?vq54) (by simp only [List.getElem?_toArray]; rfl) (by kernel_rfl) (by kernel_rfl) (by kernel_rfl) (by exact fun _ _ _ h => h) (Or.inl ⟨by rfl, ?yq54⟩) (by assumption) ?rq54
  case yq54 => (intro w hSw; (try dsimp only at hSw); go_simp; try with_reducible rfl)
  try simp only [Act.put, List.setIfInBounds_toArray, List.set_cons_zero, List.set_cons_succ]
  refine wpAnyH_take (i := 56) (v := ?vq55) (by simp only [List.getElem?_toArray]; rfl) (by kernel_rfl) (by kernel_rfl) (by kernel_rfl) (by exact fun _ _ _ h => h) (Or.inl ⟨by rfl, ?yq55⟩) (by assumption) ?rq55
  case yq55 => (intro w hSw; (try dsimp only at hSw); go_simp; try with_reducible rfl)
  try simp only [Act.put, List.setIfInBounds_toArray, List.set_cons_zero, List.set_cons_succ]
  refine wpAnyH_take (i := 57) (v := ?vq56) (by simp only [List.getElem?_toArray]; rfl) (by kernel_rfl) (by kernel_rfl) (by kernel_rfl) (by exact fun _ _ _ h => h) (Or.inl ⟨by rfl, ?yq56⟩) (by assumption) ?rq56
  case yq56 => (intro w hSw; (try dsimp only at hSw); go_simp; try with_reducible rfl)
  try simp only [Act.put, List.setIfInBounds_toArray, List.set_cons_zero]
  refine wpAnyH_done (by kernel_rfl) ?_ _
  have HBF := Lib.hid (HB16.out.trans (BC18.mono HB16.out.size))
  go_wp2_with fail
  go_ret
  exact ⟨by first | rfl | (simp; done), HBF.out⟩
end Go.Proofs.Ytbcnapkbdbefhaa

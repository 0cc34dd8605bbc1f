/- Walk of law04.alive: some answers that the document fixes. No condition. -/
import Derived.Test.YtafgioidneohhaaOrderGet
import Derived.Test.YtafgioidneohhaaOrderPut
import Derived.Test.YtafgioidneohhaaAlive1
import Derived.Deep.Cut
import Derived.Deep.RegionHeld3
namespace Go.Proofs.Ytafgioidneohhaa
open Go.RowKit

set_option maxRecDepth 100000 in
theorem mark_any (k : ByteArray) (s : Int) (w : World) : Calls Try.prog 29 #[.string k, .int .u64 s] w fun e w' => e = .returned (.agg #[.string k, .int .u64 s, .bool false]) ∧ Below w.heap.size w w' := by
  go_enter Try.func29, Try.ntmps29
  go_wp2
  exact bodyPost_ret (v := .agg #[.string k, .int .u64 s, .bool false]) (by simp [results, Try.results29, go_sem]) rfl ⟨rfl, (Below.refl _ _).alloc (Nat.le_refl _) _⟩

/-- order.Get of bytes that are told -/
theorem get_lit (l : List UInt8) (x : Ent) (n er : Nat) (k u : ByteArray) (s : Int) (g : Bool) (n' er' : Int) (h : eget l = (x, n, er)) (hk : bs x.key = k) (hs : s = x.seq) (hg : g = x.gone) (hu : bs x.val = u) (hn : n' = n) (he : er' = er) (hl : l.length ≤ 140737488351232) (w : World) (v : Value) (hv : Rd w v l) :
    Calls Try.prog 13 #[v] w fun e w' => e = .returned (.tuple #[.agg #[.string k, .int .u64 s, .bool g, .string u], .int .i64 n', .int .i64 er']) ∧ Below w.heap.size w w' := by
  refine (orderGet_any w v l hv hl).mono ?_
  rintro e w' ⟨rfl, hb⟩
  subst hk hs hg hu hn he
  rw [h]
  exact ⟨rfl, hb⟩
theorem check_lit (s : ByteArray) (b : Bool) (h : checkK s.data.toList = b) (w : World) : Calls Try.prog 14 #[.string s] w fun e w' => e = .returned (.bool b) ∧ w = w' := by
  subst h; exact check_any s w
theorem cmp_lit (k1 k2 : ByteArray) (s1 s2 : Nat) (a1 a2 : Int) (g1 g2 : Bool) (n : Int) (h1 : a1 = s1) (h2 : a2 = s2) (h : cmpM k1.data.toList s1 g1 k2.data.toList s2 g2 = n) (w : World) :
    Calls Try.prog 19 #[.agg #[.string k1, .int .u64 a1, .bool g1], .agg #[.string k2, .int .u64 a2, .bool g2]] w fun e w' => e = .returned (.int .i64 n) ∧ Below w.heap.size w w' := by
  subst h1 h2 h; exact orderCmp_any k1 k2 s1 s2 g1 g2 w
theorem oput_lit (l r : List UInt8) (k u t : ByteArray) (s : Nat) (a : Int) (g : Bool) (hs : a = s) (hr : l ++ eput ⟨k.data.toList, s, g, u.data.toList⟩ = r) (ht : bs r = t) (hl : l.length ≤ 68719476736) (hk : k.size ≤ 34359738368) (hu : u.size ≤ 34359738368) (hs2 : s < 18446744073709551616) (w : World) (v : Value) (hv : Rd w v l) :
    Calls Try.prog 16 #[v, .agg #[.string k, .int .u64 a, .bool g, .string u]] w fun e w' => ∃ b n c, e = .returned (.slice b n c) ∧ (convert 22 9 (.slice b n c)).run Try.prog w' = .ok (.string t) w' ∧ Below w.heap.size w w' := by
  subst hs hr ht
  refine (orderPut_any w v l k u s g hv hl hk hu hs2).mono ?_
  rintro e w' ⟨b, n, c, rfl, hn, hr, hb⟩
  exact ⟨b, n, c, rfl, run_str hr.out, hb⟩
theorem g4a : eget [1, 97, 5, 0, 1, 118, 9] = (⟨[97], 5, false, [118]⟩, 6, 0) := by kernel_rfl
theorem g4b : eget [1, 97, 5] = (Ent.none, 0, 5) := by kernel_rfl
theorem g4c : eget [0, 5, 1] = (Ent.none, 0, 4) := by kernel_rfl
theorem g4d : eget [1, 97, 5, 2] = (Ent.none, 0, 4) := by kernel_rfl
set_option maxRecDepth 100000 in
set_option maxHeartbeats 4000000 in
theorem alive04_any (w : World) : Calls Try.prog 11 #[] w (RetTrue w) := by
  have kc := fun (w : World) (C : Array Value) (n c : Nat) => Lib.run_convert_bytes_const (P := Try.prog) w 22 5 C n c Try.underlying22 Try.underlying5
  go_enter Try.func11, Try.ntmps11
  go_wp2_with fail
  refine (mark_any _ _ _).mono ?_
  rintro e w1 ⟨rfl, hb⟩
  go_upto_region 3 with (fail)
  obtain ⟨X, hX⟩ : ∃ X, X = w1.heap.size := ⟨_, rfl⟩
  have HX : Blk ((w1.alloc (.cells #[.string ⟨#[97]⟩, .int .u64 5, .bool false, .string ⟨#[118]⟩] 30)).alloc (.cells #[.string ⟨#[97]⟩, .int .u64 300, .bool true, .string ⟨#[]⟩] 30)) X #[.string ⟨#[97]⟩, .int .u64 5, .bool false, .string ⟨#[118]⟩] 30 := Blk.alloc (Blk.new_at _ _ _ _ hX) _
  have HY : Blk ((w1.alloc (.cells #[.string ⟨#[97]⟩, .int .u64 5, .bool false, .string ⟨#[118]⟩] 30)).alloc (.cells #[.string ⟨#[97]⟩, .int .u64 300, .bool true, .string ⟨#[]⟩] 30)) (X + 1) #[.string ⟨#[97]⟩, .int .u64 300, .bool true, .string ⟨#[]⟩] 30 := Blk.new_at _ _ _ _ (by simp [hX])
  replace hb : Below w.heap.size w ((w1.alloc (.cells #[.string ⟨#[97]⟩, .int .u64 5, .bool false, .string ⟨#[118]⟩] 30)).alloc (.cells #[.string ⟨#[97]⟩, .int .u64 300, .bool true, .string ⟨#[]⟩] 30)) := Below.trans hb ((below2' _ _ _).mono hb.size)
  rw [← hX]
  generalize (w1.alloc (.cells #[.string ⟨#[97]⟩, .int .u64 5, .bool false, .string ⟨#[118]⟩] 30)).alloc (.cells #[.string ⟨#[97]⟩, .int .u64 300, .bool true, .string ⟨#[]⟩] 30) = w2 at HX HY hb ⊢
  clear hX
  go_wp2_with fail
  have hba : Below w2.heap.size w2 (w2.alloc (.cells #[.int .u8 1, .int .u8 97, .int .u8 5, .int .u8 0, .int .u8 1, .int .u8 118, .int .u8 9] 5 (7, 8))) := (Below.refl _ _).alloc (Nat.le_refl _) _
  refine (get_lit [1, 97, 5, 0, 1, 118, 9] ⟨[97], 5, false, [118]⟩ 6 0 ⟨#[97]⟩ ⟨#[118]⟩ 5 false 6 0 g4a rfl rfl rfl rfl rfl rfl (by decide) _ _ (rd_lit w2 [1, 97, 5, 0, 1, 118, 9] _ _ 7 (by simp [u8s]) rfl (by decide) (7, 8))).mono ?_
  rintro e w3 ⟨rfl, hb3⟩
  have hb4 : Below w2.heap.size w2 w3 := Below.trans hba (hb3.mono hba.size)
  go_upto_region 4 with (fail)
  have hb5 : Below w2.heap.size w2 (w3.alloc (.cells #[.string ⟨#[97]⟩, .int .u64 5, .bool false, .string ⟨#[118]⟩] 30)) := hb4.alloc hb4.size _
  obtain ⟨Z, hZ⟩ : ∃ Z, Z = w3.heap.size := ⟨_, rfl⟩
  have HZ : Blk (w3.alloc (.cells #[.string ⟨#[97]⟩, .int .u64 5, .bool false, .string ⟨#[118]⟩] 30)) Z #[.string ⟨#[97]⟩, .int .u64 5, .bool false, .string ⟨#[118]⟩] 30 := Blk.new_at _ _ _ _ hZ
  rw [← hZ]
  replace HX := HX.below hb5
  replace HY := HY.below hb5
  replace hb := Below.trans hb (hb5.mono hb.size)
  generalize w3.alloc (.cells #[.string ⟨#[97]⟩, .int .u64 5, .bool false, .string ⟨#[118]⟩] 30) = w4 at HX HY HZ hb ⊢
  clear hba hb3 hb4 hb5 hZ
  go_wp2_with fail
  have hba : Below w4.heap.size w4 (w4.alloc (.cells #[.int .u8 1, .int .u8 97, .int .u8 5] 5 (3, 4))) := (Below.refl _ _).alloc (Nat.le_refl _) _
  refine (get_lit [1, 97, 5] Ent.none 0 5 ⟨#[]⟩ ⟨#[]⟩ 0 false 0 5 g4b rfl rfl rfl rfl rfl rfl (by decide) _ _ (rd_lit w4 [1, 97, 5] _ _ 3 (by simp [u8s]) rfl (by decide) (3, 4))).mono ?_
  rintro e w3 ⟨rfl, hb3⟩
  have hb4 : Below w4.heap.size w4 w3 := Below.trans hba (hb3.mono hba.size)
  go_upto_region 5 with (fail)
  have hb5 : Below w4.heap.size w4 (w3.alloc (.cells #[.string ⟨#[]⟩, .int .u64 0, .bool false, .string ⟨#[]⟩] 30)) := hb4.alloc hb4.size _
  replace HX := HX.below hb5
  replace HY := HY.below hb5
  replace HZ := HZ.below hb5
  replace hb := Below.trans hb (hb5.mono hb.size)
  generalize w3.alloc (.cells #[.string ⟨#[]⟩, .int .u64 0, .bool false, .string ⟨#[]⟩] 30) = w5 at HX HY HZ hb ⊢
  clear hba hb3 hb4 hb5
  go_wp2_with fail
  have hba : Below w5.heap.size w5 (w5.alloc (.cells #[.int .u8 0, .int .u8 5, .int .u8 1] 5 (3, 4))) := (Below.refl _ _).alloc (Nat.le_refl _) _
  refine (get_lit [0, 5, 1] Ent.none 0 4 ⟨#[]⟩ ⟨#[]⟩ 0 false 0 4 g4c rfl rfl rfl rfl rfl rfl (by decide) _ _ (rd_lit w5 [0, 5, 1] _ _ 3 (by simp [u8s]) rfl (by decide) (3, 4))).mono ?_
  rintro e w3 ⟨rfl, hb3⟩
  have hb4 : Below w5.heap.size w5 w3 := Below.trans hba (hb3.mono hba.size)
  go_upto_region 6 with (fail)
  have hb5 : Below w5.heap.size w5 (w3.alloc (.cells #[.string ⟨#[]⟩, .int .u64 0, .bool false, .string ⟨#[]⟩] 30)) := hb4.alloc hb4.size _
  replace HX := HX.below hb5
  replace HY := HY.below hb5
  replace HZ := HZ.below hb5
  replace hb := Below.trans hb (hb5.mono hb.size)
  generalize w3.alloc (.cells #[.string ⟨#[]⟩, .int .u64 0, .bool false, .string ⟨#[]⟩] 30) = w6 at HX HY HZ hb ⊢
  clear hba hb3 hb4 hb5
  go_wp2_with fail
  have hba : Below w6.heap.size w6 (w6.alloc (.cells #[.int .u8 1, .int .u8 97, .int .u8 5, .int .u8 2] 5 (4, 5))) := (Below.refl _ _).alloc (Nat.le_refl _) _
  refine (get_lit [1, 97, 5, 2] Ent.none 0 4 ⟨#[]⟩ ⟨#[]⟩ 0 false 0 4 g4d rfl rfl rfl rfl rfl rfl (by decide) _ _ (rd_lit w6 [1, 97, 5, 2] _ _ 4 (by simp [u8s]) rfl (by decide) (4, 5))).mono ?_
  rintro e w3 ⟨rfl, hb3⟩
  have hb4 : Below w6.heap.size w6 w3 := Below.trans hba (hb3.mono hba.size)
  go_upto_region 7 with (fail)
  have hb5 : Below w6.heap.size w6 (w3.alloc (.cells #[.string ⟨#[]⟩, .int .u64 0, .bool false, .string ⟨#[]⟩] 30)) := hb4.alloc hb4.size _
  replace HX := HX.below hb5
  replace HY := HY.below hb5
  replace HZ := HZ.below hb5
  replace hb := Below.trans hb (hb5.mono hb.size)
  generalize w3.alloc (.cells #[.string ⟨#[]⟩, .int .u64 0, .bool false, .string ⟨#[]⟩] 30) = w7 at HX HY HZ hb ⊢
  clear hba hb3 hb4 hb5
  go_upto_region 8 with (fail)
  obtain ⟨G, hG⟩ : ∃ G, G = w7.heap.size := ⟨_, rfl⟩
  have hb5 : Below w7.heap.size w7 (w7.alloc (.cells #[.string ⟨#[97]⟩, .int .u64 5, .bool true] 28)) := (Below.refl _ _).alloc (Nat.le_refl _) _
  have HG : Blk (w7.alloc (.cells #[.string ⟨#[97]⟩, .int .u64 5, .bool true] 28)) G #[.string ⟨#[97]⟩, .int .u64 5, .bool true] 28 := Blk.new_at _ _ _ _ hG
  rw [← hG]
  replace HX := HX.below hb5
  replace HY := HY.below hb5
  replace HZ := HZ.below hb5
  replace hb := Below.trans hb (hb5.mono hb.size)
  generalize w7.alloc (.cells #[.string ⟨#[97]⟩, .int .u64 5, .bool true] 28) = w8 at HX HY HZ HG hb ⊢
  clear hb5 hG
  have x0 := HX.cellv 0 (.string ⟨#[97]⟩) rfl
  have x1 := HX.cellv 1 (.int .u64 5) rfl
  have x2 := HX.cellv 2 (.bool false) rfl
  have x3 := HX.cellv 3 (.string ⟨#[118]⟩) rfl
  have z0 := HZ.cellv 0 (.string ⟨#[97]⟩) rfl
  have z1 := HZ.cellv 1 (.int .u64 5) rfl
  have z2 := HZ.cellv 2 (.bool false) rfl
  have z3 := HZ.cellv 3 (.string ⟨#[118]⟩) rfl
  go_wp2_with fail
  refine (check_lit ⟨#[97, 97, 97, 97, 97, 97, 97, 97, 97, 97, 97, 97, 97, 97, 97, 97, 97, 97, 97, 97, 97, 97, 97, 97, 97, 97, 97, 97, 97, 97, 97, 97]⟩ true (by kernel_rfl) _).mono ?_
  rintro e w' ⟨rfl, rfl⟩
  go_wp2_with fail
  refine (check_lit ⟨#[]⟩ false (by kernel_rfl) _).mono ?_
  rintro e w' ⟨rfl, rfl⟩
  go_wp2_with fail
  refine (check_lit ⟨#[97, 97, 97, 97, 97, 97, 97, 97, 97, 97, 97, 97, 97, 97, 97, 97, 97, 97, 97, 97, 97, 97, 97, 97, 97, 97, 97, 97, 97, 97, 97, 97, 97]⟩ false (by kernel_rfl) _).mono ?_
  rintro e w' ⟨rfl, rfl⟩
  go_upto_region 10 with (fail)
  have q1 := Lib.hid (cmp_lit ⟨#[97]⟩ ⟨#[98]⟩ 5 9 5 9 false false (-1) rfl rfl (by kernel_rfl))
  have q2 := Lib.hid (cmp_lit ⟨#[97]⟩ ⟨#[97]⟩ 5 4 5 4 false false (-1) rfl rfl (by kernel_rfl))
  have q3 := Lib.hid (cmp_lit ⟨#[97]⟩ ⟨#[97]⟩ 5 5 5 5 false true (1) rfl rfl (by kernel_rfl))
  have q4 := Lib.hid (cmp_lit ⟨#[97]⟩ ⟨#[97, 97]⟩ 5 9 5 9 false false (-1) rfl rfl (by kernel_rfl))
  have q5 := Lib.hid (cmp_lit ⟨#[97]⟩ ⟨#[97]⟩ 5 5 5 5 false false (0) rfl rfl (by kernel_rfl))
  have p1 := Lib.hid (fun (w' : World) => oput_lit [] [1, 97, 5, 0, 1, 118] ⟨#[97]⟩ ⟨#[118]⟩ ⟨#[1, 97, 5, 0, 1, 118]⟩ 5 5 false rfl rfl rfl (by decide) (by decide) (by decide) (by decide) w' _ (rd_nil w'))
  have p2 := Lib.hid (fun (w' : World) (v : Value) (hv : Rd w' v [7]) => oput_lit [7] [7, 1, 97, 172, 2, 1] ⟨#[97]⟩ ⟨#[]⟩ ⟨#[7, 1, 97, 172, 2, 1]⟩ 300 300 true rfl rfl rfl (by decide) (by decide) (by decide) (by decide) w' v hv)
  have hS : ∀ w', Below w8.heap.size w8 w' → w'.cell? ⟨X, 0, none⟩ = some (.string ⟨#[97]⟩) ∧ w'.cell? ⟨X, 1, none⟩ = some (.int .u64 5) ∧ w'.cell? ⟨X, 2, none⟩ = some (.bool false) ∧ w'.cell? ⟨X, 3, none⟩ = some (.string ⟨#[118]⟩) ∧ w'.cell? ⟨X + 1, 0, none⟩ = some (.string ⟨#[97]⟩) ∧ w'.cell? ⟨X + 1, 1, none⟩ = some (.int .u64 300) ∧ w'.cell? ⟨X + 1, 2, none⟩ = some (.bool true) ∧ w'.cell? ⟨X + 1, 3, none⟩ = some (.string ⟨#[]⟩) ∧ w'.cell? ⟨G, 0, none⟩ = some (.string ⟨#[97]⟩) ∧ w'.cell? ⟨G, 1, none⟩ = some (.int .u64 5) ∧ w'.cell? ⟨G, 2, none⟩ = some (.bool true) ∧ Below w8.heap.size w8 w' := fun w' hb' => ⟨(HX.below hb').cellv 0 _ rfl, (HX.below hb').cellv 1 _ rfl, (HX.below hb').cellv 2 _ rfl, (HX.below hb').cellv 3 _ rfl, (HY.below hb').cellv 0 _ rfl, (HY.below hb').cellv 1 _ rfl, (HY.below hb').cellv 2 _ rfl, (HY.below hb').cellv 3 _ rfl, (HG.below hb').cellv 0 _ rfl, (HG.below hb').cellv 1 _ rfl, (HG.below hb').cellv 2 _ rfl, hb'⟩
  have HS := Lib.hid hS
  have h88 : Below w8.heap.size w8 w8 := Below.refl _ _
  have H7 := Lib.hid (fun (w' : World) => rd_one w' 7 7 rfl 5)
  clear hS x0 x1 x2 x3 z0 z1 z2 z3 HX HY HG HZ kc
  go_region_held (fun w' => w'.cell? ⟨X, 0, none⟩ = some (.string ⟨#[97]⟩) ∧ w'.cell? ⟨X, 1, none⟩ = some (.int .u64 5) ∧ w'.cell? ⟨X, 2, none⟩ = some (.bool false) ∧ w'.cell? ⟨X, 3, none⟩ = some (.string ⟨#[118]⟩) ∧ w'.cell? ⟨X + 1, 0, none⟩ = some (.string ⟨#[97]⟩) ∧ w'.cell? ⟨X + 1, 1, none⟩ = some (.int .u64 300) ∧ w'.cell? ⟨X + 1, 2, none⟩ = some (.bool true) ∧ w'.cell? ⟨X + 1, 3, none⟩ = some (.string ⟨#[]⟩) ∧ w'.cell? ⟨G, 0, none⟩ = some (.string ⟨#[97]⟩) ∧ w'.cell? ⟨G, 1, none⟩ = some (.int .u64 5) ∧ w'.cell? ⟨G, 2, none⟩ = some (.bool true) ∧ Below w8.heap.size w8 w')
    ((go_split_ands; refine HS.out _ ?_; first | assumption | exact Below.drew h88 | exact Below.trans (by assumption) (hb9.mono (Below.size (by assumption))) | exact Below.alloc (by assumption) (Below.size (by assumption)) _))
    (first
      | (go_at_call 29; refine (mark_any _ _ _).mono ?_; rintro e w9 ⟨rfl, hb9⟩)
      | (go_at_call 19; (first | with_reducible refine (q1.out _).mono ?_ | with_reducible refine (q2.out _).mono ?_ | with_reducible refine (q3.out _).mono ?_ | with_reducible refine (q4.out _).mono ?_ | with_reducible refine (q5.out _).mono ?_); rintro e w9 ⟨rfl, hb9⟩)
      | (go_at_call 16; (first | with_reducible refine (p1.out _).mono ?_ | with_reducible refine (p2.out _ _ (H7.out _)).mono ?_); rintro e w9 ⟨pb, pn, pc, rfl, hcv, hb9⟩))
  go_wp2
  go_ret
  refine ⟨by first | rfl | (simp; done), Below.trans hb (Below.mono (B := w8.heap.size) ?_ hb.size)⟩
  go_split_ands
  assumption
end Go.Proofs.Ytafgioidneohhaa

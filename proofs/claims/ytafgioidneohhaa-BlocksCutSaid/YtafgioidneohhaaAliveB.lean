/- Walk of law08.alive: some answers that the document fixes. No condition. -/
import Derived.Test.YtafgioidneohhaaBlocks11
import Derived.Test.YtafgioidneohhaaAlive1
import Derived.Deep.Cut
namespace Go.Proofs.Ytafgioidneohhaa
open Go.RowKit

def e8a : PE := ⟨⟨#[97, 98]⟩, 5, false, ⟨#[118]⟩⟩
def e8b : PE := ⟨⟨#[97, 98, 99]⟩, 9, true, ⟨#[]⟩⟩
def e8c : PE := ⟨⟨#[98]⟩, 1, false, ⟨#[120]⟩⟩
def e8d : PE := ⟨⟨#[97]⟩, 1, false, ⟨#[120]⟩⟩
def b8 : List UInt8 := [0, 2, 97, 98, 5, 0, 1, 118, 2, 1, 99, 9, 1, 0, 0, 0, 1]
theorem p8a : mayL (entsOf [e8a, e8b]) = true := by kernel_rfl
theorem p8b : blkPut (entsOf [e8a, e8b]) = b8 := by kernel_rfl
theorem p8c : mayL (entsOf []) = false := by kernel_rfl
theorem p8d : mayL (entsOf [e8c, e8d]) = false := by kernel_rfl
theorem s8a : seekAt [97, 98, 99] 20 false (entsOf [e8a, e8b]) = 1 := by kernel_rfl
theorem s8b : seekAt [98] 0 false (entsOf [e8a, e8b]) = 2 := by kernel_rfl
theorem q8 : Seqs (entsOf [e8a, e8b]) := by
  intro x hx
  simp only [entsOf, List.map_cons, List.map_nil, List.mem_cons, List.not_mem_nil, or_false] at hx
  rcases hx with rfl | rfl <;> decide
theorem n8a : NoBlk [0, 0] := fun E hm _ hb => by
  have := blk_nine hm
  rw [hb] at this
  exact absurd this (by decide)
theorem n8b : NoBlk (b8 ++ [0]) := fun E hm hs hb => by
  have h := blk_prefix p8a q8 hm hs [0] (by rw [p8b]; exact hb.symm)
  rw [← h, p8b] at hb
  exact absurd (congrArg List.length hb) (by decide)
/-- an append leaves what the old slice holds -/
theorem run_app_keep {P : Program} (w : World) (base : Nat) (t ty e : TypeId) (i : TypeInfo) (z : Value) (size bytes : Nat) (ht : P.underlying t = some (.slice e)) (hi : P.info? e = some i) (hz : i.zero = some z)
    (hsize : i.size = size) (hby : i.bytes = bytes) (hzs : z.cells.size = size) (hsz : 0 < size)
    (v : Value) (n : Nat) (xs : List Value) (hown : Own w base e size v n xs) 
    (a : Addr) (cap m : Nat) (news : List Value) (hl : news.length = m * size) (hnews : ∀ j u, news[j]? = some u → w.cell? (a.add j) = some u) (h1 : ∀ u ∈ news, u.oneCell' = true)
    (hbytes : (n + m) * bytes ≤ 140737488355328) (hm : n + m ≤ 9223372036854775807) (v' : Value) (w' : World)
    (hrun : (Builtin.append_ #[t, t] ty #[v, .slice (some a) m cap]).run P w = .ok v' w') : Own w' base e size v n xs := by
  rcases hown with ⟨rfl, rfl, ad', rfl⟩ | ⟨hxl, g, cp, cur, fr, rfl, hbg, hg, hfr, hnc, hcm2, hcs, htake⟩
  · exact .inl ⟨rfl, rfl, ad', rfl⟩
  · subst hsize hby
    by_cases hroom : n + m ≤ cp
    · have hfit : n * i.size + news.length ≤ cur.size := by
        rw [hl, ← Nat.add_mul]
        exact Nat.le_trans (Nat.mul_le_mul_right _ hroom) hcs
      have hr := run_append_fr (P := P) w t ty e i ht hi g n cp cur fr hg hfr a m cap news hl hnews h1 hroom hfit
      rw [hr] at hrun
      cases hrun
      have hnl : n * i.size ≤ cur.size := by omega
      refine .inr ⟨hxl, g, cp, _, fr, rfl, hbg, setRow_heap w g cur _ e _ hg, ?_, hnc, hcm2, ?_, ?_⟩
      · intro k hk
        apply hfr
        simp only [List.size_toArray, List.length_append, List.length_take, List.length_drop, Array.length_toList] at hk
        omega
      · simp only [List.size_toArray, List.length_append, List.length_take, List.length_drop, Array.length_toList]
        omega
      · simp only [List.append_assoc]
        rw [htake]
        exact List.take_left' hxl
    · have holds : ∀ j u, xs[j]? = some u → w.cell? ((⟨g, 0, none⟩ : Addr).add j) = some u := by
        intro j u hu
        have hadd : (⟨g, 0, none⟩ : Addr).add j = ⟨g, j, none⟩ := by unfold Addr.add; split <;> simp_all
        rw [hadd, cell_of_row w g j cur e fr hg]
        rw [← htake, List.getElem?_take] at hu
        split at hu
        · simpa using hu
        · cases hu
      have hr := run_append_grow (P := P) w t ty e i z ht hi hz ⟨g, 0, none⟩ n cp xs hxl holds a m cap news hl hnews (by omega) (by omega) (growslice_fits (by omega) hbytes)
      rw [hr] at hrun
      cases hrun
      exact own_below (.inr ⟨hxl, g, cp, cur, fr, rfl, hbg, hg, hfr, hnc, hcm2, hcs, htake⟩) ((Below.refl _ _).drew.alloc (Nat.le_refl _) _)
theorem wp_app_both {w : World} {ops : Array Oper} {rest : List Oper} {o : Oper} {a : Act} {Q : Exit → Act → World → Prop} (hgd : o.guard = none) (s x : Operand)
    (ho : o.op = .call { callee := .builtin .append, args := #[s, x], argTypes := #[22, 22] })
    (base n m cap : Nat) (v : Value) (ad : Addr) (l k lk : List UInt8) (r : Nat) (hs : a.eval s = v) (hx : a.eval x = .slice (some ad) m cap) (hown : Own w base 5 1 v n (u8s l)) (hrd : Rd w (.slice (some ad) m cap) k)
    (hr : n + m = r) (hlk : l ++ k = lk) (hlen : n + m ≤ 1099511627776) (hbase : base ≤ w.heap.size)
    (h : ∀ b c w', Hid (Own w' base 5 1 (.slice b r c) r (u8s lk)) → Hid (Own w' base 5 1 v n (u8s l)) → Below base w w' → wpList Try.prog ops Q rest (a.put o.dst (.slice b r c)) w') : wpList Try.prog ops Q (o :: rest) a w := by
  subst hr hlk
  obtain ⟨a', c', hae, _, _, _⟩ := id hrd
  simp only [Value.slice.injEq] at hae
  have hml := hae.2.1
  clear hae
  have hr0 := rd_reads hrd
  rw [← hml] at hr0
  refine wpList_plain hgd fun K hK => ?_
  obtain ⟨i, hi, hz, hz1, hz2⟩ := info_parts info_u8
  obtain ⟨v', w', hr, h2, _, h4⟩ := run_app (P := Try.prog) w base 22 o.type 5 i (.int .u8 0) 1 1 Try.underlying22 hi hz hz1 hz2 rfl (by omega) v n (u8s l) hown _ m (u8s k) hr0 (one_u8s k) (by omega) (by omega) hbase
  have hk := run_app_keep (P := Try.prog) w base 22 o.type 5 i (.int .u8 0) 1 1 Try.underlying22 hi hz hz1 hz2 rfl (by omega) v n (u8s l) hown ad cap m (u8s k) (by rw [u8s_length, hml]; omega) (by
    have := (reads_cells hr0).2 ad rfl
    exact this) (one_u8s k) (by omega) (by omega) v' w' hr
  unfold Oper.wp execOp
  simp only [ho, resolve, invoke, builtin, Sem.run_bind, Sem.run_pure, Result.andThen_ok, List.map_toArray, List.map_cons, List.map_nil, hs, hx, hr]
  rw [← u8s_append] at h2
  obtain ⟨b, c, rfl⟩ := (reads_of_own h2).slice
  exact hK _ _ (h b c w' h2 hk h4)
set_option maxRecDepth 100000 in
set_option maxHeartbeats 4000000 in
theorem alive08_any (w : World) : Calls Try.prog 20 #[] w (RetTrue w) := by
  go_enter Try.func20, Try.ntmps20
  go_wp2_with fail
  refine (entry8_any _ _ _ _ false (by decide)).mono ?_
  rintro e w1 ⟨rfl, hb1⟩
  go_wp2_with fail
  refine (entry8_any _ _ _ _ true (by decide)).mono ?_
  rintro e w2 ⟨rfl, hb2⟩
  have hb12 := hb1.trans (hb2.mono hb1.size)
  have HB2 := Lib.hid hb12
  clear hb1 hb2 hb12
  have HAL : Hid (∀ o, Below w2.heap.size w2 (w2.alloc o)) := fun o => (Below.refl _ _).alloc (Nat.le_refl _) _
  have HP := Lib.hid (put_is _ _ [e8a, e8b] (rdE_new w2 [e8a, e8b] _ 30 2 rfl rfl (by decide)) (fun x hx => by
    simp only [List.mem_cons, List.not_mem_nil, or_false] at hx
    rcases hx with rfl | rfl <;> decide) p8a)
  go_wp2_with fail
  refine HP.out.mono ?_
  rintro e w3 ⟨pa, pn, pc, rfl, HN, HO, hb3⟩
  have hpn : pn = 17 := by rw [HN.out, p8b]; rfl
  subst hpn
  have hb23 := (HAL.out _).trans (hb3.mono (HAL.out _).size)
  have HB3 := Lib.hid (HB2.out.trans (hb23.mono HB2.out.size))
  have hO3 := own_mono HO.out (Nat.le_trans HB2.out.size (HAL.out _).size)
  rw [p8b] at hO3
  have HO3 := Lib.hid hO3
  clear hb3 hb23 HP HAL HN HO hO3 HB2
  -- Get
  have HG := Lib.hid (get_is w3 _ b8 _ (rd_of_own HO3.out).2 (by decide) p8a q8 p8b)
  go_wp2_with fail
  refine HG.out.mono ?_
  rintro e w4 ⟨ga, gn, gc, rfl, HN, _, hb4⟩
  have hgn : gn = 2 := HN.out
  subst hgn
  have HB4 := Lib.hid (HB3.out.trans (hb4.mono HB3.out.size))
  have HO4 := Lib.hid (own_below HO3.out hb4)
  clear HG HN hb4 HB3 HO3
  -- Seek, twice
  have HS := Lib.hid (seek_is w4 _ b8 _ ⟨#[97, 98, 99]⟩ 20 false 1 (rd_of_own HO4.out).2 (by decide) p8a q8 p8b s8a)
  go_wp2_with fail
  refine HS.out.mono ?_
  rintro e w5 ⟨sa, sn, sc, rfl, HN, _, hb5⟩
  have hsn : sn = 1 := HN.out
  subst hsn
  have HB5 := Lib.hid (HB4.out.trans (hb5.mono HB4.out.size))
  have HO5 := Lib.hid (own_below HO4.out hb5)
  clear HS HN hb5 HB4 HO4
  have HS := Lib.hid (seek_is w5 _ b8 _ ⟨#[98]⟩ 0 false 2 (rd_of_own HO5.out).2 (by decide) p8a q8 p8b s8b)
  go_wp2_with fail
  refine HS.out.mono ?_
  rintro e w6 ⟨ta, tn, tc, rfl, HN, _, hb6⟩
  have htn : tn = 0 := HN.out
  subst htn
  have HB6 := Lib.hid (HB5.out.trans (hb6.mono HB5.out.size))
  have HO6 := Lib.hid (own_below HO5.out hb6)
  clear HS HN hb6 HB5 HO5
  -- Put of none
  have HP := Lib.hid (put_no w6 (.slice none 0 0) [] ⟨none, 0, rfl, Nat.le_refl _, by decide, fun j hj => absurd hj (by simp)⟩ (by simp) p8c)
  go_wp2_with fail
  refine HP.out.mono ?_
  rintro e w7 ⟨rfl, hb7⟩
  have HB7 := Lib.hid (HB6.out.trans (hb7.mono HB6.out.size))
  have HO7 := Lib.hid (own_below HO6.out hb7)
  clear HP hb7 HB6 HO6
  go_upto_region 6 with (fail)
  -- Put of two that fall
  go_wp2_with fail
  refine (entry8_any _ _ _ _ false (by decide)).mono ?_
  rintro e w8 ⟨rfl, hb8⟩
  go_wp2_with fail
  refine (entry8_any _ _ _ _ false (by decide)).mono ?_
  rintro e w9 ⟨rfl, hb9⟩
  have hb79 := hb8.trans (hb9.mono hb8.size)
  have HB9 := Lib.hid (HB7.out.trans (hb79.mono HB7.out.size))
  have HO9 := Lib.hid (own_below HO7.out hb79)
  clear hb8 hb9 hb79 HB7 HO7
  have HAL : Hid (∀ o, Below w9.heap.size w9 (w9.alloc o)) := fun o => (Below.refl _ _).alloc (Nat.le_refl _) _
  have HP := Lib.hid (put_no _ _ [e8c, e8d] (rdE_new w9 [e8c, e8d] _ 30 2 rfl rfl (by decide)) (fun x hx => by
    simp only [List.mem_cons, List.not_mem_nil, or_false] at hx
    rcases hx with rfl | rfl <;> decide) p8d)
  go_wp2_with fail
  refine HP.out.mono ?_
  rintro e wa ⟨rfl, hba⟩
  have hb9a := (HAL.out _).trans (hba.mono (HAL.out _).size)
  have HBa := Lib.hid (HB9.out.trans (hb9a.mono HB9.out.size))
  have HOa := Lib.hid (own_below HO9.out hb9a)
  clear HP hba hb9a HB9 HO9 HAL
  go_upto_region 7 with (fail)
  -- Get of two zeros
  have HAL : Hid (∀ o, Below wa.heap.size wa (wa.alloc o)) := fun o => (Below.refl _ _).alloc (Nat.le_refl _) _
  have HR : Hid (Rd (wa.alloc (.cells #[.int .u8 0, .int .u8 0] 5)) (.slice (some ⟨wa.heap.size, 0, none⟩) 2 2) [0, 0]) := rd_lit wa [0, 0] _ _ 2 (by simp [u8s]) rfl (by decide)
  have HG := Lib.hid (get_no _ _ [0, 0] HR.out (by decide) n8a)
  go_wp2_with fail
  refine HG.out.mono ?_
  rintro e wb ⟨rfl, hbb⟩
  have hbab := (HAL.out _).trans (hbb.mono (HAL.out _).size)
  have HBb := Lib.hid (HBa.out.trans (hbab.mono HBa.out.size))
  have HOb := Lib.hid (own_below HOa.out hbab)
  clear HG HR hbb hbab HBa HOa HAL
  go_upto_region 8 with (fail)
  -- Get of one byte more
  have HAL : Hid (∀ o, Below wb.heap.size wb (wb.alloc o)) := fun o => (Below.refl _ _).alloc (Nat.le_refl _) _
  go_wp2_with (at_builtin; go_loud (refine wp_app_both rfl _ _ rfl w.heap.size 17 1 _ (.slice pa 17 pc) _ b8 [0] (b8 ++ [0]) 18 rfl rfl (own_below HOb.out (HAL.out _)) (rd_one wb 0 0 rfl _) rfl rfl (by omega) (Nat.le_trans HBb.out.size (HAL.out _).size) ?_); intro ua uc wc HU HOc hbc)
  have hBc := (HBb.out.trans ((HAL.out _).mono HBb.out.size)).trans hbc
  have HBc := Lib.hid hBc
  clear hbc hBc HBb HOb HAL
  have HG := Lib.hid (get_no _ _ (b8 ++ [0]) (rd_of_own HU.out).2 (by decide) n8b)
  go_wp2_with fail
  refine HG.out.mono ?_
  rintro e wd ⟨rfl, hbd⟩
  have HBd := Lib.hid (HBc.out.trans (hbd.mono HBc.out.size))
  have HOd := Lib.hid (own_below HOc.out hbd)
  clear HG HU hbd HBc HOc
  have hrs := run_str (rd_of_own HOd.out).2
  go_upto_region 9 with (fail)
  clear HOd
  have hb8 : bs b8 = ⟨#[0, 2, 97, 98, 5, 0, 1, 118, 2, 1, 99, 9, 1, 0, 0, 0, 1]⟩ := rfl
  rw [hb8] at hrs
  go_wp2_with fail
  go_ret
  exact ⟨by first | rfl | (simp; done), HBd.out⟩
end Go.Proofs.Ytafgioidneohhaa

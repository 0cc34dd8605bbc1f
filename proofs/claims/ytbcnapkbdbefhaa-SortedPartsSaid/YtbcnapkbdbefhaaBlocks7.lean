/- Walks of package blocks: Put. The condition: a slice of entries whose numbers are of 64 bits. -/
import Derived.Test.YtbcnapkbdbefhaaBlocks6
namespace Go.Proofs.Ytbcnapkbdbefhaa
open Go.RowKit

theorem own_reads {w : World} {base : Nat} {e : TypeId} {sz : Nat} {v : Value} {n : Nat} {xs : List Value} (h : Own w base e sz v n xs) : xs.length = n * sz := by
  obtain ⟨_, _, _, e, _⟩ := reads_of_own h
  exact e
set_option maxRecDepth 100000 in
set_option maxHeartbeats 1000000 in
theorem putStep2_any (w0 w : World) (base cP cB cL : Nat) (v : Value) (k p : Nat) (P : List Nat) (B : List UInt8) (pa : Option Addr) (np pc : Nat) (ba : Option Addr) (nb bc : Nat) (h : PutSt w0 base cP cB cL v P B w pa np pc ba nb bc)
    (hvs : PutVs w0 base cP cB cL) (hp : p < 65536) (hb : nb ≤ 1073741824) :
    Calls Try.prog 64 #[.int .i64 k, .int .i64 p, .pointer (some ⟨cB, 0, none⟩)] w fun e w' =>
      e = .returned (.tuple #[]) ∧ ∃ ba bc, PutSt w0 base cP cB cL v P (B ++ two p) w' pa np pc ba (nb + 2) bc := by
  have b0 := h.b.cellv 0 (.slice ba nb bc) rfl
  have H := Lib.hid h
  have HV := Lib.hid hvs
  clear h hvs
  go_enter Try.func64, Try.ntmps64
  go_wp2_with fail
  refine (number_any w base _ B nb p H.out.ob hp hb H.out.sz).mono ?_
  rintro e w2 ⟨ua, uc, rfl, hX, hG⟩
  have hcb := blk_under H.out.b HV.out.b1 hG.out.below
  have b1 := hcb.cellv 0 (.slice ba nb bc) rfl
  have f1 := hcb.free 0
  have HF := Lib.hid (H.out.grewB HV.out hX.out (by omega) hG.out)
  clear b0 hX hG hcb
  go_wp2_with fail
  go_end0
  exact ⟨rfl, ua, uc, HF.out⟩

set_option maxRecDepth 100000 in
set_option maxHeartbeats 2000000 in
theorem eachInt_any (w0 w : World) (base cP cB cL : Nat) (v : Value) (P : List Nat) (B : List UInt8) (pa : Option Addr) (np pc : Nat) (ba : Option Addr) (nb bc : Nat) (h : PutSt w0 base cP cB cL v P B w pa np pc ba nb bc)
    (hvs : PutVs w0 base cP cB cL) (hp : ∀ p ∈ P, p < 65536) (hb : nb ≤ 536870912) (hnp : np ≤ 1048576) :
    Calls Try.prog 63 #[.slice pa np pc, .func (.func 64) #[] #[.pointer (some ⟨cB, 0, none⟩)]] w fun e w' =>
      e = .returned (.tuple #[]) ∧ ∃ ba nb bc, PutSt w0 base cP cB cL v P (B ++ twos P) w' pa np pc ba nb bc := by
  have H := Lib.hid h
  have HV := Lib.hid hvs
  have HP := Lib.hid hp
  have HL : Hid (P.length = np) := by have := own_reads h.op; rw [i64s_length] at this; show _ = _; omega
  clear h hvs hp
  go_enter Try.func63, Try.ntmps63
  go_wp2_with fail
  show Code.wp _ _ _ _ _
  go_loopw [8] (fun i wr => ∃ k : Nat, k ≤ np ∧ i = .int .i64 k ∧ ∃ ba bc, Hid (PutSt w0 base cP cB cL v P (B ++ twos (P.take k)) wr pa np pc ba (nb + 2 * k) bc)) (fun i _ => np - (intOf i).toNat)
  case atStart => exact ⟨0, Nat.zero_le _, rfl, ba, bc, Lib.hid (by simpa [twos] using H.out)⟩
  case round =>
    obtain ⟨k, hk, rfl, xa, xc, HK⟩ := hrel
    by_cases hlt : k < np
    · have hkl : k < P.length := by rw [HL.out]; exact hlt
      obtain ⟨a', c', e1, _, _, _, hcell⟩ := reads_of_own HK.out.op
      obtain ⟨b3, off3, hae, c0⟩ := hcell k (by rw [i64s_length]; exact hkl)
      simp only [i64s, List.getElem_map] at c0
      simp only [Value.slice.injEq] at e1
      obtain ⟨e1, _, ec⟩ := e1
      rw [hae] at e1
      subst e1
      clear hcell hae ec
      have hpm := HP.out _ (List.getElem_mem hkl)
      have htk : Hid ((B ++ twos (P.take k)) ++ two P[k] = B ++ twos (P.take (k + 1))) := by
        show _ = _
        rw [List.take_succ_eq_append_getElem hkl, twos_app, List.append_assoc]; simp [twos]
      obtain ⟨p, hpe⟩ : ∃ p, p = P[k] := ⟨_, rfl⟩
      rw [← hpe] at c0 hpm htk
      clear hpe
      go_wp2_with fail
      refine (putStep2_any w0 wr base cP cB cL v k p P _ _ np pc xa _ xc HK.out HV.out hpm (by omega)).mono ?_
      rintro e w2 ⟨rfl, ya, yc, hy⟩
      rw [htk.out] at hy
      have HY := Lib.hid hy
      clear hy c0
      go_wp2_with fail
      exact ⟨⟨k + 1, by omega, by go_num, ya, yc, HY⟩, by simp [intOf]; omega⟩
    · obtain rfl : k = np := by omega
      go_wp2_with fail
      go_end0
      exact ⟨rfl, xa, _, xc, by have := HK.out; rwa [List.take_of_length_le (by rw [HL.out]; exact Nat.le_refl _)] at this⟩
theorem enc_small (E : List Ent) (k : Nat) (h : fitE (atE E k) = true) : (encAt E k).length ≤ 400 := by
  obtain ⟨f1, f2, _⟩ := (fitE_iff _).1 h
  have hk : (atE E k).key.length ≤ 32 := by simp [checkK] at f1; omega
  have h1 := vint_le (alikeAt E k)
  have h2 := vint_le ((atE E k).key.drop (alikeAt E k)).length
  have h3 := vint_le (atE E k).seq
  have h4 := vint_le (atE E k).val.length
  unfold encAt eput cutE tput
  cases (atE E k).gone
  · simp only [List.length_append, List.length_cons, List.length_drop, Bool.false_eq_true, if_false] at *
    omega
  · simp only [List.length_append, List.length_cons, List.length_drop, if_true, List.length_nil] at *
    omega
theorem body_small (E : List Ent) (h : ∀ k, k < E.length → okAt E k = true) (k : Nat) (hk : k ≤ E.length) : (bodyN E k).length ≤ 400 * k := by
  induction k with
  | zero => simp [bodyN]
  | succ k ih =>
    have h1 := h k (by omega)
    unfold okAt at h1
    rw [Bool.and_eq_true] at h1
    have := enc_small E k h1.1
    have := ih (by omega)
    rw [bodyN, List.length_append]; omega
theorem places_small (E : List Ent) (h : ∀ k, k < E.length → okAt E k = true) (k : Nat) (hk : k ≤ E.length) : ∀ p ∈ placesN E k, p ≤ 400 * k := by
  induction k with
  | zero => simp [placesN]
  | succ k ih =>
    intro p hp
    simp only [placesN, List.mem_append] at hp
    rcases hp with hp | hp
    · have := ih (by omega) p hp; omega
    · split at hp
      · rw [List.mem_singleton.1 hp]; have := body_small E h k (by omega); omega
      · cases hp
/-- what Put answers -/
def RetPut (E : List Ent) (w : World) (e : Ending) (w' : World) : Prop :=
  Below w.heap.size w w' ∧ ((mayL E = true ∧ ∃ a n c, e = .returned (.tuple #[.slice a n c, .int .i64 0]) ∧ Hid (n = (blkPut E).length) ∧ Hid (Own w' w.heap.size 5 1 (.slice a n c) n (u8s (blkPut E)))) ∨
    (mayL E = false ∧ e = .returned (.tuple #[.slice none 0 0, .int .i64 1])))
set_option maxRecDepth 100000 in
set_option maxHeartbeats 4000000 in
theorem blocksPut_any (w : World) (v : Value) (l : List PE) (hv : RdE w v l) (hs : ∀ x ∈ l, x.s < 18446744073709551616) : Calls Try.prog 32 #[v] w (RetPut (entsOf l) w) := by
  have HV := Lib.hid hv
  have HMAY := Lib.hid (fun (w' : World) (h : RdE w' v l) => mayE_any w' v l h)
  obtain ⟨va, vc, rfl, h1, h2, _⟩ := hv
  obtain ⟨vn, hvn⟩ : ∃ n, n = l.length := ⟨_, rfl⟩
  have HVN := Lib.hid hvn
  rw [← hvn] at h1 HV HMAY ⊢
  clear hvn
  obtain ⟨W, hW⟩ : ∃ W, W = w.alloc (.cells #[.slice va vn vc] 22) := ⟨_, rfl⟩
  have hL : Blk W w.heap.size #[.slice va vn vc] 22 := by rw [hW]; exact Blk.new _ _ _
  have hbW : Below w.heap.size w W := by rw [hW]; exact (Below.refl _ _).alloc (Nat.le_refl _) _
  have HW := Lib.hid hW
  have HL := Lib.hid hL
  have l0 := hL.cellv 0 (.slice va vn vc) rfl
  have HM := HMAY.out W (HV.out.below hbW)
  clear hW hL HMAY
  cases hm : mayL (entsOf l)
  · rw [hm] at HM
    have HM' := Lib.hid HM
    have HMM := Lib.hid hm
    clear HM hm
    go_enter Try.func32, Try.ntmps32
    go_upto_region 1 with (fail)
    rw [← HW.out]
    go_wp2_with fail
    refine HM'.out.mono ?_
    rintro e w2 ⟨rfl, bel2⟩
    have belf := hbW.trans (bel2.mono hbW.size)
    go_wp2
    go_ret2
    exact ⟨belf, .inr ⟨HMM.out, rfl⟩⟩
  · rw [hm] at HM
    have HM' := Lib.hid HM
    have HMM := Lib.hid hm
    clear HM hm
    go_enter Try.func32, Try.ntmps32
    go_upto_region 1 with (fail)
    rw [← HW.out]
    go_wp2_with fail
    refine HM'.out.mono ?_
    rintro e w2 ⟨rfl, bel2⟩
    have HL2 := Lib.hid (HL.out.below bel2)
    have bel12 := hbW.trans (bel2.mono hbW.size)
    have hl2 := HL2.out.lt
    obtain ⟨hE1, hE2⟩ := (mayL_iff _).1 HMM.out
    rw [entsOf_length, ← HVN.out] at hE1
    have HOK := Lib.hid hE2
    have HE1 := Lib.hid hE1
    have hall : ∀ x ∈ l, x.k.size ≤ 1048576 ∧ x.u.size ≤ 1048576 ∧ x.s < 18446744073709551616 := fun x hx => by
      obtain ⟨i, hi, rfl⟩ := List.mem_iff_getElem.1 hx
      have hok := HOK.out i (by rw [entsOf_length]; exact hi)
      unfold okAt at hok
      rw [Bool.and_eq_true, entsOf_at l i hi] at hok
      obtain ⟨f1, f2, _⟩ := (fitE_iff _).1 hok.1
      have h1 : l[i].k.data.toList.length ≤ 32 := by simp [checkK] at f1; exact f1.2
      have h2 : l[i].u.data.toList.length ≤ 256 := f2
      rw [size_data] at h1 h2
      exact ⟨by omega, by omega, hs _ hx⟩
    have HALL := Lib.hid hall
    go_upto_region 5 with (fail)
    obtain ⟨W5, hW5⟩ : ∃ W5, W5 = (w2.alloc (.cells #[.slice none 0 0] 26)).alloc (.cells #[.slice none 0 0] 75) := ⟨_, rfl⟩
    have hb25 : Below w2.heap.size w2 W5 := by rw [hW5]; exact ((Below.refl _ _).alloc (Nat.le_refl _) _).alloc (by simp) _
    have hB : Blk W5 w2.heap.size #[.slice none 0 0] 26 := by rw [hW5]; exact (Blk.new _ _ _).alloc _
    have hP : Blk W5 (w2.heap.size + 1) #[.slice none 0 0] 75 := by rw [hW5]; exact Blk.new_at _ _ _ _ (by simp)
    have hsz : w2.heap.size + 2 = W5.heap.size := by rw [hW5]; simp
    rw [← hW5]
    have hst : PutSt w (w2.heap.size + 2) (w2.heap.size + 1) w2.heap.size w.heap.size (.slice va vn vc) [] [] W5 none 0 0 none 0 0 :=
      ⟨hP, hB, HL2.out.below hb25, own_none _ _ _ _, own_none _ _ _ _, Apart.none _ _, Apart.none _ _, bel12.trans (hb25.mono bel12.size), by omega⟩
    have hvs : PutVs w (w2.heap.size + 2) (w2.heap.size + 1) w2.heap.size w.heap.size :=
      ⟨by omega, by omega, Nat.le_refl _, by omega, by omega, by omega, by omega, by omega, by omega, by omega⟩
    clear hW5 hsz hb25 hB hP
    obtain ⟨cB, hcB⟩ : ∃ c, c = w2.heap.size := ⟨_, rfl⟩
    obtain ⟨cP, hcP⟩ : ∃ c, c = w2.heap.size + 1 := ⟨_, rfl⟩
    obtain ⟨base, hba⟩ : ∃ c, c = w2.heap.size + 2 := ⟨_, rfl⟩
    obtain ⟨cL, hcL⟩ : ∃ c, c = w.heap.size := ⟨_, rfl⟩
    rw [← hcP, ← hba] at hst hvs
    rw [← hcP]
    rw [← hcB] at hst hvs ⊢
    have hst2 : PutSt w base cP cB cL (.slice va vn vc) [] [] W5 none 0 0 none 0 0 := by rw [hcL]; exact hst
    have hvs2 : PutVs w base cP cB cL := by rw [hcL]; exact hvs
    have HVS := Lib.hid hvs2
    have HST := Lib.hid hst2
    have HCL := Lib.hid hcL
    rw [← hcL]
    have hea := eachPutE_any w W5 _ l (.pointer (some ⟨cP, 0, none⟩)) (.pointer (some ⟨cB, 0, none⟩)) (.pointer (some ⟨cL, 0, none⟩))
      (fun k w' => ∃ pa np pc ba nb bc, PutSt w base cP cB cL (.slice va vn vc) (placesN (entsOf l) k) (bodyN (entsOf l) k) w' pa np pc ba nb bc) HV.out ⟨_, _, _, _, _, _, HST.out⟩
      (fun k w' ⟨_, _, _, _, _, _, h⟩ => h.bel) (fun k w' w'' ⟨_, _, _, _, _, _, h⟩ hb => ⟨_, _, _, _, _, _, h.later hb⟩)
      (fun k hk w' ⟨pa, np, pc, ba, nb, bc, h⟩ => (putStep_any w w' base cP cB cL _ l k l[k] _ _ pa np pc ba nb bc h HVS.out HV.out hk rfl (by have := HE1.out; rw [← HVN.out]; omega) HALL.out
        (by have := body_small (entsOf l) HOK.out k (by rw [entsOf_length]; omega); have := HE1.out; rw [← HVN.out] at hk; omega)
        (by rw [placesN_length]; have := HE1.out; rw [← HVN.out] at hk; omega)).mono fun e w'' h => h)
    have HEA := Lib.hid hea
    have l0 := HST.out.l.cellv 0 (.slice va vn vc) rfl
    clear hea hst hvs hst2 hvs2 hcB hcP hba hcL hall hE1 hE2
    rw [← HVN.out] at HEA
    go_wp2_with fail
    refine HEA.out.mono ?_
    rintro e w6 ⟨rfl, pa, np, pc, ba, nb, bc, hst6⟩
    have HS6 := Lib.hid hst6
    have hnp : np = (placesN (entsOf l) vn).length := by have := own_reads hst6.op; rw [i64s_length] at this; omega
    have hnb : nb = (bodyN (entsOf l) vn).length := (rd_of_own hst6.ob).1
    have HNP : Hid (np ≤ 64) := by show _ ≤ _; rw [hnp, placesN_length]; have := HE1.out; omega
    have HNB : Hid (nb ≤ 25600) := by
      show _ ≤ _
      rw [hnb]; have := body_small (entsOf l) HOK.out vn (by rw [entsOf_length, ← HVN.out]; exact Nat.le_refl _); have := HE1.out; omega
    have HNPE := Lib.hid hnp
    clear hst6 hnp hnb
    have p0 := HS6.out.p.cellv 0 (.slice pa np pc) rfl
    go_upto_region 6 with (fail)
    go_wp2_with fail
    refine (eachInt_any w w6 base cP cB cL _ (placesN (entsOf l) vn) (bodyN (entsOf l) vn) pa np pc ba nb bc HS6.out HVS.out (fun p hp => by
      have := places_small (entsOf l) HOK.out vn (by rw [entsOf_length, ← HVN.out]; exact Nat.le_refl _) p hp; have := HE1.out; omega) (by have := HNB.out; omega) (by have := HNP.out; omega)).mono ?_
    rintro e w7 ⟨rfl, xa, xn, xc, hst7⟩
    have HS7 := Lib.hid hst7
    have p0 := hst7.p.cellv 0 (.slice pa np pc) rfl
    have b0 := hst7.b.cellv 0 (.slice xa xn xc) rfl
    have hxn : xn = (bodyN (entsOf l) vn ++ twos (placesN (entsOf l) vn)).length := (rd_of_own hst7.ob).1
    have HXN : Hid (xn ≤ 30000) := by
      show _ ≤ _
      have h1 := (rd_of_own HS6.out.ob).1
      rw [hxn, List.length_append, twos_length, ← HNPE.out]; have := HNP.out; have := HNB.out; omega
    have HXE := Lib.hid hxn
    clear hst7 hxn
    go_upto_region 7 with (fail)
    go_wp2_with fail
    refine (number_any w7 base _ _ xn np HS7.out.ob (by have := HNP.out; omega) (by have := HXN.out; omega) HS7.out.sz).mono ?_
    rintro e w8 ⟨ua, uc, rfl, hX, hG⟩
    have belf : Below w.heap.size w w8 := HS7.out.bel.trans (hG.out.below.mono HVS.out.base0)
    have eB : (bodyN (entsOf l) vn ++ twos (placesN (entsOf l) vn)) ++ two np = blkPut (entsOf l) := by
      unfold blkPut
      rw [entsOf_length, ← HVN.out, HNPE.out]
    rw [eB] at hX
    have HF : Hid (xn + 2 = (blkPut (entsOf l)).length) := by show _ = _; rw [← eB, List.length_append, HXE.out]; rfl
    clear hG eB p0 b0
    go_wp2_with fail
    go_ret2
    exact ⟨belf, .inl ⟨HMM.out, ua, _, uc, rfl, HF, own_mono hX.out HVS.out.base0⟩⟩
end Go.Proofs.Ytbcnapkbdbefhaa

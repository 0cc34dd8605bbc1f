/- Walk of edits.Do. The conditions: a slice of files and an edit, of 100000 elements at most. -/
import Derived.Test.YtmonmfamnbfhcaaFlC
import Derived.Test.YtmonmfamnbfhcaaFlD
namespace Go.Proofs.Ytmonmfamnbfhcaa
open Go.RowKit

/-- what edits.Do tells -/
def RetDo (l : List PF) (x : PX) (w : World) (e : Ending) (w' : World) : Prop :=
  ∃ (r : List PF) (q : Nat) (a : Option Addr) (c : Nat), e = .returned (.tuple #[.slice a r.length c, .int .i64 q]) ∧ Hid (DoR l x.add x.rem r q) ∧ Hid (Own w' w.heap.size 33 4 (.slice a r.length c) r.length (fcells r)) ∧ Below w.heap.size w w'
theorem own_clip {w : World} {base : Nat} {e : TypeId} {sz n c : Nat} {a : Option Addr} {xs : List Value} (h : Own w base e sz (.slice a n c) n xs) : n ≤ c ∧ Own w base e sz (.slice a n n) n xs := by
  rcases h with ⟨h1, h2, a', h3⟩ | ⟨h1, g, cap, cur, fr, h2, hb, hg, hf, hnc, hm, hcs, ht⟩
  · simp only [Value.slice.injEq] at h3
    obtain ⟨rfl, h4, rfl⟩ := h3
    subst h1
    exact ⟨Nat.le_refl _, .inl ⟨rfl, h2, a, rfl⟩⟩
  · simp only [Value.slice.injEq] at h2
    obtain ⟨rfl, _, rfl⟩ := h2
    have hle : n * sz ≤ c * sz := Nat.mul_le_mul_right _ hnc
    exact ⟨hnc, .inr ⟨h1, g, n, cur, fr, rfl, hb, hg, hf, Nat.le_refl _, by omega, by omega, ht⟩⟩
theorem retDo_no {l : List PF} {x : PX} {w w' : World} (h : ¬ Can l x.add x.rem) (hb : Below w.heap.size w w') : RetDo l x w (.returned (.tuple #[.slice none 0 0, .int .i64 1])) w' :=
  ⟨[], 1, none, 0, rfl, doR_no h, own_nil _ _ _ _, hb⟩

theorem del_any (w : World) (base : Nat) (a : Option Addr) (c : Nat) (l : List PF) (k kk : Nat) (hown : Own w base 33 4 (.slice a l.length c) l.length (fcells l)) (hk : k < l.length) (hl : l.length ≤ 1000000) (hbase : base ≤ w.heap.size) (hn : (nums l).Nodup) (hkk : l[k].n = kk) :
    Calls Try.prog 46 #[.slice a l.length c, .int .i64 k, .int .i64 ((k : Int) + 1)] w fun e w' => e = .returned (.slice a (eraseN kk l).length c) ∧
      Own w' base 33 4 (.slice a (eraseN kk l).length c) (eraseN kk l).length (fcells (eraseN kk l)) ∧ Below base w w' := by
  obtain ⟨g, rfl, hg⟩ : ∃ g, a = some ⟨g, 0, none⟩ ∧ base ≤ g := by
    rcases hown with ⟨e, _⟩ | ⟨_, g, cap, cur, fr, e2, h3, _⟩
    · omega
    · simp only [Value.slice.injEq] at e2
      exact ⟨g, e2.1, h3⟩
  have e1 := erase_at hk hn hkk
  have e2 : (eraseN kk l).length = l.length - 1 := by rw [← e1, List.length_append, List.length_take, List.length_drop]; omega
  rw [e2, ← e1]
  refine (delete_any w base g c l k hown hk hl).mono ?_
  rintro e w' ⟨rfl, h1, h2⟩
  exact ⟨rfl, h1, (Below.refl base w).grown h2 hbase (fun j hj => by cases hj; exact hg)⟩

set_option maxRecDepth 100000 in
set_option maxHeartbeats 4000000 in
theorem do_any (w : World) (v vx : Value) (l : List PF) (x : PX) (hv : RdF w v l) (hx : RdX w vx x) (hl : l.length ≤ 100000) (ha : x.add.length ≤ 100000) (hr : x.rem.length ≤ 100000) (hlo : ∀ f ∈ l, f.ok) (hao : ∀ f ∈ x.add, f.ok) :
    Calls Try.prog 18 #[v, vx] w (RetDo l x w) := by
  obtain ⟨va, vr, rfl, hva, hvr⟩ := hx
  obtain ⟨W, hW⟩ : ∃ W, W = w.alloc (.cells #[va, vr, .int .u32 x.jo, .int .u32 x.nx, .int .u64 x.sq] 27) := ⟨_, rfl⟩
  have hbW : Below w.heap.size w W := by rw [hW]; exact alloc_bel _ _
  have hBlk : Blk W w.heap.size #[va, vr, .int .u32 x.jo, .int .u32 x.nx, .int .u64 x.sq] 27 := by rw [hW]; exact Blk.new _ _ _
  have HC : Hid (∀ w', Below W.heap.size W w' → w'.cell? ⟨w.heap.size, 0, none⟩ = some va ∧ w'.cell? ⟨w.heap.size, 1, none⟩ = some vr) := Lib.hid fun w' hb => ⟨Below.keeps hb _ _ _ (hBlk.cell 0), Below.keeps hb _ _ _ (hBlk.cell 1)⟩
  have HV : Hid (∀ w', Below W.heap.size W w' → RdF w' v l ∧ RdF w' va x.add ∧ RdU w' vr x.rem) := Lib.hid fun w' hb => ⟨(hv.below hbW).below hb, (hva.below hbW).below hb, (hvr.below hbW).below hb⟩
  have HF1 : Hid (∀ w', Below W.heap.size W w' → Calls Try.prog 28 #[v] w' fun e w'' => e = .returned (.bool (l.all mayF)) ∧ Below w'.heap.size w' w'') := Lib.hid fun w' hb => fine_any w' v l (HV.out w' hb).1
  have HF2 : Hid (∀ w', Below W.heap.size W w' → Calls Try.prog 28 #[va] w' fun e w'' => e = .returned (.bool (x.add.all mayF)) ∧ Below w'.heap.size w' w'') := Lib.hid fun w' hb => fine_any w' va x.add (HV.out w' hb).2.1
  have HT : Hid (∀ w', Below W.heap.size W w' → Calls Try.prog 42 #[v] w' fun e w'' => e = .returned (.bool (!decide (nums l).Nodup)) ∧ Below w'.heap.size w' w'') := Lib.hid fun w' hb => twice_any w' v l (HV.out w' hb).1 (by omega) hlo
  obtain ⟨B1, hB1⟩ : ∃ b, b = l.all mayF := ⟨_, rfl⟩
  obtain ⟨B2, hB2⟩ : ∃ b, b = x.add.all mayF := ⟨_, rfl⟩
  obtain ⟨B3, hB3⟩ : ∃ b, b = !decide (nums l).Nodup := ⟨_, rfl⟩
  rw [← hB1] at HF1
  rw [← hB2] at HF2
  rw [← hB3] at HT
  have HB1 := Lib.hid hB1
  have HB2 := Lib.hid hB2
  have HB3 := Lib.hid hB3
  have HLO := Lib.hid hlo
  have HAO := Lib.hid hao
  have HBW := Lib.hid hbW
  have HWB : Hid (∀ w', Below W.heap.size W w' → Below w.heap.size w w') := Lib.hid fun w' hb => HBW.out.trans (hb.mono HBW.out.size)
  clear hB1 hB2 hB3 hlo hao hbW hBlk hv hva hvr
  cases B1 with
  | false =>
    go_enter Try.func18, Try.ntmps18
    go_wp2_with fail
    rw [← hW]
    clear hW
    refine (HF1.out W (Below.refl _ _)).mono ?_
    rintro e w2 ⟨rfl, b2⟩
    have HB2' := Lib.hid b2
    clear b2
    go_wp2
    go_ret2
    exact retDo_no (can_1 HB1.out.symm) (HWB.out _ HB2'.out)
  | true =>
  cases B2 with
  | false =>
    go_enter Try.func18, Try.ntmps18
    go_wp2_with fail
    rw [← hW]
    clear hW
    refine (HF1.out W (Below.refl _ _)).mono ?_
    rintro e w2 ⟨rfl, b2⟩
    obtain ⟨c0, c1⟩ := HC.out w2 b2
    have HB2' := Lib.hid b2
    clear b2
    go_wp2_with fail
    refine (HF2.out w2 HB2'.out).mono ?_
    rintro e w3 ⟨rfl, b3⟩
    have HB3' := Lib.hid (HB2'.out.trans (b3.mono HB2'.out.size))
    clear b3
    go_wp2
    go_ret2
    exact retDo_no (can_2 HB2.out.symm) (HWB.out _ HB3'.out)
  | true =>
  cases B3 with
  | true =>
    go_enter Try.func18, Try.ntmps18
    go_wp2_with fail
    rw [← hW]
    clear hW
    refine (HF1.out W (Below.refl _ _)).mono ?_
    rintro e w2 ⟨rfl, b2⟩
    obtain ⟨c0, c1⟩ := HC.out w2 b2
    have HB2' := Lib.hid b2
    clear b2
    go_wp2_with fail
    refine (HF2.out w2 HB2'.out).mono ?_
    rintro e w3 ⟨rfl, b3⟩
    have HB3' := Lib.hid (HB2'.out.trans (b3.mono HB2'.out.size))
    clear b3
    go_wp2_with fail
    refine (HT.out w3 HB3'.out).mono ?_
    rintro e w4 ⟨rfl, b4⟩
    have HB4' := Lib.hid (HB3'.out.trans (b4.mono HB3'.out.size))
    clear b4
    go_wp2
    go_ret2
    exact retDo_no (can_3 HB3.out.symm) (HWB.out _ HB4'.out)
  | false =>
    have HN : Hid ((nums l).Nodup) := Lib.hid (by have := HB3.out; simpa using this.symm)
    have HCL : Hid (∀ w', Below W.heap.size W w' → Calls Try.prog 43 #[v] w' fun e w'' => ∃ a c, e = .returned (.slice a l.length c) ∧ Own w'' w'.heap.size 33 4 (.slice a l.length c) l.length (fcells l) ∧ Below w'.heap.size w' w'') :=
      Lib.hid fun w' hb => clone_any w' v l (HV.out w' hb).1 (by omega)
    go_enter Try.func18, Try.ntmps18
    go_wp2_with fail
    rw [← hW]
    clear hW
    refine (HF1.out W (Below.refl _ _)).mono ?_
    rintro e w2 ⟨rfl, b2⟩
    obtain ⟨c0, c1⟩ := HC.out w2 b2
    have HB2' := Lib.hid b2
    clear b2
    go_wp2_with fail
    refine (HF2.out w2 HB2'.out).mono ?_
    rintro e w3 ⟨rfl, b3⟩
    have HB3' := Lib.hid (HB2'.out.trans (b3.mono HB2'.out.size))
    clear b3
    go_wp2_with fail
    refine (HT.out w3 HB3'.out).mono ?_
    rintro e w4 ⟨rfl, b4⟩
    have HB4' := Lib.hid (HB3'.out.trans (b4.mono HB3'.out.size))
    clear b4 c0 c1
    go_wp2_with fail
    refine (HCL.out w4 HB4'.out).mono ?_
    rintro e w5 ⟨ca, cc, rfl, hown, b5⟩
    have HB5 := Lib.hid (HB4'.out.trans (b5.mono HB4'.out.size))
    have HO := Lib.hid (own_mono hown (Nat.le_trans HB4'.out.size (Nat.le_refl _)))
    clear b5 hown HCL HF1 HF2 HT HB2' HB3' HB4'
    obtain ⟨c0, c1⟩ := HC.out w5 HB5.out
    obtain ⟨ra, rc, rfl, hr1, hr2, _⟩ := (HV.out w5 HB5.out).2.2
    obtain ⟨n, hn⟩ : ∃ n, n = x.rem.length := ⟨_, rfl⟩
    have HNR := Lib.hid hn
    rw [← hn] at hr1 hr HV HC c1 ⊢
    clear hn
    go_upto_region 5 with (fail)
    go_loopw [0, 27] (fun lv i wr => ∃ (k : Nat) (m : List PF), k ≤ n ∧ i = .int .i64 k ∧ lv = .slice ca m.length cc ∧ Hid (Own wr W.heap.size 33 4 (.slice ca m.length cc) m.length (fcells m)) ∧ Hid (Rem l x.rem k m) ∧ Below W.heap.size W wr)
      (fun _ i _ => n - (intOf i).toNat)
    case atStart => exact ⟨0, l, Nat.zero_le _, rfl, rfl, HO, Lib.hid (Rem.start HN.out), HB5.out⟩
    case round =>
      obtain ⟨k, m, hk, rfl, rfl, hO, hR, bel⟩ := hrel
      have HB := Lib.hid bel
      clear bel
      by_cases hlt : k < n
      · have hkl : k < x.rem.length := by rw [← HNR.out]; exact hlt
        obtain ⟨a', c', he, _, _, hc⟩ := (HV.out wr HB.out).2.2
        simp only [Value.slice.injEq] at he
        obtain ⟨rfl, hnl, rfl⟩ := he
        clear hnl
        obtain ⟨b, off, rfl, c0⟩ := hc k hkl
        clear hc
        obtain ⟨kk, hkk⟩ : ∃ kk, kk = x.rem[k] := ⟨_, rfl⟩
        rw [← hkk] at c0
        have HKK := Lib.hid hkk
        have HFI : Hid (∀ (W' : World) (p : Nat), Below wr.heap.size wr W' → W'.cell? ⟨p, 0, none⟩ = some (.int .u32 kk) → Calls Try.prog 44 #[.slice ca m.length cc, .func (.func 45) #[] #[.pointer (some ⟨p, 0, none⟩)]] W' fun e w' => ∃ z : Int, e = .returned (.int .i64 z) ∧ Hid (Found (fun f => decide (f.n = kk)) m z) ∧ Below W'.heap.size W' w') := Lib.hid fun W' p hb hc =>
          (find_any W' _ m ((rdF_of (reads_of_own hO.out)).2.below hb) (fun f => decide (f.n = kk)) 45 #[.pointer (some ⟨p, 0, none⟩)] (fun W2 h2 f => do1_any W2 f p kk (Below.keeps h2 _ _ _ hc)) (enters_of Try.func45 (by kernel_rfl) rfl)).mono fun e w' h => h
        clear hkk
        go_wp2_with fail
        refine (HFI.out _ _ (alloc_bel _ _) (World.cell?_alloc_at _ _ _ _ rfl)).mono ?_
        rintro e w6 ⟨z, rfl, hz, b6⟩
        have HB6 : Hid (Below wr.heap.size wr w6) := Lib.hid ((alloc_bel _ _).trans (b6.mono (alloc_bel wr _).size))
        have HB6W := Lib.hid (HB.out.trans (HB6.out.mono HB.out.size))
        clear b6 HFI c0
        rcases hz.out with ⟨rfl, hall⟩ | ⟨zn, rfl, hzl, hp, _⟩
        · have HALL := Lib.hid hall
          clear hall hz
          go_wp2
          go_ret2
          refine retDo_no (hR.out.lost hkl ?_ _) (HWB.out _ HB6W.out)
          rw [← HKK.out]
          intro hm
          obtain ⟨f, hf, e⟩ := List.mem_map.1 hm
          have := HALL.out f hf
          simp [e] at this
        · have hzk : m[zn].n = kk := by simpa using hp
          have hO6 := own_below hO.out HB6.out
          have hml : m.length ≤ 1000000 := by have := hR.out.2.2.1; omega
          have HD := Lib.hid (del_any w6 W.heap.size ca cc m zn kk hO6 hzl hml HB6W.out.size hR.out.2.1 hzk)
          have HR2 : Hid (Rem l x.rem (k + 1) (eraseN kk m)) := Lib.hid (by
            have := hR.out.step hkl (by rw [← HKK.out, ← hzk]; exact nums_mem (List.getElem_mem hzl))
            rwa [← HKK.out] at this)
          clear hp hzk hO6 hz
          go_wp2_with fail
          refine HD.out.mono ?_
          rintro e w7 ⟨rfl, hO7, b7⟩
          have HO7 := Lib.hid hO7
          have HB7 := Lib.hid (HB6W.out.trans b7)
          clear hO7 b7 HD
          go_wp2_with fail
          go_roundw
          case rel => exact ⟨k + 1, eraseN kk m, by omega, by go_num, rfl, HO7, HR2, HB7.out⟩
          case measure => simp [intOf]; omega
      · have hkn : k = n := by omega
        subst hkn
        have HR := hR
        rw [HNR.out] at HR
        have hml : m.length ≤ 100000 := by have := hR.out.2.2.1; omega
        obtain ⟨c0, _⟩ := HC.out wr HB.out
        obtain ⟨i0, hi, hz, hz1, hz2⟩ := info_parts info_file
        have HRA : Hid (Reads wr 4 va x.add.length (fcells x.add)) := Lib.hid (rdF_reads (HV.out wr HB.out).2.1)
        obtain ⟨r, hrl⟩ : ∃ r, r = (m ++ x.add).length := ⟨_, rfl⟩
        have hrl2 : m.length + x.add.length = r := by rw [hrl, List.length_append]
        have HRL := Lib.hid hrl
        have HOK : Hid (∀ f ∈ m ++ x.add, f.ok) := Lib.hid fun f hf => (List.mem_append.1 hf).elim (fun h => HLO.out f (hR.out.2.2.2 f h)) (HAO.out f)
        clear hrl
        go_wp2_with (at_builtin; go_loud (refine wp_app_el2 rfl _ _ rfl Try.underlying22 hi hz hz1 hz2 rfl (by omega) W.heap.size m.length x.add.length (.slice ca m.length cc) va (fcells m) (fcells x.add) (fcells (m ++ x.add)) r rfl rfl hO.out HRA.out (one_fcells _) hrl2 (by rw [fcells_app]) (by omega) (by omega) HB.out.size ?_); intro ua uc w6 HX6 HG6)
        have HB6 := Lib.hid (HB.out.trans HG6.out.below)
        obtain ⟨B4, hB4⟩ : ∃ b, b = !decide (nums (m ++ x.add)).Nodup := ⟨_, rfl⟩
        have HB4 := Lib.hid hB4
        have HTW := Lib.hid (twice_any w6 _ (m ++ x.add) (rdF_of (reads_of_own HX6.out)).2 (by rw [← HRL.out]; omega) HOK.out)
        rw [← hB4] at HTW
        clear hB4 HG6 c0
        refine HTW.out.mono ?_
        rintro e w7 ⟨rfl, b7⟩
        have HB7 := Lib.hid (HB6.out.trans (b7.mono HB6.out.size))
        have HX7 := Lib.hid (own_below HX6.out b7)
        clear b7 HTW HX6
        cases B4 with
        | true =>
          go_wp2
          go_ret2
          exact retDo_no (can_4 HR.out HB4.out.symm) (HWB.out _ HB7.out)
        | false =>
          have HS := Lib.hid (sort_any w7 W.heap.size ua r uc (m ++ x.add) HRL.out HX7.out HB7.out.size (by rw [← HRL.out]; omega))
          have HCL := own_clip HX7.out
          have hruc := HCL.1
          clear HCL
          go_wp2_with fail
          refine HS.out.mono ?_
          rintro e w8 ⟨rfl, rr, hp, hs, ho, b8⟩
          have HP := Lib.hid hp
          have HSS := Lib.hid hs
          have HO8 := Lib.hid (own_clip ho).2
          have HB8 := Lib.hid (HB7.out.trans b8)
          clear hp hs ho b8 HS
          go_wp2_with (go_at_call 52; refine (clip_any _ ua r uc hruc).mono ?_; rintro e w9 ⟨rfl, rfl⟩)
          go_ret2
          have er : rr.length = r := by rw [HP.out.length_eq, ← HRL.out]
          exact ⟨rr, 0, ua, r, by rw [er]; rfl, doR_yes HB1.out.symm HB2.out.symm HB3.out.symm HR.out HB4.out.symm HP.out HSS.out, by rw [er]; exact own_mono HO8.out HBW.out.size, HWB.out _ HB8.out⟩
end Go.Proofs.Ytmonmfamnbfhcaa

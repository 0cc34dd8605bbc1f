/- append of a text's bytes onto what the call owns. The condition: at most 2^40 bytes. | Walks of the reference's Put, PutFour, PutText of numbers and texts. The condition: fewer than 2^37 bytes. | Walk of the reference's order Put: an entry behind some bytes. The condition: bytes and texts of at most 2^36. -/
import Derived.Test.YtbcnapkbdbefhaaGreatDoorRet
import Derived.Lib.AppendStr
import Derived.Test.YtbcnapkbdbefhaaGreatDoorOrderPut
namespace Go.Proofs.YtbcnapkbdbefhaaGreatDoor
open Go.RowKit

theorem strCells_u8s (s : ByteArray) : Lib.strCells s = u8s s.data.toList := by simp [Lib.strCells, u8s]
theorem run_app_str (w : World) (base : Nat) (ty : TypeId) (v : Value) (n : Nat) (l : List UInt8) (hown : Own w base 5 1 v n (u8s l)) (s : ByteArray) (hlen : n + s.size ≤ 1099511627776) (hbase : base ≤ w.heap.size) :
    ∃ v' w', (Builtin.append_ #[22, 9] ty #[v, .string s]).run Tryz.prog w = .ok v' w' ∧ Own w' base 5 1 v' (n + s.size) (u8s (l ++ s.data.toList)) ∧ Below base w w' := by
  obtain ⟨i, hi, hz, hz1, hz2⟩ := info_parts info_u8
  have hcl : (u8s s.data.toList).length = s.size := by rw [u8s_length, size_data]
  have gbel : ∀ (o : Obj), Below base w (w.drew.alloc o) := fun o => (Below.refl _ _).drew.alloc hbase _
  have grown : ∀ (old : Nat), old < n + s.size → (u8s l).length = n →
      Own (w.drew.alloc (.cells ((u8s l).toArray ++ (Lib.strCells s).toArray ++ Builtin.zeroCells (Value.int .u8 0).cells (grownCap w (n + s.size) old 5 - (n + s.size))) 5)) base 5 1 (.slice (some ⟨w.heap.size, 0, none⟩) (n + s.size) (grownCap w (n + s.size) old 5)) (n + s.size) (u8s (l ++ s.data.toList)) := by
    intro old ho hxl
    have hge := grownCap_ge w (n + s.size) old 5
    have hcm' : grownCap w (n + s.size) old 5 ≤ maxLen := grownCap_le_maxLen w (n + s.size) old 5 (by unfold maxLen; omega)
    have hll : (u8s (l ++ s.data.toList)).length = (n + s.size) * 1 := by rw [u8s_append, List.length_append, hxl, hcl, Nat.mul_one]
    refine .inr ⟨hll, w.heap.size, _, _, (0, 0), rfl, hbase, heap_alloc_new w.drew _, fun _ _ h => by omega, hge, hcm', ?_, ?_⟩
    · simp only [Array.size_append, List.size_toArray, size_zeroCells, hxl, strCells_u8s, hcl]
      show _ ≤ n + s.size + (grownCap w (n + s.size) old 5 - (n + s.size)) * 1
      omega
    · simp only [Array.toList_append, List.append_assoc, strCells_u8s]
      rw [← List.append_assoc, ← u8s_append, ← hll]
      exact List.take_left
  rcases hown with ⟨rfl, hx, ad', rfl⟩ | ⟨hxl, g, cp, cur, fr, rfl, hbg, hg, hfr, hnc, hcm2, hcs, htake⟩
  · have hl0 : l = [] := by simpa [u8s] using hx
    subst hl0
    by_cases hm0 : s.size = 0
    · have hs0 : s.data.toList = [] := List.eq_nil_of_length_eq_zero (by rw [size_data]; exact hm0)
      refine ⟨.slice ad' 0 0, w, ?_, .inl ⟨by omega, by simp [hs0, u8s], ad', rfl⟩, Below.refl _ _⟩
      have hf := Lib.run_firstCells_string (P := Tryz.prog) w 1 s
      rw [hm0] at hf
      have e0 : Lib.strCells s = [] := by rw [strCells_u8s, hs0]; rfl
      rw [e0] at hf
      cases ad' <;> simp [Builtin.append_, run_underlying Tryz.underlying22, run_underlying Tryz.underlying9, sizeOf, typeInfo, hi, hz1, Builtin.lenOf, hm0, hf, storeCells]
    · have hgr := grown 0 (by omega) rfl
      cases ad' with
      | none =>
        have hr := run_append_nil_string (P := Tryz.prog) w 22 9 ty 5 i (.int .u8 0) Tryz.underlying22 Tryz.underlying9 hi hz s (by omega) (by omega) (by rw [hz2]; omega)
        have e1 : (s.data.map fun b => Value.int .u8 b.toNat) = (Lib.strCells s).toArray := by
          apply Array.ext'
          simp [Lib.strCells]
        rw [e1] at hr
        simp only [Nat.zero_add, List.nil_append] at hgr ⊢
        have e2 : (u8s []).toArray ++ (Lib.strCells s).toArray = (Lib.strCells s).toArray := by simp [u8s]
        rw [e2] at hgr
        exact ⟨_, _, hr, hgr, gbel _⟩
      | some ad' =>
        have hr := Lib.run_append_grow_string (P := Tryz.prog) w 22 9 ty 5 i (.int .u8 0) Tryz.underlying22 Tryz.underlying9 hi hz ad' 0 0 (u8s []) (by simp [u8s]) (by simp [u8s]) s (by omega) (by omega) (growslice_fits (by omega) (by rw [hz2]; omega))
        exact ⟨_, _, hr, hgr, gbel _⟩
  · have hxl1 : (u8s l).length = n := by omega
    have hll : (u8s (l ++ s.data.toList)).length = (n + s.size) * 1 := by rw [u8s_append, List.length_append, hxl1, hcl, Nat.mul_one]
    by_cases hroom : n + s.size ≤ cp
    · have hf := Lib.run_firstCells_string (P := Tryz.prog) w 1 s
      have hst := run_storeCells_fr (P := Tryz.prog) g 5 fr (Lib.strCells s) n 0 cur w hg hfr (by rw [strCells_u8s, hcl]; omega) (by rw [strCells_u8s]; exact one_u8s _)
      simp only [Nat.add_zero] at hst
      have hrun : (Builtin.append_ #[22, 9] ty #[.slice (some ⟨g, 0, none⟩) n cp, .string s]).run Tryz.prog w = .ok (.slice (some ⟨g, 0, none⟩) (n + s.size) cp) (w.setRow g (cur.toList.take n ++ Lib.strCells s ++ cur.toList.drop (n + (Lib.strCells s).length)).toArray) := by
        simp [Builtin.append_, run_underlying Tryz.underlying22, run_underlying Tryz.underlying9, sizeOf, typeInfo, hi, hz1, Builtin.lenOf, hroom, hf, Addr.add_lit, hst]
      refine ⟨_, _, hrun, ?_, ⟨rfl, rfl, rfl, by simp, fun k hk => setRow_other w g k _ (by omega)⟩⟩
      refine .inr ⟨hll, g, cp, _, fr, rfl, hbg, setRow_heap w g cur _ 5 _ hg, ?_, hroom, hcm2, ?_, ?_⟩
      · intro k hk
        apply hfr
        simp only [List.size_toArray, List.length_append, List.length_take, List.length_drop, Array.length_toList, strCells_u8s, hcl] at hk
        omega
      · simp only [List.size_toArray, List.length_append, List.length_take, List.length_drop, Array.length_toList, strCells_u8s, hcl]
        omega
      · have ht' : cur.toList.take n = u8s l := by simpa using htake
        rw [ht', strCells_u8s, ← u8s_append, ← hll]
        exact List.take_left
    · have holds : ∀ j u, (u8s l)[j]? = some u → w.cell? ((⟨g, 0, none⟩ : Addr).add j) = some u := by
        intro j u hu
        have hadd : (⟨g, 0, none⟩ : Addr).add j = ⟨g, j, none⟩ := by unfold Addr.add; split <;> simp_all
        rw [hadd, cell_of_row w g j cur 5 fr hg]
        rw [← htake, List.getElem?_take] at hu
        split at hu
        · simpa using hu
        · cases hu
      have hr := Lib.run_append_grow_string (P := Tryz.prog) w 22 9 ty 5 i (.int .u8 0) Tryz.underlying22 Tryz.underlying9 hi hz ⟨g, 0, none⟩ n cp (u8s l) (by rw [hz1]; omega) holds s (by omega) (by omega) (growslice_fits (by omega) (by rw [hz2]; omega))
      exact ⟨_, _, hr, grown cp (by omega) hxl1, gbel _⟩
/-- .. as a step of the walk -/
theorem wp_app_str {w : World} {ops : Array Oper} {rest : List Oper} {o : Oper} {a : Act} {Q : Exit → Act → World → Prop} (hgd : o.guard = none) (s x : Operand)
    (ho : o.op = .call { callee := .builtin .append, args := #[s, x], argTypes := #[22, 9] })
    (base n : Nat) (v : Value) (t : ByteArray) (l : List UInt8) (hs : a.eval s = v) (hx : a.eval x = .string t) (hown : Own w base 5 1 v n (u8s l))
    (hlen : n + t.size ≤ 1099511627776) (hbase : base ≤ w.heap.size)
    (h : ∀ b k c w', Hid (k = (l ++ t.data.toList).length) → Hid (Own w' base 5 1 (.slice b k c) k (u8s (l ++ t.data.toList))) → Below base w w' → wpList Tryz.prog ops Q rest (a.put o.dst (.slice b k c)) w') : wpList Tryz.prog ops Q (o :: rest) a w := by
  refine wpList_plain hgd fun K hK => ?_
  obtain ⟨v', w', hr, h2, h3⟩ := run_app_str w base o.type v n l hown t hlen hbase
  have hn := (rd_of_own hown).1
  subst hn
  unfold Oper.wp execOp
  simp only [ho, resolve, invoke, builtin, Sem.run_bind, Sem.run_pure, Result.andThen_ok, List.map_toArray, List.map_cons, List.map_nil, hs, hx, hr]
  have e : l.length + t.size = (l ++ t.data.toList).length := by rw [List.length_append, size_data]
  rw [e] at h2
  obtain ⟨b, k, c, rfl, hk⟩ := rd_len (rd_of_own h2).2
  subst hk
  exact hK _ _ (h b _ c w' rfl h2 h3)
end Go.Proofs.YtbcnapkbdbefhaaGreatDoor
namespace Go.Proofs.YtbcnapkbdbefhaaGreatDoor
open Go.RowKit

set_option maxRecDepth 100000 in
set_option maxHeartbeats 2000000 in
theorem refPut_any (w : World) (v : Value) (l : List UInt8) (n : Nat) (hv : Rd w v l) (hn : n < 18446744073709551616) (hl : l.length ≤ 137438953472) :
    Calls Tryz.prog 83 #[v, .int .u64 n] w (RetMy (l ++ vint n) w) := by
  have HV := Lib.hid hv
  have HL := Lib.hid hl
  clear hv hl
  go_enter Tryz.func83, Tryz.ntmps83
  go_wp2_with (at_builtin; go_loud (refine wp_app_my rfl _ _ rfl w.heap.size 0 _ _ [] l rfl rfl (.inl ⟨rfl, rfl, _, rfl⟩) HV.out (by have := HL.out; simp; omega) (Nat.le_refl _) ?_); intro b0 k0 c0 w1 HK0 HO0 hb0)
  have HB0 := Lib.hid hb0
  clear hb0
  try show Code.wp _ _ _ _ _
  go_loopw [1, 5] (fun nv ov wr => ∃ m : Nat, m < 18446744073709551616 ∧ nv = .int .u64 m ∧ (∃ a k c, ov = .slice a k c ∧ ∃ p : List UInt8, Hid (p ++ vint m = l ++ vint n) ∧ Hid (Own wr w.heap.size 5 1 (.slice a k c) k (u8s p))) ∧ Hid (Below w.heap.size w wr)) (fun nv _ _ => (intOf nv).toNat)
  case atStart => exact ⟨n, hn, rfl, ⟨b0, k0, c0, rfl, l, rfl, HO0⟩, HB0⟩
  case round =>
    obtain ⟨m, hm, rfl, ⟨a, k, c, rfl, p, HE, HO⟩, HB⟩ := hrel
    have hpl : p.length ≤ 137438953482 := by
      have e := congrArg List.length HE.out
      have h1 := vint_le n
      have h2 := HL.out
      simp only [List.length_append] at e
      omega
    have HAL : Hid (∀ o, Below w.heap.size wr (wr.alloc o)) := fun o => (Below.refl _ _).alloc HB.out.size _
    have HAF : Hid (∀ o, Below wr.heap.size wr (wr.alloc o)) := fun o => (Below.refl _ _).alloc (Nat.le_refl _) _
    by_cases h128 : 128 ≤ m
    · have hd : decide ((128 : Int) ≤ (m : Int)) = true := by simp; omega
      have hd2 : decide ((m : Int) ≥ 128) = true := by simp; omega
      obtain ⟨r, hr⟩ : ∃ r, r = 128 + m % 128 := ⟨_, rfl⟩
      have hr1 : (128 : Int) + (m : Int) % 128 = (r : Int) := by omega
      have hr2 : r < 256 := by omega
      have hw : IntKind.u8.wrap (r : Int) = (r : Int) := IntWalk.u8_in _ (by omega)
      have HR : Hid (r = m % 128 + 128) := by show _ = _; omega
      clear hr
      go_wp2_with (at_builtin; go_loud (refine wp_app_my rfl _ _ rfl w.heap.size k (.slice a k c) _ p [UInt8.ofNat r] rfl rfl (own_below HO.out (HAF.out _)) (rd_one wr (UInt8.ofNat r) r (by rw [toNat_ofNat r hr2]) _) (by simp; omega) (Nat.le_trans HB.out.size (HAF.out _).size) ?_); intro b1 k1 c1 w2 HK1 HO1 hb1)
      have hbf := Lib.hid (HB.out.trans ((HAL.out _).trans hb1))
      have hE2 : (p ++ [UInt8.ofNat r]) ++ vint (m / 128) = l ++ vint n := by
        rw [← HE.out, vint_step m h128 (by omega), HR.out, List.append_assoc]; rfl
      have HE2 := Lib.hid hE2
      clear hb1 hE2 hr1 hw
      go_wp2_with fail
      go_roundw
      case rel => exact ⟨m / 128, by omega, by go_num, ⟨b1, k1, c1, rfl, _, HE2, HO1⟩, hbf⟩
      case measure => simp [intOf]; omega
    · have hd : decide ((128 : Int) ≤ (m : Int)) = false := by simp; omega
      have hd2 : decide ((m : Int) ≥ 128) = false := by simp; omega
      have hw : IntKind.u8.wrap (m : Int) = (m : Int) := IntWalk.u8_in _ (by omega)
      have hm2 : m < 256 := by omega
      go_wp2_with (at_builtin; go_loud (refine wp_app_my rfl _ _ rfl w.heap.size k (.slice a k c) _ p [UInt8.ofNat m] rfl rfl (own_below HO.out (HAF.out _)) (rd_one wr (UInt8.ofNat m) m (by rw [toNat_ofNat m hm2]) _) (by simp; omega) (Nat.le_trans HB.out.size (HAF.out _).size) ?_); intro b1 k1 c1 w2 HK1 HO1 hb1)
      have hbf := HB.out.trans ((HAL.out _).trans hb1)
      have hE2 : p ++ [UInt8.ofNat m] = l ++ vint n := by rw [← HE.out, vint_small m (by omega)]
      rw [hE2] at HK1 HO1
      go_ret
      exact ⟨b1, k1, c1, rfl, HK1, HO1, hbf⟩
set_option maxRecDepth 100000 in
set_option maxHeartbeats 2000000 in
theorem refPutFour_any (w : World) (v : Value) (l : List UInt8) (n : Nat) (hv : Rd w v l) (hn : n < 4294967296) (hl : l.length ≤ 137438953472) :
    Calls Tryz.prog 88 #[v, .int .u32 n] w (RetMy (l ++ four n) w) := by
  have HV := Lib.hid hv
  have HL := Lib.hid hl
  clear hv hl
  go_enter Tryz.func88, Tryz.ntmps88
  go_wp2_with (at_builtin; go_loud (first
    | (refine wp_app_my rfl _ _ rfl w.heap.size 0 (.slice none 0 0) _ [] l rfl rfl (.inl ⟨rfl, rfl, _, rfl⟩) HV.out (by have := HL.out; simp; omega) (Nat.le_refl _) ?_; intro b0 k0 c0 w1 HK0 HO0 hb0)
    | (refine wp_app_my rfl _ _ rfl w.heap.size k0 (.slice b0 k0 c0) _ l (four n) rfl rfl (own_below HO0.out ((Below.refl _ _).alloc (Nat.le_refl _) _)) (rd_lit w1 (four n) _ _ 4 (by
        simp only [four, u8s, List.map_cons, List.map_nil, UInt8.toNat_ofNat']
        refine congrArg List.toArray ?_
        congr 2 <;> (try omega)) rfl (by simp [four])) (by have := HL.out; simp [four]; omega) (Nat.le_trans hb0.size (by simp)) ?_; intro b1 k1 c1 w2 HK1 HO1 hb1)))
  have hbf := hb0.trans (((Below.refl w1.heap.size w1).alloc (Nat.le_refl _) _ |>.mono hb0.size).trans hb1)
  go_ret
  exact ⟨b1, k1, c1, rfl, HK1, HO1, hbf⟩
set_option maxRecDepth 100000 in
set_option maxHeartbeats 2000000 in
theorem refPutText_any (w : World) (v : Value) (l : List UInt8) (s : ByteArray) (hv : Rd w v l) (hs : s.size ≤ 137438953472) (hl : l.length ≤ 137438953400) :
    Calls Tryz.prog 85 #[v, .string s] w (RetMy (l ++ (vint s.size ++ s.data.toList)) w) := by
  have HP := Lib.hid (refPut_any w v l s.size hv (by omega) (by omega))
  have hvl := vint_le s.size
  have HL := Lib.hid hl
  have HVL := Lib.hid hvl
  clear hv hl hvl
  go_enter Tryz.func85, Tryz.ntmps85
  go_wp2_with fail
  refine HP.out.mono ?_
  rintro e w1 ⟨a, k, c, rfl, HK, HO, hb⟩
  have HB := Lib.hid hb
  have hk : k ≤ 137438953472 := by
    have h1 := HK.out
    have h2 := HL.out
    have h3 := HVL.out
    rw [List.length_append] at h1
    omega
  clear hb
  go_wp2_with (at_builtin; go_loud (refine wp_app_str rfl _ _ rfl w.heap.size k (.slice a k c) s (l ++ vint s.size) rfl rfl HO.out (by omega) HB.out.size ?_); intro b1 k1 c1 w2 HK1 HO1 hb1)
  have hbf := HB.out.trans hb1
  rw [List.append_assoc] at HK1 HO1
  go_ret
  exact ⟨b1, k1, c1, rfl, HK1, HO1, hbf⟩
end Go.Proofs.YtbcnapkbdbefhaaGreatDoor
namespace Go.Proofs.YtbcnapkbdbefhaaGreatDoor
open Go.RowKit

set_option maxRecDepth 100000 in
set_option maxHeartbeats 4000000 in
theorem refOrderPut_any (w : World) (v : Value) (l : List UInt8) (k u : ByteArray) (s : Nat) (g : Bool) (hv : Rd w v l) (hl : l.length ≤ 68719476736) (hk : k.size ≤ 34359738368) (hu : u.size ≤ 34359738368) (hs : s < 18446744073709551616) :
    Calls Tryz.prog 148 #[v, .agg #[.string k, .int .u64 s, .bool g, .string u]] w (RetMy (l ++ eput ⟨k.data.toList, s, g, u.data.toList⟩) w) := by
  obtain ⟨W, hW⟩ : ∃ W, W = w.alloc (.cells #[.string k, .int .u64 s, .bool g, .string u] 34) := ⟨_, rfl⟩
  have hx : Blk W w.heap.size #[.string k, .int .u64 s, .bool g, .string u] 34 := by rw [hW]; exact Blk.new _ _ _
  have hb : Below w.heap.size w W := by rw [hW]; exact (Below.refl _ _).alloc (Nat.le_refl _) _
  have hv2 := hv.below hb
  obtain ⟨va, vn, vc, rfl, hvn⟩ := rd_len hv
  have x0 := hx.cellv 0 (.string k) rfl
  have x1 := hx.cellv 1 (.int .u64 s) rfl
  have x2 := hx.cellv 2 (.bool g) rfl
  have x3 := hx.cellv 3 (.string u) rfl
  have HVN := Lib.hid hvn
  clear hx hv hvn
  have hk10 := vint_le k.size
  have HL1 : Hid ((l ++ (vint k.size ++ k.data.toList)).length ≤ 103079215115) := by
    show _ ≤ _
    rw [List.length_append, List.length_append, size_data]; omega
  have hs10 := vint_le s
  have HL2 : Hid ((((l ++ (vint k.size ++ k.data.toList)) ++ vint s).length + [flagB g].length) ≤ 103079215126) := by
    show _ ≤ _
    rw [List.length_append]
    have := HL1.out
    simp only [List.length_cons, List.length_nil]
    omega
  clear hk10 hs10
  have HW := Lib.hid hW
  clear hW
  have hS : ∀ w', Below W.heap.size W w' → Rd w' (.slice va vn vc) l ∧ w'.cell? ⟨w.heap.size, 0, none⟩ = some (.string k) ∧ w'.cell? ⟨w.heap.size, 1, none⟩ = some (.int .u64 s) ∧ w'.cell? ⟨w.heap.size, 2, none⟩ = some (.bool g) ∧ w'.cell? ⟨w.heap.size, 3, none⟩ = some (.string u) ∧ Below W.heap.size W w' :=
    fun w' hb' => ⟨hv2.below hb', Below.keeps hb' _ _ _ x0, Below.keeps hb' _ _ _ x1, Below.keeps hb' _ _ _ x2, Below.keeps hb' _ _ _ x3, hb'⟩
  have HS := Lib.hid hS
  have hWW : Below W.heap.size W W := Below.refl _ _
  clear hS
  go_enter Tryz.func148, Tryz.ntmps148
  go_wp2_with fail
  rw [← HW.out]
  go_region_held3 (fun w' => Rd w' (.slice va vn vc) l ∧ w'.cell? ⟨w.heap.size, 0, none⟩ = some (.string k) ∧ w'.cell? ⟨w.heap.size, 1, none⟩ = some (.int .u64 s) ∧ w'.cell? ⟨w.heap.size, 2, none⟩ = some (.bool g) ∧ w'.cell? ⟨w.heap.size, 3, none⟩ = some (.string u) ∧ Below W.heap.size W w')
    ((go_split_ands; refine HS.out _ ?_; first | assumption | exact Below.drew hWW | exact Below.trans (by assumption) (bel4.mono (Below.size (by assumption))) | exact Below.trans (by assumption) (bel5.mono (Below.size (by assumption)))))
    (first
      | (go_at_call 85; refine (refPutText_any _ _ l k (by go_split_ands; assumption) (by omega) (by omega)).mono ?_; rintro e w4 ⟨pa, pn, pc, rfl, HPN, HP, bel4⟩)
      | (go_at_call 83; refine (refPut_any _ _ (l ++ (vint k.size ++ k.data.toList)) s (rd_of_own HP.out).2 hs (Nat.le_trans HL1.out (by decide))).mono ?_; rintro e w5 ⟨qa, qn, qc, rfl, HQN, HQ, bel5⟩; replace HQ := Lib.hid (own_mono HQ.out (Below.size (w := W) (by go_split_ands; assumption)))))
  have B5 : Below W.heap.size W w5 := by go_split_ands; assumption
  obtain ⟨_, _, _, c2, c3, _⟩ := HS.out w5 B5
  have hs5 := B5.size
  cases g with
  | true =>
    go_wp2_with (at_builtin; go_loud (refine wp_app_my rfl _ _ rfl W.heap.size _ _ _ _ [flagB true] rfl rfl (own_below HQ.out ((Below.refl _ _).alloc (Nat.le_refl _) _)) (rd_one _ (flagB true) _ rfl _) (Nat.le_trans HL2.out (by decide)) (by simp; omega) ?_); intro ra rn rc w6 HRN HR bel6)
    have B6 := B5.trans (((Below.refl W.heap.size w5).alloc hs5 _).trans bel6)
    go_ret
    exact ⟨ra, rn, rc, rfl, by rw [← eput_true] at HRN; exact HRN, by rw [← eput_true] at HR; exact own_mono HR.out hb.size, hb.trans (B6.mono hb.size)⟩
  | false =>
    have hS5 : ∀ w', Below W.heap.size w5 w' → w'.cell? ⟨w.heap.size, 3, none⟩ = some (.string u) ∧ Below W.heap.size W w' := fun w' hb' => ⟨(HS.out w' (B5.trans hb')).2.2.2.2.1, B5.trans hb'⟩
    have HS5 := Lib.hid hS5
    have h55 : Below W.heap.size w5 w5 := Below.refl _ _
    clear hS5 c2 HP HPN HQN bel4 bel5
    go_wp2_with fail
    go_region_held3 (fun w' => w'.cell? ⟨w.heap.size, 3, none⟩ = some (.string u) ∧ Below W.heap.size W w')
      ((go_split_ands; first | assumption | exact HS5.out _ (Below.drew h55) | exact HS5.out _ ((Below.drew h55).alloc (by simp; omega) _) | exact HS5.out _ (((Below.drew h55).alloc (by simp; omega) _).trans bel6) | exact HS5.out _ ((((Below.drew h55).alloc (by simp; omega) _).trans bel6).trans (bel7.mono (Below.size (by assumption))))))
      (first
        | (refine step_app rfl _ _ rfl W.heap.size _ _ _ ((l ++ (vint k.size ++ k.data.toList)) ++ vint s) [flagB false] rfl rfl (by first | exact HQ.out | exact own_below HQ.out ((Below.refl _ _).alloc (Nat.le_refl _) _) | exact own_below HQ.out ((Below.drew (Below.refl _ _)).alloc (Nat.le_refl _) _)) (rd_one _ _ _ rfl _) (Nat.le_trans HL2.out (by decide)) (by first | (simp; omega) | (go_split_ands; exact Below.size (by assumption))) ?_; intro ra rn rc w6 HRN HR bel6)
        | (go_at_call 85; refine (refPutText_any _ _ _ u (rd_of_own HR.out).2 (by omega) (by have := HL2.out; simp only [List.length_append] at this ⊢; omega)).mono ?_; rintro e w7 ⟨ta, tn, tc, rfl, HTN, HT, bel7⟩))
    all_goals
      have B7 : Below W.heap.size W w7 := by go_split_ands; assumption
      go_wp2
      go_ret
      exact ⟨ta, tn, tc, rfl, by rw [eput_false] at HTN; exact HTN, by rw [eput_false] at HT; exact own_mono HT.out (by have h6 := bel6.size; have h7 := hb.size; simp at h6; omega), hb.trans (B7.mono hb.size)⟩
end Go.Proofs.YtbcnapkbdbefhaaGreatDoor

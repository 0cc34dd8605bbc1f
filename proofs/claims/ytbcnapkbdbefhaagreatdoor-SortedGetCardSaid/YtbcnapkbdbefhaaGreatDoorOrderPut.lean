/- Walk of order.Put: an entry behind some bytes. The condition: bytes and texts of at most 2^37. -/
import Derived.Test.YtbcnapkbdbefhaaGreatDoorPlain2
import Derived.Test.YtbcnapkbdbefhaaGreatDoorMemB
import Derived.Test.YtbcnapkbdbefhaaGreatDoorOrder2
import Derived.Deep.RegionHeld3
namespace Go.Proofs.YtbcnapkbdbefhaaGreatDoor
open Go.RowKit

theorem put_my' (w : World) (v : Value) (l : List UInt8) (n : Nat) (hv : Rd w v l) (hn : n < 18446744073709551616) (hl : l.length ≤ 274877906944) :
    Calls Tryz.prog 78 #[v, .int .u64 n] w (RetMy (l ++ vint n) w) := (put_any w v l n hv hn hl).mono fun _ _ h => my_of_own h
theorem putText_my' (w : World) (v : Value) (l : List UInt8) (s : ByteArray) (hv : Rd w v l) (hs : s.size ≤ 137438953472) (hl : l.length ≤ 137438953472) :
    Calls Tryz.prog 136 #[v, .string s] w (RetMy (l ++ (vint s.size ++ s.data.toList)) w) := (putText_any w v l s hv hs hl).mono fun _ _ h => my_of_own h
/-- append of bytes, as a step of a region that draws -/
theorem step_app {ops : Array Oper} {o : Oper} {a : Act} {w : World} {K : Act → World → Prop} {Q : Exit → Act → World → Prop} {E : Prop} (hgd : o.guard = none) (s x : Operand)
    (ho : o.op = .call { callee := .builtin .append, args := #[s, x], argTypes := #[22, 22] })
    (base n : Nat) (v v2 : Value) (l m : List UInt8) (hs : a.eval s = v) (hx : a.eval x = v2) (hown : Own w base 5 1 v n (u8s l)) (hrd : Rd w v2 m)
    (hlen : l.length + m.length ≤ 1099511627776) (hbase : base ≤ w.heap.size)
    (h : ∀ b k c w', Hid (k = (l ++ m).length) → Hid (Own w' base 5 1 (.slice b k c) k (u8s (l ++ m))) → Below base w w' → K (a.put o.dst (.slice b k c)) w') :
    if Region.wanted o (yielded ops a.tmps) = true then Oper.wp Tryz.prog o a w K Q else E := by
  have hw : Region.wanted o (yielded ops a.tmps) = true := by simp [Region.wanted, hgd]
  rw [if_pos hw]
  have hn := (rd_of_own hown).1
  subst hn
  obtain ⟨i, hi, hz, hz1, hz2⟩ := info_parts info_u8
  obtain ⟨v', w', hr, h2, _, h4⟩ := run_app (P := Tryz.prog) w base 22 o.type 5 i (.int .u8 0) 1 1 Tryz.underlying22 hi hz hz1 hz2 rfl (by omega) v l.length (u8s l) hown v2 m.length (u8s m) (rd_reads hrd) (one_u8s m) (by omega) (by omega) hbase
  unfold Oper.wp execOp
  simp only [ho, resolve, invoke, builtin, Sem.run_bind, Sem.run_pure, Result.andThen_ok, List.map_toArray, List.map_cons, List.map_nil, hs, hx, hr]
  rw [← u8s_append, ← List.length_append] at h2
  obtain ⟨b, k, c, rfl, hk⟩ := rd_len (rd_of_own h2).2
  subst hk
  exact h b _ c w' rfl h2 h4
theorem flag_cell (g : Bool) : ((flagN g : Nat) : Int) = ((flagB g).toNat : Int) := by cases g <;> rfl

theorem eput_true {l : List UInt8} {k u : ByteArray} {s : Nat} : l ++ eput ⟨k.data.toList, s, true, u.data.toList⟩ = ((l ++ (vint k.size ++ k.data.toList)) ++ vint s) ++ [flagB true] := by
  simp [eput, tput]
theorem eput_false {l : List UInt8} {k u : ByteArray} {s : Nat} : (((l ++ (vint k.size ++ k.data.toList)) ++ vint s) ++ [flagB false]) ++ (vint u.size ++ u.data.toList) = l ++ eput ⟨k.data.toList, s, false, u.data.toList⟩ := by
  simp [eput, tput]

set_option maxRecDepth 100000 in
set_option maxHeartbeats 4000000 in
theorem orderPut_my (w : World) (v : Value) (l : List UInt8) (k u : ByteArray) (s : Nat) (g : Bool) (hv : Rd w v l) (hl : l.length ≤ 68719476736) (hk : k.size ≤ 34359738368) (hu : u.size ≤ 34359738368) (hs : s < 18446744073709551616) :
    Calls Tryz.prog 132 #[v, .agg #[.string k, .int .u64 s, .bool g, .string u]] w (RetMy (l ++ eput ⟨k.data.toList, s, g, u.data.toList⟩) w) := by
  obtain ⟨W, hW⟩ : ∃ W, W = w.alloc (.cells #[.string k, .int .u64 s, .bool g, .string u] 34) := ⟨_, rfl⟩
  have hx : Blk W w.heap.size #[.string k, .int .u64 s, .bool g, .string u] 34 := by rw [hW]; exact Blk.new _ _ _
  have hb : Below w.heap.size w W := by rw [hW]; exact (Below.refl _ _).alloc (Nat.le_refl _) _
  have hv2 := hv.below hb
  obtain ⟨va, vn, vc, rfl, hvn⟩ := rd_len hv
  have x0 := hx.cellv 0 (.string k) rfl
  have x1 := hx.cellv 1 (.int .u64 s) rfl
  have x2 := hx.cellv 2 (.bool g) rfl
  have x3 := hx.cellv 3 (.string u) rfl
  have HVN := Lib.hid hvn
  clear hx hv hvn
  have hk10 := vint_le k.size
  have HL1 : Hid ((l ++ (vint k.size ++ k.data.toList)).length ≤ 103079215115) := by
    show _ ≤ _
    rw [List.length_append, List.length_append, size_data]; omega
  have hs10 := vint_le s
  have HL2 : Hid ((((l ++ (vint k.size ++ k.data.toList)) ++ vint s).length + [flagB g].length) ≤ 137438953472) := by
    show _ ≤ _
    rw [List.length_append]
    have := HL1.out
    simp only [List.length_cons, List.length_nil]
    omega
  clear hk10 hs10
  have HW := Lib.hid hW
  clear hW
  have hS : ∀ w', Below W.heap.size W w' → Rd w' (.slice va vn vc) l ∧ w'.cell? ⟨w.heap.size, 0, none⟩ = some (.string k) ∧ w'.cell? ⟨w.heap.size, 1, none⟩ = some (.int .u64 s) ∧ w'.cell? ⟨w.heap.size, 2, none⟩ = some (.bool g) ∧ w'.cell? ⟨w.heap.size, 3, none⟩ = some (.string u) ∧ Below W.heap.size W w' :=
    fun w' hb' => ⟨hv2.below hb', Below.keeps hb' _ _ _ x0, Below.keeps hb' _ _ _ x1, Below.keeps hb' _ _ _ x2, Below.keeps hb' _ _ _ x3, hb'⟩
  have HS := Lib.hid hS
  have hWW : Below W.heap.size W W := Below.refl _ _
  clear hS
  go_enter Tryz.func132, Tryz.ntmps132
  go_wp2_with fail
  rw [← HW.out]
  go_region_held3 (fun w' => Rd w' (.slice va vn vc) l ∧ w'.cell? ⟨w.heap.size, 0, none⟩ = some (.string k) ∧ w'.cell? ⟨w.heap.size, 1, none⟩ = some (.int .u64 s) ∧ w'.cell? ⟨w.heap.size, 2, none⟩ = some (.bool g) ∧ w'.cell? ⟨w.heap.size, 3, none⟩ = some (.string u) ∧ Below W.heap.size W w')
    ((go_split_ands; refine HS.out _ ?_; first | assumption | exact Below.drew hWW | exact Below.trans (by assumption) (bel4.mono (Below.size (by assumption))) | exact Below.trans (by assumption) (bel5.mono (Below.size (by assumption))) | exact Below.trans (by assumption) bel6 | exact Below.alloc (by assumption) (Below.size (by assumption)) _))
    (first
      | (go_at_call 136; refine (putText_rd _ _ l k (by go_split_ands; assumption) (by omega) (by omega)).mono ?_; rintro e w4 ⟨pa, pn, pc, rfl, HPN, HP, bel4⟩)
      | (go_at_call 78; refine (put_my' _ _ (l ++ (vint k.size ++ k.data.toList)) s (by first | exact HP.out | exact HP.out.below ((Below.refl _ _).alloc (Nat.le_refl _) _)) hs (Nat.le_trans HL1.out (by decide))).mono ?_; rintro e w5 ⟨qa, qn, qc, rfl, HQN, HQ, bel5⟩; replace HQ := Lib.hid (own_mono HQ.out (Below.size (w := W) (by go_split_ands; assumption))))
      | (go_at_call 159; refine (flag_any _ _).mono ?_; rintro e w' ⟨rfl, rfl⟩)
      | (refine step_app rfl _ _ rfl _ _ _ _ ((l ++ (vint k.size ++ k.data.toList)) ++ vint s) [flagB g] rfl rfl (by first | exact HQ.out | exact own_below HQ.out ((Below.refl _ _).alloc (Nat.le_refl _) _)) (by first | exact rd_one _ _ _ (flag_cell g) _ | exact (rd_one _ _ _ (flag_cell g) _).below bel5 | exact ((rd_one _ _ _ (flag_cell g) _).below bel4).below bel5) (Nat.le_trans HL2.out (by decide)) (Below.size (w := W) (by go_split_ands; assumption)) ?_; intro ra rn rc w6 HRN HR bel6))
  all_goals
    have B6 : Below W.heap.size W w6 := by go_split_ands; assumption
    obtain ⟨_, _, _, c2, c3, _⟩ := HS.out w6 B6
    have B7 : Below w.heap.size w w6 := Below.trans hb (B6.mono hb.size)
    cases g with
    | true =>
      go_wp2
      go_ret
      exact ⟨ra, rn, rc, rfl, by rw [← eput_true] at HRN; exact HRN, by rw [← eput_true] at HR; exact own_mono HR.out hb.size, B7⟩
    | false =>
      go_wp2_with fail
      refine (putText_my' _ _ _ u (rd_of_own HR.out).2 (by omega) (by have := HL2.out; simp only [List.length_append] at this ⊢; omega)).mono ?_
      rintro e w8 ⟨ta, tn, tc, rfl, HTN, HT, bel8⟩
      go_wp2
      go_ret
      exact ⟨ta, tn, tc, rfl, by rw [eput_false] at HTN; exact HTN, by rw [eput_false] at HT; exact own_mono HT.out B7.size, Below.trans B7 (bel8.mono B7.size)⟩
theorem orderPut_any (w : World) (v : Value) (l : List UInt8) (k u : ByteArray) (s : Nat) (g : Bool) (hv : Rd w v l) (hl : l.length ≤ 68719476736) (hk : k.size ≤ 34359738368) (hu : u.size ≤ 34359738368) (hs : s < 18446744073709551616) :
    Calls Tryz.prog 132 #[v, .agg #[.string k, .int .u64 s, .bool g, .string u]] w (RetRd (l ++ eput ⟨k.data.toList, s, g, u.data.toList⟩) w) :=
  (orderPut_my w v l k u s g hv hl hk hu hs).mono fun _ _ h => rd_of_my h
end Go.Proofs.YtbcnapkbdbefhaaGreatDoor

/- Slices that read as numbers and as texts. No condition. | Slices of records (each a slice of bytes). No condition. | Slices of texts: what they read as, cuts, appends. The condition of append: as many bytes as the model's append bears. | Slices of entries; law01.EntriesSize. The condition: keys and values of at most 2^47 bytes. | Marks in a row, plain facts on how marks stand, and law04.great. The condition: at most 64 marks, keys of at most 2^47 bytes. -/
import Derived.Test.YtbcnapkbdbefhaaGreatDoorMemB
import Derived.Test.YtbcnapkbdbefhaaGreatDoorMore
import Derived.Test.YtbcnapkbdbefhaaGreatDoorOrder2
import Derived.Test.YtbcnapkbdbefhaaGreatDoorHelp1
namespace Go.Proofs.YtbcnapkbdbefhaaGreatDoor
open Go.RowKit
/-- a slice that reads as numbers -/
def RdN (w : World) (v : Value) (l : List Nat) : Prop :=
  ∃ a cap, v = .slice a l.length cap ∧ l.length ≤ cap ∧ cap ≤ 9223372036854775807 ∧
    ∀ j, (h : j < l.length) → ∃ b off, a = some ⟨b, off, none⟩ ∧ w.cell? ⟨b, off + j, none⟩ = some (.int .u64 l[j])
/-- a slice that reads as texts -/
def RdT (w : World) (v : Value) (l : List ByteArray) : Prop :=
  ∃ a cap, v = .slice a l.length cap ∧ l.length ≤ cap ∧ cap ≤ 9223372036854775807 ∧
    ∀ j, (h : j < l.length) → ∃ b off, a = some ⟨b, off, none⟩ ∧ w.cell? ⟨b, off + j, none⟩ = some (.string l[j])
theorem RdN.below {w w' : World} {v : Value} {l : List Nat} (h : RdN w v l) (hb : Below w.heap.size w w') : RdN w' v l := by
  obtain ⟨a, cap, h1, h2, h3, h4⟩ := h
  exact ⟨a, cap, h1, h2, h3, fun j hj => let ⟨b, off, e, c⟩ := h4 j hj; ⟨b, off, e, Below.keeps hb _ _ _ c⟩⟩
theorem RdT.below {w w' : World} {v : Value} {l : List ByteArray} (h : RdT w v l) (hb : Below w.heap.size w w') : RdT w' v l := by
  obtain ⟨a, cap, h1, h2, h3, h4⟩ := h
  exact ⟨a, cap, h1, h2, h3, fun j hj => let ⟨b, off, e, c⟩ := h4 j hj; ⟨b, off, e, Below.keeps hb _ _ _ c⟩⟩
end Go.Proofs.YtbcnapkbdbefhaaGreatDoor
namespace Go.Proofs.YtbcnapkbdbefhaaGreatDoor
open Go.RowKit
/-- a slice that reads as records -/
def RdR (w : World) (v : Value) (l : List (List UInt8)) : Prop :=
  ∃ a cap, v = .slice a l.length cap ∧ l.length ≤ cap ∧ cap ≤ 9223372036854775807 ∧
    ∀ j, (h : j < l.length) → ∃ b off x, a = some ⟨b, off, none⟩ ∧ w.cell? ⟨b, off + j, none⟩ = some x ∧ Rd w x l[j]
theorem RdR.below {w w' : World} {v : Value} {l : List (List UInt8)} (h : RdR w v l) (hb : Below w.heap.size w w') : RdR w' v l := by
  obtain ⟨a, cap, h1, h2, h3, h4⟩ := h
  exact ⟨a, cap, h1, h2, h3, fun j hj => let ⟨b, off, x, e, c, r⟩ := h4 j hj; ⟨b, off, x, e, Below.keeps hb _ _ _ c, r.below hb⟩⟩
end Go.Proofs.YtbcnapkbdbefhaaGreatDoor
namespace Go.Proofs.YtbcnapkbdbefhaaGreatDoor
open Go.RowKit

def txs (l : List ByteArray) : List Value := l.map .string
theorem txs_length (l : List ByteArray) : (txs l).length = l.length := by simp [txs]
theorem txs_app (l m : List ByteArray) : txs (l ++ m) = txs l ++ txs m := by simp [txs]
theorem one_txs (l : List ByteArray) : ∀ u ∈ txs l, u.oneCell' = true := by
  intro u hu
  obtain ⟨c, _, rfl⟩ := List.mem_map.1 hu
  rfl
theorem rdT_of {w : World} {v : Value} {n : Nat} {l : List ByteArray} (h : Reads w 1 v n (txs l)) : n = l.length ∧ RdT w v l := by
  obtain ⟨a, cap, rfl, hl, hc, hm, hr⟩ := h
  rw [txs_length, Nat.mul_one] at hl
  subst hl
  refine ⟨rfl, a, cap, rfl, hc, hm, fun j hj => ?_⟩
  obtain ⟨b, off, e, hc⟩ := hr j (by rw [txs_length]; exact hj)
  exact ⟨b, off, e, by rw [hc]; simp [txs]⟩
theorem rdT_reads {w : World} {v : Value} {l : List ByteArray} (h : RdT w v l) : Reads w 1 v l.length (txs l) := by
  obtain ⟨a, cap, rfl, h1, h2, h3⟩ := h
  refine ⟨a, cap, rfl, by simp [txs], h1, h2, fun j hj => ?_⟩
  obtain ⟨b, off, e, hc⟩ := h3 j (by simpa [txs] using hj)
  exact ⟨b, off, e, by rw [hc]; simp [txs]⟩
set_option maxRecDepth 100000 in
theorem info_str : (Tryz.prog.info? 9).map (fun i => (i.zero, i.size, i.bytes)) = some (some (.string .empty), 1, 16) := by kernel_rfl
theorem wp_app_txt {w : World} {ops : Array Oper} {rest : List Oper} {o : Oper} {a : Act} {Q : Exit → Act → World → Prop} (hgd : Region.wanted o (yielded ops a.tmps) = true) (s x : Operand)
    (ho : o.op = .call { callee := .builtin .append, args := #[s, x], argTypes := #[77, 77] })
    (base n m : Nat) (v v2 : Value) (l k : List ByteArray) (hs : a.eval s = v) (hx : a.eval x = v2) (hown : Own w base 9 1 v n (txs l)) (hrd : RdT w v2 k) (hk : m = k.length)
    (hlen : n + m ≤ 1073741824) (hbase : base ≤ w.heap.size)
    (h : ∀ b c w', Hid (Own w' base 9 1 (.slice b (n + m) c) (n + m) (txs (l ++ k))) → Below base w w' → wpList Tryz.prog ops Q rest (a.put o.dst (.slice b (n + m) c)) w') : wpList Tryz.prog ops Q (o :: rest) a w := by
  obtain ⟨i, hi, hz, hz1, hz2⟩ := info_parts info_str
  subst hk
  refine wp_app_el hgd s x ho Tryz.underlying77 hi hz hz1 hz2 rfl (by omega) base n k.length v v2 (txs l) (txs k) hs hx hown (rdT_reads hrd) (one_txs k) (by omega) (by omega) hbase ?_
  rw [← txs_app]; exact h
theorem wp_app_txt_grow {w : World} {ops : Array Oper} {rest : List Oper} {o : Oper} {a : Act} {Q : Exit → Act → World → Prop} (hgd : Region.wanted o (yielded ops a.tmps) = true) (s x : Operand)
    (ho : o.op = .call { callee := .builtin .append, args := #[s, x], argTypes := #[77, 77] })
    (n m cap : Nat) (ad : Addr) (v v2 : Value) (l k : List ByteArray) (hv : v = .slice (some ad) n cap) (hs : a.eval s = v) (hx : a.eval x = v2) (hrd0 : RdT w v l) (hl : n = l.length) (hrd : RdT w v2 k) (hk : m = k.length)
    (hcap : cap < n + m) (hlen : n + m ≤ 1073741824)
    (h : ∀ b c w', Hid (Own w' w.heap.size 9 1 (.slice b (n + m) c) (n + m) (txs (l ++ k))) → Below w.heap.size w w' → wpList Tryz.prog ops Q rest (a.put o.dst (.slice b (n + m) c)) w') : wpList Tryz.prog ops Q (o :: rest) a w := by
  obtain ⟨i, hi, hz, hz1, hz2⟩ := info_parts info_str
  subst hk hl
  refine wp_app_el_grow hgd s x ho Tryz.underlying77 hi hz hz1 hz2 rfl (by omega) l.length k.length cap ad v v2 (txs l) (txs k) hv hs hx (rdT_reads hrd0) (rdT_reads hrd) hcap (by omega) (by omega) ?_
  rw [← txs_app]; exact h
theorem wpo_app_txt_grow {w : World} {o : Oper} {a : Act} {K : Act → World → Prop} {Q : Exit → Act → World → Prop} (s x : Operand)
    (ho : o.op = .call { callee := .builtin .append, args := #[s, x], argTypes := #[77, 77] })
    (n m cap : Nat) (ad : Addr) (v v2 : Value) (l k : List ByteArray) (hv : v = .slice (some ad) n cap) (hs : a.eval s = v) (hx : a.eval x = v2) (hrd0 : RdT w v l) (hl : n = l.length) (hrd : RdT w v2 k) (hk : m = k.length)
    (hcap : cap < n + m) (hlen : n + m ≤ 1073741824)
    (h : ∀ b c w', Hid (Own w' w.heap.size 9 1 (.slice b (n + m) c) (n + m) (txs (l ++ k))) → Below w.heap.size w w' → K (a.put o.dst (.slice b (n + m) c)) w') : o.wp Tryz.prog a w K Q := by
  obtain ⟨i, hi, hz, hz1, hz2⟩ := info_parts info_str
  subst hk hl
  refine wpo_app_el_grow s x ho Tryz.underlying77 hi hz hz1 hz2 rfl (by omega) l.length k.length cap ad v v2 (txs l) (txs k) hv hs hx (rdT_reads hrd0) (rdT_reads hrd) hcap (by omega) (by omega) ?_
  rw [← txs_app]; exact h
/-- v[lo:], v[:hi] -/
theorem cutT_to {w : World} {v : Value} {l : List ByteArray} (h : RdT w v l) (k : Nat) (hk : k ≤ l.length) :
    ∃ a c, (∀ (w' : World) (kh : IntKind), (Instr.slice 77 v none (some (.int kh k)) none).run Tryz.prog w' = .ok (.slice a k c) w') ∧ RdT w (.slice a k c) (l.take k) := by
  obtain ⟨i, hi, hz, hz1, hz2⟩ := info_parts info_str
  obtain ⟨a, c, _, h2, _, h4⟩ := reads_cut Tryz.underlying77 hi hz1 (by omega) (rdT_reads h) 0 k (Nat.zero_le _) hk
  refine ⟨a, c, fun w' kh => by have := h2 rfl w' kh; rwa [Nat.sub_zero] at this, ?_⟩
  simp only [Nat.sub_zero, Nat.mul_one, List.drop_zero] at h4
  have e : (txs l).take k = txs (l.take k) := by simp [txs]
  rw [e] at h4
  have := (rdT_of h4).2
  exact this
theorem cutT_rest {w : World} {v : Value} {l : List ByteArray} (h : RdT w v l) (k n : Nat) (hk : l.length = k + n) :
    ∃ a c, (∀ (w' : World) (kl : IntKind), (Instr.slice 77 v (some (.int kl k)) none none).run Tryz.prog w' = .ok (.slice a n c) w') ∧ RdT w (.slice a n c) (l.drop k) := by
  obtain ⟨i, hi, hz, hz1, hz2⟩ := info_parts info_str
  obtain ⟨a, c, _, _, h3, h4⟩ := reads_cut Tryz.underlying77 hi hz1 (by omega) (rdT_reads h) k l.length (by omega) (Nat.le_refl _)
  have en : l.length - k = n := by omega
  rw [en] at h3 h4
  refine ⟨a, c, fun w' kh => h3 rfl w' kh, ?_⟩
  rw [Nat.mul_one, Nat.mul_one, List.take_of_length_le (by rw [txs_length]; omega)] at h4
  have e : (txs l).drop k = txs (l.drop k) := by simp [txs]
  rw [e] at h4
  exact (rdT_of h4).2
end Go.Proofs.YtbcnapkbdbefhaaGreatDoor
namespace Go.Proofs.YtbcnapkbdbefhaaGreatDoor
open Go.RowKit

/-- an entry of the program -/
structure PE where
  k : ByteArray
  s : Nat
  g : Bool
  u : ByteArray
def PE.ok (x : PE) : Prop := x.k.size ≤ 140737488351232 ∧ x.s < 18446744073709551616 ∧ x.u.size ≤ 140737488351232
def PE.ent (x : PE) : Ent := entOf x.k x.s x.g x.u
/-- a slice that reads as entries -/
def RdE (w : World) (v : Value) (l : List PE) : Prop :=
  ∃ a cap, v = .slice a l.length cap ∧ l.length ≤ cap ∧ cap ≤ 9223372036854775807 ∧
    ∀ j, (h : j < l.length) → ∃ b off, a = some ⟨b, off, none⟩ ∧ w.cell? ⟨b, off + j * 4, none⟩ = some (.string l[j].k) ∧ w.cell? ⟨b, off + j * 4 + 1, none⟩ = some (.int .u64 l[j].s) ∧
      w.cell? ⟨b, off + j * 4 + 2, none⟩ = some (.bool l[j].g) ∧ w.cell? ⟨b, off + j * 4 + 3, none⟩ = some (.string l[j].u)
theorem RdE.below {w w' : World} {v : Value} {l : List PE} (h : RdE w v l) (hb : Below w.heap.size w w') : RdE w' v l := by
  obtain ⟨a, cap, h1, h2, h3, h4⟩ := h
  refine ⟨a, cap, h1, h2, h3, fun j hj => ?_⟩
  obtain ⟨b, off, e, c0, c1, c2, c3⟩ := h4 j hj
  exact ⟨b, off, e, Below.keeps hb _ _ _ c0, Below.keeps hb _ _ _ c1, Below.keeps hb _ _ _ c2, Below.keeps hb _ _ _ c3⟩
def entsLen : List PE → Nat
  | [] => 0
  | x :: l => x.k.size + x.u.size + entsLen l
theorem entsLen_app (l m : List PE) : entsLen (l ++ m) = entsLen l + entsLen m := by
  induction l with
  | nil => simp [entsLen]
  | cons x l ih => simp only [List.cons_append, entsLen, ih]; omega
theorem entsLen_take (l : List PE) (k : Nat) (h : k < l.length) : entsLen (l.take (k + 1)) = entsLen (l.take k) + (l[k].k.size + l[k].u.size) := by
  rw [List.take_succ_eq_append_getElem h, entsLen_app]
  simp [entsLen]
theorem entsLen_le (l : List PE) (k : Nat) : entsLen (l.take k) ≤ entsLen l := by
  have := entsLen_app (l.take k) (l.drop k)
  rw [List.take_append_drop] at this
  omega
theorem entsLen_mem {l : List PE} {x : PE} (h : x ∈ l) : x.k.size + x.u.size ≤ entsLen l := by
  induction l with
  | nil => cases h
  | cons y l ih =>
    simp only [entsLen]
    rcases List.mem_cons.1 h with rfl | h
    · omega
    · have := ih h; omega
set_option maxRecDepth 100000 in
set_option maxHeartbeats 1000000 in
theorem entriesSize_any (w : World) (v : Value) (l : List PE) (hv : RdE w v l) (hn : l.length ≤ 140737488351232) (hk : ∀ x ∈ l, x.ok) :
    Calls Tryz.prog 72 #[v] w fun e w' => ∃ n : Nat, e = .returned (.int .i64 n) ∧ (n ≤ 1048576 → n = l.length + entsLen l) ∧ Below w.heap.size w w' := by
  have HV := Lib.hid hv
  obtain ⟨a, cap, rfl, h1, h2, h3⟩ := hv
  have HK := Lib.hid hk
  clear h3 hk
  obtain ⟨n, hnn⟩ : ∃ n, n = l.length := ⟨_, rfl⟩
  have HN := Lib.hid hnn
  rw [← hnn] at h1 hn HV ⊢
  clear hnn
  go_enter Tryz.func72, Tryz.ntmps72
  go_wp2
  go_loopw [3, 4] (fun t i wr => ∃ k : Nat, k ≤ n ∧ i = .int .i64 k ∧ t = .int .i64 ((n + entsLen (l.take k) : Nat) : Int) ∧ (entsLen (l.take k) ≤ 4 * 140737488351232) ∧ Below w.heap.size w wr) (fun _ i _ => n - (intOf i).toNat)
  case atStart => exact ⟨0, Nat.zero_le _, rfl, by simp [entsLen], by simp [entsLen], Below.refl _ _⟩
  case round =>
    obtain ⟨k, hk, rfl, rfl, hb, bel⟩ := hrel
    by_cases hlt : k < n
    · have hkl : k < l.length := by rw [← HN.out]; exact hlt
      by_cases hbig : n + entsLen (l.take k) ≤ 1048576
      · obtain ⟨a', c', hve, _, _, hcell⟩ := HV.out.below bel
        obtain ⟨b, off, hae, c0, c1, c2, c3⟩ := hcell k hkl
        cases hve
        subst hae
        have HT := Lib.hid (entsLen_take l k hkl)
        have hsz := HK.out _ (List.getElem_mem (l := l) (n := k) hkl)
        generalize entsLen (l.take k) = S at hb hbig HT ⊢
        obtain ⟨x, hx⟩ : ∃ x, x = l[k] := ⟨_, rfl⟩
        rw [← hx] at c0 c1 c2 c3 hsz HT
        clear hx hcell
        obtain ⟨s1, s2, s3⟩ := hsz
        obtain ⟨xk, xs, xg, xu⟩ := x
        simp only at c0 c1 c2 c3 s1 s2 s3 HT
        clear c1 c2
        go_wp2
        go_quiet (fail)
        go_wp2
        go_round
        case rel => exact ⟨k + 1, by omega, by go_num, by rw [HT.out]; go_num, by rw [HT.out]; omega, Below.trans bel ((drewN_below _ _).mono bel.size)⟩
        case measure => simp [intOf]; omega
      · generalize entsLen (l.take k) = S at hb hbig ⊢
        go_wp2
        go_ret
        exact ⟨n + S, by first | rfl | go_num, fun h => absurd h hbig, bel⟩
    · have hkn : k = n := by omega
      subst hkn
      have e : l.take k = l := List.take_of_length_le (by rw [← HN.out]; exact Nat.le_refl _)
      rw [e] at hb ⊢
      go_wp2
      go_ret
      exact ⟨_, rfl, fun _ => rfl, bel⟩
end Go.Proofs.YtbcnapkbdbefhaaGreatDoor
namespace Go.Proofs.YtbcnapkbdbefhaaGreatDoor
open Go.RowKit

theorem ltB_trans : ∀ (l m k : List UInt8), ltB l m = true → ltB m k = true → ltB l k = true := by
  intro l
  induction l with
  | nil =>
    intro m k h1 h2
    cases k with
    | nil => cases m <;> simp [ltB] at h2
    | cons c k => rfl
  | cons a l ih =>
    intro m k h1 h2
    cases m with
    | nil => simp [ltB] at h1
    | cons b m =>
      cases k with
      | nil => simp [ltB] at h2
      | cons c k =>
        simp only [ltB] at h1 h2 ⊢
        by_cases hab : a.toNat < b.toNat
        · by_cases hbc : b.toNat < c.toNat
          · rw [if_pos (by omega)]
          · rw [if_neg hbc] at h2
            by_cases hcb : c.toNat < b.toNat
            · rw [if_pos hcb] at h2; cases h2
            · rw [if_pos (by omega)]
        · rw [if_neg hab] at h1
          by_cases hba : b.toNat < a.toNat
          · rw [if_pos hba] at h1; cases h1
          · rw [if_neg hba] at h1
            by_cases hbc : b.toNat < c.toNat
            · rw [if_pos (by omega)]
            · rw [if_neg hbc] at h2
              by_cases hcb : c.toNat < b.toNat
              · rw [if_pos hcb] at h2; cases h2
              · rw [if_neg hcb] at h2
                rw [if_neg (by omega), if_neg (by omega)]
                exact ih m k h1 h2
theorem cmpS_neg (l m : List UInt8) : cmpS m l = - cmpS l m := by
  unfold cmpS
  cases h1 : ltB l m
  · cases h2 : ltB m l <;> simp
  · rw [ltB_asymm l m h1]; simp
theorem cmpN_neg (a b : Nat) : cmpN b a = - cmpN a b := by
  unfold cmpN
  repeat' split
  all_goals omega
theorem cmpN_eq {a b : Nat} (h : cmpN a b = 0) : a = b := by
  unfold cmpN at h
  repeat' split at h
  all_goals omega
theorem cmpS_rng (l m : List UInt8) : cmpS l m = -1 ∨ cmpS l m = 0 ∨ cmpS l m = 1 := by
  unfold cmpS
  repeat' split
  all_goals simp
theorem cmpN_rng (a b : Nat) : cmpN a b = -1 ∨ cmpN a b = 0 ∨ cmpN a b = 1 := by
  unfold cmpN
  repeat' split
  all_goals simp
theorem cmpS_tr (l m k : List UInt8) (h1 : cmpS l m ≤ 0) (h2 : cmpS m k ≤ 0) : cmpS l k ≤ 0 ∧ (cmpS l k = 0 ↔ cmpS l m = 0 ∧ cmpS m k = 0) := by
  by_cases e1 : cmpS l m = 0
  · obtain rfl := cmpS_eq e1
    exact ⟨h2, by simp [cmpS_self]⟩
  · by_cases e2 : cmpS m k = 0
    · obtain rfl := cmpS_eq e2
      exact ⟨h1, by simp [cmpS_self]⟩
    · have l1 : ltB l m = true := by
        unfold cmpS at h1 e1
        split at h1
        · assumption
        · split at h1
          · omega
          · rename_i a b; rw [if_neg a, if_neg b] at e1; omega
      have l2 : ltB m k = true := by
        unfold cmpS at h2 e2
        split at h2
        · assumption
        · split at h2
          · omega
          · rename_i a b; rw [if_neg a, if_neg b] at e2; omega
      have := cmpS_lt (ltB_trans l m k l1 l2)
      rw [this]
      exact ⟨by omega, by simp [e1]⟩
theorem cmpN_tr (a b c : Nat) (h1 : cmpN a b ≤ 0) (h2 : cmpN b c ≤ 0) : cmpN a c ≤ 0 ∧ (cmpN a c = 0 ↔ cmpN a b = 0 ∧ cmpN b c = 0) := by
  unfold cmpN at *
  repeat' split at h1
  all_goals (repeat' split at h2)
  all_goals (first | omega | skip)
  all_goals simp only [*]
  all_goals (repeat' split)
  all_goals omega

/-- a mark -/
structure Mk where
  key : List UInt8
  seq : Nat
  gone : Bool
def cmpK (a b : Mk) : Int := cmpM a.key a.seq a.gone b.key b.seq b.gone
theorem cmpK_rng (a b : Mk) : cmpK a b = -1 ∨ cmpK a b = 0 ∨ cmpK a b = 1 := by
  unfold cmpK cmpM
  repeat' split
  · exact cmpS_rng _ _
  · exact cmpN_rng _ _
  · exact cmpN_rng _ _
theorem cmpK_neg (a b : Mk) : cmpK b a = - cmpK a b := by
  unfold cmpK cmpM
  rw [cmpS_neg a.key b.key, cmpN_neg b.seq a.seq, cmpN_neg (flagN b.gone) (flagN a.gone)]
  repeat' split
  all_goals omega
theorem flagN_inj {a b : Bool} (h : flagN a = flagN b) : a = b := by cases a <;> cases b <;> simp_all [flagN]
theorem cmpK_eq {a b : Mk} (h : cmpK a b = 0) : a = b := by
  unfold cmpK cmpM at h
  by_cases h1 : cmpS a.key b.key = 0
  · rw [if_neg (by omega)] at h
    by_cases h2 : cmpN b.seq a.seq = 0
    · rw [if_neg (by omega)] at h
      have e1 := cmpS_eq h1
      have e2 := cmpN_eq h2
      have e3 := flagN_inj (cmpN_eq h)
      cases a; cases b; simp_all
    · rw [if_pos h2] at h; exact absurd h h2
  · rw [if_pos h1] at h; exact absurd h h1
theorem cmpK_self (a : Mk) : cmpK a a = 0 := by
  have := cmpK_neg a a
  omega
theorem cmpK_tr (a b c : Mk) (h1 : cmpK a b ≤ 0) (h2 : cmpK b c ≤ 0) : cmpK a c ≤ 0 ∧ (cmpK a c = 0 ↔ cmpK a b = 0 ∧ cmpK b c = 0) := by
  by_cases e1 : cmpK a b = 0
  · obtain rfl := cmpK_eq e1
    exact ⟨h2, by simp [cmpK_self]⟩
  · by_cases e2 : cmpK b c = 0
    · obtain rfl := cmpK_eq e2
      exact ⟨h1, by simp [cmpK_self]⟩
    · have key : cmpK a c < 0 := by
        have s1 := cmpS_tr a.key b.key c.key
        have n1 := cmpN_tr c.seq b.seq a.seq
        have f1 := cmpN_tr (flagN c.gone) (flagN b.gone) (flagN a.gone)
        unfold cmpK cmpM at *
        generalize cmpS a.key b.key = p1 at *
        generalize cmpS b.key c.key = p2 at *
        generalize cmpS a.key c.key = p3 at *
        generalize cmpN b.seq a.seq = q1 at *
        generalize cmpN c.seq b.seq = q2 at *
        generalize cmpN c.seq a.seq = q3 at *
        generalize cmpN (flagN b.gone) (flagN a.gone) = r1 at *
        generalize cmpN (flagN c.gone) (flagN b.gone) = r2 at *
        generalize cmpN (flagN c.gone) (flagN a.gone) = r3 at *
        omega
      exact ⟨by omega, by omega⟩

/-- a mark as the program holds it -/
structure MkB where
  k : ByteArray
  s : Nat
  g : Bool
def MkB.m (x : MkB) : Mk := ⟨x.k.data.toList, x.s, x.g⟩
/-- a slice that reads as marks -/
def RdM (w : World) (v : Value) (ms : List MkB) : Prop :=
  ∃ a cap, v = .slice a ms.length cap ∧ ms.length ≤ cap ∧ cap ≤ 9223372036854775807 ∧
    ∀ j, (h : j < ms.length) → ∃ b off, a = some ⟨b, off, none⟩ ∧ w.cell? ⟨b, off + j * 3, none⟩ = some (.string ms[j].k) ∧ w.cell? ⟨b, off + j * 3 + 1, none⟩ = some (.int .u64 ms[j].s) ∧ w.cell? ⟨b, off + j * 3 + 2, none⟩ = some (.bool ms[j].g)
theorem RdM.below {w w' : World} {v : Value} {ms : List MkB} (h : RdM w v ms) (hb : Below w.heap.size w w') : RdM w' v ms := by
  obtain ⟨a, cap, h1, h2, h3, h4⟩ := h
  refine ⟨a, cap, h1, h2, h3, fun j hj => ?_⟩
  obtain ⟨b, off, e, c0, c1, c2⟩ := h4 j hj
  exact ⟨b, off, e, Below.keeps hb _ _ _ c0, Below.keeps hb _ _ _ c1, Below.keeps hb _ _ _ c2⟩
def keysLen (ms : List MkB) : Nat := (ms.map fun x => x.k.size).sum
theorem keysLen_take (ms : List MkB) (j : Nat) (h : j < ms.length) : keysLen (ms.take (j + 1)) = keysLen (ms.take j) + ms[j].k.size := by
  unfold keysLen
  rw [List.take_succ_eq_append_getElem h, List.map_append, List.sum_append]
  simp
theorem keysLen_le (ms : List MkB) (j B : Nat) (h : ∀ x ∈ ms, x.k.size ≤ B) (hj : j ≤ ms.length) : keysLen (ms.take j) ≤ j * B := by
  induction j with
  | zero => simp [keysLen]
  | succ j ih =>
    rw [keysLen_take ms j (by omega), Nat.succ_mul]
    have := ih (by omega)
    have := h _ (List.getElem_mem (l := ms) (n := j) (by omega))
    omega

end Go.Proofs.YtbcnapkbdbefhaaGreatDoor

/- Edits as bytes, plain: what is put, and what a reader that knows no end tells. No program stands in this text; no condition. | Walk of edits.Put: a file, lists, an edit. The conditions: lists of 100000 elements at most. | Walk of edits.Put: the lists, an edit. The conditions: lists of 100000 elements at most. | Walk of edits.Put. The conditions: lists of 100000 elements at most, numbers as their kinds bear. | Walks of the reader of package edits. The condition: bytes that a slice holds. | Walk of the reader of a file. The condition: a reader of bytes that a slice holds. | Walk of the lists of package edits, read. The condition: a reader of bytes that a slice holds, less than 2^40 of them. | Walk of edits.Get. The condition: 50000 bytes at most. | Walk of edits.Get. The condition: 50000 bytes at most. -/
import Derived.Test.YtimfcinkjjaigaaGreatDoorFlD
import Derived.Test.YtimfcinkjjaigaaGreatDoorFl0
import Derived.Test.YtimfcinkjjaigaaGreatDoorPlain2
import Derived.Test.YtimfcinkjjaigaaGreatDoorFl5
import Derived.Test.YtimfcinkjjaigaaGreatDoorRet
import Derived.Deep.Cut
import Derived.Test.YtimfcinkjjaigaaGreatDoorInts3
import Derived.Test.YtimfcinkjjaigaaGreatDoorApart
import Derived.Laws.ResultCell
namespace Go.Proofs.YtimfcinkjjaigaaGreatDoor
open Go.RowKit

def tx (s : ByteArray) : List UInt8 := tput s.data.toList
def fput (f : PF) : List UInt8 := vint f.n ++ (vint f.lv.toNat ++ (tx f.a ++ tx f.b))
def manyP {α : Type} (enc : α → List UInt8) (l : List α) : List UInt8 := vint l.length ++ l.flatMap enc
def ePut (x : PX) : List UInt8 := manyP fput x.add ++ (manyP vint x.rem ++ (vint x.jo ++ (vint x.nx ++ vint x.sq)))
/-- one thing is read: from (bad, l) to (bad', l') -/
def Step {α : Type} (enc : α → List UInt8) (P : α → Prop) (bad : Bool) (l : List UInt8) (x : α) (bad' : Bool) (l' : List UInt8) : Prop :=
  (bad' = false → bad = false ∧ P x ∧ l = enc x ++ l') ∧ (∀ y r, bad = false → P y → l = enc y ++ r → x = y ∧ bad' = false ∧ l' = r) ∧ l'.length ≤ l.length
theorem Step.then {α β : Type} {e1 : α → List UInt8} {e2 : β → List UInt8} {P1 : α → Prop} {P2 : β → Prop} {b b1 b2 : Bool} {l l1 l2 : List UInt8} {x : α} {y : β} (h1 : Step e1 P1 b l x b1 l1) (h2 : Step e2 P2 b1 l1 y b2 l2) :
    Step (fun p : α × β => e1 p.1 ++ e2 p.2) (fun p => P1 p.1 ∧ P2 p.2) b l (x, y) b2 l2 := by
  obtain ⟨a1, a2, a3⟩ := h1
  obtain ⟨c1, c2, c3⟩ := h2
  refine ⟨fun hb => ?_, ?_, Nat.le_trans c3 a3⟩
  · obtain ⟨d1, d2, d3⟩ := c1 hb
    obtain ⟨f1, f2, f3⟩ := a1 d1
    exact ⟨f1, ⟨f2, d2⟩, by rw [f3, d3, List.append_assoc]⟩
  · rintro ⟨u, v⟩ r hb ⟨p1, p2⟩ hl
    simp only at p1 p2 hl
    obtain ⟨rfl, d2, d3⟩ := a2 u (e2 v ++ r) hb p1 (by rw [hl, List.append_assoc])
    obtain ⟨rfl, f2, f3⟩ := c2 v r d2 p2 d3
    exact ⟨rfl, f2, f3⟩
theorem Step.map {α β : Type} {e1 : α → List UInt8} {e2 : β → List UInt8} {P1 : α → Prop} {P2 : β → Prop} {b b1 : Bool} {l l1 : List UInt8} {x : α} (h : Step e1 P1 b l x b1 l1) (z : β)
    (f : P1 x → P2 z ∧ e2 z = e1 x) (g : ∀ y, P2 y → ∃ u, P1 u ∧ e1 u = e2 y ∧ (x = u → z = y)) : Step e2 P2 b l z b1 l1 := by
  obtain ⟨a1, a2, a3⟩ := h
  refine ⟨fun hb => ?_, fun y r hb hp hl => ?_, a3⟩
  · obtain ⟨d1, d2, d3⟩ := a1 hb
    exact ⟨d1, (f d2).1, by rw [(f d2).2]; exact d3⟩
  · obtain ⟨u, hu, he, hx⟩ := g y hp
    obtain ⟨d1, d2, d3⟩ := a2 u r hb hu (by rw [he]; exact hl)
    exact ⟨hx d1, d2, d3⟩
theorem number_step (l : List UInt8) (bad : Bool) (most : Nat) (hm : most < 18446744073709551616) :
    Step vint (fun n => n ≤ most) bad l (vget l).1 (bad || !decide ((vget l).2.2 = 0 ∧ (vget l).1 ≤ most)) (l.drop (vget l).2.1) := by
  refine ⟨fun hb => ?_, fun y r hb hp hl => ?_, by rw [List.length_drop]; omega⟩
  · simp only [Bool.or_eq_false_iff, Bool.not_eq_false', decide_eq_true_eq] at hb
    obtain ⟨rfl, h0, hn⟩ := hb
    have hg := vget_got (l := l) (n := (vget l).1) (k := (vget l).2.1) (by ext <;> simp [h0])
    exact ⟨rfl, hn, by rw [hg.2.2.2.2, List.take_append_drop]⟩
  · subst hb
    subst hl
    rw [vget_put y (by omega) r]
    refine ⟨rfl, by simp; exact hp, by simp⟩
theorem text_step (l : List UInt8) (bad : Bool) : Step tx (fun s => s.size < 18446744073709551616) bad l (bs (tget l).1) (bad || !decide ((tget l).2.2 = 0)) (l.drop (tget l).2.1) := by
  refine ⟨fun hb => ?_, fun y r hb hp hl => ?_, by rw [List.length_drop]; omega⟩
  · simp only [Bool.or_eq_false_iff, Bool.not_eq_false', decide_eq_true_eq] at hb
    obtain ⟨rfl, h0⟩ := hb
    have hg := tget_got (l := l) (s := (tget l).1) (k := (tget l).2.1) (by ext <;> simp [h0])
    refine ⟨rfl, ?_, ?_⟩
    · show (bs (tget l).1).size < _
      rw [← size_data, bs_data]; exact hg.2.2.1
    · unfold tx
      rw [bs_data, hg.2.2.2.2, List.take_append_drop]
  · subst hb
    subst hl
    unfold tx at *
    rw [tget_tput _ r (by rw [size_data]; exact hp)]
    refine ⟨?_, by simp, by simp⟩
    show bs y.data.toList = y
    unfold bs
    cases y; rfl
/-- several are read, so many are behind -/
def Sev {α : Type} (enc : α → List UInt8) (P : α → Prop) (n0 : Nat) (b0 : Bool) (l0 : List UInt8) (xs : List α) (bad : Bool) (l : List UInt8) : Prop :=
  xs.length ≤ n0 ∧ (bad = false → b0 = false ∧ (∀ x ∈ xs, P x) ∧ l0 = xs.flatMap enc ++ l) ∧
  (∀ (ys : List α) (r : List UInt8), b0 = false → ys.length = n0 → (∀ y ∈ ys, P y) → l0 = ys.flatMap enc ++ r → bad = false ∧ xs = ys.take xs.length ∧ l = (ys.drop xs.length).flatMap enc ++ r) ∧
  xs.length ≤ l0.length + 1 ∧ (bad = false → xs.length + l.length ≤ l0.length) ∧ l.length ≤ l0.length
theorem Sev.start {α : Type} {enc : α → List UInt8} {P : α → Prop} {n0 : Nat} {b0 : Bool} {l0 : List UInt8} : Sev enc P n0 b0 l0 [] b0 l0 :=
  ⟨Nat.zero_le _, fun h => ⟨h, by simp, by simp⟩, fun ys r h1 _ _ h4 => ⟨h1, by simp, by simpa using h4⟩, by simp, fun _ => by simp, Nat.le_refl _⟩
theorem Sev.step {α : Type} {enc : α → List UInt8} {P : α → Prop} {n0 : Nat} {b0 : Bool} {l0 : List UInt8} {xs : List α} {l : List UInt8} (h : Sev enc P n0 b0 l0 xs false l) (hx : xs.length < n0) (he : ∀ x, 1 ≤ (enc x).length)
    {x : α} {bad' : Bool} {l' : List UInt8} (hs : Step enc P false l x bad' l') : Sev enc P n0 b0 l0 (xs ++ [x]) bad' l' := by
  obtain ⟨h1, h2, h3, h4, h5, h6⟩ := h
  obtain ⟨s1, s2, s3⟩ := hs
  have h5' := h5 rfl
  refine ⟨by simp; omega, fun hb => ?_, fun ys r q1 q2 q3 q4 => ?_, by simp; omega, fun hb => ?_, by omega⟩
  · obtain ⟨_, p1, p2⟩ := s1 hb
    obtain ⟨a1, a2, a3⟩ := h2 rfl
    refine ⟨a1, fun y hy => ?_, by rw [a3, p2]; simp⟩
    rcases List.mem_append.1 hy with hy | hy
    · exact a2 y hy
    · rw [List.mem_singleton.1 hy]; exact p1
  · obtain ⟨_, a2, a3⟩ := h3 ys r q1 q2 q3 q4
    have hk : xs.length < ys.length := by omega
    rw [List.drop_eq_getElem_cons hk, List.flatMap_cons, List.append_assoc] at a3
    obtain ⟨rfl, p2, p3⟩ := s2 _ _ rfl (q3 _ (List.getElem_mem hk)) a3
    refine ⟨p2, ?_, ?_⟩
    · rw [List.length_append, List.length_singleton, List.take_succ_eq_append_getElem hk, ← a2]
    · rw [List.length_append, List.length_singleton]; exact p3
  · obtain ⟨_, p1, p2⟩ := s1 hb
    have := he x
    rw [p2, List.length_append] at h5'
    rw [List.length_append, List.length_singleton]
    omega
theorem Sev.done {α : Type} {enc : α → List UInt8} {P : α → Prop} {n0 : Nat} {b b0 : Bool} {l l0 : List UInt8} {xs : List α} {bad : Bool} {l' : List UInt8} (h : Sev enc P n0 b0 l0 xs bad l') (hd : xs.length = n0 ∨ bad = true)
    (hn : Step vint (fun n => n ≤ 18446744073709551615) b l n0 b0 l0) : Step (manyP enc) (fun xs => xs.length ≤ 18446744073709551615 ∧ ∀ x ∈ xs, P x) b l xs bad l' := by
  obtain ⟨h1, h2, h3, h4, h5, h6⟩ := h
  obtain ⟨s1, s2, s3⟩ := hn
  refine ⟨fun hb => ?_, fun y r hb hp hl => ?_, by omega⟩
  · obtain ⟨a1, a2, a3⟩ := h2 hb
    obtain ⟨c1, c2, c3⟩ := s1 a1
    have hd' : xs.length = n0 := by
      rcases hd with h | h
      · exact h
      · rw [h] at hb; cases hb
    exact ⟨c1, ⟨by omega, a2⟩, by unfold manyP; rw [hd', c3, a3, List.append_assoc]⟩
  · unfold manyP at hl
    rw [List.append_assoc] at hl
    obtain ⟨rfl, c2, c3⟩ := s2 _ _ hb hp.1 hl
    obtain ⟨d1, d2, d3⟩ := h3 y r c2 rfl hp.2 c3
    have hd' : xs.length = y.length := by
      rcases hd with h | h
      · exact h
      · rw [h] at d1; cases d1
    rw [hd', List.take_length] at d2
    rw [hd', List.drop_length] at d3
    exact ⟨d2, d1, by simpa using d3⟩
theorem vint_ge (n : Nat) : 1 ≤ (vint n).length := vint_pos n
theorem fput_ge (f : PF) : 1 ≤ (fput f).length := by unfold fput; rw [List.length_append]; have := vint_pos f.n; omega
theorem may_len {f : PF} (h : mayF f = true) : (0 ≤ f.lv ∧ f.lv < 4) ∧ f.a.size ≤ 32 ∧ f.b.size ≤ 32 := by
  unfold mayF checkK at h
  simp only [Bool.and_eq_true, decide_eq_true_eq, size_data] at h
  omega
theorem fput_le {f : PF} (h : mayF f = true) : (fput f).length ≤ 104 := by
  obtain ⟨_, h1, h2⟩ := may_len h
  unfold fput tx tput
  simp only [List.length_append, size_data]
  have := vint_le f.n
  have := vint_le f.lv.toNat
  have := vint_le f.a.size
  have := vint_le f.b.size
  omega
theorem flatMap_le {α : Type} (enc : α → List UInt8) (k : Nat) : ∀ (l : List α), (∀ x ∈ l, (enc x).length ≤ k) → (l.flatMap enc).length ≤ l.length * k
  | [], _ => by simp
  | x :: l, h => by
    have h1 := flatMap_le enc k l fun y hy => h y (by simp [hy])
    have h2 := h x (by simp)
    rw [List.flatMap_cons, List.length_append, List.length_cons, Nat.add_mul]
    omega
theorem ePut_ge (x : PX) : 5 ≤ (ePut x).length := by
  unfold ePut manyP
  simp only [List.length_append]
  have := vint_pos x.add.length
  have := vint_pos x.rem.length
  have := vint_pos x.jo
  have := vint_pos x.nx
  have := vint_pos x.sq
  omega
end Go.Proofs.YtimfcinkjjaigaaGreatDoor
namespace Go.Proofs.YtimfcinkjjaigaaGreatDoor
open Go.RowKit

theorem put_my (w : World) (v : Value) (l : List UInt8) (n : Nat) (hv : Rd w v l) (hn : n < 18446744073709551616) (hl : l.length ≤ 137438953472) :
    Calls Tryz.prog 115 #[v, .int .u64 n] w (RetMy (l ++ vint n) w) := (put_any w v l n hv hn (by omega)).mono fun _ _ h => my_of_own h
theorem putText_my (w : World) (v : Value) (l : List UInt8) (s : ByteArray) (hv : Rd w v l) (hs : s.size ≤ 137438953472) (hl : l.length ≤ 137438953472) :
    Calls Tryz.prog 126 #[v, .string s] w (RetMy (l ++ (vint s.size ++ s.data.toList)) w) := (putText_any w v l s hv hs hl).mono fun _ _ h => my_of_own h
theorem wrapU (n : Nat) (h : n < 18446744073709551616) : IntKind.u64.wrap (n : Int) = n := by
  simp only [IntKind.wrap, IntKind.signed, IntKind.bits]
  simp
  omega
set_option maxRecDepth 100000 in
set_option maxHeartbeats 2000000 in
theorem put1_file (w : World) (v : Value) (l : List UInt8) (fn lv : Nat) (fa fb : ByteArray) (hv : Rd w v l) (hl : l.length ≤ 1000000000) (h1 : fn < 4294967296) (h2 : lv < 4) (h3 : fa.size ≤ 32) (h4 : fb.size ≤ 32) :
    Calls Tryz.prog 125 #[v, .agg #[.int .u32 fn, .int .i64 lv, .string fa, .string fb]] w (RetMy (l ++ fput ⟨fn, lv, fa, fb⟩) w) := by
  obtain ⟨W, hW⟩ : ∃ W, W = w.alloc (.cells #[.int .u32 fn, .int .i64 lv, .string fa, .string fb] 86) := ⟨_, rfl⟩
  have hB : Blk W w.heap.size #[.int .u32 fn, .int .i64 lv, .string fa, .string fb] 86 := by rw [hW]; exact Blk.new _ _ _
  have hbW : Below w.heap.size w W := by rw [hW]; exact alloc_bel _ _
  have HV : Hid (∀ w', Below w.heap.size w w' → Rd w' v l) := Lib.hid fun w' hb => hv.below hb
  have HSW : Hid (W.drew.cell? ⟨w.heap.size, 0, none⟩ = some (.int .u32 fn) ∧ W.drew.cell? ⟨w.heap.size, 1, none⟩ = some (.int .i64 lv) ∧ W.drew.cell? ⟨w.heap.size, 2, none⟩ = some (.string fa) ∧ W.drew.cell? ⟨w.heap.size, 3, none⟩ = some (.string fb) ∧ Below w.heap.size w W.drew) :=
    Lib.hid ⟨hB.cell 0, hB.cell 1, hB.cell 2, hB.cell 3, hbW.drew⟩
  have HSB : Hid (∀ w1 w2, (w1.cell? ⟨w.heap.size, 0, none⟩ = some (.int .u32 fn) ∧ w1.cell? ⟨w.heap.size, 1, none⟩ = some (.int .i64 lv) ∧ w1.cell? ⟨w.heap.size, 2, none⟩ = some (.string fa) ∧ w1.cell? ⟨w.heap.size, 3, none⟩ = some (.string fb) ∧ Below w.heap.size w w1) → Below w1.heap.size w1 w2 →
      (w2.cell? ⟨w.heap.size, 0, none⟩ = some (.int .u32 fn) ∧ w2.cell? ⟨w.heap.size, 1, none⟩ = some (.int .i64 lv) ∧ w2.cell? ⟨w.heap.size, 2, none⟩ = some (.string fa) ∧ w2.cell? ⟨w.heap.size, 3, none⟩ = some (.string fb) ∧ Below w.heap.size w w2)) :=
    Lib.hid fun w1 w2 ⟨p0, p1, p2, p3, p4⟩ hb => ⟨Below.keeps hb _ _ _ p0, Below.keeps hb _ _ _ p1, Below.keeps hb _ _ _ p2, Below.keeps hb _ _ _ p3, p4.trans (hb.mono p4.size)⟩
  have hw1 : IntKind.u64.wrap (fn : Int) = fn := wrapU fn (by omega)
  have hw2 : IntKind.u64.wrap (lv : Int) = lv := wrapU lv (by omega)
  have q1 := vint_le fn
  have q2 := vint_le lv
  have q3 := vint_le fa.size
  clear hB hbW hv
  go_enter Tryz.func125, Tryz.ntmps125
  go_wp2_with fail
  rw [← hW]
  clear hW
  refine wp_region_held_drew (S := fun w' => w'.cell? ⟨w.heap.size, 0, none⟩ = some (.int .u32 fn) ∧ w'.cell? ⟨w.heap.size, 1, none⟩ = some (.int .i64 lv) ∧ w'.cell? ⟨w.heap.size, 2, none⟩ = some (.string fa) ∧ w'.cell? ⟨w.heap.size, 3, none⟩ = some (.string fb) ∧ Below w.heap.size w w') (by kernel_rfl) (HSW.out) (fun hHeld => ?_)
  refine wpAnyH_take (i := 0) (v := ?vq1) (by simp only [List.getElem?_toArray]; rfl) (by kernel_rfl) (by kernel_rfl) (by kernel_rfl) (by exact fun _ _ _ h => h) (Or.inl ⟨by rfl, ?yq1⟩) (by assumption) ?rq1
  case yq1 => (intro w hSw; (try dsimp only at hSw); go_simp; try with_reducible rfl)
  try simp only [Act.put, List.setIfInBounds_toArray, List.set_cons_zero, List.set_cons_succ]
  refine wpAnyH_take (i := 1) (v := ?vq2) (by simp only [List.getElem?_toArray]; rfl) (by kernel_rfl) (by kernel_rfl) (by kernel_rfl) (by exact fun _ _ _ h => h) (Or.inl ⟨by rfl, ?yq2⟩) (by assumption) ?rq2
  case yq2 => (intro w hSw; (try dsimp only at hSw); go_simp; try with_reducible rfl)
  try simp only [Act.put, List.setIfInBounds_toArray, List.set_cons_zero, List.set_cons_succ]
  refine wpAnyH_take (i := 2) (v := ?vq3) (by simp only [List.getElem?_toArray]; rfl) (by kernel_rfl) (by kernel_rfl) (by kernel_rfl) (by exact fun _ _ _ h => h) (Or.inl ⟨by rfl, ?yq3⟩) (by assumption) ?rq3
  case yq3 => (intro w hSw; (try dsimp only at hSw); go_simp; try with_reducible rfl)
  try simp only [Act.put, List.setIfInBounds_toArray, List.set_cons_zero, List.set_cons_succ]
  refine wpAnyH_take (i := 3) (v := ?vq4) (by simp only [List.getElem?_toArray]; rfl) (by kernel_rfl) (by kernel_rfl) (by kernel_rfl) (by exact fun _ _ _ h => h) (Or.inl ⟨by rfl, ?yq4⟩) (by assumption) ?rq4
  case yq4 => (intro w hSw; (try dsimp only at hSw); go_simp; try with_reducible rfl)
  try simp only [Act.put, List.setIfInBounds_toArray, List.set_cons_zero, List.set_cons_succ]
  refine wpAnyH_take (i := 5) (v := ?vq5) (by simp only [List.getElem?_toArray]; rfl) (by kernel_rfl) (by kernel_rfl) (by kernel_rfl) (by exact fun _ _ _ h => h) (Or.inl ⟨by rfl, ?yq5⟩) (by assumption) ?rq5
  case yq5 => (intro w hSw; (try dsimp only at hSw); go_simp; try with_reducible rfl)
  try simp only [Act.put, List.setIfInBounds_toArray, List.set_cons_zero, List.set_cons_succ]
  refine wpAnyH_take (i := 6) (v := ?vq6) (by simp only [List.getElem?_toArray]; rfl) (by kernel_rfl) (by kernel_rfl) (by kernel_rfl) (by exact fun _ _ _ h => h) (Or.inl ⟨by rfl, ?yq6⟩) (by assumption) ?rq6
  case yq6 => (intro w hSw; (try dsimp only at hSw); go_simp; try with_reducible rfl)
  try simp only [Act.put, List.setIfInBounds_toArray, List.set_cons_zero, List.set_cons_succ]
  refine wpAnyH_take (i := 7) (v := ?vq7) (by simp only [List.getElem?_toArray]; rfl) (by kernel_rfl) (by kernel_rfl) (by kernel_rfl) (by exact fun _ _ _ h => h) (Or.inl ⟨by rfl, ?yq7⟩) (by assumption) ?rq7
  case yq7 => (intro w hSw; (try dsimp only at hSw); go_simp; try with_reducible rfl)
  try simp only [Act.put, List.setIfInBounds_toArray, List.set_cons_zero, List.set_cons_succ]
  refine wpAnyH_ready (rs := [4]) (by kernel_rfl) (by simp) ?_
  refine AllReadyH.cons (by simp only [List.getElem?_toArray]; rfl) (fun K hK => ?_) AllReadyH.nil
  go_simp
  refine (put_my _ v l fn (HV.out _ hHeld.2.2.2.2) (by omega) (by omega)).mono ?_
  rintro e1 w1 ⟨a1, n1, k1, rfl, HN1, HQ1, b1⟩
  refine hK.out _ _ (HSB.out _ _ hHeld b1) (fun hHeld => ?_)
  clear hK K
  try simp only [Act.put, List.setIfInBounds_toArray, List.set_cons_zero, List.set_cons_succ]
  refine wpAnyH_ready (rs := [8]) (by kernel_rfl) (by simp) ?_
  refine AllReadyH.cons (by simp only [List.getElem?_toArray]; rfl) (fun K hK => ?_) AllReadyH.nil
  go_simp
  refine (put_my _ _ (l ++ vint fn) lv (rd_of_own HQ1.out).2 (by omega) (by rw [List.length_append]; omega)).mono ?_
  rintro e2 w2 ⟨a2, n2, k2, rfl, HN2, HQ2, b2⟩
  refine hK.out _ _ (HSB.out _ _ hHeld b2) (fun hHeld => ?_)
  clear hK K
  try simp only [Act.put, List.setIfInBounds_toArray, List.set_cons_zero, List.set_cons_succ]
  refine wpAnyH_take (i := 9) (v := ?vq8) (by simp only [List.getElem?_toArray]; rfl) (by kernel_rfl) (by kernel_rfl) (by kernel_rfl) (by exact fun _ _ _ h => h) (Or.inl ⟨by rfl, ?yq8⟩) (by assumption) ?rq8
  case yq8 => (intro w hSw; (try dsimp only at hSw); go_simp; try with_reducible rfl)
  try simp only [Act.put, List.setIfInBounds_toArray, List.set_cons_zero]
  refine wpAnyH_done (by kernel_rfl) ?_ _
  have HQ2' := Lib.hid (own_below HQ2.out (Below.drew (Below.refl w2.heap.size w2)))
  have HH := Lib.hid (HSB.out _ _ hHeld (Below.drew (Below.refl w2.heap.size w2)))
  clear hHeld HQ2
  go_upto_region 2 with (fail)
  refine wp_region_held_drew (S := fun w' => w'.cell? ⟨w.heap.size, 0, none⟩ = some (.int .u32 fn) ∧ w'.cell? ⟨w.heap.size, 1, none⟩ = some (.int .i64 lv) ∧ w'.cell? ⟨w.heap.size, 2, none⟩ = some (.string fa) ∧ w'.cell? ⟨w.heap.size, 3, none⟩ = some (.string fb) ∧ Below w.heap.size w w') (by kernel_rfl) (HH.out) (fun hHeld => ?_)
  refine wpAnyH_take (i := 0) (v := ?vq9) (by simp only [List.getElem?_toArray]; rfl) (by kernel_rfl) (by kernel_rfl) (by kernel_rfl) (by exact fun _ _ _ h => h) (Or.inl ⟨by rfl, ?yq9⟩) (by assumption) ?rq9
  case yq9 => (intro w hSw; (try dsimp only at hSw); go_simp; try with_reducible rfl)
  try simp only [Act.put, List.setIfInBounds_toArray, List.set_cons_zero, List.set_cons_succ]
  refine wpAnyH_take (i := 1) (v := ?vq10) (by simp only [List.getElem?_toArray]; rfl) (by kernel_rfl) (by kernel_rfl) (by kernel_rfl) (by exact fun _ _ _ h => h) (Or.inl ⟨by rfl, ?yq10⟩) (by assumption) ?rq10
  case yq10 => (intro w hSw; (try dsimp only at hSw); go_simp; try with_reducible rfl)
  try simp only [Act.put, List.setIfInBounds_toArray, List.set_cons_zero, List.set_cons_succ]
  refine wpAnyH_take (i := 2) (v := ?vq11) (by simp only [List.getElem?_toArray]; rfl) (by kernel_rfl) (by kernel_rfl) (by kernel_rfl) (by exact fun _ _ _ h => h) (Or.inl ⟨by rfl, ?yq11⟩) (by assumption) ?rq11
  case yq11 => (intro w hSw; (try dsimp only at hSw); go_simp; try with_reducible rfl)
  try simp only [Act.put, List.setIfInBounds_toArray, List.set_cons_zero, List.set_cons_succ]
  refine wpAnyH_take (i := 4) (v := ?vq12) (by simp only [List.getElem?_toArray]; rfl) (by kernel_rfl) (by kernel_rfl) (by kernel_rfl) (by exact fun _ _ _ h => h) (Or.inl ⟨by rfl, ?yq12⟩) (by assumption) ?rq12
  case yq12 => (intro w hSw; (try dsimp only at hSw); go_simp; try with_reducible rfl)
  try simp only [Act.put, List.setIfInBounds_toArray, List.set_cons_zero, List.set_cons_succ]
  refine wpAnyH_take (i := 5) (v := ?vq13) (by simp only [List.getElem?_toArray]; rfl) (by kernel_rfl) (by kernel_rfl) (by kernel_rfl) (by exact fun _ _ _ h => h) (Or.inl ⟨by rfl, ?yq13⟩) (by assumption) ?rq13
  case yq13 => (intro w hSw; (try dsimp only at hSw); go_simp; try with_reducible rfl)
  try simp only [Act.put, List.setIfInBounds_toArray, List.set_cons_zero, List.set_cons_succ]
  refine wpAnyH_ready (rs := [3]) (by kernel_rfl) (by simp) ?_
  refine AllReadyH.cons (by simp only [List.getElem?_toArray]; rfl) (fun K hK => ?_) AllReadyH.nil
  go_simp
  refine (putText_my _ _ (l ++ vint fn ++ vint lv) fa (rd_of_own HQ2'.out).2 (by omega) (by rw [List.length_append, List.length_append]; omega)).mono ?_
  rintro e3 w3 ⟨a3, n3, k3, rfl, HN3, HQ3, b3⟩
  refine hK.out _ _ (HSB.out _ _ hHeld b3) (fun hHeld => ?_)
  clear hK K
  try simp only [Act.put, List.setIfInBounds_toArray, List.set_cons_zero, List.set_cons_succ]
  refine wpAnyH_ready (rs := [6]) (by kernel_rfl) (by simp) ?_
  refine AllReadyH.cons (by simp only [List.getElem?_toArray]; rfl) (fun K hK => ?_) AllReadyH.nil
  go_simp
  have hz3 := hHeld.2.2.2.2.size
  refine (putText_my _ _ (l ++ vint fn ++ vint lv ++ (vint fa.size ++ fa.data.toList)) fb (rd_of_own HQ3.out).2 (by omega) (by simp only [List.length_append, size_data]; omega)).mono ?_
  rintro e4 w4 ⟨a4, n4, k4, rfl, HN4, HQ4, b4⟩
  refine hK.out _ _ (HSB.out _ _ hHeld b4) (fun hHeld => ?_)
  clear hK K
  try simp only [Act.put, List.setIfInBounds_toArray, List.set_cons_zero, List.set_cons_succ]
  refine wpAnyH_take (i := 7) (v := ?vq14) (by simp only [List.getElem?_toArray]; rfl) (by kernel_rfl) (by kernel_rfl) (by kernel_rfl) (by exact fun _ _ _ h => h) (Or.inl ⟨by rfl, ?yq14⟩) (by assumption) ?rq14
  case yq14 => (intro w hSw; (try dsimp only at hSw); go_simp; try with_reducible rfl)
  try simp only [Act.put, List.setIfInBounds_toArray, List.set_cons_zero, List.set_cons_succ]
  refine wpAnyH_done (by kernel_rfl) ?_ _
  go_wp2
  go_ret
  have e : l ++ fput ⟨fn, lv, fa, fb⟩ = l ++ vint fn ++ vint lv ++ (vint fa.size ++ fa.data.toList) ++ (vint fb.size ++ fb.data.toList) := by simp [fput, tx, tput]
  rw [← e] at HN4 HQ4
  exact ⟨a4, n4, k4, rfl, HN4, own_mono HQ4.out hz3, hHeld.2.2.2.2⟩
set_option maxRecDepth 100000 in
theorem put2_any (w : World) (v : Value) (l : List UInt8) (n : Nat) (hv : Rd w v l) (hl : l.length ≤ 1000000000) (h1 : n < 4294967296) :
    Calls Tryz.prog 128 #[v, .int .u32 n] w (RetMy (l ++ vint n) w) := by
  have hw1 : IntKind.u64.wrap (n : Int) = n := wrapU n (by omega)
  have HP := Lib.hid (put_my w v l n hv (by omega) (by omega))
  clear hv
  go_enter Tryz.func128, Tryz.ntmps128
  go_wp2_with fail
  refine HP.out.mono ?_
  rintro e1 w1 ⟨a1, n1, k1, rfl, HN1, HQ1, b1⟩
  go_wp2
  go_ret
  exact ⟨a1, n1, k1, rfl, HN1, HQ1, b1⟩
end Go.Proofs.YtimfcinkjjaigaaGreatDoor
namespace Go.Proofs.YtimfcinkjjaigaaGreatDoor
open Go.RowKit

theorem flatTake {α : Type} (enc : α → List UInt8) (l : List α) (k : Nat) (hk : k < l.length) : (l.take (k + 1)).flatMap enc = (l.take k).flatMap enc ++ enc l[k] := by
  rw [List.take_succ_eq_append_getElem hk, List.flatMap_append, List.flatMap_singleton]
set_option maxRecDepth 100000 in
set_option maxHeartbeats 2000000 in
theorem putF_any (w : World) (v vl : Value) (b : List UInt8) (l : List PF) (hv : Rd w v b) (hl : RdF w vl l) (hb : b.length ≤ 1000000) (hn : l.length ≤ 100000) (hm : l.all mayF = true) (hok : ∀ f ∈ l, f.n < 4294967296) :
    Calls Tryz.prog 124 #[v, vl, .func (.func 125) #[] #[]] w (RetMy (b ++ manyP fput l) w) := by
  obtain ⟨a0, c0, rfl, g1, g2, _⟩ := id hl
  have HL : Hid (∀ w', Below w.heap.size w w' → RdF w' (.slice a0 l.length c0) l) := Lib.hid fun w' hb => hl.below hb
  have HM := Lib.hid hm
  have HOK := Lib.hid hok
  obtain ⟨n, hnl⟩ : ∃ n, n = l.length := ⟨_, rfl⟩
  rw [← hnl] at g1 hn HL ⊢
  have HN := Lib.hid hnl
  have HP := Lib.hid (put_my w v b n hv (by omega) (by omega))
  have hw1 : IntKind.u64.wrap (n : Int) = n := wrapU n (by omega)
  have q1 := vint_le n
  clear hl hm hok hnl hv
  go_enter Tryz.func124, Tryz.ntmps124
  go_wp2_with fail
  refine HP.out.mono ?_
  rintro e1 w1 ⟨a1, n1, k1, rfl, HN1, HQ1, b1⟩
  have HB1 := Lib.hid b1
  clear b1
  go_upto_region 3 with (fail)
  go_loopw [0, 16] (fun lv i wr => ∃ (k : Nat) (a : Option Addr) (m c : Nat), k ≤ n ∧ i = .int .i64 k ∧ lv = .slice a m c ∧ Hid (m = (b ++ vint n ++ (l.take k).flatMap fput).length) ∧ Hid (Own wr w.heap.size 5 1 (.slice a m c) m (u8s (b ++ vint n ++ (l.take k).flatMap fput))) ∧ Below w.heap.size w wr)
    (fun _ i _ => n - (intOf i).toNat)
  case atStart => exact ⟨0, a1, n1, k1, Nat.zero_le _, rfl, rfl, by simpa using HN1, by simpa using HQ1, HB1.out⟩
  case round =>
    obtain ⟨k, a, m, c, hk, rfl, rfl, hm, hO, bel⟩ := hrel
    have HB := Lib.hid bel
    clear bel
    by_cases hlt : k < n
    · have hkl : k < l.length := by rw [← HN.out]; exact hlt
      obtain ⟨a', c', he, _, _, hc⟩ := HL.out wr HB.out
      simp only [Value.slice.injEq] at he
      obtain ⟨rfl, hnl, rfl⟩ := he
      clear hnl
      obtain ⟨g, off, rfl, d0, d1, d2, d3⟩ := hc k hkl
      have hmay : mayF l[k] = true := List.all_eq_true.1 HM.out _ (List.getElem_mem hkl)
      have hfo := HOK.out _ (List.getElem_mem hkl)
      obtain ⟨⟨p1, p2⟩, p3, p4⟩ := may_len hmay
      have hle : (b ++ vint n ++ (l.take k).flatMap fput).length ≤ 1000000000 := by
        have := flatMap_le fput 104 (l.take k) (fun x hx => fput_le (List.all_eq_true.1 HM.out _ (List.mem_of_mem_take hx)))
        rw [List.length_take] at this
        simp only [List.length_append]
        omega
      have hft := flatTake fput l k hkl
      obtain ⟨x, hx⟩ : ∃ x, x = l[k] := ⟨_, rfl⟩
      rw [← hx] at d0 d1 d2 d3 hfo p1 p2 p3 p4 hft
      clear hx hc hmay
      obtain ⟨xn, xl, xa, xb⟩ := x
      simp only at d0 d1 d2 d3 p1 p2 p3 p4
      obtain ⟨ln, rfl⟩ : ∃ ln : Nat, xl = ln := ⟨xl.toNat, by omega⟩
      have hxn : xn < 4294967296 := hfo
      have HF : Hid (∀ o, Calls Tryz.prog 125 #[.slice a m c, .agg #[.int .u32 xn, .int .i64 ln, .string xa, .string xb]] (wr.alloc o) (RetMy (b ++ vint n ++ (l.take k).flatMap fput ++ fput ⟨xn, ln, xa, xb⟩) (wr.alloc o))) :=
        Lib.hid fun o => put1_file (wr.alloc o) _ _ xn ln xa xb (rd_of_own (own_below hO.out (alloc_bel wr o))).2 hle hxn (by omega) p3 p4
      have HFT : Hid (b ++ vint n ++ (l.take k).flatMap fput ++ fput ⟨xn, ln, xa, xb⟩ = b ++ vint n ++ (l.take (k + 1)).flatMap fput) := Lib.hid (by rw [hft, List.append_assoc])
      clear hft hfo hle
      go_wp2_with fail
      refine (HF.out _).mono ?_
      rintro e2 w2 ⟨a2, n2, k2, rfl, HN2, HQ2, b2⟩
      have HB2 := Lib.hid ((HB.out.trans ((alloc_bel wr _).mono HB.out.size)).trans (b2.mono (Nat.le_trans HB.out.size (alloc_bel wr _).size)))
      clear b2
      rw [HFT.out] at HN2 HQ2
      go_wp2_with fail
      go_roundw
      case rel => exact ⟨k + 1, a2, n2, k2, by omega, by go_num, rfl, HN2, own_mono HQ2.out (Nat.le_trans HB.out.size (alloc_bel wr _).size), HB2.out⟩
      case measure => simp [intOf]; omega
    · have hkn : k = n := by omega
      subst hkn
      have e : l.take k = l := List.take_of_length_le (by rw [← HN.out]; exact Nat.le_refl _)
      rw [e] at hm hO
      have e2 : b ++ vint k ++ l.flatMap fput = b ++ manyP fput l := by unfold manyP; rw [← HN.out, List.append_assoc]
      rw [e2] at hm hO
      go_wp2
      go_ret
      exact ⟨a, m, c, rfl, hm, hO, HB.out⟩
set_option maxRecDepth 100000 in
set_option maxHeartbeats 2000000 in
theorem putU_any (w : World) (v vl : Value) (b : List UInt8) (l : List Nat) (hv : Rd w v b) (hl : RdU w vl l) (hb : b.length ≤ 100000000) (hn : l.length ≤ 100000) (hok : ∀ k ∈ l, k < 4294967296) :
    Calls Tryz.prog 127 #[v, vl, .func (.func 128) #[] #[]] w (RetMy (b ++ manyP vint l) w) := by
  obtain ⟨a0, c0, rfl, g1, g2, _⟩ := id hl
  have HL : Hid (∀ w', Below w.heap.size w w' → RdU w' (.slice a0 l.length c0) l) := Lib.hid fun w' hb => hl.below hb
  have HOK := Lib.hid hok
  obtain ⟨n, hnl⟩ : ∃ n, n = l.length := ⟨_, rfl⟩
  rw [← hnl] at g1 hn HL ⊢
  have HN := Lib.hid hnl
  have HP := Lib.hid (put_my w v b n hv (by omega) (by omega))
  have hw1 : IntKind.u64.wrap (n : Int) = n := wrapU n (by omega)
  have q1 := vint_le n
  clear hl hok hnl hv
  go_enter Tryz.func127, Tryz.ntmps127
  go_wp2_with fail
  refine HP.out.mono ?_
  rintro e1 w1 ⟨a1, n1, k1, rfl, HN1, HQ1, b1⟩
  have HB1 := Lib.hid b1
  clear b1
  go_upto_region 3 with (fail)
  go_loopw [0, 16] (fun lv i wr => ∃ (k : Nat) (a : Option Addr) (m c : Nat), k ≤ n ∧ i = .int .i64 k ∧ lv = .slice a m c ∧ Hid (m = (b ++ vint n ++ (l.take k).flatMap vint).length) ∧ Hid (Own wr w.heap.size 5 1 (.slice a m c) m (u8s (b ++ vint n ++ (l.take k).flatMap vint))) ∧ Below w.heap.size w wr)
    (fun _ i _ => n - (intOf i).toNat)
  case atStart => exact ⟨0, a1, n1, k1, Nat.zero_le _, rfl, rfl, by simpa using HN1, by simpa using HQ1, HB1.out⟩
  case round =>
    obtain ⟨k, a, m, c, hk, rfl, rfl, hm, hO, bel⟩ := hrel
    have HB := Lib.hid bel
    clear bel
    by_cases hlt : k < n
    · have hkl : k < l.length := by rw [← HN.out]; exact hlt
      obtain ⟨a', c', he, _, _, hc⟩ := HL.out wr HB.out
      simp only [Value.slice.injEq] at he
      obtain ⟨rfl, hnl, rfl⟩ := he
      clear hnl
      obtain ⟨g, off, rfl, d0⟩ := hc k hkl
      have hxn := HOK.out _ (List.getElem_mem hkl)
      have hle : (b ++ vint n ++ (l.take k).flatMap vint).length ≤ 1000000000 := by
        have := flatMap_le vint 10 (l.take k) (fun x _ => vint_le x)
        rw [List.length_take] at this
        simp only [List.length_append]
        omega
      have hft := flatTake vint l k hkl
      obtain ⟨x, hx⟩ : ∃ x, x = l[k] := ⟨_, rfl⟩
      rw [← hx] at d0 hxn hft
      clear hx hc
      have HF : Hid (Calls Tryz.prog 128 #[.slice a m c, .int .u32 x] wr (RetMy (b ++ vint n ++ (l.take k).flatMap vint ++ vint x) wr)) :=
        Lib.hid (put2_any wr _ _ x (rd_of_own hO.out).2 hle hxn)
      have HFT : Hid (b ++ vint n ++ (l.take k).flatMap vint ++ vint x = b ++ vint n ++ (l.take (k + 1)).flatMap vint) := Lib.hid (by rw [hft, List.append_assoc])
      clear hft hle
      go_wp2_with fail
      refine HF.out.mono ?_
      rintro e2 w2 ⟨a2, n2, k2, rfl, HN2, HQ2, b2⟩
      have HB2 := Lib.hid (HB.out.trans (b2.mono HB.out.size))
      clear b2
      rw [HFT.out] at HN2 HQ2
      go_wp2_with fail
      go_roundw
      case rel => exact ⟨k + 1, a2, n2, k2, by omega, by go_num, rfl, HN2, own_mono HQ2.out HB.out.size, HB2.out⟩
      case measure => simp [intOf]; omega
    · have hkn : k = n := by omega
      subst hkn
      have e : l.take k = l := List.take_of_length_le (by rw [← HN.out]; exact Nat.le_refl _)
      rw [e] at hm hO
      have e2 : b ++ vint k ++ l.flatMap vint = b ++ manyP vint l := by unfold manyP; rw [← HN.out, List.append_assoc]
      rw [e2] at hm hO
      go_wp2
      go_ret
      exact ⟨a, m, c, rfl, hm, hO, HB.out⟩
end Go.Proofs.YtimfcinkjjaigaaGreatDoor
namespace Go.Proofs.YtimfcinkjjaigaaGreatDoor
open Go.RowKit

def PX.fit (x : PX) : Prop := x.add.length ≤ 100000 ∧ x.rem.length ≤ 100000 ∧ (∀ f ∈ x.add, f.n < 4294967296) ∧ (∀ k ∈ x.rem, k < 4294967296) ∧ x.jo < 4294967296 ∧ x.nx < 4294967296 ∧ x.sq < 18446744073709551616
/-- what edits.Put tells -/
def RetPutX (x : PX) (w : World) (e : Ending) (w' : World) : Prop :=
  ∃ (l : List UInt8) (q : Nat) (a : Option Addr) (n c : Nat), e = .returned (.tuple #[.slice a n c, .int .i64 q]) ∧ Hid (x.add.all mayF = true ∧ q = 0 ∧ l = ePut x ∨ x.add.all mayF = false ∧ q = 1 ∧ l = []) ∧ Hid (n = l.length) ∧
    Hid (Own w' w.heap.size 5 1 (.slice a n c) n (u8s l)) ∧ Below w.heap.size w w' ∧ Hid (n = 0 → a = none)
set_option maxRecDepth 100000 in
set_option maxHeartbeats 2000000 in
theorem putX_any (w : World) (vx : Value) (x : PX) (hx : RdX w vx x) (hf : x.fit) :
    Calls Tryz.prog 34 #[vx] w (RetPutX x w) := by
  obtain ⟨va, vr, rfl, hva, hvr⟩ := hx
  obtain ⟨f1, f2, f3, f4, f5, f6, f7⟩ := hf
  obtain ⟨W, hW⟩ : ∃ W, W = w.alloc (.cells #[va, vr, .int .u32 x.jo, .int .u32 x.nx, .int .u64 x.sq] 27) := ⟨_, rfl⟩
  have HBW : Hid (Below w.heap.size w W) := Lib.hid (by rw [hW]; exact alloc_bel _ _)
  have hBlk : Blk W w.heap.size #[va, vr, .int .u32 x.jo, .int .u32 x.nx, .int .u64 x.sq] 27 := by rw [hW]; exact Blk.new _ _ _
  have HC : Hid (∀ w', Below w.heap.size w w' → Below W.heap.size W w' → w'.cell? ⟨w.heap.size, 0, none⟩ = some va ∧ w'.cell? ⟨w.heap.size, 1, none⟩ = some vr ∧ w'.cell? ⟨w.heap.size, 2, none⟩ = some (.int .u32 x.jo) ∧ w'.cell? ⟨w.heap.size, 3, none⟩ = some (.int .u32 x.nx) ∧ w'.cell? ⟨w.heap.size, 4, none⟩ = some (.int .u64 x.sq)) :=
    Lib.hid fun w' _ hb => ⟨Below.keeps hb _ _ _ (hBlk.cell 0), Below.keeps hb _ _ _ (hBlk.cell 1), Below.keeps hb _ _ _ (hBlk.cell 2), Below.keeps hb _ _ _ (hBlk.cell 3), Below.keeps hb _ _ _ (hBlk.cell 4)⟩
  have HV : Hid (∀ w', Below w.heap.size w w' → RdF w' va x.add ∧ RdU w' vr x.rem) := Lib.hid fun w' hb => ⟨hva.below hb, hvr.below hb⟩
  have HF := Lib.hid (fine_any W va x.add (HV.out W HBW.out).1)
  have HF3 := Lib.hid f3
  have HF4 := Lib.hid f4
  obtain ⟨B, hB⟩ : ∃ b, b = x.add.all mayF := ⟨_, rfl⟩
  rw [← hB] at HF
  have HBB := Lib.hid hB
  obtain ⟨c0, c1, c2, c3, c4⟩ := HC.out W HBW.out (Below.refl _ _)
  clear hB f3 f4 hva hvr hBlk c1 c2 c3 c4
  cases B with
  | false =>
    go_enter Tryz.func34, Tryz.ntmps34
    go_wp2_with fail
    rw [← hW]
    clear hW
    go_wp2_with fail
    refine HF.out.mono ?_
    rintro e w2 ⟨rfl, b2⟩
    have HB2 := Lib.hid (HBW.out.trans (b2.mono HBW.out.size))
    clear b2 c0
    go_wp2
    go_ret2
    exact ⟨[], 1, none, 0, 0, rfl, Lib.hid (.inr ⟨HBB.out.symm, rfl, rfl⟩), rfl, own_nil _ _ _ _, HB2.out, fun _ => rfl⟩
  | true =>
    have HP1 : Hid (∀ w', Below w.heap.size w w' → Calls Tryz.prog 124 #[.slice none 0 0, va, .func (.func 125) #[] #[]] w' (RetMy (manyP fput x.add) w')) := Lib.hid fun w' hb => by
      have := putF_any w' (.slice none 0 0) va [] x.add (rd_nil w') (HV.out w' hb).1 (by simp) f1 HBB.out.symm HF3.out
      rwa [List.nil_append] at this
    go_enter Tryz.func34, Tryz.ntmps34
    go_wp2_with fail
    rw [← hW]
    clear hW
    go_wp2_with fail
    refine HF.out.mono ?_
    rintro e w2 ⟨rfl, b2⟩
    have HB2 := Lib.hid (HBW.out.trans (b2.mono HBW.out.size))
    have HW2 := Lib.hid b2
    obtain ⟨c0, c1, c2, c3, c4⟩ := HC.out w2 HB2.out HW2.out
    clear b2 c1 c2 c3 c4
    go_wp2_with fail
    refine (HP1.out w2 HB2.out).mono ?_
    rintro e w3 ⟨a3, n3, k3, rfl, HN3, HQ3, b3⟩
    have HB3 := Lib.hid (HB2.out.trans (b3.mono HB2.out.size))
    have HW3 := Lib.hid (HW2.out.trans (b3.mono HW2.out.size))
    have H3L : Hid ((manyP fput x.add).length ≤ 20000000) := Lib.hid (by
      have h1 := flatMap_le fput 104 x.add (fun f hf => fput_le (List.all_eq_true.1 HBB.out.symm f hf))
      have h2 := vint_le x.add.length
      unfold manyP
      rw [List.length_append]
      omega)
    obtain ⟨c0, c1, c2, c3, c4⟩ := HC.out w3 HB3.out HW3.out
    have HP2 := Lib.hid (putU_any w3 (.slice a3 n3 k3) vr (manyP fput x.add) x.rem (rd_of_own HQ3.out).2 (HV.out w3 HB3.out).2 (by have := H3L.out; omega) f2 HF4.out)
    clear b3 c0 c2 c3 c4
    go_wp2_with fail
    refine HP2.out.mono ?_
    rintro e w4 ⟨a4, n4, k4, rfl, HN4, HQ4, b4⟩
    have HB4 := Lib.hid (HB3.out.trans (b4.mono HB3.out.size))
    have HW4 := Lib.hid (HW3.out.trans (b4.mono HW3.out.size))
    have H4L : Hid ((manyP fput x.add ++ manyP vint x.rem).length ≤ 30000000) := Lib.hid (by
      have h1 := flatMap_le vint 10 x.rem (fun f _ => vint_le f)
      have h2 := vint_le x.rem.length
      have h3 := H3L.out
      have e : (manyP vint x.rem).length ≤ 10 + x.rem.length * 10 := by unfold manyP; rw [List.length_append]; omega
      rw [List.length_append]
      omega)
    obtain ⟨c0, c1, c2, c3, c4⟩ := HC.out w4 HB4.out HW4.out
    have HQ4' := Lib.hid (own_mono HQ4.out HB3.out.size)
    clear b4 c0 c1 HQ4 HP1 HP2 HF HV HC
    obtain ⟨jo, hjo⟩ : ∃ j, j = x.jo := ⟨_, rfl⟩
    obtain ⟨nx, hnx⟩ : ∃ j, j = x.nx := ⟨_, rfl⟩
    obtain ⟨sq, hsq⟩ : ∃ j, j = x.sq := ⟨_, rfl⟩
    have HE : Hid (ePut x = manyP fput x.add ++ manyP vint x.rem ++ vint jo ++ vint nx ++ vint sq) := Lib.hid (by rw [hjo, hnx, hsq]; simp [ePut])
    rw [← hjo] at c2 f5 ⊢
    rw [← hnx] at c3 f6 ⊢
    rw [← hsq] at c4 f7 ⊢
    have hw1 : IntKind.u64.wrap (jo : Int) = jo := wrapU jo (by omega)
    have hw2 : IntKind.u64.wrap (nx : Int) = nx := wrapU nx (by omega)
    clear hjo hnx hsq
    obtain ⟨W5, hW5⟩ : ∃ W5, W5 = w4.alloc (.cells #[.int .u64 jo, .int .u64 nx, .int .u64 sq] 25) := ⟨_, rfl⟩
    have hB5 : Blk W5 w4.heap.size #[.int .u64 jo, .int .u64 nx, .int .u64 sq] 25 := by rw [hW5]; exact Blk.new _ _ _
    have HB0 : Hid (Below w.heap.size w W5) := Lib.hid (by rw [hW5]; exact HB4.out.trans ((alloc_bel w4 _).mono HB4.out.size))
    have HO0 := Lib.hid (own_below HQ4'.out (show Below w4.heap.size w4 W5 by rw [hW5]; exact alloc_bel w4 _))
    have HD : Hid (∀ w', Below W5.heap.size W5 w' → w'.cell? ⟨w4.heap.size, 0, none⟩ = some (.int .u64 jo) ∧ w'.cell? ⟨w4.heap.size, 1, none⟩ = some (.int .u64 nx) ∧ w'.cell? ⟨w4.heap.size, 2, none⟩ = some (.int .u64 sq)) :=
      Lib.hid fun w' hb => ⟨Below.keeps hb _ _ _ (hB5.cell 0), Below.keeps hb _ _ _ (hB5.cell 1), Below.keeps hb _ _ _ (hB5.cell 2)⟩
    obtain ⟨d0, d1, d2⟩ := HD.out W5 (Below.refl _ _)
    have HDB0 : Hid (Below W5.heap.size W5 W5) := Lib.hid (Below.refl _ _)
    have H0L : Hid ((manyP fput x.add ++ manyP vint x.rem).length ≤ 300000000) := Lib.hid (by have := H4L.out; omega)
    clear hB5 HQ4'
    go_upto_region 6 with (fail)
    rw [← hW5]
    clear hW5 c2 c3 c4
    refine wp_loop_rounds 4 ?_
    rw [rounds_succ]
    go_wp2_with fail
    refine (put_my _ _ _ jo (rd_of_own HO0.out).2 (by omega) (by have := H0L.out; omega)).mono ?_
    rintro e0 v0 ⟨x0, y0, z0, rfl, HN0, HQ0, b0⟩
    have HB1 := Lib.hid (HB0.out.trans (b0.mono HB0.out.size))
    have HO1 := Lib.hid (own_mono HQ0.out HB0.out.size)
    obtain ⟨d0, d1, d2⟩ := HD.out v0 (HDB0.out.trans (b0.mono HDB0.out.size))
    have HDB1 := Lib.hid (HDB0.out.trans (b0.mono HDB0.out.size))
    have H1L := Lib.hid (show (manyP fput x.add ++ manyP vint x.rem ++ vint jo).length ≤ 300000020 by rw [List.length_append]; have := vint_le jo; have := H0L.out; omega)
    clear b0 HQ0
    go_wp2_with fail
    rw [rounds_succ]
    go_wp2_with fail
    refine (put_my _ _ _ nx (rd_of_own HO1.out).2 (by omega) (by have := H1L.out; omega)).mono ?_
    rintro e1 v1 ⟨x1, y1, z1, rfl, HN1, HQ1, b1⟩
    have HB2 := Lib.hid (HB1.out.trans (b1.mono HB1.out.size))
    have HO2 := Lib.hid (own_mono HQ1.out HB1.out.size)
    obtain ⟨d0, d1, d2⟩ := HD.out v1 (HDB1.out.trans (b1.mono HDB1.out.size))
    have HDB2 := Lib.hid (HDB1.out.trans (b1.mono HDB1.out.size))
    have H2L := Lib.hid (show (manyP fput x.add ++ manyP vint x.rem ++ vint jo ++ vint nx).length ≤ 300000040 by rw [List.length_append]; have := vint_le nx; have := H1L.out; omega)
    clear b1 HQ1
    go_wp2_with fail
    rw [rounds_succ]
    go_wp2_with fail
    refine (put_my _ _ _ sq (rd_of_own HO2.out).2 (by omega) (by have := H2L.out; omega)).mono ?_
    rintro e2 v2 ⟨x2, y2, z2, rfl, HN2, HQ2, b2⟩
    have HB3 := Lib.hid (HB2.out.trans (b2.mono HB2.out.size))
    have HO3 := Lib.hid (own_mono HQ2.out HB2.out.size)
    obtain ⟨d0, d1, d2⟩ := HD.out v2 (HDB2.out.trans (b2.mono HDB2.out.size))
    have HDB3 := Lib.hid (HDB2.out.trans (b2.mono HDB2.out.size))
    have H3L := Lib.hid (show (manyP fput x.add ++ manyP vint x.rem ++ vint jo ++ vint nx ++ vint sq).length ≤ 300000060 by rw [List.length_append]; have := vint_le sq; have := H2L.out; omega)
    clear b2 HQ2
    go_wp2_with fail
    rw [rounds_succ]
    go_wp2
    go_ret2
    exact ⟨_, 0, x2, y2, z2, rfl, Lib.hid (.inl ⟨HBB.out.symm, rfl, HE.out.symm⟩), HN2, HO3.out, HB3.out, Lib.hid (fun h => by have h2 := ePut_ge x; rw [HE.out] at h2; have := HN2.out; omega)⟩
end Go.Proofs.YtimfcinkjjaigaaGreatDoor
namespace Go.Proofs.YtimfcinkjjaigaaGreatDoor
open Go.RowKit

theorem vget_len (l : List UInt8) : (vget l).2.1 ≤ l.length := by
  by_cases h : (vget l).2.2 = 0
  · exact (vget_got (l := l) (n := (vget l).1) (k := (vget l).2.1) (by ext <;> simp [h])).2.2.1
  · rcases vget_bad h with ⟨e, _⟩ | ⟨e, _⟩ <;> rw [e] <;> exact Nat.zero_le _
theorem vget_lt (l : List UInt8) : (vget l).1 < 18446744073709551616 := by
  by_cases h : (vget l).2.2 = 0
  · exact (vget_got (l := l) (n := (vget l).1) (k := (vget l).2.1) (by ext <;> simp [h])).1
  · rcases vget_bad h with ⟨e, _⟩ | ⟨e, _⟩ <;> rw [e] <;> decide
theorem tget_len (l : List UInt8) : (tget l).2.1 ≤ l.length := by
  by_cases h : (tget l).2.2 = 0
  · exact (tget_got (l := l) (s := (tget l).1) (k := (tget l).2.1) (by ext <;> simp [h])).2.1
  · rcases tget_err h with e | e <;> rw [e] <;> exact Nat.zero_le _

/-- a reader of package edits in block g -/
def RS (w0 w : World) (g : Nat) (bad : Bool) (l : List UInt8) : Prop :=
  ∃ a n c, Blk w g #[.slice a n c, .bool bad] 124 ∧ Rd w0 (.slice a n c) l ∧ Below w0.heap.size w0 w ∧ w0.heap.size ≤ g
theorem RS.other {w0 w w' : World} {g : Nat} {bad : Bool} {l : List UInt8} (h : RS w0 w g bad l) (hb : Below w.heap.size w w') : RS w0 w' g bad l := by
  obtain ⟨a, n, c, h1, h2, h3, h4⟩ := h
  exact ⟨a, n, c, h1.below hb, h2, h3.trans (hb.mono h3.size), h4⟩
set_option maxRecDepth 100000 in
set_option maxHeartbeats 1000000 in
theorem tookE_any (w0 w : World) (g : Nat) (bad : Bool) (l : List UInt8) (n : Nat) (ok : Bool) (h : RS w0 w g bad l) (hn : n ≤ l.length) :
    Calls Tryz.prog 198 #[.pointer (some ⟨g, 0, none⟩), .int .i64 n, .bool ok] w fun en w' => en = .returned (.tuple #[]) ∧ Hid (RS w0 w' g (bad || !ok) (l.drop n)) ∧ Hid (Only w w' g) := by
  obtain ⟨va, vn, vc, hB, hv, hbel, hg⟩ := h
  have HB := Lib.hid hB
  have HBE := Lib.hid hbel
  have HGG := Lib.hid hg
  obtain ⟨a, c, hcut, hrd⟩ := cut_from hv n hn
  have HRD := Lib.hid hrd
  have s1 := fun w' => hcut w' .i64
  obtain ⟨va', vn', vc', hve, hvn⟩ := rd_len hv
  obtain ⟨zn, hz⟩ : ∃ z, z = l.length - n := ⟨_, rfl⟩
  rw [← hz] at s1 HRD
  have c0 := Blk.cellv hB 0 _ rfl
  have c1 := Blk.cellv hB 1 _ rfl
  have f0 := Blk.free hB 0
  have f1 := Blk.free hB 1
  clear hcut hrd hz hv hn hvn hve hB hbel hg
  have HFIN : Hid (∀ b : Bool, RS w0 ((w.setCell ⟨g, 1, none⟩ (.bool b)).setCell ⟨g, 0, none⟩ (.slice a zn c)) g b (l.drop n) ∧ Only w ((w.setCell ⟨g, 1, none⟩ (.bool b)).setCell ⟨g, 0, none⟩ (.slice a zn c)) g) := Lib.hid fun b => by
    have h2 := Blk.set (Blk.set HB.out 1 (.bool b)) 0 (.slice a zn c)
    have hO := (Only.set w g 1 (.bool b)).trans (Only.set _ g 0 (.slice a zn c))
    exact ⟨⟨a, zn, c, h2, HRD.out, Only.below HBE.out hO HGG.out HBE.out.size, HGG.out⟩, hO⟩
  cases bad with
  | true =>
    go_enter Tryz.func198, Tryz.ntmps198
    go_wp2
    go_end0
    exact ⟨rfl, (HFIN.out true).1, (HFIN.out true).2⟩
  | false =>
    cases ok with
    | true =>
      go_enter Tryz.func198, Tryz.ntmps198
      go_wp2
      go_end0
      exact ⟨rfl, (HFIN.out false).1, (HFIN.out false).2⟩
    | false =>
      go_enter Tryz.func198, Tryz.ntmps198
      go_wp2
      go_end0
      exact ⟨rfl, (HFIN.out true).1, (HFIN.out true).2⟩

set_option maxRecDepth 100000 in
set_option maxHeartbeats 1000000 in
theorem numberE_any (w0 w : World) (g : Nat) (bad : Bool) (l : List UInt8) (most : Nat) (h : RS w0 w g bad l) (hm : most < 18446744073709551616) :
    Calls Tryz.prog 133 #[.pointer (some ⟨g, 0, none⟩), .int .u64 most] w fun en w' => ∃ (n : Nat) (bad' : Bool) (l' : List UInt8), en = .returned (.int .u64 n) ∧ n < 18446744073709551616 ∧ Hid (RS w0 w' g bad' l') ∧ Hid (Only w w' g) ∧ Hid (Step vint (fun n => n ≤ most) bad l n bad' l') := by
  have HR := Lib.hid h
  obtain ⟨va, vn, vc, hB, hv, hbel, hg⟩ := h
  have HG := Lib.hid (intsGet_any _ l w (hv.below hbel))
  have HST := Lib.hid (number_step l bad most hm)
  have hlt := vget_lt l
  have HK := Lib.hid (vget_len l)
  have c0 := Blk.cellv hB 0 _ rfl
  obtain ⟨N, K, E, hgt⟩ : ∃ N K E, vget l = (N, K, E) := ⟨_, _, _, rfl⟩
  have HN := Lib.hid hgt
  have HG2 : Hid (Calls Tryz.prog 197 #[.slice va vn vc] w fun e' w' => e' = .returned (.tuple #[.int .u64 N, .int .i64 K, .int .i64 E]) ∧ w = w') := by
    refine HG.out.mono ?_
    rintro e' w' ⟨rfl, rfl⟩
    rw [HN.out]; exact ⟨rfl, rfl⟩
  rw [hgt] at HST HK hlt
  dsimp only at hlt HST
  clear hB hv hbel hg hgt HG
  by_cases hE : E = 0
  · subst hE
    by_cases hle : N ≤ most
    · have hd : decide ((N : Int) ≤ most) = true := by simp; omega
      have HT := Lib.hid (tookE_any w0 w g bad l K true HR.out HK.out)
      have e1 : (bad || !decide ((0 : Nat) = 0 ∧ N ≤ most)) = (bad || !true) := by simp [hle]
      rw [e1] at HST
      clear e1
      go_enter Tryz.func133, Tryz.ntmps133
      go_wp2_with fail
      refine HG2.out.mono ?_
      rintro e' w' ⟨rfl, rfl⟩
      go_wp2_with fail
      refine HT.out.mono ?_
      rintro e' w' ⟨rfl, h1, h2⟩
      go_wp2
      go_ret
      exact ⟨N, _, _, rfl, hlt, h1, h2, HST⟩
    · have hd : decide ((N : Int) ≤ most) = false := by simp; omega
      have HT := Lib.hid (tookE_any w0 w g bad l K false HR.out HK.out)
      have e1 : (bad || !decide ((0 : Nat) = 0 ∧ N ≤ most)) = (bad || !false) := by simp [hle]
      rw [e1] at HST
      clear e1
      go_enter Tryz.func133, Tryz.ntmps133
      go_wp2_with fail
      refine HG2.out.mono ?_
      rintro e' w' ⟨rfl, rfl⟩
      go_wp2_with fail
      refine HT.out.mono ?_
      rintro e' w' ⟨rfl, h1, h2⟩
      go_wp2
      go_ret
      exact ⟨N, _, _, rfl, hlt, h1, h2, HST⟩
  · have hd : ((E : Int) == 0) = false := by simp; omega
    have HT := Lib.hid (tookE_any w0 w g bad l K false HR.out HK.out)
    have e1 : (bad || !decide (E = 0 ∧ N ≤ most)) = (bad || !false) := by simp [hE]
    rw [e1] at HST
    clear e1 hE
    go_enter Tryz.func133, Tryz.ntmps133
    go_wp2_with fail
    refine HG2.out.mono ?_
    rintro e' w' ⟨rfl, rfl⟩
    go_wp2_with fail
    refine HT.out.mono ?_
    rintro e' w' ⟨rfl, h1, h2⟩
    go_wp2
    go_ret
    exact ⟨N, _, _, rfl, hlt, h1, h2, HST⟩

set_option maxRecDepth 100000 in
theorem numE_any (w0 w : World) (g : Nat) (bad : Bool) (l : List UInt8) (h : RS w0 w g bad l) :
    Calls Tryz.prog 132 #[.pointer (some ⟨g, 0, none⟩)] w fun en w' => ∃ (n : Nat) (bad' : Bool) (l' : List UInt8), en = .returned (.int .u32 n) ∧ n < 4294967296 ∧ Hid (RS w0 w' g bad' l') ∧ Hid (Only w w' g) ∧ Hid (Step vint (fun n => n ≤ 4294967295) bad l n bad' l') := by
  have HT := Lib.hid (numberE_any w0 w g bad l 4294967295 h (by omega))
  clear h
  go_enter Tryz.func132, Tryz.ntmps132
  go_wp2_with fail
  refine HT.out.mono ?_
  rintro e' w' ⟨N, bad', l', rfl, hN, h1, h2, h3⟩
  obtain ⟨m, hm⟩ : ∃ m, m = N % 4294967296 := ⟨_, rfl⟩
  have hw1 : (N : Int) % 4294967296 = m := by omega
  go_wp2
  go_ret
  refine ⟨m, bad', l', congrArg (fun z : Int => Ending.returned (.int .u32 z)) hw1, by omega, h1, h2, ?_⟩
  refine h3.out.map m (fun hp => ?_) (fun y hy => ⟨y, hy, rfl, fun e => ?_⟩)
  · have hp' : N ≤ 4294967295 := hp
    have : m = N := by omega
    rw [this]; exact ⟨hp, rfl⟩
  · have hy' : y ≤ 4294967295 := hy
    omega

set_option maxRecDepth 100000 in
set_option maxHeartbeats 1000000 in
theorem textE_any (w0 w : World) (g : Nat) (bad : Bool) (l : List UInt8) (h : RS w0 w g bad l) :
    Calls Tryz.prog 196 #[.pointer (some ⟨g, 0, none⟩)] w fun en w' => ∃ (s : ByteArray) (bad' : Bool) (l' : List UInt8), en = .returned (.string s) ∧ Hid (RS w0 w' g bad' l') ∧ Hid (Only w w' g) ∧ Hid (Step tx (fun s => s.size < 18446744073709551616) bad l s bad' l') := by
  have HR := Lib.hid h
  obtain ⟨va, vn, vc, hB, hv, hbel, hg⟩ := h
  have HG := Lib.hid (intsGetText_any _ l w (hv.below hbel))
  have HST := Lib.hid (text_step l bad)
  have HK := Lib.hid (tget_len l)
  have c0 := Blk.cellv hB 0 _ rfl
  obtain ⟨N, K, E, hgt⟩ : ∃ N K E, tget l = (N, K, E) := ⟨_, _, _, rfl⟩
  have HN := Lib.hid hgt
  obtain ⟨S, hS⟩ : ∃ S, S = bs N := ⟨_, rfl⟩
  have HG2 : Hid (Calls Tryz.prog 223 #[.slice va vn vc] w fun e' w' => e' = .returned (.tuple #[.string S, .int .i64 K, .int .i64 E]) ∧ w = w') := by
    refine HG.out.mono ?_
    rintro e' w' ⟨h1, h2⟩
    rw [h1, HN.out, hS]; exact ⟨rfl, h2⟩
  rw [hgt] at HST HK
  dsimp only at HST
  rw [← hS] at HST
  clear hB hv hbel hg hgt HG hS
  by_cases hE : E = 0
  · subst hE
    have HT := Lib.hid (tookE_any w0 w g bad l K true HR.out HK.out)
    have e1 : (bad || !decide ((0 : Nat) = 0)) = (bad || !true) := by simp
    rw [e1] at HST
    clear e1
    go_enter Tryz.func196, Tryz.ntmps196
    go_wp2_with fail
    refine HG2.out.mono ?_
    rintro e' w' ⟨rfl, rfl⟩
    go_wp2_with fail
    refine HT.out.mono ?_
    rintro e' w' ⟨rfl, h1, h2⟩
    go_wp2
    go_ret
    exact ⟨S, _, _, rfl, h1, h2, HST⟩
  · have hd : ((E : Int) == 0) = false := by simp; omega
    have HT := Lib.hid (tookE_any w0 w g bad l K false HR.out HK.out)
    have e1 : (bad || !decide (E = 0)) = (bad || !false) := by simp [hE]
    rw [e1] at HST
    clear e1 hE
    go_enter Tryz.func196, Tryz.ntmps196
    go_wp2_with fail
    refine HG2.out.mono ?_
    rintro e' w' ⟨rfl, rfl⟩
    go_wp2_with fail
    refine HT.out.mono ?_
    rintro e' w' ⟨rfl, h1, h2⟩
    go_wp2
    go_ret
    exact ⟨S, _, _, rfl, h1, h2, HST⟩
end Go.Proofs.YtimfcinkjjaigaaGreatDoor
namespace Go.Proofs.YtimfcinkjjaigaaGreatDoor
open Go.RowKit

theorem RS.set {w0 w : World} {g : Nat} {bad : Bool} {l : List UInt8} (h : RS w0 w g bad l) (p : Addr) (hp : p.block ≠ g) (hb : w0.heap.size ≤ p.block) (u : Value) : RS w0 (w.setCell p u) g bad l := by
  obtain ⟨a, n, c, h1, h2, h3, h4⟩ := h
  exact ⟨a, n, c, h1.set_other p hp u, h2, h3.setCell hb u, h4⟩
theorem RS.lt {w0 w : World} {g : Nat} {bad : Bool} {l : List UInt8} (h : RS w0 w g bad l) : g < w.heap.size ∧ w0.heap.size ≤ g ∧ w0.heap.size ≤ w.heap.size := by
  obtain ⟨a, n, c, h1, h2, h3, h4⟩ := h
  exact ⟨h1.lt, h4, h3.size⟩
theorem Only.later {w w1 w2 : World} {g F : Nat} (h : Only w w1 g) (k : Only w1 w2 F) (hF : w.heap.size ≤ F) : Only w w2 g := by
  obtain ⟨a1, a2, a3, a4, a5⟩ := h
  obtain ⟨b1, b2, b3, b4, b5⟩ := k
  exact ⟨b1.trans a1, b2.trans a2, b3.trans a3, Nat.le_trans a4 b4, fun j hj hne => (b5 j (Nat.lt_of_lt_of_le hj a4) (fun e => by simp at e; omega)).trans (a5 j hj hne)⟩
theorem Blk.same {w : World} {g : Nat} {cs : Array Value} {t : TypeId} (h : Blk w g cs t) (i : Nat) (x : Value) (hx : cs[i]? = some x) : w.setCell ⟨g, i, none⟩ x = w := by
  rw [setCell_eq_setRow w g i cs t (0, 0) x h]
  have : cs.setIfInBounds i x = cs := by
    apply Array.ext_getElem?
    intro j
    rw [Array.getElem?_setIfInBounds]
    split
    · rename_i e; subst e; rw [hx]; split
      · rfl
      · rename_i hn; rw [Array.getElem?_eq_none (by omega)] at hx; cases hx
    · rfl
  rw [this, setRow_self w g cs t (0, 0) h]
theorem wrap64_small (n : Nat) (h : n ≤ 4) : wrap64 (n : Int) = n := by unfold wrap64; omega
def PFread (f : PF) : Prop := f.n < 4294967296 ∧ (0 ≤ f.lv ∧ f.lv ≤ 4) ∧ f.a.size < 18446744073709551616 ∧ f.b.size < 18446744073709551616
set_option maxRecDepth 100000 in
theorem info_file_size : (Tryz.prog.info? 86).map (·.size) = some 4 := by kernel_rfl
set_option maxRecDepth 100000 in
set_option maxHeartbeats 2000000 in
theorem fileE_any (w0 w : World) (g : Nat) (bad : Bool) (l : List UInt8) (h : RS w0 w g bad l) :
    Calls Tryz.prog 130 #[.pointer (some ⟨g, 0, none⟩)] w fun en w' => ∃ (f : PF) (bad' : Bool) (l' : List UInt8), en = .returned (.agg #[.int .u32 f.n, .int .i64 f.lv, .string f.a, .string f.b]) ∧ f.n < 4294967296 ∧ Hid (RS w0 w' g bad' l') ∧ Hid (Only w w' g) ∧ Hid (Step fput PFread bad l f bad' l') := by
  have HR := Lib.hid h
  obtain ⟨hgl, hg0, hw0⟩ := h.lt
  clear h
  obtain ⟨WA, hWA⟩ : ∃ W, W = w.alloc (.cells #[.int .u32 0, .int .i64 0, .string ⟨#[]⟩, .string ⟨#[]⟩] 86) := ⟨_, rfl⟩
  have HFA : Hid (Blk WA w.heap.size #[.int .u32 0, .int .i64 0, .string ⟨#[]⟩, .string ⟨#[]⟩] 86) := Lib.hid (by rw [hWA]; exact Blk.new _ _ _)
  have HOA : Hid (Only w WA g) := Lib.hid (by rw [hWA]; exact Only.of_below (alloc_bel _ _))
  have HRA : Hid (RS w0 WA g bad l) := Lib.hid (by rw [hWA]; exact HR.out.other (alloc_bel _ _))
  have hFg : w.heap.size ≠ g := by omega
  have hF0 : w0.heap.size ≤ w.heap.size := by omega
  have HN1 := Lib.hid (numE_any w0 WA g bad l HRA.out)
  go_enter Tryz.func130, Tryz.ntmps130
  go_wp2_with fail
  rw [← hWA]
  clear hWA
  refine HN1.out.mono ?_
  rintro e1 w1 ⟨n1, b1, l1, rfl, hn1, R1, O1, S1⟩
  have HF1 := Lib.hid (HFA.out.only O1.out hFg)
  have HO1 := Lib.hid (HOA.out.trans O1.out)
  have HN2 := Lib.hid (numberE_any w0 w1 g b1 l1 4 R1.out (by omega))
  clear HN1 HFA HRA HOA O1
  go_wp2_with fail
  refine HN2.out.mono ?_
  rintro e2 w2 ⟨n2, b2, l2, rfl, hn2, R2, O2, S2⟩
  have HF2 := Lib.hid (HF1.out.only O2.out hFg)
  have HO2 := Lib.hid (HO1.out.trans O2.out)
  have k0 := HF2.out.cellv 0 _ rfl
  have k1 := HF2.out.cellv 1 _ rfl
  have u0 := HF2.out.free 0
  have u1 := HF2.out.free 1
  obtain ⟨lv, hlv⟩ : ∃ lv, lv = wrap64 (n2 : Int) := ⟨_, rfl⟩
  have hw : wrap64 (n2 : Int) = lv := hlv.symm
  clear HN2 HF1 HO1 O2 hlv
  go_wp2_with fail
  have HF3 := Lib.hid ((HF2.out.set 0 (.int .u32 n1)).set 1 (.int .i64 lv))
  have R3 := Lib.hid ((R2.out.set ⟨w.heap.size, 0, none⟩ hFg hF0 (.int .u32 n1)).set ⟨w.heap.size, 1, none⟩ hFg hF0 (.int .i64 lv))
  have HO3 := Lib.hid (HO2.out.later (Only.set w2 w.heap.size 0 (.int .u32 n1)) (Nat.le_refl _))
  have HO3 := Lib.hid (HO3.out.later (Only.set _ w.heap.size 1 (.int .i64 lv)) (Nat.le_refl _))
  generalize (w2.setCell ⟨w.heap.size, 0, none⟩ (.int .u32 n1)).setCell ⟨w.heap.size, 1, none⟩ (.int .i64 lv) = w3 at HF3 R3 HO3 ⊢
  have HT1 := Lib.hid (textE_any w0 w3 g b2 l2 R3.out)
  clear k0 k1 u0 u1 HF2 HO2 R2
  refine HT1.out.mono ?_
  rintro e4 w4 ⟨s4, b4, l4, rfl, R4, O4, S4⟩
  have HF4 := Lib.hid (HF3.out.only O4.out hFg)
  have HO4 := Lib.hid (HO3.out.trans O4.out)
  have HT2 := Lib.hid (textE_any w0 w4 g b4 l4 R4.out)
  clear HT1 HF3 HO3 O4
  go_wp2_with fail
  refine HT2.out.mono ?_
  rintro e5 w5 ⟨s5, b5, l5, rfl, R5, O5, S5⟩
  have HF5 := Lib.hid (HF4.out.only O5.out hFg)
  have HO5 := Lib.hid (HO4.out.trans O5.out)
  have k2 := HF5.out.cellv 2 _ rfl
  have k3 := HF5.out.cellv 3 _ rfl
  have u2 := HF5.out.free 2
  have u3 := HF5.out.free 3
  clear HT2 HF4 HO4 O5
  go_upto_region 3 with (fail)
  have HF6 := Lib.hid ((HF5.out.set 2 (.string s4)).set 3 (.string s5))
  have R6 := Lib.hid ((R5.out.set ⟨w.heap.size, 2, none⟩ hFg hF0 (.string s4)).set ⟨w.heap.size, 3, none⟩ hFg hF0 (.string s5))
  have HO6 := Lib.hid (HO5.out.later (Only.set w5 w.heap.size 2 (.string s4)) (Nat.le_refl _))
  have HO6 := Lib.hid (HO6.out.later (Only.set _ w.heap.size 3 (.string s5)) (Nat.le_refl _))
  generalize (w5.setCell ⟨w.heap.size, 2, none⟩ (.string s4)).setCell ⟨w.heap.size, 3, none⟩ (.string s5) = w6 at HF6 R6 HO6 ⊢
  clear k2 k3 u2 u3 HF5 HO5 R5
  have HF7 : Hid (Blk w6 w.heap.size #[.int .u32 n1, .int .i64 lv, .string s4, .string s5] 86) := Lib.hid HF6.out
  have k0 : w6.cell? ⟨w.heap.size, 0, none⟩ = some (.int .u32 n1) := HF7.out.cellv 0 _ rfl
  have u0 := HF7.out.free 0
  have e0 : w6.setCell ⟨w.heap.size, 0, none⟩ (.int .u32 n1) = w6 := HF7.out.same 0 _ rfl
  have k1 : w6.cell? ⟨w.heap.size, 1, none⟩ = some (.int .i64 lv) := HF7.out.cellv 1 _ rfl
  have u1 := HF7.out.free 1
  have e1 : w6.setCell ⟨w.heap.size, 1, none⟩ (.int .i64 lv) = w6 := HF7.out.same 1 _ rfl
  have k2 : w6.cell? ⟨w.heap.size, 2, none⟩ = some (.string s4) := HF7.out.cellv 2 _ rfl
  have u2 := HF7.out.free 2
  have e2 : w6.setCell ⟨w.heap.size, 2, none⟩ (.string s4) = w6 := HF7.out.same 2 _ rfl
  have k3 : w6.cell? ⟨w.heap.size, 3, none⟩ = some (.string s5) := HF7.out.cellv 3 _ rfl
  have u3 := HF7.out.free 3
  have e3 : w6.setCell ⟨w.heap.size, 3, none⟩ (.string s5) = w6 := HF7.out.same 3 _ rfl
  go_wp2
  refine bodyPost_ret (v := .agg #[.int .u32 n1, .int .i64 lv, .string s4, .string s5]) (results_cell_row (p := 2) (ty := 86) rfl _ _ w.heap.size _ _ _ _ rfl HF7.out Tryz.underlying86 rfl info_file_size) rfl ⟨⟨n1, lv, s4, s5⟩, b5, l5, rfl, hn1, R6, HO6, ?_⟩
  refine Step.map (((S1.out.then S2.out).then S4.out).then S5.out) (PF.mk n1 lv s4 s5) (fun hp => ?_) (fun y hy => ?_)
  · obtain ⟨⟨⟨p1, p2⟩, p3⟩, p4⟩ := hp
    simp only at p1 p2 p3 p4
    have hl2 : lv = n2 := by rw [← hw]; exact wrap64_small n2 (by omega)
    refine ⟨⟨hn1, show 0 ≤ lv ∧ lv ≤ 4 by omega, p3, p4⟩, ?_⟩
    show vint n1 ++ (vint lv.toNat ++ (tx s4 ++ tx s5)) = vint n1 ++ vint n2 ++ tx s4 ++ tx s5
    rw [hl2, Int.toNat_natCast]
    simp
  · obtain ⟨yn, yl, ya, yb⟩ := y
    obtain ⟨p1, p2, p3, p4⟩ := hy
    simp only at p1 p2 p3 p4
    refine ⟨(((yn, yl.toNat), ya), yb), ?_, ?_, fun e => ?_⟩
    · show ((yn ≤ 4294967295 ∧ yl.toNat ≤ 4) ∧ ya.size < 18446744073709551616) ∧ yb.size < 18446744073709551616
      exact ⟨⟨⟨by omega, by omega⟩, p3⟩, p4⟩
    · show vint yn ++ vint yl.toNat ++ tx ya ++ tx yb = vint yn ++ (vint yl.toNat ++ (tx ya ++ tx yb))
      simp
    simp only [Prod.mk.injEq] at e
    obtain ⟨⟨⟨rfl, q2⟩, rfl⟩, rfl⟩ := e
    have hl2 : lv = n2 := by rw [← hw]; exact wrap64_small n2 (by omega)
    have : lv = yl := by omega
    rw [this]
end Go.Proofs.YtimfcinkjjaigaaGreatDoor
namespace Go.Proofs.YtimfcinkjjaigaaGreatDoor
open Go.RowKit

theorem own_other {w w' : World} {base c : Nat} {e : TypeId} {sz n : Nat} {v : Value} {xs : List Value} (h : Own w base e sz v n xs) (hO : Only w w' c) (hc : c < base) : Own w' base e sz v n xs := by
  rcases h with h | ⟨h1, g, cap, cur, fr, rfl, h3, h4, h5⟩
  · exact .inl h
  · refine .inr ⟨h1, g, cap, cur, fr, rfl, h3, ?_, h5⟩
    rw [hO.block g (Array.getElem?_eq_some_iff.1 h4).1 (by simp; omega)]; exact h4
theorem RS.under {w0 w w' : World} {g b : Nat} {bad : Bool} {l : List UInt8} (h : RS w0 w g bad l) (hb : Below b w w') (hg : g < b) : RS w0 w' g bad l := by
  obtain ⟨a, n, c, h1, h2, h3, h4⟩ := h
  have : Blk w' g #[.slice a n c, .bool bad] 124 := by
    unfold Blk at *
    rw [hb.block g hg]; exact h1
  exact ⟨a, n, c, this, h2, h3.trans (hb.mono (by omega)), h4⟩
theorem Only.under {w w1 w2 : World} {g : Nat} (h : Only w w1 g) (hb : Below w.heap.size w1 w2) : Only w w2 g := by
  obtain ⟨a1, a2, a3, a4, a5⟩ := h
  obtain ⟨b1, b2, b3, b4, b5⟩ := hb
  exact ⟨b1.trans a1, b2.trans a2, b3.trans a3, Nat.le_trans a4 b4, fun j hj hne => (b5 j hj).trans (a5 j hj hne)⟩
theorem reads_file (w : World) (f : PF) (ty : TypeId) : Reads (w.alloc (.cells #[.int .u32 f.n, .int .i64 f.lv, .string f.a, .string f.b] ty)) 4 (.slice (some ⟨w.heap.size, 0, none⟩) 1 1) 1 (fcells [f]) :=
  reads_new w #[.int .u32 f.n, .int .i64 f.lv, .string f.a, .string f.b] ty 1 4 rfl (by decide)
set_option maxRecDepth 100000 in
set_option maxHeartbeats 2000000 in
theorem sevF_any (w0 w : World) (g : Nat) (bad : Bool) (l : List UInt8) (h : RS w0 w g bad l) (hl : l.length ≤ 1000000) :
    Calls Tryz.prog 129 #[.pointer (some ⟨g, 0, none⟩), .func (.func 130) #[.pointer (some ⟨g, 0, none⟩)] #[]] w fun en w' => ∃ (xs : List PF) (a : Option Addr) (k c : Nat) (bad' : Bool) (l' : List UInt8), en = .returned (.slice a k c) ∧ Hid (k = xs.length) ∧ Hid (k ≤ l.length + 1) ∧ Hid (Own w' w.heap.size 86 4 (.slice a k c) k (fcells xs)) ∧
      Hid (∀ f ∈ xs, f.n < 4294967296) ∧ Hid (RS w0 w' g bad' l') ∧ Hid (Only w w' g) ∧ Hid (Step (manyP fput) (fun xs => xs.length ≤ 18446744073709551615 ∧ ∀ x ∈ xs, PFread x) bad l xs bad' l') ∧ Hid (k = 0 → a = none) := by
  have HN := Lib.hid (numberE_any w0 w g bad l 18446744073709551615 h (by omega))
  obtain ⟨hgl, hg0, hw0⟩ := h.lt
  obtain ⟨i0, hi, hz, hz1, hz2⟩ := info_parts info_file
  clear h
  go_enter Tryz.func129, Tryz.ntmps129
  go_wp2_with fail
  refine HN.out.mono ?_
  rintro e1 w1 ⟨n0, b0, l0, rfl, hn0, R1, O1, S1⟩
  have HL0 := Lib.hid S1.out.2.2
  clear HN
  go_upto_region 2 with (fail)
  go_loopw [4, 5] (fun lv nv wr => ∃ (m k c : Nat) (a : Option Addr) (xs : List PF) (b : Bool) (r : List UInt8), nv = .int .u64 m ∧ lv = .slice a k c ∧ m + k = n0 ∧ Hid (k = xs.length) ∧ Hid (Own wr w.heap.size 86 4 (.slice a k c) k (fcells xs)) ∧ Hid (∀ f ∈ xs, f.n < 4294967296) ∧
      Hid (RS w0 wr g b r) ∧ Hid (Only w wr g) ∧ Hid (Sev fput PFread n0 b0 l0 xs b r) ∧ Hid (k = 0 → a = none))
    (fun _ i _ => (intOf i).toNat)
  case atStart => exact ⟨n0, 0, 0, none, [], b0, l0, rfl, rfl, rfl, rfl, own_nil _ _ _ _, Lib.hid (fun _ h => by cases h), R1, O1, Lib.hid Sev.start, Lib.hid (fun _ => rfl)⟩
  case round =>
    obtain ⟨m, k, c, a, xs, b, r, rfl, rfl, hmk, HK, HO, HX, HR, HOn, HS, HI⟩ := hrel
    obtain ⟨ra, rn, rc, hB, _, _, _⟩ := HR.out
    have c1 := hB.cellv 1 _ rfl
    clear hB
    by_cases hm : m = 0
    · subst hm
      go_wp2
      go_ret
      exact ⟨xs, a, k, c, b, r, rfl, HK, Lib.hid (by have := HS.out.2.2.2.1; have := HL0.out; have := HK.out; omega), HO, HX, HR, HOn, Lib.hid (HS.out.done (.inl (by have := HK.out; omega)) S1.out), HI⟩
    · have hd : decide ((m : Int) > 0) = true := by simp; omega
      cases b with
      | true =>
        go_wp2
        go_ret
        exact ⟨xs, a, k, c, true, r, rfl, HK, Lib.hid (by have := HS.out.2.2.2.1; have := HL0.out; have := HK.out; omega), HO, HX, HR, HOn, Lib.hid (HS.out.done (.inr rfl) S1.out), HI⟩
      | false =>
        have HF := Lib.hid (fileE_any w0 wr g false r HR.out)
        go_wp2_with fail
        refine HF.out.mono ?_
        rintro e2 w2 ⟨f, b', r', rfl, hfn, R2, O2, S2⟩
        have HO2 := Lib.hid (own_below (own_other HO.out O2.out hgl) (alloc_bel w2 (.cells #[.int .u32 f.n, .int .i64 f.lv, .string f.a, .string f.b] 86)))
        have R3 := Lib.hid (R2.out.other (alloc_bel w2 (.cells #[.int .u32 f.n, .int .i64 f.lv, .string f.a, .string f.b] 86)))
        have O3 := Lib.hid ((HOn.out.trans O2.out).under ((alloc_bel w2 (.cells #[.int .u32 f.n, .int .i64 f.lv, .string f.a, .string f.b] 86)).mono (HOn.out.trans O2.out).size))
        have HSZ : Hid (w.heap.size ≤ (w2.alloc (.cells #[.int .u32 f.n, .int .i64 f.lv, .string f.a, .string f.b] 86)).heap.size) := Lib.hid O3.out.size
        have hk : k ≤ 1000000 := by have := HS.out.2.2.2.2.1 rfl; have := HL0.out; have := HK.out; omega
        have HS2 := Lib.hid (HS.out.step (x := f) (by have := HK.out; omega) fput_ge S2.out)
        have HRF := Lib.hid (reads_file w2 f 86)
        obtain ⟨m', rfl⟩ : ∃ m', m = m' + 1 := ⟨m - 1, by omega⟩
        have hw : IntKind.u64.wrap (m' : Int) = m' := wrapU m' (by omega)
        clear c1 HF S2 R2 O2
        go_wp2_with (at_builtin; go_loud (refine wp_app_el2 rfl _ _ rfl Tryz.underlying22 hi hz hz1 hz2 rfl (by omega) w.heap.size k 1 (.slice a k c) _ (fcells xs) (fcells [f]) (fcells (xs ++ [f])) (k + 1) rfl rfl HO2.out HRF.out (one_fcells _) rfl (by rw [fcells_app]) (by omega) (by omega) HSZ.out ?_); intro ua uc w3 HX3 HG3)
        go_roundw
        case rel => exact ⟨m', k + 1, uc, ua, xs ++ [f], b', r', by first | rfl | go_num, rfl, by omega, Lib.hid (by rw [List.length_append, HK.out]; rfl), HX3, Lib.hid (fun y hy => by rcases List.mem_append.1 hy with h | h; exact HX.out y h; rw [List.mem_singleton.1 h]; exact hfn), Lib.hid (R3.out.under HG3.out.below hgl), Lib.hid (O3.out.under HG3.out.below), HS2, Lib.hid (fun h => absurd h (Nat.succ_ne_zero _))⟩
        case measure => simp [intOf]
theorem reads_u32 (w : World) (f : Nat) (ty : TypeId) : Reads (w.alloc (.cells #[.int .u32 f] ty)) 1 (.slice (some ⟨w.heap.size, 0, none⟩) 1 1) 1 (ucells [f]) :=
  reads_new w #[.int .u32 f] ty 1 1 rfl (by decide)
set_option maxRecDepth 100000 in
set_option maxHeartbeats 2000000 in
theorem sevU_any (w0 w : World) (g : Nat) (bad : Bool) (l : List UInt8) (h : RS w0 w g bad l) (hl : l.length ≤ 1000000) :
    Calls Tryz.prog 131 #[.pointer (some ⟨g, 0, none⟩), .func (.func 132) #[.pointer (some ⟨g, 0, none⟩)] #[]] w fun en w' => ∃ (xs : List Nat) (a : Option Addr) (k c : Nat) (bad' : Bool) (l' : List UInt8), en = .returned (.slice a k c) ∧ Hid (k = xs.length) ∧ Hid (k ≤ l.length + 1) ∧ Hid (Own w' w.heap.size 24 1 (.slice a k c) k (ucells xs)) ∧
      Hid (∀ f ∈ xs, f < 4294967296) ∧ Hid (RS w0 w' g bad' l') ∧ Hid (Only w w' g) ∧ Hid (Step (manyP vint) (fun xs => xs.length ≤ 18446744073709551615 ∧ ∀ x ∈ xs, x ≤ 4294967295) bad l xs bad' l') ∧ Hid (k = 0 → a = none) := by
  have HN := Lib.hid (numberE_any w0 w g bad l 18446744073709551615 h (by omega))
  obtain ⟨hgl, hg0, hw0⟩ := h.lt
  obtain ⟨i0, hi, hz, hz1, hz2⟩ := info_parts info_u32
  clear h
  go_enter Tryz.func131, Tryz.ntmps131
  go_wp2_with fail
  refine HN.out.mono ?_
  rintro e1 w1 ⟨n0, b0, l0, rfl, hn0, R1, O1, S1⟩
  have HL0 := Lib.hid S1.out.2.2
  clear HN
  go_upto_region 2 with (fail)
  go_loopw [4, 5] (fun lv nv wr => ∃ (m k c : Nat) (a : Option Addr) (xs : List Nat) (b : Bool) (r : List UInt8), nv = .int .u64 m ∧ lv = .slice a k c ∧ m + k = n0 ∧ Hid (k = xs.length) ∧ Hid (Own wr w.heap.size 24 1 (.slice a k c) k (ucells xs)) ∧ Hid (∀ f ∈ xs, f < 4294967296) ∧
      Hid (RS w0 wr g b r) ∧ Hid (Only w wr g) ∧ Hid (Sev vint (fun x => x ≤ 4294967295) n0 b0 l0 xs b r) ∧ Hid (k = 0 → a = none))
    (fun _ i _ => (intOf i).toNat)
  case atStart => exact ⟨n0, 0, 0, none, [], b0, l0, rfl, rfl, rfl, rfl, own_nil _ _ _ _, Lib.hid (fun _ h => by cases h), R1, O1, Lib.hid Sev.start, Lib.hid (fun _ => rfl)⟩
  case round =>
    obtain ⟨m, k, c, a, xs, b, r, rfl, rfl, hmk, HK, HO, HX, HR, HOn, HS, HI⟩ := hrel
    obtain ⟨ra, rn, rc, hB, _, _, _⟩ := HR.out
    have c1 := hB.cellv 1 _ rfl
    clear hB
    by_cases hm : m = 0
    · subst hm
      go_wp2
      go_ret
      exact ⟨xs, a, k, c, b, r, rfl, HK, Lib.hid (by have := HS.out.2.2.2.1; have := HL0.out; have := HK.out; omega), HO, HX, HR, HOn, Lib.hid (HS.out.done (.inl (by have := HK.out; omega)) S1.out), HI⟩
    · have hd : decide ((m : Int) > 0) = true := by simp; omega
      cases b with
      | true =>
        go_wp2
        go_ret
        exact ⟨xs, a, k, c, true, r, rfl, HK, Lib.hid (by have := HS.out.2.2.2.1; have := HL0.out; have := HK.out; omega), HO, HX, HR, HOn, Lib.hid (HS.out.done (.inr rfl) S1.out), HI⟩
      | false =>
        have HF := Lib.hid (numE_any w0 wr g false r HR.out)
        go_wp2_with fail
        refine HF.out.mono ?_
        rintro e2 w2 ⟨f, b', r', rfl, hfn, R2, O2, S2⟩
        have HO2 := Lib.hid (own_below (own_other HO.out O2.out hgl) (alloc_bel w2 (.cells #[.int .u32 f] 24)))
        have R3 := Lib.hid (R2.out.other (alloc_bel w2 (.cells #[.int .u32 f] 24)))
        have O3 := Lib.hid ((HOn.out.trans O2.out).under ((alloc_bel w2 (.cells #[.int .u32 f] 24)).mono (HOn.out.trans O2.out).size))
        have HSZ : Hid (w.heap.size ≤ (w2.alloc (.cells #[.int .u32 f] 24)).heap.size) := Lib.hid O3.out.size
        have hk : k ≤ 1000000 := by have := HS.out.2.2.2.2.1 rfl; have := HL0.out; have := HK.out; omega
        have HS2 := Lib.hid (HS.out.step (x := f) (by have := HK.out; omega) vint_ge S2.out)
        have HRF := Lib.hid (reads_u32 w2 f 24)
        obtain ⟨m', rfl⟩ : ∃ m', m = m' + 1 := ⟨m - 1, by omega⟩
        have hw : IntKind.u64.wrap (m' : Int) = m' := wrapU m' (by omega)
        clear c1 HF S2 R2 O2
        go_wp2_with (at_builtin; go_loud (refine wp_app_el2 rfl _ _ rfl Tryz.underlying23 hi hz hz1 hz2 rfl (by omega) w.heap.size k 1 (.slice a k c) _ (ucells xs) (ucells [f]) (ucells (xs ++ [f])) (k + 1) rfl rfl HO2.out HRF.out (one_ucells _) rfl (by rw [ucells_app]) (by omega) (by omega) HSZ.out ?_); intro ua uc w3 HX3 HG3)
        go_roundw
        case rel => exact ⟨m', k + 1, uc, ua, xs ++ [f], b', r', by first | rfl | go_num, rfl, by omega, Lib.hid (by rw [List.length_append, HK.out]; rfl), HX3, Lib.hid (fun y hy => by rcases List.mem_append.1 hy with h | h; exact HX.out y h; rw [List.mem_singleton.1 h]; exact hfn), Lib.hid (R3.out.under HG3.out.below hgl), Lib.hid (O3.out.under HG3.out.below), HS2, Lib.hid (fun h => absurd h (Nat.succ_ne_zero _))⟩
        case measure => simp [intOf]
end Go.Proofs.YtimfcinkjjaigaaGreatDoor
namespace Go.Proofs.YtimfcinkjjaigaaGreatDoor
open Go.RowKit

set_option maxRecDepth 100000 in
set_option maxHeartbeats 1000000 in
theorem bytesEqual_any (w : World) (v v2 : Value) (l m : List UInt8) (hv : Rd w v l) (hv2 : Rd w v2 m) :
    Calls Tryz.prog 134 #[v, v2] w fun e w' => e = .returned (.bool (decide (l = m))) ∧ w = w' := by
  have s1 := run_str hv
  have s2 := run_str hv2
  have hbl : ∀ l : List UInt8, (bs l).toList = l := fun l => by rw [Lib.toList_data, bs_data]
  have e1 := hbl l
  have e2 := hbl m
  clear hv hv2 hbl
  obtain ⟨a, ha⟩ : ∃ a, a = bs l := ⟨_, rfl⟩
  obtain ⟨b, hb⟩ : ∃ b, b = bs m := ⟨_, rfl⟩
  rw [← ha] at s1 e1
  rw [← hb] at s2 e2
  have HA := Lib.hid e1
  have HB := Lib.hid e2
  clear ha hb e1 e2
  go_enter Tryz.func134, Tryz.ntmps134
  go_wp2
  go_ret
  refine ⟨ret_bool ?_, rfl⟩
  rw [HA.out, HB.out]
  rw [Bool.eq_iff_iff]; simp

def PXread (x : PX) : Prop := (x.add.length ≤ 18446744073709551615 ∧ ∀ f ∈ x.add, PFread f) ∧ (x.rem.length ≤ 18446744073709551615 ∧ ∀ k ∈ x.rem, k ≤ 4294967295) ∧ x.jo ≤ 4294967295 ∧ x.nx ≤ 4294967295 ∧ x.sq ≤ 18446744073709551615
theorem pxread_of {x : PX} (h : x.add.all mayF = true) (hf : x.fit) : PXread x := by
  obtain ⟨f1, f2, f3, f4, f5, f6, f7⟩ := hf
  refine ⟨⟨by omega, fun f hfm => ?_⟩, ⟨by omega, fun k hk => by have := f4 k hk; omega⟩, by omega, by omega, by omega⟩
  obtain ⟨⟨p1, p2⟩, p3, p4⟩ := may_len (List.all_eq_true.1 h f hfm)
  exact ⟨f3 f hfm, ⟨p1, by omega⟩, by omega, by omega⟩
theorem step_edit {b b1 b2 b3 b4 b5 : Bool} {l l1 l2 l3 l4 l5 : List UInt8} {xs : List PF} {ks : List Nat} {j n s : Nat} (h1 : Step (manyP fput) (fun xs => xs.length ≤ 18446744073709551615 ∧ ∀ x ∈ xs, PFread x) b l xs b1 l1)
    (h2 : Step (manyP vint) (fun xs => xs.length ≤ 18446744073709551615 ∧ ∀ x ∈ xs, x ≤ 4294967295) b1 l1 ks b2 l2) (h3 : Step vint (fun n => n ≤ 4294967295) b2 l2 j b3 l3) (h4 : Step vint (fun n => n ≤ 4294967295) b3 l3 n b4 l4) (h5 : Step vint (fun n => n ≤ 18446744073709551615) b4 l4 s b5 l5) :
    Step ePut PXread b l ⟨xs, ks, j, n, s⟩ b5 l5 := by
  refine Step.map ((((h1.then h2).then h3).then h4).then h5) (PX.mk xs ks j n s) (fun hp => ?_) (fun y hy => ?_)
  · obtain ⟨⟨⟨⟨p1, p2⟩, p3⟩, p4⟩, p5⟩ := hp
    refine ⟨⟨p1, p2, p3, p4, p5⟩, ?_⟩
    show manyP fput xs ++ (manyP vint ks ++ (vint j ++ (vint n ++ vint s))) = manyP fput xs ++ manyP vint ks ++ vint j ++ vint n ++ vint s
    simp
  · obtain ⟨yx, yk, yj, yn, ys⟩ := y
    obtain ⟨p1, p2, p3, p4, p5⟩ := hy
    refine ⟨((((yx, yk), yj), yn), ys), ?_, ?_, fun e => ?_⟩
    · exact ⟨⟨⟨⟨p1, p2⟩, p3⟩, p4⟩, p5⟩
    · show manyP fput yx ++ manyP vint yk ++ vint yj ++ vint yn ++ vint ys = manyP fput yx ++ (manyP vint yk ++ (vint yj ++ (vint yn ++ vint ys)))
      simp
    simp only [Prod.mk.injEq] at e
    obtain ⟨⟨⟨⟨rfl, rfl⟩, rfl⟩, rfl⟩, rfl⟩ := e
    rfl
def PX.zero : PX := ⟨[], [], 0, 0, 0⟩
/-- what is told of the bytes b -/
def GetR (b : List UInt8) (x : PX) (q : Nat) : Prop :=
  (q = 0 ∧ x.add.all mayF = true ∧ x.fit ∧ ePut x = b ∨ q = 4 ∧ x = PX.zero) ∧ ∀ y : PX, y.add.all mayF = true → y.fit → ePut y = b → q = 0 ∧ x = y
theorem getR_bad {b l : List UInt8} {x : PX} (h : Step ePut PXread false b x true l) : GetR b PX.zero 4 := by
  refine ⟨.inr ⟨rfl, rfl⟩, fun y h1 h2 h3 => ?_⟩
  have := (h.2.1 y [] rfl (pxread_of h1 h2) (by rw [h3, List.append_nil])).2.1
  cases this
theorem getR_may {b l : List UInt8} {x : PX} {bad : Bool} (h : Step ePut PXread false b x bad l) (hm : x.add.all mayF = false) : GetR b PX.zero 4 := by
  refine ⟨.inr ⟨rfl, rfl⟩, fun y h1 h2 h3 => ?_⟩
  obtain ⟨rfl, _⟩ := h.2.1 y [] rfl (pxread_of h1 h2) (by rw [h3, List.append_nil])
  rw [h1] at hm; cases hm
theorem getR_ne {b l : List UInt8} {x : PX} {bad : Bool} (h : Step ePut PXread false b x bad l) (hm : ePut x ≠ b) : GetR b PX.zero 4 := by
  refine ⟨.inr ⟨rfl, rfl⟩, fun y h1 h2 h3 => ?_⟩
  obtain ⟨rfl, _⟩ := h.2.1 y [] rfl (pxread_of h1 h2) (by rw [h3, List.append_nil])
  exact absurd h3 hm
theorem getR_ok {b l : List UInt8} {x : PX} {bad : Bool} (h : Step ePut PXread false b x bad l) (hm : x.add.all mayF = true) (hf : x.fit) (he : ePut x = b) : GetR b x 0 := by
  refine ⟨.inl ⟨rfl, hm, hf, he⟩, fun y h1 h2 h3 => ?_⟩
  obtain ⟨rfl, _⟩ := h.2.1 y [] rfl (pxread_of h1 h2) (by rw [h3, List.append_nil])
  exact ⟨rfl, rfl⟩
/-- an empty slice is nil -/
def NoRoom (v : Value) (n : Nat) : Prop := n = 0 → ∃ k c, v = .slice none k c
/-- what edits.Get tells -/
def RetGetX (b : List UInt8) (w : World) (e : Ending) (w' : World) : Prop :=
  ∃ (x : PX) (q : Nat) (va vr : Value), e = .returned (.tuple #[.agg #[va, vr, .int .u32 x.jo, .int .u32 x.nx, .int .u64 x.sq], .int .i64 q]) ∧ Hid (GetR b x q) ∧ Hid (Own w' w.heap.size 86 4 va x.add.length (fcells x.add)) ∧
    Hid (Own w' w.heap.size 24 1 vr x.rem.length (ucells x.rem)) ∧ Below w.heap.size w w' ∧ Hid (NoRoom va x.add.length) ∧ Hid (NoRoom vr x.rem.length) ∧ Hid (∀ k, va.ownBlock = some k → vr.ownBlock ≠ some k)
set_option maxRecDepth 100000 in
theorem info_edit_size : (Tryz.prog.info? 27).map (·.size) = some 5 := by kernel_rfl
theorem RdX.of_own {w : World} {b : Nat} {x : PX} {va vr : Value} (h1 : Own w b 86 4 va x.add.length (fcells x.add)) (h2 : Own w b 24 1 vr x.rem.length (ucells x.rem)) : RdX w (.agg #[va, vr, .int .u32 x.jo, .int .u32 x.nx, .int .u64 x.sq]) x :=
  ⟨va, vr, rfl, (rdF_of (reads_of_own h1)).2, (rdU_of (reads_of_own h2)).2⟩
set_option maxRecDepth 100000 in
theorem res_edit (tmps : Array Value) (w : World) (g : Nat) (cs : Array Value) (q : Nat) (hc : cs.size = 5) (hp : tmps.getD 2 undef = .pointer (some ⟨g, 0, none⟩)) (hq : tmps.getD 3 undef = .int .i64 q) (hb : Blk w g cs 27) :
    (results Tryz.f35 tmps).run Tryz.prog w = .ok (.tuple #[.agg cs, .int .i64 q]) w := by
  rw [results_cell_tmp (p := 2) (u := 3) (ty := 27) rfl, hp, hq]
  simp [asAddr, run_loadVar_row w g 27 27 cs (0, 0) _ hb Tryz.underlying27 rfl (by rw [hc]; exact info_edit_size), Result.andThen]
end Go.Proofs.YtimfcinkjjaigaaGreatDoor
namespace Go.Proofs.YtimfcinkjjaigaaGreatDoor
open Go.RowKit

set_option maxRecDepth 100000 in
set_option maxHeartbeats 4000000 in
theorem getX_any (w : World) (v : Value) (b : List UInt8) (hv : Rd w v b) (hb : b.length ≤ 50000) :
    Calls Tryz.prog 35 #[v] w (RetGetX b w) := by
  obtain ⟨sa, sn, sc, rfl, hsn⟩ := rd_len hv
  have HV := Lib.hid hv
  obtain ⟨W0, hW0⟩ : ∃ W, W = w.alloc (.cells #[.slice none 0 0, .slice none 0 0, .int .u32 0, .int .u32 0, .int .u64 0] 27) := ⟨_, rfl⟩
  have hX0 : Blk W0 w.heap.size #[.slice none 0 0, .slice none 0 0, .int .u32 0, .int .u32 0, .int .u64 0] 27 := by rw [hW0]; exact Blk.new _ _ _
  have hsz0 : W0.heap.size = w.heap.size + 1 := by rw [hW0]; simp
  have hbel0 : Below w.heap.size w W0 := by rw [hW0]; exact alloc_bel _ _
  obtain ⟨W, hW⟩ : ∃ W, W = W0.alloc (.cells #[.slice sa sn sc, .bool false] 124) := ⟨_, rfl⟩
  obtain ⟨g, hg⟩ : ∃ g, g = w.heap.size + 1 := ⟨_, rfl⟩
  have hbelW : Below w.heap.size w W := by rw [hW]; exact hbel0.trans ((alloc_bel W0 _).mono hbel0.size)
  have HX0 : Hid (Blk W w.heap.size #[.slice none 0 0, .slice none 0 0, .int .u32 0, .int .u32 0, .int .u64 0] 27) := Lib.hid (by rw [hW]; exact hX0.alloc _)
  have HRS : Hid (RS w W g false b) := Lib.hid ⟨sa, sn, sc, by rw [hW]; exact Blk.new_at _ _ _ _ (by rw [hg, hsz0]), HV.out, hbelW, by omega⟩
  have hXg : w.heap.size ≠ g := by omega
  have hgW : g < W.heap.size := by rw [hW, hg]; simp [hsz0]
  have hXW : w.heap.size < W.heap.size := by rw [hW]; simp [hsz0]; omega
  have HT1 := Lib.hid (sevF_any w W g false b HRS.out (by omega))
  clear hv hX0 hbel0 hbelW hsn
  go_enter Tryz.func35, Tryz.ntmps35
  go_wp2_with fail
  rw [← hW0, ← hg, ← hW]
  have hwg : w.heap.size ≤ g := by omega
  clear hW hW0 hsz0 hg
  refine HT1.out.mono ?_
  rintro e1 w1 ⟨xs, aa, ak, ac, b1, l1, rfl, HAK, HAL, HOA, HAN, R1, O1, S1, HIA⟩
  have HX1 := Lib.hid (HX0.out.only O1.out hXg)
  have HB1 : Hid (Below w.heap.size w w1) := Lib.hid (Only.below HRS.out.choose_spec.choose_spec.choose_spec.2.2.1 O1.out hwg HRS.out.lt.2.2)
  have k0 := HX1.out.cellv 0 _ rfl
  have u0 := HX1.out.free 0
  clear HT1 HX0 HRS
  go_upto_region 3 with (fail)
  have HX2 := Lib.hid (HX1.out.set 0 (.slice aa ak ac))
  have R2 := Lib.hid (R1.out.set ⟨w.heap.size, 0, none⟩ hXg (Nat.le_refl _) (.slice aa ak ac))
  have HB2 := Lib.hid (HB1.out.setCell (p := ⟨w.heap.size, 0, none⟩) (Nat.le_refl _) (.slice aa ak ac))
  have HOA2 := Lib.hid (own_set HOA.out ⟨w.heap.size, 0, none⟩ hXW (.slice aa ak ac))
  have HWS : Hid (W.heap.size ≤ (w1.setCell ⟨w.heap.size, 0, none⟩ (.slice aa ak ac)).heap.size) := Lib.hid (Nat.le_trans O1.out.size (Below.setCell (B := 0) (Below.refl 0 w1) (p := ⟨w.heap.size, 0, none⟩) (Nat.zero_le _) _).size)
  have HW12 : Hid (w1.heap.size ≤ (w1.setCell ⟨w.heap.size, 0, none⟩ (.slice aa ak ac)).heap.size) := Lib.hid (by simp)
  have HOAL : Hid (ak ≠ 0 → ∀ k, (Value.slice aa ak ac).ownBlock = some k → k < w1.heap.size) := Lib.hid fun h k hk => (own_lt HOA.out (by omega) k hk).2
  generalize w1.setCell ⟨w.heap.size, 0, none⟩ (.slice aa ak ac) = w2 at HX2 R2 HB2 HOA2 HWS HW12 ⊢
  have HT2 := Lib.hid (sevU_any w w2 g b1 l1 R2.out (by have := S1.out.2.2; omega))
  have HWS2 := HWS
  clear k0 u0 HX1 HB1 R1 HOA O1 HWS
  go_wp2_with fail
  refine HT2.out.mono ?_
  rintro e3 w3 ⟨ks, ra, rk, rc, b3, l3, rfl, HRK, HRL, HOR, HRN, R3, O3, S3, HIR⟩
  have HAPX : Hid (∀ k, (Value.slice aa ak ac).ownBlock = some k → (Value.slice ra rk rc).ownBlock ≠ some k) := Lib.hid fun k hk hr => by
    by_cases h1 : ak = 0
    · rw [HIA.out h1] at hk; simp [Value.ownBlock] at hk
    by_cases h2 : rk = 0
    · rw [HIR.out h2] at hr; simp [Value.ownBlock] at hr
    have := HOAL.out h1 k hk
    have := (own_lt HOR.out (by omega) k hr).1
    have := HW12.out
    omega
  have HX3 := Lib.hid (HX2.out.only O3.out hXg)
  have HB3 : Hid (Below w.heap.size w w3) := Lib.hid (Only.below HB2.out O3.out hwg HB2.out.size)
  have HOA3 := Lib.hid (own_other HOA2.out O3.out hgW)
  have k1 := HX3.out.cellv 1 _ rfl
  have u1 := HX3.out.free 1
  have HXW2 : Hid (w.heap.size < w2.heap.size ∧ g < w2.heap.size) := Lib.hid ⟨Nat.lt_of_lt_of_le hXW HWS2.out, Nat.lt_of_lt_of_le hgW HWS2.out⟩
  clear HT2 HX2 HB2 R2 HOA2 O3 HWS2
  go_upto_region 4 with (fail)
  have HX4 := Lib.hid (HX3.out.set 1 (.slice ra rk rc))
  have R4 := Lib.hid (R3.out.set ⟨w.heap.size, 1, none⟩ hXg (Nat.le_refl _) (.slice ra rk rc))
  have HB4 := Lib.hid (HB3.out.setCell (p := ⟨w.heap.size, 1, none⟩) (Nat.le_refl _) (.slice ra rk rc))
  have HOA4 := Lib.hid (own_set HOA3.out ⟨w.heap.size, 1, none⟩ hXW (.slice ra rk rc))
  have HOR4 := Lib.hid (own_set HOR.out ⟨w.heap.size, 1, none⟩ HXW2.out.1 (.slice ra rk rc))
  generalize w3.setCell ⟨w.heap.size, 1, none⟩ (.slice ra rk rc) = w4 at HX4 R4 HB4 HOA4 HOR4 ⊢
  have HT4 := Lib.hid (numE_any w w4 g b3 l3 R4.out)
  clear k1 u1 HX3 HB3 R3 HOA3 HOR
  go_wp2_with fail
  refine HT4.out.mono ?_
  rintro e5 w5 ⟨jo, b5, l5, rfl, hjo, R5, O5, S5⟩
  have HX5 := Lib.hid (HX4.out.only O5.out hXg)
  have HB5 : Hid (Below w.heap.size w w5) := Lib.hid (Only.below HB4.out O5.out hwg HB4.out.size)
  have HOA5 := Lib.hid (own_other HOA4.out O5.out hgW)
  have HOR5 := Lib.hid (own_other HOR4.out O5.out HXW2.out.2)
  have HT5 := Lib.hid (numE_any w w5 g b5 l5 R5.out)
  clear HT4 HX4 HB4 R4 HOA4 HOR4 O5
  go_wp2_with fail
  refine HT5.out.mono ?_
  rintro e6 w6 ⟨nx, b6, l6, rfl, hnx, R6, O6, S6⟩
  have HX6 := Lib.hid (HX5.out.only O6.out hXg)
  have HB6 : Hid (Below w.heap.size w w6) := Lib.hid (Only.below HB5.out O6.out hwg HB5.out.size)
  have HOA6 := Lib.hid (own_other HOA5.out O6.out hgW)
  have HOR6 := Lib.hid (own_other HOR5.out O6.out HXW2.out.2)
  have HT6 := Lib.hid (numberE_any w w6 g b6 l6 18446744073709551615 R6.out (by omega))
  clear HT5 HX5 HB5 R5 HOA5 HOR5 O6
  go_wp2_with fail
  refine HT6.out.mono ?_
  rintro e7 w7 ⟨sq, bad, l7, rfl, hsq, R7, O7, S7⟩
  have HX7 := Lib.hid (HX6.out.only O7.out hXg)
  have HB7 : Hid (Below w.heap.size w w7) := Lib.hid (Only.below HB6.out O7.out hwg HB6.out.size)
  have HOA7 := Lib.hid (own_other HOA6.out O7.out hgW)
  have HOR7 := Lib.hid (own_other HOR6.out O7.out HXW2.out.2)
  have HS := Lib.hid (step_edit S1.out S3.out S5.out S6.out S7.out)
  have HFIT : Hid ((PX.mk xs ks jo nx sq).fit) := Lib.hid ⟨by have := HAK.out; have := HAL.out; show xs.length ≤ 100000; omega, by have := HRK.out; have := HRL.out; have := S1.out.2.2; show ks.length ≤ 100000; omega, HAN.out, HRN.out, hjo, hnx, hsq⟩
  have k2 := HX7.out.cellv 2 _ rfl
  have u2 := HX7.out.free 2
  have k3 := HX7.out.cellv 3 _ rfl
  have u3 := HX7.out.free 3
  have k4 := HX7.out.cellv 4 _ rfl
  have u4 := HX7.out.free 4
  clear HT6 HX6 HB6 R6 HOA6 HOR6 O7 S1 S3 S5 S6 S7
  go_upto_region 5 with (fail)
  have HX8 : Hid (Blk (((w7.setCell ⟨w.heap.size, 2, none⟩ (.int .u32 jo)).setCell ⟨w.heap.size, 3, none⟩ (.int .u32 nx)).setCell ⟨w.heap.size, 4, none⟩ (.int .u64 sq)) w.heap.size #[.slice aa ak ac, .slice ra rk rc, .int .u32 jo, .int .u32 nx, .int .u64 sq] 27) := Lib.hid (((HX7.out.set 2 (.int .u32 jo)).set 3 (.int .u32 nx)).set 4 (.int .u64 sq))
  have R8 := Lib.hid (((R7.out.set ⟨w.heap.size, 2, none⟩ hXg (Nat.le_refl _) (.int .u32 jo)).set ⟨w.heap.size, 3, none⟩ hXg (Nat.le_refl _) (.int .u32 nx)).set ⟨w.heap.size, 4, none⟩ hXg (Nat.le_refl _) (.int .u64 sq))
  have HB8 := Lib.hid (((HB7.out.setCell (p := ⟨w.heap.size, 2, none⟩) (Nat.le_refl _) (.int .u32 jo)).setCell (p := ⟨w.heap.size, 3, none⟩) (Nat.le_refl _) (.int .u32 nx)).setCell (p := ⟨w.heap.size, 4, none⟩) (Nat.le_refl _) (.int .u64 sq))
  have HOA8 := Lib.hid (own_set (own_set (own_set HOA7.out ⟨w.heap.size, 2, none⟩ hXW (.int .u32 jo)) ⟨w.heap.size, 3, none⟩ hXW (.int .u32 nx)) ⟨w.heap.size, 4, none⟩ hXW (.int .u64 sq))
  have HOR8 := Lib.hid (own_set (own_set (own_set HOR7.out ⟨w.heap.size, 2, none⟩ HXW2.out.1 (.int .u32 jo)) ⟨w.heap.size, 3, none⟩ HXW2.out.1 (.int .u32 nx)) ⟨w.heap.size, 4, none⟩ HXW2.out.1 (.int .u64 sq))
  generalize ((w7.setCell ⟨w.heap.size, 2, none⟩ (.int .u32 jo)).setCell ⟨w.heap.size, 3, none⟩ (.int .u32 nx)).setCell ⟨w.heap.size, 4, none⟩ (.int .u64 sq) = w8 at HX8 R8 HB8 HOA8 HOR8 ⊢
  clear k2 u2 k3 u3 k4 u4 HX7 HB7 R7 HOA7 HOR7
  have HPUT := Lib.hid (putX_any w8 (.agg #[.slice aa ak ac, .slice ra rk rc, .int .u32 jo, .int .u32 nx, .int .u64 sq]) (PX.mk xs ks jo nx sq) ⟨_, _, rfl, by have := rdF_of (reads_of_own HOA8.out); exact this.2, by have := rdU_of (reads_of_own HOR8.out); exact this.2⟩ HFIT.out)
  have k0 : w8.cell? ⟨w.heap.size, 0, none⟩ = some (.slice aa ak ac) := HX8.out.cellv 0 _ rfl
  have k1 : w8.cell? ⟨w.heap.size, 1, none⟩ = some (.slice ra rk rc) := HX8.out.cellv 1 _ rfl
  have k2 : w8.cell? ⟨w.heap.size, 2, none⟩ = some (.int .u32 jo) := HX8.out.cellv 2 _ rfl
  have k3 : w8.cell? ⟨w.heap.size, 3, none⟩ = some (.int .u32 nx) := HX8.out.cellv 3 _ rfl
  have k4 : w8.cell? ⟨w.heap.size, 4, none⟩ = some (.int .u64 sq) := HX8.out.cellv 4 _ rfl
  go_wp2_with fail
  refine HPUT.out.mono ?_
  rintro e9 w9 ⟨pl, q, pa, pn, pc, rfl, HQ, HPN, HPO, b9, -⟩
  have HX9 := Lib.hid (HX8.out.below b9)
  have R9 := Lib.hid (R8.out.other b9)
  have HB9 := Lib.hid (HB8.out.trans (b9.mono HB8.out.size))
  have HOA9 := Lib.hid (own_mono (own_below HOA8.out b9) (show w.heap.size ≤ W.heap.size from Nat.le_of_lt hXW))
  have HOR9 := Lib.hid (own_mono (own_below HOR8.out b9) (show w.heap.size ≤ w2.heap.size from Nat.le_of_lt HXW2.out.1))
  clear k0 k1 k2 k3 k4 HX8 R8 HB8 HOA8 HOR8 HPUT b9
  obtain ⟨ga, gn, gc, hBg, _, _, _⟩ := R9.out
  have gk1 := hBg.cellv 1 _ rfl
  clear hBg
  have k0 : w9.cell? ⟨w.heap.size, 0, none⟩ = some (.slice aa ak ac) := HX9.out.cellv 0 _ rfl
  have u0 := HX9.out.free 0
  have e0 : w9.setCell ⟨w.heap.size, 0, none⟩ (.slice aa ak ac) = w9 := HX9.out.same 0 _ rfl
  have k1 : w9.cell? ⟨w.heap.size, 1, none⟩ = some (.slice ra rk rc) := HX9.out.cellv 1 _ rfl
  have u1 := HX9.out.free 1
  have e1 : w9.setCell ⟨w.heap.size, 1, none⟩ (.slice ra rk rc) = w9 := HX9.out.same 1 _ rfl
  have k2 : w9.cell? ⟨w.heap.size, 2, none⟩ = some (.int .u32 jo) := HX9.out.cellv 2 _ rfl
  have u2 := HX9.out.free 2
  have e2 : w9.setCell ⟨w.heap.size, 2, none⟩ (.int .u32 jo) = w9 := HX9.out.same 2 _ rfl
  have k3 : w9.cell? ⟨w.heap.size, 3, none⟩ = some (.int .u32 nx) := HX9.out.cellv 3 _ rfl
  have u3 := HX9.out.free 3
  have e3 : w9.setCell ⟨w.heap.size, 3, none⟩ (.int .u32 nx) = w9 := HX9.out.same 3 _ rfl
  have k4 : w9.cell? ⟨w.heap.size, 4, none⟩ = some (.int .u64 sq) := HX9.out.cellv 4 _ rfl
  have u4 := HX9.out.free 4
  have e4 : w9.setCell ⟨w.heap.size, 4, none⟩ (.int .u64 sq) = w9 := HX9.out.same 4 _ rfl
  go_upto_region 6 with (fail)
  have HZ : Hid (Blk (((((w9.setCell ⟨w.heap.size, 0, none⟩ (.slice none 0 0)).setCell ⟨w.heap.size, 1, none⟩ (.slice none 0 0)).setCell ⟨w.heap.size, 2, none⟩ (.int .u32 0)).setCell ⟨w.heap.size, 3, none⟩ (.int .u32 0)).setCell ⟨w.heap.size, 4, none⟩ (.int .u64 0)) w.heap.size #[.slice none 0 0, .slice none 0 0, .int .u32 0, .int .u32 0, .int .u64 0] 27) := Lib.hid (((((HX9.out.set 0 (.slice none 0 0)).set 1 (.slice none 0 0)).set 2 (.int .u32 0)).set 3 (.int .u32 0)).set 4 (.int .u64 0))
  have HBZ := Lib.hid (((((HB9.out.setCell (p := ⟨w.heap.size, 0, none⟩) (Nat.le_refl _) (.slice none 0 0)).setCell (p := ⟨w.heap.size, 1, none⟩) (Nat.le_refl _) (.slice none 0 0)).setCell (p := ⟨w.heap.size, 2, none⟩) (Nat.le_refl _) (.int .u32 0)).setCell (p := ⟨w.heap.size, 3, none⟩) (Nat.le_refl _) (.int .u32 0)).setCell (p := ⟨w.heap.size, 4, none⟩) (Nat.le_refl _) (.int .u64 0))
  cases bad with
  | true =>
    have HG := Lib.hid (getR_bad HS.out)
    go_wp2
    refine bodyPost_ret (v := .tuple #[.agg #[.slice none 0 0, .slice none 0 0, .int .u32 0, .int .u32 0, .int .u64 0], .int .i64 ((4 : Nat) : Int)]) (res_edit _ _ w.heap.size _ 4 rfl rfl rfl HZ.out) rfl ⟨PX.zero, 4, .slice none 0 0, .slice none 0 0, rfl, HG, own_nil _ _ _ _, own_nil _ _ _ _, HBZ.out, fun _ => ⟨_, _, rfl⟩, fun _ => ⟨_, _, rfl⟩, fun k hk => by simp [Value.ownBlock] at hk⟩
  | false =>
    rcases HQ.out with ⟨hm, rfl, rfl⟩ | ⟨hm, rfl, rfl⟩
    · have HM := Lib.hid hm
      have HEQ := Lib.hid (bytesEqual_any w9 (.slice pa pn pc) (.slice sa sn sc) (ePut (PX.mk xs ks jo nx sq)) b (rd_of_own HPO.out).2 (HV.out.below HB9.out))
      clear hm
      by_cases he : ePut (PX.mk xs ks jo nx sq) = b
      · have HE := Lib.hid he
        have HG := Lib.hid (getR_ok HS.out HM.out HFIT.out he)
        have hd : decide (ePut (PX.mk xs ks jo nx sq) = b) = true := by simp [he]
        rw [hd] at HEQ
        clear he hd
        go_wp2_with fail
        refine HEQ.out.mono ?_
        rintro e10 w10 ⟨rfl, rfl⟩
        go_wp2
        refine bodyPost_ret (v := .tuple #[.agg #[.slice aa ak ac, .slice ra rk rc, .int .u32 jo, .int .u32 nx, .int .u64 sq], .int .i64 ((0 : Nat) : Int)]) (res_edit _ _ w.heap.size _ 0 rfl rfl rfl HX9.out) rfl ⟨PX.mk xs ks jo nx sq, 0, .slice aa ak ac, .slice ra rk rc, rfl, HG, ?_, ?_, HB9.out, Lib.hid (fun h => ⟨ak, ac, by rw [HIA.out (HAK.out.trans h)]⟩), Lib.hid (fun h => ⟨rk, rc, by rw [HIR.out (HRK.out.trans h)]⟩), HAPX⟩
        · show Hid (Own w9 w.heap.size 86 4 (.slice aa ak ac) xs.length (fcells xs))
          rw [← HAK.out]; exact HOA9
        · show Hid (Own w9 w.heap.size 24 1 (.slice ra rk rc) ks.length (ucells ks))
          rw [← HRK.out]; exact HOR9
      · have HG := Lib.hid (getR_ne HS.out he)
        have hd : decide (ePut (PX.mk xs ks jo nx sq) = b) = false := by simp [he]
        rw [hd] at HEQ
        clear he hd
        go_wp2_with fail
        refine HEQ.out.mono ?_
        rintro e10 w10 ⟨rfl, rfl⟩
        go_wp2
        refine bodyPost_ret (v := .tuple #[.agg #[.slice none 0 0, .slice none 0 0, .int .u32 0, .int .u32 0, .int .u64 0], .int .i64 ((4 : Nat) : Int)]) (res_edit _ _ w.heap.size _ 4 rfl rfl rfl HZ.out) rfl ⟨PX.zero, 4, .slice none 0 0, .slice none 0 0, rfl, HG, own_nil _ _ _ _, own_nil _ _ _ _, HBZ.out, fun _ => ⟨_, _, rfl⟩, fun _ => ⟨_, _, rfl⟩, fun k hk => by simp [Value.ownBlock] at hk⟩
    · have HG := Lib.hid (getR_may HS.out hm)
      clear hm
      go_wp2
      refine bodyPost_ret (v := .tuple #[.agg #[.slice none 0 0, .slice none 0 0, .int .u32 0, .int .u32 0, .int .u64 0], .int .i64 ((4 : Nat) : Int)]) (res_edit _ _ w.heap.size _ 4 rfl rfl rfl HZ.out) rfl ⟨PX.zero, 4, .slice none 0 0, .slice none 0 0, rfl, HG, own_nil _ _ _ _, own_nil _ _ _ _, HBZ.out, fun _ => ⟨_, _, rfl⟩, fun _ => ⟨_, _, rfl⟩, fun k hk => by simp [Value.ownBlock] at hk⟩
end Go.Proofs.YtimfcinkjjaigaaGreatDoor

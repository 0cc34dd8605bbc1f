/- A range over a function whose iterator and whose body each write blocks of their own: regions in a round, and the law. No condition. | Walks of slices.Chunk of entries and of its closure. The conditions: a slice of entries, parts of sixteen. | Walk of sorted.may. The condition: a slice of entries. | Walks of sorted.read and of its closure. The conditions: bytes of a bounded length, a number of entries. -/
import Derived.Test.YtbcnapkbdbefhaaGreatDoorRet
import Derived.Test.YtbcnapkbdbefhaaGreatDoorMemB
import Derived.RangeFuncRecord
import Derived.RangeFuncBound
import Derived.RangeFuncCalls
import Derived.RangeFuncOwn
import Derived.TacticsInMore
import Derived.LoopIn
import Derived.OwnWalkIn
import Derived.Deep.RegionHeld
import Derived.Test.YtbcnapkbdbefhaaGreatDoorSCut
import Derived.Test.YtbcnapkbdbefhaaGreatDoorSoA
import Derived.Test.YtbcnapkbdbefhaaGreatDoorBlkV
import Derived.Test.YtbcnapkbdbefhaaGreatDoorFramesA
namespace Go.Proofs.YtbcnapkbdbefhaaGreatDoor
open Go.RowKit

/-! ### An operation that is no defer statement is carried out in a round as anywhere -/
theorem oper_round {P : Program} {o : Oper} {a : Act} {w : World} {K : Act → World → Prop} {Q : Exit → Act → World → Prop} (l n : Nat) (hno : ∀ c, o.op ≠ .defer c) (h : o.wp P a w K Q) :
    o.wpIn (Fence.wide.inRound l) n P a w K Q := by
  refine ⟨fun _ _ => trivial, ?_⟩
  rw [Fence.inRound_round, Oper.semAt_some l _ o hno]
  unfold Oper.wp at h
  generalize (execOp a.eval o).run P w = r at *
  have hd : (Fence.wide.inRound l).depth.isSome = true → 1 ≤ n := fun e => by cases e
  cases r with
  | ok x w' =>
    cases x <;> simp only [Oper.upon, Oper.uponIn] at h ⊢
    case value => exact h
    case skip => exact h
    case defer => exact h
    case enter => exact ⟨hd, CallsIn.inRound l (callsIn_wide.2 h)⟩
    case row => exact ⟨hd, fun c cs _ => let ⟨v, w2, r, s⟩ := h c cs; ⟨v, w2, r, stepsIn_wide.2 s⟩⟩
  | halt x w' => cases x <;> simp only [Oper.upon, Oper.uponIn] at h ⊢ <;> exact h
theorem ops_round {P : Program} {ops : Array Oper} {Q : Exit → Act → World → Prop} (l n : Nat) (hno : ∀ (i : Nat) (o : Oper) (c : Call), ops[i]? = some o → o.op ≠ .defer c) (hQ : ¬ LetsOut Q) :
    ∀ (is : List Nat) (a : Act) (w : World), wpOps P ops Q is a w → wpOpsIn (Fence.wide.inRound l) n P ops Q is a w
  | [], _, _, h => h
  | i :: rest, a, w, h => by
    simp only [wpOps] at h
    simp only [wpOpsIn]
    cases ho : ops[i]? with
    | none => simp only [ho] at h; exact ops_round l n hno hQ rest a w h
    | some o =>
      simp only [ho] at h
      simp only
      split
      · rename_i hw
        simp only [hw, if_true] at h
        rcases h with h | h
        · exact Oper.wpIn_mono (fun a w h => ops_round l n hno hQ rest a w h) (oper_round l n (fun c => hno i o c ho) h)
        · exact absurd h.2 hQ
      · rename_i hw
        simp only [hw] at h
        exact ⟨fun _ _ => trivial, ops_round l n hno hQ rest _ w h⟩
/-- whether an array of operations holds no defer statement -/
def noDefer (ops : Array Oper) : Bool := ops.toList.all fun o => match o.op with | .defer _ => false | _ => true
theorem noDefer_spec {ops : Array Oper} (h : noDefer ops = true) (i : Nat) (o : Oper) (c : Call) (hi : ops[i]? = some o) : o.op ≠ .defer c := by
  intro e
  have h1 := List.all_eq_true.1 h o (by obtain ⟨h1, h2⟩ := Array.getElem?_eq_some_iff.1 hi; rw [← h2]; simp)
  rw [e] at h1
  cases h1
theorem region_round {P : Program} {ops : Array Oper} {Q : Exit → Act → World → Prop} {id : Nat} {a : Act} {w : World} {l n : Nat} (hno : noDefer ops = true) (hQ : ¬ LetsOut Q)
    (h : wpList P ops Q ops.toList a w) : (Code.region id ops false).wpIn (Fence.wide.inRound l) n P Q a w :=
  wpIn_region (ops_round l n (noDefer_spec hno) hQ _ _ _ (by rw [List.range_eq_range', ← Array.length_toList, wpOps_eq_wpList ops.toList 0 (by simp)]; exact h))
theorem region_round_held {P : Program} {ops : Array Oper} {Q : Exit → Act → World → Prop} {id : Nat} {a : Act} {w : World} {l n : Nat} {S : World → Prop} (hno : noDefer ops = true) (hQ : ¬ LetsOut Q)
    (hm : P.follows .mixedOrders = true) (hS : S w.drew) (h : S w.drew → wpAnyH P .any ops Q S ops.size (Array.replicate ops.size false) a w.drew) :
    (Code.region id ops true).wpIn (Fence.wide.inRound l) n P Q a w :=
  wpIn_region_draw fun t => by
    refine ops_round l n (noDefer_spec hno) hQ _ _ _ ?_
    simp only [Region.schedule, hm, Bool.true_or, if_true]
    exact wpAny_sound ops.size t _ a _ (wpAny_of_held _ _ _ _ (h hS))

/-! ### What stays: a set of blocks -/
structure KeptX (X : Nat → Prop) (w w' : World) : Prop where
  os : w'.os = w.os
  tape : w'.tape = w.tape
  output : w'.output = w.output
  size : w.heap.size ≤ w'.heap.size
  block : ∀ k, k < w.heap.size → X k → w'.heap[k]? = w.heap[k]?
theorem KeptX.refl (X : Nat → Prop) (w : World) : KeptX X w w := ⟨rfl, rfl, rfl, Nat.le_refl _, fun _ _ _ => rfl⟩
theorem KeptX.trans {X : Nat → Prop} {a b c : World} (h : KeptX X a b) (k : KeptX X b c) : KeptX X a c :=
  ⟨k.os.trans h.os, k.tape.trans h.tape, k.output.trans h.output, Nat.le_trans h.size k.size, fun i hi hx => (k.block i (Nat.lt_of_lt_of_le hi h.size) hx).trans (h.block i hi hx)⟩
theorem KeptX.of_below {X : Nat → Prop} {w w' : World} (h : Below w.heap.size w w') : KeptX X w w' := ⟨h.os, h.tape, h.output, h.size, fun k hk _ => h.block k hk⟩
theorem KeptX.mono {X Y : Nat → Prop} {w w' : World} (h : KeptX X w w') (hXY : ∀ k, Y k → X k) : KeptX Y w w' := ⟨h.os, h.tape, h.output, h.size, fun k hk hy => h.block k hk (hXY k hy)⟩
theorem KeptX.below {X : Nat → Prop} {w w' : World} {n : Nat} (h : KeptX X w w') (hX : ∀ k, k < n → X k) (hn : n ≤ w.heap.size) : Below n w w' := ⟨h.os, h.tape, h.output, h.size, fun k hk => h.block k (by omega) (hX k hk)⟩
theorem KeptX.set {X : Nat → Prop} (w : World) (p : Addr) (hp : ¬ X p.block) (v : Value) : KeptX X w (w.setCell p v) := by
  have h := Below.setCell (B := 0) (Below.refl 0 w) (p := p) (Nat.zero_le _) v
  exact ⟨h.os, h.tape, h.output, h.size, fun k _ hx => Below.heap_setCell _ _ _ _ (fun e => hp (e ▸ hx))⟩
theorem KeptX.put {X : Nat → Prop} (w : World) (l : Nat) (hl : ¬ X l) (o : Obj) : KeptX X w (w.putObj l o) :=
  ⟨rfl, rfl, rfl, by simp, fun k _ hx => World.putObj_heap_other (fun e => hl (e ▸ hx))⟩
theorem KeptX.blk {X : Nat → Prop} {w w' : World} {g : Nat} {cs : Array Value} {t : TypeId} (h : KeptX X w w') (hX : X g) (hg : Blk w g cs t) : Blk w' g cs t := by
  have := hg.lt
  unfold Blk at *
  rw [h.block g this hX]; exact hg
/-- all cells stay when a block that holds none turns -/
theorem put_cells {w : World} {l : Nat} {o o' : Obj} (h : w.heap[l]? = some o') (ho : o'.isCells = false) : ∀ b i x, w.cell? ⟨b, i, none⟩ = some x → (w.putObj l o).cell? ⟨b, i, none⟩ = some x := by
  intro b i x hx
  obtain ⟨o2, h2, h3⟩ := cells_of_cell hx
  have hne : b ≠ l := fun e => by simp only [e] at h2; rw [h] at h2; cases h2; rw [ho] at h3; cases h3
  rw [World.cell?_of_block (World.putObj_heap_other hne)]; exact hx

/-- a round's body ends so -/
def rngPost (R : World → Prop) : Exit → Act → World → Prop
  | .normal, _, W' => R W'
  | _, _, _ => False
theorem rng_out (R : World → Prop) : ¬ LetsOut (rngPost R) := fun ⟨_, _, h⟩ => h

/-- **THE LAW**: the iterator's own steps are Z (they keep the caller's invariant and the two blocks of the loop); the body writes block E and blocks that it made -/
theorem wp_range {α : Type} {P : Program} {g : Operand} {ps : Array Tmp} {assign body : Code} {Q : Exit → Act → World → Prop} {a : Act} {w : World} (n : Nat)
    {gf : Nat} {lb : Array Value} (hg : a.eval g = .func (.func gf) #[] lb) (eg : ∀ args w, (callFunc gf args).run P w = .ok (.enter gf args) w)
    (encs : α → Array Value) (hps : ∀ x, (encs x).size = ps.size) (E : Nat) (hE : E < w.heap.size)
    (I : List α → World → Prop) (h0 : ∀ o o', I [] ((w.alloc o).alloc o')) (hIo : ∀ s W l o, I s W → (∃ o', W.heap[l]? = some o' ∧ o'.isCells = false) → (l = w.heap.size ∨ l = w.heap.size + 1) → I s (W.putObj l o))
    (Ok : List α → α → World → Prop) (hOo : ∀ s x W l o, Ok s x W → (∃ o', W.heap[l]? = some o' ∧ o'.isCells = false) → (l = w.heap.size ∨ l = w.heap.size + 1) → Ok s x (W.putObj l o))
    (Z : World → World → Prop) (hZI : ∀ s A B, I s A → Z A B → I s B) (hZo : ∀ A B k, Z A B → (k = w.heap.size ∨ k = w.heap.size + 1) → k < A.heap.size → B.heap[k]? = A.heap[k]?)
    (S : List α → Prop)
    (hit : ∀ (l : Nat) (J : List α → World → Prop) (W1 : World), (∀ s A, J s A → I s A) → (∀ s A B, J s A → Z A B → J s B) →
      (∀ pre x W, J pre W → Ok pre x W → YieldAt Fence.wide (n - 1 - 1) P l (encs x) W fun e W' => e = .returned (.bool true) ∧ J (pre ++ [x]) W' ∧ KeptX (fun k => k < w.heap.size ∧ k ≠ E) W W') →
      Below w.heap.size w W1 → J [] W1 →
      CallsIn Fence.wide (n - 1) P gf (#[.func (.yield l) #[] #[]] ++ lb) W1 fun e W' => (∃ v, e = .returned v) ∧ ∃ xs, S xs ∧ J xs W')
    (a₁ : α → Act)
    (hassign : ∀ (l : Nat) (x : α) (W : World) (K : Act → World → Prop), K (a₁ x) W →
      assign.wpIn (Fence.wide.inRound l) (n - 1 - 1) P (Exit.then K (fun _ _ _ => False)) { tmps := (ps.zip (encs x)).foldl (fun t (p, v) => t.setIfInBounds p v) a.tmps, defers := [] } W)
    (hbody : ∀ (l : Nat) (pre : List α) (x : α) (W : World), w.heap.size + 2 ≤ W.heap.size → I pre W → Ok pre x W →
      body.wpIn (Fence.wide.inRound l) (n - 1 - 1) P (rngPost fun W' => I (pre ++ [x]) W' ∧ KeptX (fun k => k < w.heap.size + 2 ∧ k ≠ E) W W') (a₁ x) W)
    (hdone : ∀ (xs : List α) (W : World), S xs → I xs W → W.heap[w.heap.size]? = some (.deferred (some [])) → Q .normal { a with defers := { target := .collected w.heap.size, args := #[] } :: a.defers } W) :
    (Code.rangeFunc g ps assign body).wpIn Fence.wide n P Q a w := by
  refine wpIn_rangeFunc ?_
  intro fn hfn
  obtain ⟨rec, hrec⟩ : ∃ rec : LoopState → Option Code → Loop, rec = fun st pe => { state := st, pending := pe, fn, tmps := a.tmps, params := ps, assign, body, defers := w.heap.size } := ⟨_, rfl⟩
  obtain ⟨W1, hW1⟩ : ∃ W1, (w.alloc (.deferred (some []))).alloc (.loop (rec .ready none)) = W1 := ⟨_, rfl⟩
  have hL1 : W1.heap[w.heap.size + 1]? = some (.loop (rec .ready none)) := by
    rw [← hW1]; have := World.alloc_heap_new (w.alloc (.deferred (some []))) (.loop (rec .ready none)); rwa [World.size_alloc] at this
  have hK1 : W1.heap[w.heap.size]? = some (.deferred (some [])) := by
    rw [← hW1]; exact (Below.heap_alloc _ _ _ (by simp)).trans (World.alloc_heap_new w _)
  have hI1 : I [] W1 := by rw [← hW1]; exact h0 _ _
  have hb1 : Below w.heap.size w W1 := by rw [← hW1]; exact ((Below.refl _ w).alloc (Nat.le_refl _) _).alloc (by simp) _
  refine ⟨w.heap.size + 1, [{ target := .collected w.heap.size, args := #[] }], W1, { target := .fn (.func gf) lb, args := #[.func (.yield (w.heap.size + 1)) #[] #[]] }, W1, gf,
    #[.func (.yield (w.heap.size + 1)) #[] #[]] ++ lb, W1, ?_, ?_, fun _ _ => trivial, ?_, (fun e => by cases e), ?_⟩
  · rw [← hW1, hrec]; exact run_enterLoop_outer _ _ _ _ _
  · simp only [resolve, hg]
    simp [go_sem]
  · simp [invoke, go_sem, eg]
  · refine (hit (w.heap.size + 1)
      (fun pre W => I pre W ∧ W.heap[w.heap.size + 1]? = some (.loop (rec .ready none)) ∧ W.heap[w.heap.size]? = some (.deferred (some []))) W1 (fun s A h => h.1)
      (fun s A B hs hz => ⟨hZI s A B hs.1 hz, (hZo A B _ hz (.inr rfl) (Array.getElem?_eq_some_iff.1 hs.2.1).1).trans hs.2.1, (hZo A B _ hz (.inl rfl) (Array.getElem?_eq_some_iff.1 hs.2.2).1).trans hs.2.2⟩)
      ?_ hb1 ⟨hI1, hL1, hK1⟩).mono ?_
    · rintro pre x W ⟨hi, hl, hk⟩ hok
      have hlt : w.heap.size + 1 < W.heap.size := (Array.getElem?_eq_some_iff.1 hl).1
      have hy := run_yield (P := P) (args := encs x) hl (by rw [hrec]; exact hps x)
      rw [hrec] at hy
      refine ⟨fn, _, assign, body, hy, roundIn_of_wpIn hfn (hassign _ x W _ ⟨_, run_beginRound hl (by rw [hrec]), ?_⟩)⟩
      obtain ⟨W2, hW2⟩ : ∃ W2, W.putObj (w.heap.size + 1) (.loop { rec .ready none with state := .busy }) = W2 := ⟨_, rfl⟩
      have hl2 : W2.heap[w.heap.size + 1]? = some (.loop { rec .ready none with state := .busy }) := by rw [← hW2]; exact World.putObj_heap_same hlt
      have hk2 : W2.heap[w.heap.size]? = some (.deferred (some [])) := by rw [← hW2]; exact (World.putObj_heap_other (by omega)).trans hk
      have hi2 : I pre W2 := by rw [← hW2]; exact hIo _ _ _ _ hi ⟨_, hl, rfl⟩ (.inr rfl)
      have ho2 : Ok pre x W2 := by rw [← hW2]; exact hOo _ _ _ _ _ hok ⟨_, hl, rfl⟩ (.inr rfl)
      have hs2 : w.heap.size + 2 ≤ W2.heap.size := by rw [← hW2]; simp; omega
      have hkx : KeptX (fun k => k < w.heap.size ∧ k ≠ E) W W2 := by rw [← hW2]; exact KeptX.put _ _ (fun h => by omega) _
      have hgoal := hbody (w.heap.size + 1) pre x W2 hs2 hi2 ho2
      rw [hW2]
      refine wpIn_mono hgoal ?_
      rintro e a3 W3 hp
      cases e with
      | normal =>
        obtain ⟨hi3, hk3⟩ := hp
        have hl3 : W3.heap[w.heap.size + 1]? = some (.loop { rec .ready none with state := .busy }) := (hk3.block _ (by omega) ⟨by omega, by omega⟩).trans hl2
        have hk3' : W3.heap[w.heap.size]? = some (.deferred (some [])) := (hk3.block _ (by omega) ⟨by omega, by omega⟩).trans hk2
        have hr := run_endRound (P := P) none hl3
        rw [hrec] at hr
        refine ⟨_, _, hr, rfl, ⟨hIo _ _ _ _ hi3 ⟨_, hl3, rfl⟩ (.inr rfl), ?_, (World.putObj_heap_other (by omega)).trans hk3'⟩, (hkx.trans (hk3.mono fun k h => ⟨by omega, h.2⟩)).trans (KeptX.put _ _ (fun h => by omega) _)⟩
        rw [hrec]
        exact World.putObj_heap_same (Array.getElem?_eq_some_iff.1 hl3).1
      | ret => exact hp.elim
      | exit id => exact hp.elim
      | goto t => exact hp.elim
      | panic ch => exact hp.elim
      | outgrown => exact hp.elim
    · rintro e W2 ⟨⟨v, rfl⟩, xs, hS, hi, hl, hk⟩
      exact ⟨none, _, by have := run_endLoop (P := P) hl (by rw [hrec]; simp); rw [hrec] at this; exact this, hdone xs _ hS (hIo _ _ _ _ hi ⟨_, hl, rfl⟩ (.inr rfl)) ((World.putObj_heap_other (by omega)).trans hk)⟩
/-- leaving a function behind such a loop -/
theorem ret_mark {n : Nat} {P : Program} {fn : Func} {R : Ending → World → Prop} {a : Act} {W : World} {D : Nat} {v : Value} (hd : a.defers = [{ target := .collected D, args := #[] }]) (h : W.heap[D]? = some (.deferred (some [])))
    (hr : (results fn a.tmps).run P (W.putObj D (.deferred none)) = .ok v (W.putObj D (.deferred none))) (hR : R (.returned v) (W.putObj D (.deferred none))) : bodyPostM Fence.wide n P fn R .ret a W := by
  show LeavesInM Fence.wide n P fn a.tmps R a.defers .returning W
  rw [hd]
  exact ⟨by simp, .inl ⟨_, _, rfl, run_takeDeferred h, ⟨v, hr, hR⟩⟩⟩
theorem ret_none {n : Nat} {P : Program} {fn : Func} {R : Ending → World → Prop} {a : Act} {W : World} {v : Value} (hd : a.defers = [])
    (hr : (results fn a.tmps).run P W = .ok v W) (hR : R (.returned v) W) : bodyPostM Fence.wide n P fn R .ret a W := by
  show LeavesInM Fence.wide n P fn a.tmps R a.defers .returning W
  rw [hd]
  exact ⟨v, hr, hR⟩
end Go.Proofs.YtbcnapkbdbefhaaGreatDoor
namespace Go.Proofs.YtbcnapkbdbefhaaGreatDoor
open Go.RowKit
attribute [local go_sem] Oper.semAt_some

theorem chunk_any (w : World) (v : Value) (h1 : v.oneCell' = true) : Calls Tryz.prog 74 #[v, .int .i64 16] w fun e w' =>
    e = .returned (.func (.func 127) #[] #[.pointer (some ⟨w.heap.size, 0, none⟩), .pointer (some ⟨w.heap.size + 1, 0, none⟩)]) ∧ w' = (w.alloc (.cells #[v] 29)).alloc (.cells #[.int .i64 16] 3) := by
  go_enter Tryz.func74, Tryz.ntmps74
  go_wp2
  go_ret
  exact ⟨by simp, rfl⟩
/-- what a round is told -/
def ChOk (vs : Value) (L : List PE) (pre : List (Value × List PE)) (x : Value × List PE) (W : World) : Prop := RdE W x.1 x.2 ∧ (x.2 = (L.drop (16 * pre.length)).take 16 ∧ 16 * pre.length < L.length) ∧ ∀ W', RdE W' vs L → RdE W' x.1 x.2
def ChAll (L : List PE) (xs : List (Value × List PE)) : Prop := L.length ≤ 16 * xs.length ∧ 16 * xs.length < L.length + 16
set_option maxRecDepth 100000 in
set_option maxHeartbeats 2000000 in
theorem chunk1_any (n l nb gS gN E : Nat) (L : List PE) (vs : Value) (J : List (Value × List PE) → World → Prop)
    (hnb : gS < nb ∧ gN < nb ∧ gS ≠ E ∧ gN ≠ E) (hL : L.length ≤ 1000000)
    (hJI : ∀ s A, J s A → RdE A vs L) (hJZ : ∀ s A B, J s A → Below A.heap.size A B → J s B)
    (hY : ∀ pre x W, J pre W → ChOk vs L pre x W → YieldAt Fence.wide (n - 1) Tryz.prog l #[x.1] W fun e W' => e = .returned (.bool true) ∧ J (pre ++ [x]) W' ∧ KeptX (fun k => k < nb ∧ k ≠ E) W W')
    (W : World) (va : Option Addr) (vc : Nat) (hvs : vs = .slice va L.length vc) (hS : Blk W gS #[vs] 29) (hN : Blk W gN #[.int .i64 16] 3) (h0 : J [] W) :
    CallsIn Fence.wide n Tryz.prog 127 #[.func (.yield l) #[] #[], .pointer (some ⟨gS, 0, none⟩), .pointer (some ⟨gN, 0, none⟩)] W fun e W' =>
      (∃ v, e = .returned v) ∧ ∃ xs, ChAll L xs ∧ J xs W' := by
  have HJI := Lib.hid hJI
  have HJZ := Lib.hid hJZ
  have HY := Lib.hid hY
  have HJ0 := Lib.hid h0
  obtain ⟨vn, hvn⟩ : ∃ k, k = L.length := ⟨_, rfl⟩
  rw [← hvn] at hvs hL
  have HVN := Lib.hid hvn
  subst hvs
  have HS0 := Lib.hid hS
  have HN0 := Lib.hid hN
  clear hJI hJZ hY hS hN h0 hvn
  obtain ⟨n1, n2, n3, n4⟩ := hnb
  refine callsIn_wide.2 ?_
  go_enter Tryz.func127, Tryz.ntmps127
  go_wp2_with fail
  try show Code.wp _ _ _ _ _
  go_loopw [4] (fun i wr => ∃ (o : Nat) (pre : List (Value × List PE)), i = .int .i64 o ∧ o < vn + 16 ∧ Hid (o = 16 * pre.length ∧ J pre wr ∧ Blk wr gS #[.slice va vn vc] 29 ∧ Blk wr gN #[.int .i64 16] 3)) (fun i _ => vn + 16 - (intOf i).toNat)
  case atStart => exact ⟨0, [], rfl, by omega, ⟨rfl, HJ0.out, HS0.out, HN0.out⟩⟩
  case round =>
    obtain ⟨o, pre, rfl, hon, HX⟩ := hrel
    have HS := HX.out.2.2.1
    have HN := HX.out.2.2.2
    have HO := Lib.hid HX.out.1
    have HJ := Lib.hid HX.out.2.1
    have c0 : wr.cell? ⟨gS, 0, none⟩ = some (.slice va vn vc) := HS.cellv 0 _ rfl
    have cN : wr.cell? ⟨gN, 0, none⟩ = some (.int .i64 16) := HN.cellv 0 _ rfl
    have HSB := Lib.hid HS
    have HNB := Lib.hid HN
    clear HS HN HX
    by_cases hlt : o < vn
    · obtain ⟨m, hm⟩ : ∃ m, m = min 16 (vn - o) := ⟨_, rfl⟩
      have hr := HJI.out _ _ HJ.out
      obtain ⟨ra, rc, hrun, _⟩ := cutE_rest hr o (vn - o) (by have := HVN.out; omega)
      obtain ⟨wa, wc, hwin, hwr⟩ := cutE_win hr o m (by have := HVN.out; omega)
      have hrun2 := fun w' => hrun w' .i64
      have hok : ChOk (.slice va vn vc) L pre (.slice wa m wc, (L.drop o).take m) wr := by
        refine ⟨hwr wr hr, ⟨?_, by have := HO.out; have := HVN.out; omega⟩, fun W' h => hwr W' h⟩
        rw [← HO.out]
        rcases Nat.lt_or_ge (vn - o) 16 with h | h
        · rw [List.take_of_length_le (by rw [List.length_drop]; have := HVN.out; omega), List.take_of_length_le (by rw [List.length_drop]; have := HVN.out; omega)]
        · rw [show m = 16 from by omega]
      have hm1 : 0 < m := by omega
      have hm2 : m ≤ 16 := by omega
      have hmo : o + m ≤ vn := by omega
      have HMO : Hid (16 ≤ vn - o → m = 16) := fun h => by omega
      have hmin : (if ((vn - o : Nat) : Int) < 16 then ((vn - o : Nat) : Int) else 16) = (m : Int) := by rw [hm]; split <;> omega
      have HOK := Lib.hid hok
      have HJD : Hid (J pre wr.drew ∧ ChOk (.slice va vn vc) L pre (.slice wa m wc, (L.drop o).take m) wr.drew) := ⟨HJZ.out _ _ _ HJ.out (Below.refl _ _).drew, ⟨hok.1.below (Below.refl _ _).drew, hok.2⟩⟩
      clear hr hrun hwr hok hm
      go_upto_region 3 with (fail)
      go_region
      have HOK2 := HJD.out.2
      obtain ⟨fn', tmps, assign, body, hy, hR⟩ := HY.out pre _ _ HJD.out.1 HOK2
      clear HOK2
      dsimp only at hy
      obtain ⟨wd, hwd⟩ : ∃ x, x = wr.drew := ⟨_, rfl⟩
      have d0 : wd.cell? ⟨gS, 0, none⟩ = some (.slice va vn vc) := by rw [hwd]; exact c0
      have dN : wd.cell? ⟨gN, 0, none⟩ = some (.int .i64 16) := by rw [hwd]; exact cN
      have HSD : Hid (Blk wd gS #[.slice va vn vc] 29 ∧ Blk wd gN #[.int .i64 16] 3) := by rw [hwd]; exact ⟨HSB.out.drew, HNB.out.drew⟩
      rw [← hwd] at hy hR ⊢
      clear c0 cN hwd hrun2 hmin
      go_upto_region 4 with (fail)
      refine wpIn_wide (n := n).1 ?_
      gi_wp2
      refine ⟨fun e => (by cases e), hR.mono ?_⟩
      clear hR
      rintro e w4 ⟨rfl, hJ4, hk4⟩
      clear hy
      have HS4 := hk4.blk ⟨n1, n3⟩ HSD.out.1
      have HN4 := hk4.blk ⟨n2, n4⟩ HSD.out.2
      have c04 : w4.cell? ⟨gS, 0, none⟩ = some (.slice va vn vc) := HS4.cellv 0 _ rfl
      have cN4 : w4.cell? ⟨gN, 0, none⟩ = some (.int .i64 16) := HN4.cellv 0 _ rfl
      have HX4 : Hid (o + 16 = 16 * (pre ++ [(Value.slice wa m wc, (L.drop o).take m)]).length ∧ J (pre ++ [(Value.slice wa m wc, (L.drop o).take m)]) w4 ∧ Blk w4 gS #[.slice va vn vc] 29 ∧ Blk w4 gN #[.int .i64 16] 3) :=
        ⟨by have := HO.out; rw [List.length_append, List.length_singleton]; omega, hJ4, HS4, HN4⟩
      clear hk4 HS4 HN4 hJ4 d0 dN
      gi_wp2
      go_wp2_with fail
      go_roundw
      case rel => exact ⟨o + 16, _, by go_num, by omega, HX4⟩
      case measure => simp [intOf]; omega
    · have HFIN : Hid (ChAll L pre) := ⟨by have := HO.out; have := HVN.out; omega, by have := HO.out; have := HVN.out; omega⟩
      go_wp2_with fail
      go_end0
      exact ⟨⟨_, rfl⟩, pre, HFIN.out, HJ.out⟩
end Go.Proofs.YtbcnapkbdbefhaaGreatDoor
namespace Go.Proofs.YtbcnapkbdbefhaaGreatDoor
open Go.RowKit

theorem rises_no10 {E : List Ent} {k n : Nat} (h : okAt E k = false) (hk : k < n) : risesN E n = false := by
  cases hr : risesN E n
  · rfl
  · rw [(risesN_iff E n).1 hr k hk] at h; cases h
set_option maxRecDepth 100000 in
set_option maxHeartbeats 8000000 in
theorem sortedMay_any (w : World) (v : Value) (l : List PE) (hv : RdE w v l) (hl : l.length ≤ 1000000) :
    Calls Tryz.prog 73 #[v] w fun e w' => e = .returned (.bool (mayS (entsOf l))) ∧ Below w.heap.size w w' := by
  have HV0 := Lib.hid hv
  obtain ⟨va, vc, rfl, h1, h2, h3⟩ := hv
  clear h3
  obtain ⟨vn, hvn⟩ : ∃ n, n = l.length := ⟨_, rfl⟩
  have HVN := Lib.hid hvn
  rw [← hvn] at h1 HV0 hl ⊢
  have HMA : Hid (mayS (entsOf l) = (decide (0 < vn) && risesN (entsOf l) vn)) := by
    show _ = _
    rw [mayS, entsOf_length, hvn]
  clear hvn
  go_enter Tryz.func73, Tryz.ntmps73
  go_wp2_with fail
  try show Code.wp _ _ _ _ _
  go_loopw [7] (fun i wr => ∃ k : Nat, k ≤ vn ∧ i = .int .i64 k ∧ Hid (risesN (entsOf l) k = true) ∧ Hid (Below w.heap.size w wr)) (fun i _ => vn - (intOf i).toNat)
  case atStart => exact ⟨0, Nat.zero_le _, rfl, rfl, Below.refl _ _⟩
  case round =>
    obtain ⟨k, hk, rfl, HRK, HBR⟩ := hrel
    by_cases hlt : k < vn
    · have hkl : k < l.length := by rw [← HVN.out]; exact hlt
      have HV := Lib.hid (HV0.out.below HBR.out)
      have hae := entsOf_at l k hkl
      obtain ⟨a', c', hve, _, _, hcell⟩ := HV.out
      obtain ⟨b3, off3, hae2, c0, c1, c2, c3⟩ := hcell k hkl
      simp only [Value.slice.injEq] at hve
      obtain ⟨e1, el, ec⟩ := hve
      rw [hae2] at e1
      subst e1
      clear el ec hcell hae2
      obtain ⟨x, hx⟩ : ∃ x, x = l[k] := ⟨_, rfl⟩
      rw [← hx] at c0 c1 c2 c3 hae
      clear hx
      obtain ⟨xk, xs, xg, xu⟩ := x
      simp only at c0 c1 c2 c3
      have HOK : Hid (okAt (entsOf l) k = (checkK xk.data.toList && (decide (xu.size ≤ 256) && (!xg || xu.toList.isEmpty)) && (k == 0 || decide (cmpE (atE (entsOf l) (k - 1)) (entOf xk xs xg xu) < 0)))) := by
        show _ = _
        unfold okAt
        rw [hae]
        simp only [fitE, PE.ent, entOf, Lib.toList_data, size_data]
        rfl
      have HNO : Hid (okAt (entsOf l) k = false → mayS (entsOf l) = false) := fun h => by rw [HMA.out, rises_no10 h hlt, Bool.and_false]
      have HYES : Hid (okAt (entsOf l) k = true → risesN (entsOf l) (k + 1) = true) := fun h => by rw [risesN, HRK.out, h]; rfl
      have HCA : ∀ b, checkK xk.data.toList = b → Hid (∀ w', Calls Tryz.prog 126 #[.string xk] w' fun e w'' => e = .returned (.bool b) ∧ w'' = w') := fun b hb w' =>
        (check_any xk w').mono fun e w'' h => by rw [← hb]; exact ⟨h.1, h.2.symm⟩
      clear hae
      go_upto_region 4 with (fail)
      clear c0 c1 c2 c3
      obtain ⟨g, hg⟩ : ∃ g, g = wr.heap.size := ⟨_, rfl⟩
      rw [← hg]
      obtain ⟨wa, hwa⟩ : ∃ wa, wa = wr.alloc (Obj.cells #[Value.string xk, Value.int IntKind.u64 ↑xs, Value.bool xg, Value.string xu] 34) := ⟨_, rfl⟩
      have HXA : Blk wa g #[Value.string xk, Value.int IntKind.u64 ↑xs, Value.bool xg, Value.string xu] 34 := by rw [hwa]; exact Blk.new_at _ _ _ _ hg
      have hb0 : Below wr.heap.size wr wa := by rw [hwa]; exact (Below.refl _ _).alloc (Nat.le_refl _) _
      rw [← hwa]
      obtain ⟨wd, hwd⟩ : ∃ wd, wd = wa.drew := ⟨_, rfl⟩
      have HWD := Lib.hid hwd
      have hbd : Below wr.heap.size wr wd := by rw [hwd]; exact hb0.drew
      have HBD := Lib.hid (HBR.out.trans (hbd.mono HBR.out.size))
      replace HV := Lib.hid (HV.out.below hbd)
      have hX : Blk wd g #[Value.string xk, Value.int IntKind.u64 ↑xs, Value.bool xg, Value.string xu] 34 := by rw [hwd]; exact HXA.drew
      have c0 : wd.cell? ⟨g, 0, none⟩ = some (.string xk) := hX.cellv 0 _ rfl
      have c1 : wd.cell? ⟨g, 1, none⟩ = some (.int .u64 xs) := hX.cellv 1 _ rfl
      have c2 : wd.cell? ⟨g, 2, none⟩ = some (.bool xg) := hX.cellv 2 _ rfl
      have c3 : wd.cell? ⟨g, 3, none⟩ = some (.string xu) := hX.cellv 3 _ rfl
      clear hwd hbd hb0 hX HXA hwa hg
      cases hck : checkK xk.data.toList
      · have HCK := HCA _ hck
        have HCE := Lib.hid hck
        clear HCA hck
        refine still_tail (wd := wd) 33 ?hm ?hB ?hwd ?h
        case hm => kernel_rfl
        case hB => kernel_rfl
        case hwd => exact HWD.out
        simp only [List.take_succ_cons, List.take_zero, List.drop_succ_cons, List.drop_zero]
        repeat (first | ((with_reducible refine still_skip ?hw ?hrest); case hw => rfl; simp only [Act.put, List.setIfInBounds_toArray, List.set_cons_zero, List.set_cons_succ]) | ((with_reducible refine wpStill_step (fun K hK => ?_)); go_simp; refine hK _ ?_; clear hK K))
        (with_reducible refine wpStill_step (fun K hK => ?_))
        go_simp
        refine ⟨_, HCK.out _, hK _ ?_⟩
        clear hK K
        repeat (first | ((with_reducible refine still_skip ?hw ?hrest); case hw => rfl; simp only [Act.put, List.setIfInBounds_toArray, List.set_cons_zero, List.set_cons_succ]) | ((with_reducible refine wpStill_step (fun K hK => ?_)); go_simp; refine hK _ ?_; clear hK K))
        try refine wpStill_nil ?_
        have HF : Hid (mayS (entsOf l) = false) := HNO.out (by rw [HOK.out, HCE.out]; rfl)
        clear c0 c1 c2 c3
        go_wp2_with fail
        go_ret
        exact ⟨ret_bool HF.out.symm, HBD.out⟩
      have HCK := HCA _ hck
      have HCE := Lib.hid hck
      clear HCA hck
      by_cases hvl : xu.size ≤ 256
      case neg =>
        have hvd : decide (256 < (xu.size : Int)) = true := by simp; omega
        have HVD : Hid (decide (xu.size ≤ 256) = false) := by show _ = _; simp; omega
        clear hvl
        refine still_tail (wd := wd) 33 ?hm ?hB ?hwd ?h
        case hm => kernel_rfl
        case hB => kernel_rfl
        case hwd => exact HWD.out
        simp only [List.take_succ_cons, List.take_zero, List.drop_succ_cons, List.drop_zero]
        repeat (first | ((with_reducible refine still_skip ?hw ?hrest); case hw => rfl; simp only [Act.put, List.setIfInBounds_toArray, List.set_cons_zero, List.set_cons_succ]) | ((with_reducible refine wpStill_step (fun K hK => ?_)); go_simp; refine hK _ ?_; clear hK K))
        (with_reducible refine wpStill_step (fun K hK => ?_))
        go_simp
        refine ⟨_, HCK.out _, hK _ ?_⟩
        clear hK K
        repeat (first | ((with_reducible refine still_skip ?hw ?hrest); case hw => rfl; simp only [Act.put, List.setIfInBounds_toArray, List.set_cons_zero, List.set_cons_succ]) | ((with_reducible refine wpStill_step (fun K hK => ?_)); go_simp; refine hK _ ?_; clear hK K))
        try refine wpStill_nil ?_
        have HF : Hid (mayS (entsOf l) = false) := HNO.out (by rw [HOK.out, HCE.out, HVD.out]; rfl)
        clear c0 c1 c2 c3
        go_wp2_with fail
        go_ret
        exact ⟨ret_bool HF.out.symm, HBD.out⟩
      have hvd : decide (256 < (xu.size : Int)) = false := by simp; omega
      have HVD : Hid (decide (xu.size ≤ 256) = true) := by show _ = _; simp; omega
      clear hvl
      have hgv : ∃ gv : Bool, (!xg || xu.toList.isEmpty) = gv := ⟨_, rfl⟩
      obtain ⟨gv, hgv⟩ := hgv
      have HGV := Lib.hid hgv
      cases gv
      · obtain ⟨hg1, hg2⟩ : xg = true ∧ xu.toList.isEmpty = false := by simpa using hgv
        subst hg1
        clear hgv
        refine still_tail (wd := wd) 33 ?hm ?hB ?hwd ?h
        case hm => kernel_rfl
        case hB => kernel_rfl
        case hwd => exact HWD.out
        simp only [List.take_succ_cons, List.take_zero, List.drop_succ_cons, List.drop_zero]
        repeat (first | ((with_reducible refine still_skip ?hw ?hrest); case hw => rfl; simp only [Act.put, List.setIfInBounds_toArray, List.set_cons_zero, List.set_cons_succ]) | ((with_reducible refine wpStill_step (fun K hK => ?_)); go_simp; refine hK _ ?_; clear hK K))
        (with_reducible refine wpStill_step (fun K hK => ?_))
        go_simp
        refine ⟨_, HCK.out _, hK _ ?_⟩
        clear hK K
        repeat (first | ((with_reducible refine still_skip ?hw ?hrest); case hw => rfl; simp only [Act.put, List.setIfInBounds_toArray, List.set_cons_zero, List.set_cons_succ]) | ((with_reducible refine wpStill_step (fun K hK => ?_)); go_simp; refine hK _ ?_; clear hK K))
        try refine wpStill_nil ?_
        have HF : Hid (mayS (entsOf l) = false) := HNO.out (by rw [HOK.out, HCE.out, HVD.out, HGV.out]; rfl)
        clear c0 c1 c2 c3
        go_wp2_with fail
        go_ret
        exact ⟨ret_bool HF.out.symm, HBD.out⟩
      cases xg
      · clear hgv
        by_cases hk0 : k = 0
        · subst hk0
          refine still_tail (wd := wd) 33 ?hm ?hB ?hwd ?h
          case hm => kernel_rfl
          case hB => kernel_rfl
          case hwd => exact HWD.out
          simp only [List.take_succ_cons, List.take_zero, List.drop_succ_cons, List.drop_zero]
          repeat (first | ((with_reducible refine still_skip ?hw ?hrest); case hw => rfl; simp only [Act.put, List.setIfInBounds_toArray, List.set_cons_zero, List.set_cons_succ]) | ((with_reducible refine wpStill_step (fun K hK => ?_)); go_simp; refine hK _ ?_; clear hK K))
          (with_reducible refine wpStill_step (fun K hK => ?_))
          go_simp
          refine ⟨_, HCK.out _, hK _ ?_⟩
          clear hK K
          repeat (first | ((with_reducible refine still_skip ?hw ?hrest); case hw => rfl; simp only [Act.put, List.setIfInBounds_toArray, List.set_cons_zero, List.set_cons_succ]) | ((with_reducible refine wpStill_step (fun K hK => ?_)); go_simp; refine hK _ ?_; clear hK K))
          try refine wpStill_nil ?_
          have HF : Hid (risesN (entsOf l) (0 + 1) = true) := HYES.out (by rw [HOK.out, HCE.out, HVD.out, HGV.out]; rfl)
          clear c0 c1 c2 c3
          have HBF := Lib.hid HBD.out
          go_wp2_with fail
          go_roundw
          case rel => exact ⟨0 + 1, by omega, by go_num, HF, HBF⟩
          case measure => simp [intOf]; omega
        · have hk1 : decide ((0 : Int) < (k : Int)) = true := by simp; omega
          have hk1n : decide (0 < k) = true := by simp; omega
          have HK1 : Hid ((k == 0) = false) := by show _ = _; simp; omega
          obtain ⟨j, hj⟩ : ∃ j, j = k - 1 := ⟨_, rfl⟩
          have HJ := Lib.hid hj
          have hkj : ((k : Int) - 1) = (j : Int) := by omega
          have hjl : j < l.length := by omega
          have hwj : IntKind.i64.wrap (j : Int) = (j : Int) := IntWalk.i64_in _ (by omega)
          have HAJ := Lib.hid (entsOf_at l j hjl)
          obtain ⟨a2, c2', hve, _, _, hcell⟩ := HV.out
          obtain ⟨b4, off4, hae2, y0, y1, y2, y3⟩ := hcell j hjl
          simp only [Value.slice.injEq] at hve
          obtain ⟨e1, el, ec⟩ := hve
          rw [hae2] at e1
          simp only [Option.some.injEq, Addr.mk.injEq, and_true] at e1
          obtain ⟨e2, e3⟩ := e1
          rw [← e2, ← e3] at y0 y1 y2
          clear el ec hcell hae2 e2 e3 hj y3
          have hjv : j < vn := by omega
          obtain ⟨y, hy⟩ : ∃ y, y = l[j] := ⟨_, rfl⟩
          rw [← hy] at y0 y1 y2 HAJ
          clear hy hjl
          obtain ⟨yk, ys, yg, yu⟩ := y
          simp only at y0 y1 y2
          obtain ⟨n, hn⟩ : ∃ n, n = cmpM yk.data.toList ys yg xk.data.toList xs false := ⟨_, rfl⟩
          have HN := Lib.hid hn
          have HCM : Hid (Calls Tryz.prog 94 #[.agg #[.string yk, .int .u64 ys, .bool yg], .agg #[.string xk, .int .u64 xs, .bool false]] wd fun e w' => e = .returned (.int .i64 n) ∧ Below wd.heap.size wd w') := by
            rw [hn]; exact orderCmp_any _ _ _ _ _ _ wd
          have HOKN : Hid (okAt (entsOf l) k = decide (n < 0)) := by
            show _ = _
            rw [HOK.out, HCE.out, HVD.out, HGV.out, HK1.out, ← HJ.out, HAJ.out, hn]; rfl
          clear hn
          refine still_tail (wd := wd) 33 ?hm ?hB ?hwd ?h
          case hm => kernel_rfl
          case hB => kernel_rfl
          case hwd => exact HWD.out
          simp only [List.take_succ_cons, List.take_zero, List.drop_succ_cons, List.drop_zero]
          repeat (first | ((with_reducible refine still_skip ?hw ?hrest); case hw => rfl; simp only [Act.put, List.setIfInBounds_toArray, List.set_cons_zero, List.set_cons_succ]) | ((with_reducible refine wpStill_step (fun K hK => ?_)); go_simp; refine hK _ ?_; clear hK K))
          (with_reducible refine wpStill_step (fun K hK => ?_))
          go_simp
          refine ⟨_, HCK.out _, hK _ ?_⟩
          clear hK K
          repeat (first | ((with_reducible refine still_skip ?hw ?hrest); case hw => rfl; simp only [Act.put, List.setIfInBounds_toArray, List.set_cons_zero, List.set_cons_succ]) | ((with_reducible refine wpStill_step (fun K hK => ?_)); go_simp; refine hK _ ?_; clear hK K))
          try refine wpStill_nil ?_
          go_wp2_with fail
          refine HCM.out.mono ?_
          rintro e w9 ⟨rfl, bel9⟩
          have HB9 := Lib.hid (HBD.out.trans (bel9.mono HBD.out.size))
          clear bel9 y0 y1 y2 hkj hwj hk1 hk1n
          by_cases hneg : n < 0
          · have hn2 : decide (n ≥ 0) = false := by simp; omega
            have hn3 : decide (0 ≤ n) = false := by simp; omega
            have HF : Hid (risesN (entsOf l) (k + 1) = true) := HYES.out (by rw [HOKN.out]; simp; omega)
            clear c0 c1 c2 c3
            have HBF := Lib.hid HB9.out
            go_wp2_with fail
            go_roundw
            case rel => exact ⟨k + 1, by omega, by go_num, HF, HBF⟩
            case measure => simp [intOf]; omega
          · have hn2 : decide (n ≥ 0) = true := by simp; omega
            have hn3 : decide (0 ≤ n) = true := by simp; omega
            have HF : Hid (mayS (entsOf l) = false) := HNO.out (by rw [HOKN.out]; simp; omega)
            clear c0 c1 c2 c3
            go_wp2_with fail
            go_ret
            exact ⟨ret_bool HF.out.symm, HB9.out⟩
      · have hem : xu.toList.isEmpty = true := by simpa using hgv
        clear hgv
        by_cases hk0 : k = 0
        · subst hk0
          refine still_tail (wd := wd) 33 ?hm ?hB ?hwd ?h
          case hm => kernel_rfl
          case hB => kernel_rfl
          case hwd => exact HWD.out
          simp only [List.take_succ_cons, List.take_zero, List.drop_succ_cons, List.drop_zero]
          repeat (first | ((with_reducible refine still_skip ?hw ?hrest); case hw => rfl; simp only [Act.put, List.setIfInBounds_toArray, List.set_cons_zero, List.set_cons_succ]) | ((with_reducible refine wpStill_step (fun K hK => ?_)); go_simp; refine hK _ ?_; clear hK K))
          (with_reducible refine wpStill_step (fun K hK => ?_))
          go_simp
          refine ⟨_, HCK.out _, hK _ ?_⟩
          clear hK K
          repeat (first | ((with_reducible refine still_skip ?hw ?hrest); case hw => rfl; simp only [Act.put, List.setIfInBounds_toArray, List.set_cons_zero, List.set_cons_succ]) | ((with_reducible refine wpStill_step (fun K hK => ?_)); go_simp; refine hK _ ?_; clear hK K))
          try refine wpStill_nil ?_
          have HF : Hid (risesN (entsOf l) (0 + 1) = true) := HYES.out (by rw [HOK.out, HCE.out, HVD.out, HGV.out]; rfl)
          clear c0 c1 c2 c3
          have HBF := Lib.hid HBD.out
          go_wp2_with fail
          go_roundw
          case rel => exact ⟨0 + 1, by omega, by go_num, HF, HBF⟩
          case measure => simp [intOf]; omega
        · have hk1 : decide ((0 : Int) < (k : Int)) = true := by simp; omega
          have hk1n : decide (0 < k) = true := by simp; omega
          have HK1 : Hid ((k == 0) = false) := by show _ = _; simp; omega
          obtain ⟨j, hj⟩ : ∃ j, j = k - 1 := ⟨_, rfl⟩
          have HJ := Lib.hid hj
          have hkj : ((k : Int) - 1) = (j : Int) := by omega
          have hjl : j < l.length := by omega
          have hwj : IntKind.i64.wrap (j : Int) = (j : Int) := IntWalk.i64_in _ (by omega)
          have HAJ := Lib.hid (entsOf_at l j hjl)
          obtain ⟨a2, c2', hve, _, _, hcell⟩ := HV.out
          obtain ⟨b4, off4, hae2, y0, y1, y2, y3⟩ := hcell j hjl
          simp only [Value.slice.injEq] at hve
          obtain ⟨e1, el, ec⟩ := hve
          rw [hae2] at e1
          simp only [Option.some.injEq, Addr.mk.injEq, and_true] at e1
          obtain ⟨e2, e3⟩ := e1
          rw [← e2, ← e3] at y0 y1 y2
          clear el ec hcell hae2 e2 e3 hj y3
          have hjv : j < vn := by omega
          obtain ⟨y, hy⟩ : ∃ y, y = l[j] := ⟨_, rfl⟩
          rw [← hy] at y0 y1 y2 HAJ
          clear hy hjl
          obtain ⟨yk, ys, yg, yu⟩ := y
          simp only at y0 y1 y2
          obtain ⟨n, hn⟩ : ∃ n, n = cmpM yk.data.toList ys yg xk.data.toList xs true := ⟨_, rfl⟩
          have HN := Lib.hid hn
          have HCM : Hid (Calls Tryz.prog 94 #[.agg #[.string yk, .int .u64 ys, .bool yg], .agg #[.string xk, .int .u64 xs, .bool true]] wd fun e w' => e = .returned (.int .i64 n) ∧ Below wd.heap.size wd w') := by
            rw [hn]; exact orderCmp_any _ _ _ _ _ _ wd
          have HOKN : Hid (okAt (entsOf l) k = decide (n < 0)) := by
            show _ = _
            rw [HOK.out, HCE.out, HVD.out, HGV.out, HK1.out, ← HJ.out, HAJ.out, hn]; rfl
          clear hn
          refine still_tail (wd := wd) 33 ?hm ?hB ?hwd ?h
          case hm => kernel_rfl
          case hB => kernel_rfl
          case hwd => exact HWD.out
          simp only [List.take_succ_cons, List.take_zero, List.drop_succ_cons, List.drop_zero]
          repeat (first | ((with_reducible refine still_skip ?hw ?hrest); case hw => rfl; simp only [Act.put, List.setIfInBounds_toArray, List.set_cons_zero, List.set_cons_succ]) | ((with_reducible refine wpStill_step (fun K hK => ?_)); go_simp; refine hK _ ?_; clear hK K))
          (with_reducible refine wpStill_step (fun K hK => ?_))
          go_simp
          refine ⟨_, HCK.out _, hK _ ?_⟩
          clear hK K
          repeat (first | ((with_reducible refine still_skip ?hw ?hrest); case hw => rfl; simp only [Act.put, List.setIfInBounds_toArray, List.set_cons_zero, List.set_cons_succ]) | ((with_reducible refine wpStill_step (fun K hK => ?_)); go_simp; refine hK _ ?_; clear hK K))
          try refine wpStill_nil ?_
          go_wp2_with fail
          refine HCM.out.mono ?_
          rintro e w9 ⟨rfl, bel9⟩
          have HB9 := Lib.hid (HBD.out.trans (bel9.mono HBD.out.size))
          clear bel9 y0 y1 y2 hkj hwj hk1 hk1n
          by_cases hneg : n < 0
          · have hn2 : decide (n ≥ 0) = false := by simp; omega
            have hn3 : decide (0 ≤ n) = false := by simp; omega
            have HF : Hid (risesN (entsOf l) (k + 1) = true) := HYES.out (by rw [HOKN.out]; simp; omega)
            clear c0 c1 c2 c3
            have HBF := Lib.hid HB9.out
            go_wp2_with fail
            go_roundw
            case rel => exact ⟨k + 1, by omega, by go_num, HF, HBF⟩
            case measure => simp [intOf]; omega
          · have hn2 : decide (n ≥ 0) = true := by simp; omega
            have hn3 : decide (0 ≤ n) = true := by simp; omega
            have HF : Hid (mayS (entsOf l) = false) := HNO.out (by rw [HOKN.out]; simp; omega)
            clear c0 c1 c2 c3
            go_wp2_with fail
            go_ret
            exact ⟨ret_bool HF.out.symm, HB9.out⟩
    · obtain rfl : k = vn := by omega
      go_wp2_with fail
      go_ret
      exact ⟨ret_bool (by rw [HMA.out, HRK.out, Bool.and_true]), HBR.out⟩
end Go.Proofs.YtbcnapkbdbefhaaGreatDoor
namespace Go.Proofs.YtbcnapkbdbefhaaGreatDoor
open Go.RowKit
attribute [local go_sem] Oper.semAt_some

theorem cut_all {w : World} {v : Value} {l : List UInt8} (h : Rd w v l) (k n : Nat) (hk : l.length = k + n) :
    ∃ a c, (∀ (w' : World) (kl : IntKind), (Instr.slice 22 v (some (.int kl k)) none none).run Tryz.prog w' = .ok (.slice a n c) w') ∧ ∀ W, Rd W v l → Rd W (.slice a n c) (l.drop k) := by
  obtain ⟨a, c, h1, h2⟩ := cut_rest h k n hk
  refine ⟨a, c, h1, fun W hW => ?_⟩
  obtain ⟨a2, c2, h3, h4⟩ := cut_rest hW k n hk
  have e := (h1 w .i64).symm.trans (h3 w .i64)
  simp only [Result.ok.injEq, Value.slice.injEq, true_and, and_true] at e
  obtain ⟨rfl, rfl⟩ := e
  exact h4
theorem read_any (w : World) (v : Value) (m : Nat) (h1 : v.oneCell' = true) : Calls Tryz.prog 24 #[v, .int .i64 m] w fun e w' =>
    e = .returned (.func (.func 89) #[] #[.pointer (some ⟨w.heap.size + 1, 0, none⟩), .pointer (some ⟨w.heap.size, 0, none⟩)]) ∧ w' = (w.alloc (.cells #[v] 22)).alloc (.cells #[.int .i64 m] 3) := by
  go_enter Tryz.func24, Tryz.ntmps24
  go_wp2
  go_ret
  exact ⟨by simp, rfl⟩
/-- what has come, one behind the other -/
def catP (xs : List (Value × List PE)) : List PE := xs.flatMap (·.2)
theorem catP_snoc (xs : List (Value × List PE)) (x : Value × List PE) : catP (xs ++ [x]) = catP xs ++ x.2 := by simp [catP]
def Seq64 (l : List PE) : Prop := ∀ x ∈ l, x.s < 18446744073709551616
/-- entries whose file b is -/
def IsFile (b : List UInt8) (many : Nat) (E : List Ent) : Prop := mayS E = true ∧ (∀ x ∈ E, x.seq < 18446744073709551616) ∧ E.length = many ∧ fileS E = b
/-- when k blocks of whatever entries have come -/
def ReadInv (b : List UInt8) (many : Nat) (l : List PE) (o : Nat) : Prop := ∀ E, IsFile b many E → ∃ k, k ≤ nBlk E ∧ entsOf l = E.take (16 * k) ∧ o = (framesN E k).length
/-- what a round is told -/
def ReadOk (pre : List (Value × List PE)) (x : Value × List PE) (W : World) : Prop := RdE W x.1 x.2 ∧ Seq64 x.2 ∧ x.2.length ≤ 64 ∧ (catP pre).length ≤ 4096
def ReadAll (b : List UInt8) (many : Nat) (xs : List (Value × List PE)) : Prop := Seq64 (catP xs) ∧ (catP xs).length ≤ 4160 ∧ ∀ E, IsFile b many E → entsOf (catP xs) = E
theorem nBlk_take {E : List Ent} (k : Nat) (h : nBlk E ≤ k) : E.take (16 * k) = E := List.take_of_length_le (by unfold nBlk at h; omega)
theorem file_rest (E : List Ent) (k : Nat) (h : k < nBlk E) : ∃ r, (fileS E).drop (framesN E k).length = fput (blkPut (blkN E k)) ++ r := by
  obtain ⟨rest, hr⟩ := frames_rest E k (nBlk E) h
  unfold fileS
  rw [hr]
  simp only [List.append_assoc, List.drop_left]
  exact ⟨_, rfl⟩
theorem take_blk (E : List Ent) (k : Nat) : E.take (16 * (k + 1)) = E.take (16 * k) ++ blkN E k := by
  rw [show 16 * (k + 1) = 16 * k + 16 from by omega, List.take_add]; rfl
theorem inv_more {E : List Ent} {b : List UInt8} {many : Nat} {k : Nat} (hE : IsFile b many E) {l : List PE} (hl : entsOf l = E.take (16 * k)) (hm : l.length < many) : k < nBlk E := by
  have h1 := congrArg List.length hl
  rw [entsOf_length, List.length_take] at h1
  have := hE.2.2.1
  unfold nBlk
  omega
/-- a block that is got is the next one -/
theorem inv_step {b : List UInt8} {many o : Nat} {l : List PE} {r : List UInt8} {t : Nat} {F : List Ent} (h : ReadInv b many l o) (hm : l.length < many) (hg : fgetR (b.drop o) = (r, t, 0)) (hF : mayL F = true) (sF : ∀ x ∈ F, x.seq < 18446744073709551616) (hr : blkPut F = r) :
    ReadInv b many (l ++ F.map toPE) (o + t) := by
  intro E hE
  obtain ⟨k, hk, hl, ho⟩ := h E hE
  have hk2 := inv_more hE hl hm
  obtain ⟨z, hz⟩ := file_rest E k hk2
  rw [hE.2.2.2, ← ho] at hz
  rw [hz, fgetR_put _ _ (blkN_small hE.1 k hk2)] at hg
  simp only [Prod.mk.injEq, and_true] at hg
  obtain ⟨g1, g2⟩ := hg
  have hu := blk_unique (blkN_may hE.1 k hk2) hF (blkN_seqs hE.2.1 k) sF (by rw [hr]; exact g1)
  refine ⟨k + 1, hk2, ?_, ?_⟩
  · rw [take_blk, hu, ← hl]
    simp only [entsOf, List.map_append, List.map_map]
    congr 1
    have := entsOf_toPE F
    unfold entsOf at this
    rw [List.map_map] at this
    exact this
  · rw [framesN, List.length_append, fput_length, ho, ← g2]
/-- no frame, or no block: no file -/
theorem inv_bad1 {b : List UInt8} {many o : Nat} {l : List PE} {r : List UInt8} {t er : Nat} (h : ReadInv b many l o) (hm : l.length < many) (hg : fgetR (b.drop o) = (r, t, er)) (he : er ≠ 0) (E : List Ent) (hE : IsFile b many E) : False := by
  obtain ⟨k, hk, hl, ho⟩ := h E hE
  have hk2 := inv_more hE hl hm
  obtain ⟨z, hz⟩ := file_rest E k hk2
  rw [hE.2.2.2, ← ho] at hz
  rw [hz, fgetR_put _ _ (blkN_small hE.1 k hk2)] at hg
  simp only [Prod.mk.injEq] at hg
  exact he hg.2.2.symm
theorem inv_bad2 {b : List UInt8} {many o : Nat} {l : List PE} {r : List UInt8} {t : Nat} (h : ReadInv b many l o) (hm : l.length < many) (hg : fgetR (b.drop o) = (r, t, 0)) (hno : ∀ F, mayL F = true → (∀ x ∈ F, x.seq < 18446744073709551616) → blkPut F ≠ r) (E : List Ent) (hE : IsFile b many E) : False := by
  obtain ⟨k, hk, hl, ho⟩ := h E hE
  have hk2 := inv_more hE hl hm
  obtain ⟨z, hz⟩ := file_rest E k hk2
  rw [hE.2.2.2, ← ho] at hz
  rw [hz, fgetR_put _ _ (blkN_small hE.1 k hk2)] at hg
  simp only [Prod.mk.injEq, and_true] at hg
  exact hno _ (blkN_may hE.1 k hk2) (blkN_seqs hE.2.1 k) hg.1
theorem inv_end {b : List UInt8} {many o : Nat} {l : List PE} (h : ReadInv b many l o) (hm : ¬ l.length < many) (E : List Ent) (hE : IsFile b many E) : entsOf l = E := by
  obtain ⟨k, hk, hl, ho⟩ := h E hE
  have h1 := congrArg List.length hl
  rw [entsOf_length, List.length_take] at h1
  have := hE.2.2.1
  rw [hl, List.take_of_length_le (by omega)]
/-- where the closure stands: the boxes, what has come, the place in the bytes -/
def RdSt (b : List UInt8) (many gB gM : Nat) (vb0 : Value) (J : List (Value × List PE) → World → Prop) (wr : World) : Prop :=
  ∃ (pre : List (Value × List PE)) (o : Nat) (va : Option Addr) (vn vc : Nat) (m : Int), Blk wr gB #[.slice va vn vc] 22 ∧ Blk wr gM #[.int .i64 m] 3 ∧ J pre wr ∧ (catP pre).length + m = many ∧ Seq64 (catP pre) ∧ (catP pre).length ≤ 4160 ∧
    ReadInv b many (catP pre) o ∧ o + vn = b.length ∧ (∀ W, Rd W vb0 b → Rd W (.slice va vn vc) (b.drop o))
/-- how many are left, off the world -/
def leftM (gM : Nat) (wr : World) : Nat := match wr.cell? ⟨gM, 0, none⟩ with
  | some (.int _ m) => m.toNat
  | _ => 0
theorem leftM_eq {gM : Nat} {wr : World} {m : Int} (h : Blk wr gM #[.int .i64 m] 3) : leftM gM wr = m.toNat := by
  unfold leftM
  rw [h.cellv 0 _ rfl]
  rfl
set_option maxRecDepth 100000 in
set_option maxHeartbeats 2000000 in
theorem read1_any (n l nb gB gM E : Nat) (b : List UInt8) (vb0 : Value) (many : Nat) (J : List (Value × List PE) → World → Prop)
    (hnb : gB < nb ∧ gM < nb ∧ gB ≠ E ∧ gM ≠ E ∧ gB ≠ gM) (hb : b.length ≤ 268435456) (hm : many ≤ 4096)
    (hJI : ∀ s A, J s A → Rd A vb0 b) (hJZ : ∀ s A B, J s A → KeptX (fun k => k ≠ gB ∧ k ≠ gM) A B → J s B)
    (hY : ∀ pre x W, J pre W → ReadOk pre x W → YieldAt Fence.wide (n - 1) Tryz.prog l #[x.1] W fun e W' => e = .returned (.bool true) ∧ J (pre ++ [x]) W' ∧ KeptX (fun k => k < nb ∧ k ≠ E) W W')
    (W : World) (va : Option Addr) (vc : Nat) (hvb : vb0 = .slice va b.length vc) (hB : Blk W gB #[vb0] 22) (hM : Blk W gM #[.int .i64 many] 3) (h0 : J [] W) :
    CallsIn Fence.wide n Tryz.prog 89 #[.func (.yield l) #[] #[], .pointer (some ⟨gM, 0, none⟩), .pointer (some ⟨gB, 0, none⟩)] W fun e W' =>
      (∃ v, e = .returned v) ∧ ∃ xs, ReadAll b many xs ∧ J xs W' := by
  have HJI := Lib.hid hJI
  have HJZ := Lib.hid hJZ
  have HY := Lib.hid hY
  have HST : Hid (RdSt b many gB gM vb0 J W) := by
    refine ⟨[], 0, va, b.length, vc, many, by rw [← hvb]; exact hB, hM, h0, by simp [catP], fun x hx => by simp [catP] at hx, by simp [catP], fun E hE => ⟨0, Nat.zero_le _, by simp [catP, entsOf], rfl⟩, by omega, fun W hW => by rw [← hvb]; exact hW⟩
  clear hJI hJZ hY hB hM h0
  obtain ⟨n1, n2, n3, n4, n5⟩ := hnb
  refine callsIn_wide.2 ?_
  go_enter Tryz.func89, Tryz.ntmps89
  go_wp2_with fail
  try show Code.wp _ _ _ _ _
  go_loopw [6] (fun e wr => Hid (RdSt b many gB gM vb0 J wr)) (fun e wr => leftM gM wr)
  case atStart => exact HST
  case round =>
    obtain ⟨pre, o, xa, xn, xc, m, HB, HM, HJ, hlen, hs6, hle, hinv, hon, hcut⟩ := hrel.out
    have c0 : wr.cell? ⟨gB, 0, none⟩ = some (.slice xa xn xc) := HB.cellv 0 _ rfl
    have cM : wr.cell? ⟨gM, 0, none⟩ = some (.int .i64 m) := HM.cellv 0 _ rfl
    have HRD := Lib.hid (hcut wr (HJI.out _ _ HJ))
    have HCUT := Lib.hid hcut
    have HML : Hid (leftM gM wr = m.toNat) := leftM_eq HM
    have HINV := Lib.hid hinv
    have HS6 := Lib.hid hs6
    have HJP := Lib.hid HJ
    clear hcut hinv hs6 hrel HJ
    by_cases hpos : 0 < m
    · have hml : (catP pre).length < many := by omega
      have hF1 := framesGet_any wr _ (b.drop o) HRD.out (by rw [List.length_drop]; omega)
      obtain ⟨⟨r, t, er⟩, hg⟩ : ∃ p, p = fgetR (b.drop o) := ⟨_, rfl⟩
      rw [← hg] at hF1
      have HF1 := Lib.hid hF1
      have HG := Lib.hid hg
      clear hF1 hg
      go_wp2_with fail
      refine HF1.out.mono ?_
      rintro e w2 ⟨ra, rn, rc, rfl, HRN, HRO, bel2⟩
      have hJ2 := HJZ.out _ _ _ HJP.out (KeptX.of_below bel2)
      have HJ2 := Lib.hid hJ2
      have c02 := Below.keeps bel2 _ _ _ c0
      have cM2 := Below.keeps bel2 _ _ _ cM
      have HBL2 := Lib.hid bel2
      clear bel2 hJ2 c0 cM
      simp only
      by_cases he : er = 0
      case neg =>
        have hen : ((er : Int) != 0) = true := by simp; omega
        have hen2 : decide ((er : Int) = 0) = false := by simp; omega
        have HFIN : Hid (ReadAll b many pre) := ⟨HS6.out, hle, fun E hE => (inv_bad1 HINV.out hml HG.out.symm he E hE).elim⟩
        go_wp2_with fail
        refine bodyPost_ret (results_none rfl _ _ _) rfl ?_
        exact ⟨⟨_, rfl⟩, pre, HFIN.out, HJ2.out⟩
      subst he
      have hrl : r.length ≤ 65536 := (fgetR_got HG.out.symm).1
      have HP := Lib.hid (blocksGet_any w2 _ r (rd_of_own HRO.out).2 (by omega))
      go_wp2_with fail
      refine HP.out.mono ?_
      rintro e w3 ⟨bel3, (⟨F, mF, sF, hF, fa, fn, fc, rfl, HFN, HFO⟩ | ⟨hno, rfl⟩)⟩
      case inr =>
        have HFIN : Hid (ReadAll b many pre) := ⟨HS6.out, hle, fun E hE => (inv_bad2 HINV.out hml HG.out.symm hno E hE).elim⟩
        have HJ3 := Lib.hid (HJZ.out _ _ _ HJ2.out (KeptX.of_below bel3))
        clear hno
        go_wp2_with fail
        refine bodyPost_ret (results_none rfl _ _ _) rfl ?_
        exact ⟨⟨_, rfl⟩, pre, HFIN.out, HJ3.out⟩
      have hJ3 := HJZ.out _ _ _ HJ2.out (KeptX.of_below bel3)
      have hfl := (mayL_iff F).1 mF
      have hok : ReadOk pre (.slice fa fn fc, F.map toPE) w3 := by
        refine ⟨(rdE_of (reads_of_own HFO.out)).2, fun x hx => ?_, by simp; omega, by omega⟩
        obtain ⟨y, hy, rfl⟩ := List.mem_map.1 hx
        exact sF y hy
      have hSF : Seq64 (F.map toPE) := hok.2.1
      have c03 := Below.keeps bel3 _ _ _ c02
      have cM3 := Below.keeps bel3 _ _ _ cM2
      have hB3 := (HB.below HBL2.out).below bel3
      have hM3 := (HM.below HBL2.out).below bel3
      have HINV2 := Lib.hid (inv_step HINV.out hml HG.out.symm mF sF hF)
      have hmeas : 0 < fn := by rw [HFN.out]; exact hfl.1.1
      have hfn64 : fn ≤ 64 := by rw [HFN.out]; exact hfl.1.2
      have HSZ : Hid (((catP (pre ++ [(.slice fa fn fc, F.map toPE)])).length : Int) + (m - fn) = many ∧ (catP (pre ++ [(.slice fa fn fc, F.map toPE)])).length ≤ 4160) := by
        have hfn := HFN.out
        rw [catP_snoc]
        constructor <;> simp <;> omega
      have HSQ : Hid (Seq64 (catP (pre ++ [(.slice fa fn fc, F.map toPE)]))) := by
        intro x hx
        rw [catP_snoc] at hx
        rcases List.mem_append.1 hx with h | h
        · exact HS6.out x h
        · exact hSF x h
      have hgot := fgetR_got HG.out.symm
      rw [List.length_drop] at hgot
      obtain ⟨xn2, hx2⟩ : ∃ k, k = xn - t := ⟨_, rfl⟩
      have htx : t ≤ xn := by omega
      obtain ⟨ya, yc, hcut2, hcut3⟩ := cut_all HRD.out t xn2 (by rw [List.length_drop]; omega)
      have HC3 : Hid (∀ W, Rd W vb0 b → Rd W (.slice ya xn2 yc) (b.drop (o + t))) := fun W hW => by
        rw [← List.drop_drop]; exact hcut3 W (HCUT.out W hW)
      have hyield := HY.out pre _ w3 hJ3 hok
      obtain ⟨fn', tmps, assign, body, hy, hR⟩ := hyield
      have HX2 : Hid (o + t + xn2 = b.length) := by show _ = _; omega
      have hx2' : xn2 ≤ xn := by omega
      clear hJ3 hok c02 cM2 bel3 hcut3 hF mF sF HM HB hgot hx2 hfl hSF
      dsimp only at hy
      go_upto_region 4 with (fail)
      refine wpIn_wide (n := n).1 ?_
      gi_wp2
      refine ⟨fun e => (by cases e), hR.mono ?_⟩
      clear hR
      rintro e w4 ⟨rfl, hJ4, hk4⟩
      clear hy
      have hB4 := hk4.blk ⟨n1, n3⟩ hB3
      have hM4 := hk4.blk ⟨n2, n4⟩ hM3
      have c04 : w4.cell? ⟨gB, 0, none⟩ = some (.slice xa xn xc) := hB4.cellv 0 _ rfl
      have cM4 : w4.cell? ⟨gM, 0, none⟩ = some (.int .i64 m) := hM4.cellv 0 _ rfl
      have f4 := hB4.free 0
      have fM4 := hM4.free 0
      clear c03 cM3 hB3 hM3 hk4
      gi_wp2
      have hwm : IntKind.i64.wrap (m - (fn : Int)) = m - (fn : Int) := IntWalk.i64_in _ (by omega)
      have hne : (⟨gM, 0, none⟩ : Addr) ≠ ⟨gB, 0, none⟩ := fun e => by cases e; omega
      have hcut4 := fun w' => hcut2 w' .i64
      have HST4 : ∀ w5, Blk w5 gB #[.slice ya xn2 yc] 22 → Blk w5 gM #[.int .i64 (m - fn)] 3 → KeptX (fun k => k ≠ gB ∧ k ≠ gM) w4 w5 → Hid (RdSt b many gB gM vb0 J w5) ∧ leftM gM w5 < leftM gM wr := fun w5 b1 b2 b3 => by
        refine ⟨⟨pre ++ [(.slice fa fn fc, F.map toPE)], o + t, ya, xn2, yc, m - fn, b1, b2, HJZ.out _ _ _ hJ4 b3, HSZ.out.1, HSQ.out, HSZ.out.2, by rw [catP_snoc]; exact HINV2.out, HX2.out, HC3.out⟩, ?_⟩
        rw [leftM_eq b2, HML.out]
        omega
      have HST5 := Lib.hid HST4
      have HB4 := Lib.hid hB4
      have HM4 := Lib.hid hM4
      clear HST4 hcut2 hJ4 hB4 hM4
      go_upto_region 5 with (fail)
      go_region
      obtain ⟨h1, h2⟩ := HST5.out (((w4.setCell ⟨gB, 0, none⟩ (Value.slice ya xn2 yc)).setCell ⟨gM, 0, none⟩ (Value.int IntKind.i64 (m - ↑fn))).drew)
        (((HB4.out.set 0 _).set_other _ (fun e => n5 e.symm) _).drew) (((HM4.out.set_other _ n5 _).set 0 _).drew)
        (((KeptX.set _ _ (fun h => h.1 rfl) _).trans (KeptX.set _ _ (fun h => h.2 rfl) _)).trans (KeptX.of_below (Below.refl _ _).drew))
      go_wp2_with fail
      go_roundw
      case rel => exact h1
      case measure => exact h2
    · have HFIN : Hid (ReadAll b many pre) := ⟨HS6.out, hle, fun E hE => inv_end HINV.out (by omega) E hE⟩
      go_wp2_with fail
      go_end0
      exact ⟨⟨_, rfl⟩, pre, HFIN.out, HJP.out⟩
end Go.Proofs.YtbcnapkbdbefhaaGreatDoor

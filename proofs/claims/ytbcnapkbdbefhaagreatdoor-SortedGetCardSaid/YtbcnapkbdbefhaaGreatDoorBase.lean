/- The words of this seat's proofs: a slice that reads as a list, a slice of the call's own, and how both are carried from world to world. No condition. -/
import Derived.Test.YtbcnapkbdbefhaaGreatDoorRows
import Derived.Test.YtbcnapkbdbefhaaGreatDoorPlain1
import Derived.WalkKit
import Derived.WalkSpells
import Derived.WalkLawsBesides
import Derived.Lib.Hide
import Derived.Deep.QuietTactic
import Derived.BigQuiet
namespace Go.Proofs.YtbcnapkbdbefhaaGreatDoor
open Go.RowKit

/-- a slice that reads as n elements of sz cells each -/
def Reads (w : World) (sz : Nat) (v : Value) (n : Nat) (xs : List Value) : Prop :=
  ∃ a cap, v = .slice a n cap ∧ xs.length = n * sz ∧ n ≤ cap ∧ cap ≤ 9223372036854775807 ∧
    ∀ j, (h : j < xs.length) → ∃ b off, a = some ⟨b, off, none⟩ ∧ w.cell? ⟨b, off + j, none⟩ = some xs[j]
/-- bytes -/
def Rd (w : World) (v : Value) (l : List UInt8) : Prop :=
  ∃ a cap, v = .slice a l.length cap ∧ l.length ≤ cap ∧ cap ≤ 9223372036854775807 ∧
    ∀ j, (h : j < l.length) → ∃ b off, a = some ⟨b, off, none⟩ ∧ w.cell? ⟨b, off + j, none⟩ = some (.int .u8 l[j].toNat)
def u8s (l : List UInt8) : List Value := l.map fun c => .int .u8 c.toNat
theorem u8s_length (l : List UInt8) : (u8s l).length = l.length := by simp [u8s]
theorem u8s_append (l m : List UInt8) : u8s (l ++ m) = u8s l ++ u8s m := by simp [u8s]

/-- the same in a later world -/
theorem Rd.later {w w' : World} {v : Value} {l : List UInt8} (h : Rd w v l) (hb : ∀ b o x, w.cell? ⟨b, o, none⟩ = some x → w'.cell? ⟨b, o, none⟩ = some x) : Rd w' v l := by
  obtain ⟨a, cap, h1, h2, h3, h4⟩ := h
  exact ⟨a, cap, h1, h2, h3, fun j hj => let ⟨b, off, e1, e2⟩ := h4 j hj; ⟨b, off, e1, hb _ _ _ e2⟩⟩
theorem Below.keeps {w w' : World} (h : Below w.heap.size w w') : ∀ b o x, w.cell? ⟨b, o, none⟩ = some x → w'.cell? ⟨b, o, none⟩ = some x :=
  fun b o x hx => by rw [h.cell (p := ⟨b, o, none⟩) (World.block_lt_of_cell? w _ hx)]; exact hx
theorem Rd.below {w w' : World} {v : Value} {l : List UInt8} (h : Rd w v l) (hb : Below w.heap.size w w') : Rd w' v l := h.later (Below.keeps hb)
theorem Rd.drewN {w : World} {v : Value} {l : List UInt8} (h : Rd w v l) (n : Nat) : Rd (w.drewN n) v l := h.later fun _ _ _ hx => hx
theorem drewN_below (w : World) (n : Nat) : Below w.heap.size w (w.drewN n) := ⟨rfl, rfl, rfl, Nat.le_refl _, fun _ _ => rfl⟩

/-- an owned row reads -/
theorem rd_of_owns {w : World} {base : Nat} {v : Value} {l : List UInt8} (h : w.ownsRow base 5 1 v l.length (u8s l)) : Rd w v l := by
  obtain ⟨h1, h2⟩ := h
  rcases h2 with ⟨rfl, h0⟩ | ⟨g, cap, cur, rfl, hb, hg, hn, hc, hs, ht⟩
  · have : l = [] := List.eq_nil_of_length_eq_zero h0
    subst this
    exact ⟨none, 0, rfl, by simp, by omega, fun j hj => absurd hj (by simp)⟩
  · refine ⟨_, cap, rfl, hn, by unfold maxLen at hc; omega, fun j hj => ⟨g, 0, rfl, ?_⟩⟩
    rw [cell_of_row w g (0 + j) cur _ (0, 0) hg, Nat.zero_add]
    have e : (u8s l)[j]? = some (.int .u8 l[j].toNat) := by simp [u8s, hj]
    rw [← ht, List.getElem?_take] at e
    split at e
    · simpa using e
    · cases e

/-- a text of bytes -/
def bs (l : List UInt8) : ByteArray := ⟨l.toArray⟩
theorem bs_size (l : List UInt8) : (bs l).size = l.length := by simp [bs, ByteArray.size]
theorem bs_data (l : List UInt8) : (bs l).data.toList = l := by simp [bs]
theorem bs_of (s : ByteArray) : bs s.data.toList = s := by simp [bs]

/-- 'b[lo:hi]' -/
theorem run_cut {w : World} {a : Option Addr} {cap : Nat} {l : List UInt8} (h : Rd w (.slice a l.length cap) l) (lo hi : Nat) (h1 : lo ≤ hi) (h2 : hi ≤ l.length) :
    ∃ a' cap', (∀ (w' : World) (kl kh : IntKind), (Instr.slice 22 (.slice a l.length cap) (some (.int kl lo)) (some (.int kh hi)) none).run Tryz.prog w' = .ok (.slice a' (hi - lo) cap') w') ∧
      Rd w (.slice a' (hi - lo) cap') ((l.take hi).drop lo) := by
  obtain ⟨a0, c0, e, hc, hm, hr⟩ := h
  simp only [Value.slice.injEq, true_and] at e
  obtain ⟨rfl, rfl⟩ := e
  have hlen : ((l.take hi).drop lo).length = hi - lo := by simp; omega
  refine ⟨if cap = lo then a else a.map (·.add (lo * 1)), cap - lo, fun w' kl kh => ?_, ?_⟩
  · rw [run_slice_lh w' 22 a l.length cap (by kernel_rfl) kl kh lo hi (by omega) (by omega) (by omega)]
    simp [sliced, go_sem, Result.andThen]
  · refine ⟨_, _, by rw [hlen], by rw [hlen]; omega, by omega, fun j hj => ?_⟩
    rw [hlen] at hj
    obtain ⟨b, off, rfl, hc'⟩ := hr (lo + j) (by omega)
    refine ⟨b, off + lo, ?_, ?_⟩
    · rw [if_neg (by omega)]
      by_cases h0 : lo = 0
      · simp [Addr.add, h0]
      · simp [Addr.add, h0]
    · rw [Nat.add_assoc, hc']; simp
theorem run_cut_from {w : World} {a : Option Addr} {cap : Nat} {l : List UInt8} (h : Rd w (.slice a l.length cap) l) (lo : Nat) (h1 : lo ≤ l.length) :
    ∃ a' cap', (∀ (w' : World) (kl : IntKind), (Instr.slice 22 (.slice a l.length cap) (some (.int kl lo)) none none).run Tryz.prog w' = .ok (.slice a' (l.length - lo) cap') w') ∧
      Rd w (.slice a' (l.length - lo) cap') (l.drop lo) := by
  obtain ⟨a', c', h3, h4⟩ := run_cut h lo l.length h1 (Nat.le_refl _)
  obtain ⟨a0, c0, e, hc, hm, hr⟩ := h
  simp only [Value.slice.injEq, true_and] at e
  obtain ⟨rfl, rfl⟩ := e
  refine ⟨a', c', fun w' kl => ?_, by rwa [List.take_length] at h4⟩
  have h5 := h3 w' kl .i64
  rw [run_slice_lh w' 22 a l.length cap (by kernel_rfl) kl .i64 lo l.length (by omega) (by omega) (by omega)] at h5
  rw [run_slice_l w' 22 a l.length cap (by kernel_rfl) kl lo (by omega) (by omega)]
  exact h5
/-- 'string(b)' -/
theorem run_str {w : World} {v : Value} {l : List UInt8} (h : Rd w v l) : (convert 22 9 v).run Tryz.prog w = .ok (.string (bs l)) w := by
  obtain ⟨a, cap, rfl, hc, hm, hr⟩ := h
  have key : ∀ (x : List Int), x.map (fun n => UInt8.ofNat n.toNat) = l → ∀ ad, a = some ad → ad.spot = none → (∀ i, i < l.length → w.cell? ⟨ad.block, ad.off + i, none⟩ = some (.int .u8 (x.getD i 0))) →
      (convert 22 9 (.slice a l.length cap)).run Tryz.prog w = .ok (.string (bs l)) w := by
    intro x hx ad rfl hsp hc'
    have := run_convert_bytes_arg (P := Tryz.prog) w 22 5 Tryz.underlying22 Tryz.underlying5 ad.block ad.off l.length cap x (by rw [← hx]; simp) hc' 9 Tryz.underlying9
    have e : ad = ⟨ad.block, ad.off, none⟩ := by cases ad; simp_all
    rw [e, this, strOfNums, ← hx]
    rfl
  cases a with
  | none =>
    have hl : l = [] := by
      cases l with
      | nil => rfl
      | cons c t => obtain ⟨b, off, e, _⟩ := hr 0 (by simp); cases e
    subst hl
    exact run_convert_bytes_nil (P := Tryz.prog) w 22 5 Tryz.underlying22 Tryz.underlying5 _ cap 9 Tryz.underlying9
  | some ad =>
    by_cases h0 : l = []
    · subst h0
      rw [run_convert_bytes_string w 22 9 5 _ _ cap Tryz.underlying22 Tryz.underlying5 Tryz.underlying9]
      exact run_bytesToString w ad 0 cap [] (by simp [loadCells, loadCellsFrom])
    · have hpos : 0 < l.length := List.length_pos_iff.2 h0
      obtain ⟨b, off, e, _⟩ := hr 0 hpos
      cases e
      have hback : (l.map fun c => (c.toNat : Int)).map (fun n => UInt8.ofNat n.toNat) = l := by
        rw [List.map_map]
        conv => rhs; rw [← List.map_id l]
        exact List.map_congr_left fun c _ => by simp
      refine key (l.map fun c => (c.toNat : Int)) hback _ rfl rfl (fun i hi => ?_)
      obtain ⟨b', off', e, hc'⟩ := hr i hi
      cases e
      rw [hc']
      simp [hi]

theorem ret_bool {a b : Bool} (h : a = b) : Ending.returned (.bool a) = .returned (.bool b) := by rw [h]
theorem ret_int {k : IntKind} {a b : Int} (h : a = b) : Ending.returned (.int k a) = .returned (.int k b) := by rw [h]
theorem bne_u8 (a b : UInt8) : ((a.toNat : Int) != (b.toNat : Int)) = decide (a ≠ b) := by
  rw [Bool.eq_iff_iff]; simp [← UInt8.toNat_inj]; omega
theorem beq_u8 (a b : UInt8) : ((a.toNat : Int) == (b.toNat : Int)) = decide (a = b) := by
  rw [Bool.eq_iff_iff]; simp [← UInt8.toNat_inj]; omega
end Go.Proofs.YtbcnapkbdbefhaaGreatDoor

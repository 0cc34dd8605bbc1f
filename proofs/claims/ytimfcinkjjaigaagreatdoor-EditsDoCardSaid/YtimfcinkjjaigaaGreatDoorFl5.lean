/- Walks of edits.fine and of the search that edits.Do does. The condition: slices that read as files. -/
import Derived.Test.YtimfcinkjjaigaaGreatDoorFl4
import Derived.Shelf.Abstract
namespace Go.Proofs.YtimfcinkjjaigaaGreatDoor
open Go.RowKit Go.Shelf

def fagg (f : PF) : Value := .agg #[.int .u32 f.n, .int .i64 f.lv, .string f.a, .string f.b]
/-- what a search gives -/
def Found (p : PF → Bool) (l : List PF) (z : Int) : Prop := (z = -1 ∧ ∀ x ∈ l, p x = false) ∨ ∃ k : Nat, z = k ∧ ∃ h : k < l.length, p l[k] = true ∧ ∀ x ∈ l.take k, p x = false

set_option maxRecDepth 100000 in
theorem fine1_any (w : World) (f : PF) :
    Calls Tryz.prog 149 #[fagg f] w fun e w' => e = .returned (.bool (!mayF f)) ∧ Below w.heap.size w w' := by
  obtain ⟨fn, fl, fa, fb⟩ := f
  have h1 := fun W => mayF_any W ⟨fn, fl, fa, fb⟩
  generalize mayF ⟨fn, fl, fa, fb⟩ = B at h1 ⊢
  have H1 := Lib.hid h1
  clear h1
  unfold fagg
  simp only at H1 ⊢
  go_enter Tryz.func149, Tryz.ntmps149
  go_wp2_with fail
  refine (H1.out _).mono ?_
  rintro e w2 ⟨rfl, bel⟩
  go_wp2
  go_ret
  exact ⟨rfl, (alloc_bel _ _).trans (bel.mono (alloc_bel _ _).size)⟩

set_option maxRecDepth 100000 in
theorem do1_any (w : World) (f : PF) (p : Nat) (k : Nat) (hc : w.cell? ⟨p, 0, none⟩ = some (.int .u32 k)) :
    Calls Tryz.prog 52 #[fagg f, .pointer (some ⟨p, 0, none⟩)] w fun e w' => e = .returned (.bool (decide (f.n = k))) ∧ Below w.heap.size w w' := by
  obtain ⟨fn, fl, fa, fb⟩ := f
  have hc2 : ∀ o, (w.alloc o).cell? ⟨p, 0, none⟩ = some (.int .u32 k) := fun o => Below.keeps (alloc_bel w o) _ _ _ hc
  unfold fagg
  simp only
  go_enter Tryz.func52, Tryz.ntmps52
  go_wp2
  go_ret
  refine ⟨?_, alloc_bel _ _⟩
  congr 2
  by_cases h : fn = k
  · simp [h]
  · have : ¬ ((fn : Int) = k) := by omega
    simp [h, this]

set_option maxRecDepth 100000 in
set_option maxHeartbeats 2000000 in
theorem find_any (w : World) (v : Value) (l : List PF) (hv : RdF w v l) (p : PF → Bool) (g : Nat) (cb : Array Value)
    (hg : ∀ W, Below w.heap.size w W → ∀ f, Calls Tryz.prog g (#[fagg f] ++ cb) W fun e w' => e = .returned (.bool (p f)) ∧ Below W.heap.size W w')
    (eg : ∀ args w, (callFunc g args).run Tryz.prog w = .ok (.enter g args) w) :
    Calls Tryz.prog 51 #[v, .func (.func g) #[] cb] w fun e w' => ∃ z : Int, e = .returned (.int .i64 z) ∧ Found p l z ∧ Below w.heap.size w w' := by
  have HV := Lib.hid hv
  have HG := Lib.hid hg
  obtain ⟨a, cap, rfl, h1, h2, h3⟩ := hv
  clear h3 hg
  obtain ⟨n, hn⟩ : ∃ n, n = l.length := ⟨_, rfl⟩
  have HN := Lib.hid hn
  rw [← hn] at h1 HV ⊢
  clear hn
  go_enter Tryz.func51, Tryz.ntmps51
  go_wp2
  go_loopw [8] (fun i wr => ∃ k : Nat, k ≤ n ∧ i = .int .i64 k ∧ Hid (∀ x ∈ l.take k, p x = false) ∧ Below w.heap.size w wr) (fun i _ => n - (intOf i).toNat)
  case atStart => exact ⟨0, Nat.zero_le _, rfl, Lib.hid (by simp), Below.refl _ _⟩
  case round =>
    obtain ⟨k, hk, rfl, hno, bel⟩ := hrel
    have HB := Lib.hid bel
    clear bel
    by_cases hlt : k < n
    · have hkl : k < l.length := by rw [← HN.out]; exact hlt
      obtain ⟨a', c', he, _, _, hc⟩ := HV.out.below HB.out
      simp only [Value.slice.injEq] at he
      obtain ⟨rfl, hnl, rfl⟩ := he
      clear hnl
      obtain ⟨b, off, rfl, c0, c1, c2, c3⟩ := hc k hkl
      obtain ⟨x, hx⟩ : ∃ x, x = l[k] := ⟨_, rfl⟩
      have HX := Lib.hid hx
      rw [← hx] at c0 c1 c2 c3
      clear hx hc
      have hcall := Lib.hid (HG.out wr HB.out x)
      obtain ⟨xn, xl, xa, xb⟩ := x
      simp only at c0 c1 c2 c3
      simp only [fagg] at hcall
      generalize hpx : p ⟨xn, xl, xa, xb⟩ = B at hcall
      have HP := Lib.hid hpx
      clear hpx
      go_wp2_with fail
      refine hcall.out.mono ?_
      rintro e w2 ⟨rfl, bel⟩
      have hb2 := HB.out.trans (bel.mono HB.out.size)
      have HPX : Hid (p l[k] = B) := Lib.hid (by rw [← HX.out]; exact HP.out)
      have HKL := Lib.hid hkl
      clear bel HX HP hcall c0 c1 c2 c3
      cases B
      case false =>
        go_wp2
        go_roundw
        case rel =>
          refine ⟨k + 1, by omega, by go_num, Lib.hid fun x hx => ?_, hb2⟩
          rw [List.take_succ_eq_append_getElem HKL.out, List.mem_append, List.mem_singleton] at hx
          rcases hx with hx | rfl
          · exact hno.out x hx
          · exact HPX.out
        case measure => simp [intOf]; omega
      case true =>
        go_wp2
        go_ret
        exact ⟨k, rfl, .inr ⟨k, rfl, HKL.out, HPX.out, hno.out⟩, hb2⟩
    · have hkn : k = n := by omega
      subst hkn
      have e : l.take k = l := List.take_of_length_le (by rw [← HN.out]; exact Nat.le_refl _)
      rw [e] at hno
      go_wp2
      go_ret
      exact ⟨-1, rfl, .inl ⟨rfl, hno.out⟩, HB.out⟩

set_option maxRecDepth 100000 in
theorem fine_any (w : World) (v : Value) (l : List PF) (hv : RdF w v l) :
    Calls Tryz.prog 48 #[v] w fun e w' => e = .returned (.bool (l.all mayF)) ∧ Below w.heap.size w w' := by
  have hf := find_any w v l hv (fun f => !mayF f) 149 #[] (fun W _ f => fine1_any W f) (enters_of Tryz.func149 (by kernel_rfl) rfl)
  obtain ⟨B, hB⟩ : ∃ B, B = l.all mayF := ⟨_, rfl⟩
  rw [← hB]
  have hf2 : Calls Tryz.prog 51 #[v, .func (.func 149) #[] #[]] w fun e w' => ∃ z : Int, e = .returned (.int .i64 z) ∧ (0 ≤ z ↔ B = false) ∧ Below w.heap.size w w' := by
    refine hf.mono ?_
    rintro e w2 ⟨z, rfl, hz, bel⟩
    refine ⟨z, rfl, ?_, bel⟩
    rw [hB]
    rcases hz with ⟨rfl, h⟩ | ⟨k, rfl, hk, hp, _⟩
    · have : l.all mayF = true := by rw [List.all_eq_true]; exact fun x hx => by simpa using h x hx
      rw [this]; simp
    · have : l.all mayF = false := by
        cases h : l.all mayF with
        | false => rfl
        | true => rw [List.all_eq_true] at h; have := h _ (List.getElem_mem hk); have hp' : (!mayF l[k]) = true := hp; rw [this] at hp'; cases hp'
      rw [this]; simp
  clear hf hB
  have HF := Lib.hid hf2
  clear hf2
  obtain ⟨a, cap, rfl, _, _, _⟩ := hv
  have hc : Calls Tryz.prog 148 #[.slice a l.length cap, .func (.func 149) #[] #[]] w fun e w' => e = .returned (.bool (!B)) ∧ Below w.heap.size w w' := by
    go_enter Tryz.func148, Tryz.ntmps148
    go_wp2_with fail
    refine HF.out.mono ?_
    rintro e w2 ⟨z, rfl, hz, bel⟩
    go_wp2
    go_ret
    exact ⟨rfl, bel⟩
  have HC := Lib.hid hc
  clear hc HF
  go_enter Tryz.func48, Tryz.ntmps48
  go_wp2_with fail
  refine HC.out.mono ?_
  rintro e w2 ⟨rfl, bel⟩
  go_wp2
  go_ret
  exact ⟨by simp, bel⟩
end Go.Proofs.YtimfcinkjjaigaaGreatDoor

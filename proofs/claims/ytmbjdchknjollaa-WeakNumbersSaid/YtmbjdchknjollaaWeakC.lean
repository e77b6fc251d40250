/-
  The walk of slices.Backward's closure, and of weak's rule for ends of numbers.
-/
import Derived.RangeFuncBox
import Derived.RangeFuncLeaves
import Derived.RangeFuncNested
import Derived.RangeFuncBound
import Derived.RangeFuncCalls
import Derived.Shelf.Abstract
import Derived.Shelf.RegionOpen
import Derived.WalkKit
import Derived.OwnWalkIn
import Derived.TacticsInMore
import Derived.LoopNIn
import Derived.LoopIn
import Derived.Test.YtmbjdchknjollaaWeakB
namespace Go.Proofs.Ytmbjdchknjollaa
open Go.RowKit Go.Shelf
attribute [local go_sem] Oper.semAt_some

set_option maxRecDepth 100000 in
set_option maxHeartbeats 2000000 in
/-- slices.Backward's closure over a row of n places: from the last one to the first one -/
theorem back_in (F : Fence) (d : Nat) (hf : F.fn 49) (hro : F.round = none) (hd : 1 ≤ d) (l Bs : Nat) (A : Option Addr) (b off n cap : Nat) (hA : 0 < n → A = some ⟨b, off, none⟩) (hn : n ≤ 1000000) (J : Nat → World → Prop)
    (hread : ∀ k W, J k W → W.cell? ⟨Bs, 0, none⟩ = some (.slice A n cap) ∧ ∀ j, j < n → ∃ v, W.cell? ⟨b, off + j, none⟩ = some (.int .u8 v))
    (hY : ∀ k j v W, J k W → k + (j + 1) = n → W.cell? ⟨b, off + j, none⟩ = some (.int .u8 v) → YieldAt F (d - 1) Try.prog l #[.int .i64 (j : Nat), .int .u8 v] W fun e W' => e = .returned (.bool true) ∧ J (k + 1) W')
    (W : World) (h0 : J 0 W) :
    CallsIn F d Try.prog 49 #[.func (.yield l) #[] #[], .pointer (some ⟨Bs, 0, none⟩)] W fun e W' => (∃ v, e = .returned v) ∧ J n W' := by
  have hc0 := (hread 0 W h0).1
  refine callsIn_of_wp Try.func49 rfl hf ?_ hro
  simp only [Try.ntmps49, List.size_toArray, List.length_cons, List.length_nil, Nat.reduceAdd, Nat.reduceSub, Array.replicate_succ, Array.replicate_zero, List.push_toArray, List.append_toArray, List.nil_append, List.cons_append]
  gi_wp2
  clear hc0
  gi_loopw [3] (fun i wr => ∃ k m : Nat, k + m ≤ n ∧ Hid (k + m = n) ∧ i = .int .i64 ((m : Nat) - 1 : Int) ∧ J k wr) (fun i _ => (intOf i + 1).toNat)
  case atStart => exact ⟨0, n, by omega, hide (by omega), rfl, h0⟩
  case round =>
    obtain ⟨k, m, hkm, hKM, rfl, hJ⟩ := hrel
    obtain ⟨hc0, hcs⟩ := hread k wr hJ
    rcases Nat.eq_zero_or_pos m with rfl | hm0
    · have hk : k = n := by have := hKM.out; omega
      subst hk
      gi_wp2
      go_end0
      exact ⟨⟨_, rfl⟩, hJ⟩
    · obtain ⟨j, rfl⟩ : ∃ j, m = j + 1 := ⟨m - 1, by omega⟩
      obtain rfl := hA (by omega)
      obtain ⟨v, hv⟩ := hcs j (by omega)
      obtain ⟨fn, tmps, assign, body, hy, hR⟩ := hY k j v wr hJ hKM.out hv
      clear hcs
      gi_wp2
      refine hR.mono ?_
      rintro e W3 ⟨rfl, hJ3⟩
      gi_wp2
      go_roundw
      case rel => exact ⟨k + 1, j, by omega, hide (by have := hKM.out; omega), by go_num, hJ3⟩
      case measure => simp [intOf]

theorem cell_putObj {W : World} {l : Nat} {r r' : Loop} (h : W.heap[l]? = some (.loop r)) (p : Addr) : (W.putObj l (.loop r')).cell? p = W.cell? p := by
  by_cases e : p.block = l
  · have hlt := (Array.getElem?_eq_some_iff.1 h).1
    subst e
    simp [World.cell?, World.putObj_heap_same hlt, h]
  · exact World.cell?_of_block (World.putObj_heap_other e)

set_option maxHeartbeats 1000000 in
/-- 'for i, c := range slices.Backward(row) { .. }' whose body goes on always: it may write the row's cells. J says what holds when k places have been gone over. -/
theorem wpIn_back {F : Fence} {d : Nat} {g : Operand} {ps : Array Tmp} {assign body : Code} {Q : Exit → Act → World → Prop} {a : Act} {w : World}
    (hro : F.round = none) (h1 : 2 ≤ d) (hF : F.fn 49) {Bs b off n cap : Nat} {A : Option Addr} (hA : 0 < n → A = some ⟨b, off, none⟩) (hg : a.eval g = .func (.func 49) #[] #[.pointer (some ⟨Bs, 0, none⟩)]) (hps : ps.size = 2) (hn : n ≤ 1000000)
    (I : Nat → World → Prop) (h0 : I 0 w)
    (hIa : ∀ k W o, I k W → I k (W.alloc o)) (hIp : ∀ k W l r r', w.heap.size ≤ l → W.heap[l]? = some (.loop r) → I k W → I k (W.putObj l (.loop r')))
    (hread : ∀ k W, I k W → W.cell? ⟨Bs, 0, none⟩ = some (.slice A n cap) ∧ ∀ j, j < n → ∃ v, W.cell? ⟨b, off + j, none⟩ = some (.int .u8 v))
    (a₁ : Nat → Int → Act)
    (hassign : ∀ (l j : Nat) (v : Int) (W : World) (K : Act → World → Prop), K (a₁ j v) W →
      assign.wpIn (F.inRound l) (d - 1 - 1) Try.prog (Exit.then K (fun _ _ _ => False)) { tmps := (ps.zip #[.int .i64 (j : Nat), .int .u8 v]).foldl (fun t (p, v) => t.setIfInBounds p v) a.tmps, defers := [] } W)
    (hbody : ∀ (l k j : Nat) (v : Int) (W : World), I k W → k + (j + 1) = n → W.cell? ⟨b, off + j, none⟩ = some (.int .u8 v) →
      body.wpIn (F.inRound l) (d - 1 - 1) Try.prog (fun e _ W' => match e with | .normal => KeepsOthers W W' ∧ I (k + 1) W' | _ => False) (a₁ j v) W)
    (hdone : ∀ (D : Nat) (W : World), w.heap.size ≤ D → I n W → W.heap[D]? = some (.deferred (some [])) → Q .normal { a with defers := { target := .collected D, args := #[] } :: a.defers } W) :
    (Code.rangeFunc g ps assign body).wpIn F d Try.prog Q a w := by
  refine wpIn_rangeFunc fun fn hfn => ?_
  rw [hro]
  let rec0 : LoopState → Loop := fun st => { state := st, pending := none, fn, tmps := a.tmps, params := ps, assign, body, defers := w.heap.size }
  let W1 := (w.alloc (.deferred (some []))).alloc (.loop (rec0 .ready))
  have hL1 : W1.heap[w.heap.size + 1]? = some (.loop (rec0 .ready)) := by
    have := World.alloc_heap_new (w.alloc (.deferred (some []))) (.loop (rec0 .ready))
    rwa [World.size_alloc] at this
  have hK1 : W1.heap[w.heap.size]? = some (.deferred (some [])) := (Below.heap_alloc _ _ _ (by simp)).trans (World.alloc_heap_new w _)
  refine ⟨w.heap.size + 1, [{ target := .collected w.heap.size, args := #[] }], W1, { target := .fn (.func 49) #[.pointer (some ⟨Bs, 0, none⟩)], args := #[.func (.yield (w.heap.size + 1)) #[] #[]] }, W1, 49,
    #[.func (.yield (w.heap.size + 1)) #[] #[], .pointer (some ⟨Bs, 0, none⟩)], W1, run_enterLoop_outer _ _ _ _ _, ?_, ?_, ?_, fun _ => by omega, ?_⟩
  · simp only [resolve, hg]
    simp [go_sem]
  · intro f' hf'
    simp [Target.leads] at hf'
    subst hf'
    exact hF
  · simp [invoke, go_sem]
  · refine (back_in F (d - 1) hF hro (by omega) (w.heap.size + 1) Bs A b off n cap hA hn
      (fun k W => I k W ∧ W.heap[w.heap.size + 1]? = some (.loop (rec0 .ready)) ∧ W.heap[w.heap.size]? = some (.deferred (some [])))
      (fun k W h => hread k W h.1) ?_ W1 ⟨hIa _ _ _ (hIa _ _ _ h0), hL1, hK1⟩).mono ?_
    · rintro k j v W ⟨hi, hl, hk⟩ hkj hv
      have hlt : w.heap.size + 1 < W.heap.size := (Array.getElem?_eq_some_iff.1 hl).1
      refine ⟨fn, _, assign, body, run_yield hl hps.symm, roundIn_of_wpIn hfn (hassign _ j v W _ ⟨_, run_beginRound hl rfl, ?_⟩)⟩
      have hl2 : (W.putObj (w.heap.size + 1) (.loop (rec0 .busy))).heap[w.heap.size + 1]? = some (.loop (rec0 .busy)) := World.putObj_heap_same hlt
      have hk2 : (W.putObj (w.heap.size + 1) (.loop (rec0 .busy))).heap[w.heap.size]? = some (.deferred (some [])) := (World.putObj_heap_other (by omega)).trans hk
      refine wpIn_mono (hbody _ k j v _ (hIp k W _ _ (rec0 .busy) (by omega) hl hi) hkj ((cell_putObj hl _).trans hv)) ?_
      intro e a3 W3 hp
      cases e with
      | normal =>
        obtain ⟨hk3, hi3⟩ := hp
        have hl3 := hk3.same _ _ hl2 rfl
        exact ⟨_, _, run_endRound none hl3, rfl, hIp _ _ _ _ _ (by omega) hl3 hi3, World.putObj_heap_same (Array.getElem?_eq_some_iff.1 hl3).1, (World.putObj_heap_other (by omega)).trans (hk3.same _ _ hk2 rfl)⟩
      | ret => exact hp.elim
      | exit id => exact hp.elim
      | goto t => exact hp.elim
      | panic ch => exact hp.elim
      | outgrown => exact hp.elim
    · rintro e W2 ⟨⟨v, rfl⟩, hi, hl, hk⟩
      exact ⟨none, _, run_endLoop hl (by simp [rec0]), hdone _ _ (Nat.le_refl _) (hIp _ _ _ _ _ (by omega) hl hi) ((World.putObj_heap_other (by omega)).trans hk)⟩
end Go.Proofs.Ytmbjdchknjollaa

/-
  The walk of a row's runs: the closure that hands them on, one by one.
-/
import Derived.Test.YtaojjneajiobnaaRnd
import Derived.Test.YtaojjneajiobnaaSqS
namespace Go.Proofs.Ytaojjneajiobnaa
open Go.RowKit Go.Shelf
attribute [local go_sem] Oper.semAt_some

/-- the level of the t-th kept place -/
def lvAt (lv kp : List Int) (t : Nat) : Int := lv.getD (kp.getD t 0).toNat 0
theorem lvAt_of {lv kp : List Int} {t : Nat} {x : Nat} {y : Int} (h1 : kp[t]? = some (x : Int)) (h2 : lv[x]? = some y) : lvAt lv kp t = y := by
  simp [lvAt, List.getD, h1, h2]

set_option maxRecDepth 100000 in
set_option maxHeartbeats 4000000 in
theorem runs_in (d : Nat) (hd : 1 ≤ d) (l Bs : Nat) (A1 A2 : Option Addr) (n1 N c1 c2 : Nat) (lv kp : List Int) (hN : N ≤ 1000000) (hkp : ∀ x ∈ kp, 0 ≤ x ∧ x < (n1 : Int)) (J : Nat → World → Prop) (hdr : ∀ k W m, J k W → J k (W.drewN m))
    (hread : ∀ k W, J k W → W.cell? ⟨Bs, 0, none⟩ = some (.slice A1 n1 c1) ∧ W.cell? ⟨Bs, 1, none⟩ = some (.slice A2 N c2) ∧ Rd .u8 W A1 n1 lv ∧ Rd .i64 W A2 N kp)
    (hY : ∀ k W, J k W → cut (lvAt lv kp) N k < N → YieldAt Fence.wide (d - 1) Try.prog l #[.int .i64 (cut (lvAt lv kp) N k : Nat), .int .i64 (cut (lvAt lv kp) N (k + 1) : Nat)] W fun e W' => e = .returned (.bool true) ∧ J (k + 1) W')
    (W : World) (h0 : J 0 W) :
    CallsIn Fence.wide d Try.prog 76 #[.func (.yield l) #[] #[], .pointer (some ⟨Bs, 0, none⟩)] W fun e W' => (∃ v, e = .returned v) ∧ ∃ k, cut (lvAt lv kp) N k = N ∧ J k W' := by
  refine callsIn_of_wp Try.func76 rfl trivial ?_ rfl
  simp only [Try.ntmps76, List.size_toArray, List.length_cons, List.length_nil, Nat.reduceAdd, Nat.reduceSub, Array.replicate_succ, Array.replicate_zero, List.push_toArray, List.append_toArray, List.nil_append, List.cons_append]
  gi_wp2
  gi_loopw [3] (fun i wr => ∃ (k : Nat) (a : Nat), a ≤ N ∧ i = .int .i64 (a : Nat) ∧ Hid (cut (lvAt lv kp) N k = a) ∧ J k wr) (fun i _ => N - (intOf i).toNat)
  case atStart => exact ⟨0, 0, Nat.zero_le _, rfl, hide rfl, h0⟩
  case round =>
    obtain ⟨k, a, ha, rfl, hc, hJ⟩ := hrel
    obtain ⟨g0, g1, r1, r2⟩ := hread k wr hJ
    by_cases haN : a < N
    · obtain ⟨bb, off, x0, rfl, hb0, hx0, hcx0⟩ := r2.at_ haN
      have hx0b := hkp x0 (List.mem_of_getElem? hx0.out)
      obtain ⟨y0, rfl⟩ : ∃ y : Nat, x0 = (y : Int) := ⟨x0.toNat, by omega⟩
      obtain ⟨b1, off1, u0, rfl, hb1, hu0, hcu0⟩ := r1.at_ (show y0 < n1 by omega)
      have hl0 := hide (lvAt_of hx0.out hu0.out)
      have r1 := hide r1
      have r2 := hide r2
      have q1 : (a : Int) < (N : Int) := by omega
      have q2 : (0 : Int) ≤ (a : Int) := by omega
      have q3 : (y0 : Int) < (n1 : Int) := by omega
      have q4 : (0 : Int) ≤ (y0 : Int) := by omega
      clear r1 r2
      have hR1 := hide (hread k wr hJ).2.2
      have hrun : Hid (runTo (lvAt lv kp) N a (N - (a + 1)) (a + 1) = cut (lvAt lv kp) N (k + 1)) := hide (by show _ = runEnd _ _ (cut _ _ k); rw [hc.out]; rfl)
      gi_wp2_with fail
      gi_loopw [4] (fun t wx => ∃ (t' m : Nat), a < t' ∧ t' ≤ N ∧ t = .int .i64 (t' : Nat) ∧ wx = wr.drewN m ∧ Hid (runTo (lvAt lv kp) N a (N - t') t' = cut (lvAt lv kp) N (k + 1))) (fun t _ => N - (intOf t).toNat)
      case atStart => exact ⟨a + 1, 0, by omega, by omega, by go_num, rfl, hrun⟩
      case round =>
        obtain ⟨t, m, hat, htN, rfl, rfl, ht⟩ := hrel
        by_cases htn : t < N
        · obtain ⟨r1, r2⟩ := hR1.out
          obtain ⟨xt, hxt, hcxt⟩ := r2.cell htn
          have hxtb := hkp xt (List.mem_of_getElem? hxt.out)
          obtain ⟨yt, rfl⟩ : ∃ y : Nat, xt = (y : Int) := ⟨xt.toNat, by omega⟩
          obtain ⟨ut, hut, hcut⟩ := r1.cell (show yt < n1 by omega)
          have hlt := hide (lvAt_of hxt.out hut.out)
          have s1 : (t : Int) < (N : Int) := by omega
          have s2 : (0 : Int) ≤ (t : Int) := by omega
          have s3 : (yt : Int) < (n1 : Int) := by omega
          have s4 : (0 : Int) ≤ (yt : Int) := by omega
          clear r1 r2
          by_cases hu : ut = u0
          · subst hu
            have hq : (ut == ut) = true := by simp
            have hnext := hide (runTo_on (f := lvAt lv kp) (n := N) htn (hlt.out.trans hl0.out.symm))
            gi_wp2_with fail
            refine wpIn_quiet_drawn (by kernel_rfl) (by kernel_rfl) (by kernel_rfl) ?_
            repeat (go_big_quiet_step (fail))
            refine wpQuiet_nil ?_
            rintro _ ⟨m', rfl⟩
            gi_wp2_with fail
            go_roundw
            case rel => exact ⟨t + 1, m + m', by omega, by omega, by go_num, by simp, hide (hnext.out.symm.trans ht.out)⟩
            case measure => simp [intOf]; omega
          · have hq : (ut == u0) = false := by simpa using hu
            have hnext := hide (runTo_off (f := lvAt lv kp) (n := N) (a := a) (t := t) (fun h => hu (hlt.out.symm.trans (h.2.trans hl0.out))))
            have hu := hide hu
            gi_wp2_with fail
            refine wpIn_quiet_drawn (by kernel_rfl) (by kernel_rfl) (by kernel_rfl) ?_
            repeat (go_big_quiet_step (fail))
            refine wpQuiet_nil ?_
            rintro _ ⟨m', rfl⟩
            have hcn : cut (lvAt lv kp) N (k + 1) = t := ht.out.symm.trans hnext.out
            have hY2 := hY k (wr.drewN (m + m')) (hdr k wr _ hJ) (by rw [hc.out]; exact haN)
            rw [hc.out, hcn] at hY2
            obtain ⟨fn, tmps, assign, body, hy, hR⟩ := hY2
            have hcn := hide hcn
            gi_wp2_with fail
            refine hR.mono ?_
            rintro e W3 ⟨rfl, hJ3⟩
            gi_wp2_with fail
            go_roundw
            case rel => exact ⟨k + 1, t, by omega, rfl, hcn, hJ3⟩
            case measure => simp [intOf]; omega
        · obtain rfl : t = N := by omega
          have hnext := hide (runTo_off (f := lvAt lv kp) (n := t) (a := a) (t := t) (fun h => htn h.1))
          clear htn
          gi_wp2_with fail
          refine wpIn_quiet_drawn (by kernel_rfl) (by kernel_rfl) (by kernel_rfl) ?_
          repeat (go_big_quiet_step (fail))
          refine wpQuiet_nil ?_
          rintro _ ⟨m', rfl⟩
          have hcn : cut (lvAt lv kp) t (k + 1) = t := ht.out.symm.trans hnext.out
          have hY2 := hY k (wr.drewN (m + m')) (hdr k wr _ hJ) (by rw [hc.out]; exact haN)
          rw [hc.out, hcn] at hY2
          obtain ⟨fn, tmps, assign, body, hy, hR⟩ := hY2
          have hcn := hide hcn
          gi_wp2_with fail
          refine hR.mono ?_
          rintro e W3 ⟨rfl, hJ3⟩
          gi_wp2_with fail
          go_roundw
          case rel => exact ⟨k + 1, t, by omega, rfl, hcn, hJ3⟩
          case measure => simp [intOf]; omega
    · obtain rfl : a = N := by omega
      clear haN
      gi_wp2_with fail
      go_end0
      exact ⟨⟨_, rfl⟩, k, hc.out, hJ⟩

theorem cell_putObj {W : World} {l : Nat} {r r' : Loop} (h : W.heap[l]? = some (.loop r)) (p : Addr) : (W.putObj l (.loop r')).cell? p = W.cell? p := by
  by_cases e : p.block = l
  · have hlt := (Array.getElem?_eq_some_iff.1 h).1
    subst e
    simp [World.cell?, World.putObj_heap_same hlt, h]
  · exact World.cell?_of_block (World.putObj_heap_other e)
set_option maxHeartbeats 1000000 in
/-- 'for from, to := range r.runs() { .. }' whose body goes on always. I says what holds when k runs are over. -/
theorem wpIn_runs {d : Nat} {g : Operand} {ps : Array Tmp} {assign body : Code} {Q : Exit → Act → World → Prop} {a : Act} {w : World}
    (h1 : 2 ≤ d) {Bs n1 N c1 c2 : Nat} {A1 A2 : Option Addr} {lv kp : List Int} (hN : N ≤ 1000000) (hkp : ∀ x ∈ kp, 0 ≤ x ∧ x < (n1 : Int)) (hg : a.eval g = .func (.func 76) #[] #[.pointer (some ⟨Bs, 0, none⟩)]) (hps : ps.size = 2)
    (I : Nat → World → Prop) (h0 : I 0 w)
    (hIa : ∀ k W o, I k W → I k (W.alloc o)) (hIp : ∀ k W l r r', w.heap.size ≤ l → W.heap[l]? = some (.loop r) → I k W → I k (W.putObj l (.loop r'))) (hId : ∀ k W m, I k W → I k (W.drewN m))
    (hread : ∀ k W, I k W → W.cell? ⟨Bs, 0, none⟩ = some (.slice A1 n1 c1) ∧ W.cell? ⟨Bs, 1, none⟩ = some (.slice A2 N c2) ∧ Rd .u8 W A1 n1 lv ∧ Rd .i64 W A2 N kp)
    (a₁ : Nat → Nat → Act)
    (hassign : ∀ (l j m : Nat) (W : World) (K : Act → World → Prop), K (a₁ j m) W →
      assign.wpIn (Fence.wide.inRound l) (d - 1 - 1) Try.prog (Exit.then K (fun _ _ _ => False)) { tmps := (ps.zip #[.int .i64 (j : Nat), .int .i64 (m : Nat)]).foldl (fun t (p, v) => t.setIfInBounds p v) a.tmps, defers := [] } W)
    (hbody : ∀ (l k : Nat) (W : World), I k W → cut (lvAt lv kp) N k < N →
      body.wpIn (Fence.wide.inRound l) (d - 1 - 1) Try.prog (fun e _ W' => match e with | .normal => KeepsFrom w.heap.size W W' ∧ I (k + 1) W' | _ => False) (a₁ (cut (lvAt lv kp) N k) (cut (lvAt lv kp) N (k + 1))) W)
    (hdone : ∀ (D k : Nat) (W : World), w.heap.size ≤ D → cut (lvAt lv kp) N k = N → I k W → W.heap[D]? = some (.deferred (some [])) → Q .normal { a with defers := { target := .collected D, args := #[] } :: a.defers } W) :
    (Code.rangeFunc g ps assign body).wpIn Fence.wide d Try.prog Q a w := by
  refine wpIn_rangeFunc fun fn hfn => ?_
  rw [show Fence.wide.round = none from rfl]
  let rec0 : LoopState → Loop := fun st => { state := st, pending := none, fn, tmps := a.tmps, params := ps, assign, body, defers := w.heap.size }
  let W1 := (w.alloc (.deferred (some []))).alloc (.loop (rec0 .ready))
  have hL1 : W1.heap[w.heap.size + 1]? = some (.loop (rec0 .ready)) := by
    have := World.alloc_heap_new (w.alloc (.deferred (some []))) (.loop (rec0 .ready))
    rwa [World.size_alloc] at this
  have hK1 : W1.heap[w.heap.size]? = some (.deferred (some [])) := (Below.heap_alloc _ _ _ (by simp)).trans (World.alloc_heap_new w _)
  refine ⟨w.heap.size + 1, [{ target := .collected w.heap.size, args := #[] }], W1, { target := .fn (.func 76) #[.pointer (some ⟨Bs, 0, none⟩)], args := #[.func (.yield (w.heap.size + 1)) #[] #[]] }, W1, 76,
    #[.func (.yield (w.heap.size + 1)) #[] #[], .pointer (some ⟨Bs, 0, none⟩)], W1, run_enterLoop_outer _ _ _ _ _, ?_, ?_, ?_, fun _ => by omega, ?_⟩
  · simp only [resolve, hg]
    simp [go_sem]
  · intro f' hf'
    trivial
  · simp [invoke, go_sem]
  · refine (runs_in (d - 1) (by omega) (w.heap.size + 1) Bs A1 A2 n1 N c1 c2 lv kp hN hkp
      (fun k W => I k W ∧ W.heap[w.heap.size + 1]? = some (.loop (rec0 .ready)) ∧ W.heap[w.heap.size]? = some (.deferred (some [])))
      (fun k W m h => ⟨hId k W m h.1, h.2⟩) (fun k W h => hread k W h.1) ?_ W1 ⟨hIa _ _ _ (hIa _ _ _ h0), hL1, hK1⟩).mono ?_
    · rintro k W ⟨hi, hl, hk⟩ hkj
      have hlt : w.heap.size + 1 < W.heap.size := (Array.getElem?_eq_some_iff.1 hl).1
      refine ⟨fn, _, assign, body, run_yield hl hps.symm, roundIn_of_wpIn hfn (hassign _ _ _ W _ ⟨_, run_beginRound hl rfl, ?_⟩)⟩
      have hl2 : (W.putObj (w.heap.size + 1) (.loop (rec0 .busy))).heap[w.heap.size + 1]? = some (.loop (rec0 .busy)) := World.putObj_heap_same hlt
      have hk2 : (W.putObj (w.heap.size + 1) (.loop (rec0 .busy))).heap[w.heap.size]? = some (.deferred (some [])) := (World.putObj_heap_other (by omega)).trans hk
      refine wpIn_mono (hbody _ k _ (hIp k W _ _ (rec0 .busy) (by omega) hl hi) hkj) ?_
      intro e a3 W3 hp
      cases e with
      | normal =>
        obtain ⟨hk3, hi3⟩ := hp
        have hl3 := hk3.same _ _ (Nat.le_succ _) hl2 rfl
        exact ⟨_, _, run_endRound none hl3, rfl, hIp _ _ _ _ _ (by omega) hl3 hi3, World.putObj_heap_same (Array.getElem?_eq_some_iff.1 hl3).1, (World.putObj_heap_other (by omega)).trans (hk3.same _ _ (Nat.le_refl _) hk2 rfl)⟩
      | ret => exact hp.elim
      | exit id => exact hp.elim
      | goto t => exact hp.elim
      | panic ch => exact hp.elim
      | outgrown => exact hp.elim
    · rintro e W2 ⟨⟨v, rfl⟩, k, hkN, hi, hl, hk⟩
      exact ⟨none, _, run_endLoop hl (by simp [rec0]), hdone _ k _ (Nat.le_refl _) hkN (hIp _ _ _ _ _ (by omega) hl hi) ((World.putObj_heap_other (by omega)).trans hk)⟩
end Go.Proofs.Ytaojjneajiobnaa

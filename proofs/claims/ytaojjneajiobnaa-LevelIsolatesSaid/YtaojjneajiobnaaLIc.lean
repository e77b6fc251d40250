/-
  The closure of LevelIsolates: a row with an isolate in it, and what of its levels and classes stands outside.
-/
import Derived.Test.YtaojjneajiobnaaFla
import Derived.Test.YtaojjneajiobnaaReg
namespace Go.Proofs.Ytaojjneajiobnaa
open Go.RowKit

/-- two rows of the call's own -/
def TwoRet (l1 l2 : List Int) (w : World) (e : Ending) (w' : World) : Prop :=
  ∃ A1 c1 A2 c2, e = .returned (.tuple #[.slice A1 l1.length c1, .slice A2 l2.length c2]) ∧ Own w.heap.size 5 .u8 w' A1 l1.length c1 l1 ∧ Own w.heap.size 5 .u8 w' A2 l2.length c2 l2 ∧ Below w.heap.size w w'
set_option maxRecDepth 100000 in
set_option maxHeartbeats 8000000 in
theorem row25_any (gA gO gB gb : Nat) (A B X : Option Addr) (nA cA nB cB nX cX : Nat) (lA lB lX : List Int) (o base : Int) (w : World)
    (vA : Var w gA 23 (.slice A nA cA)) (vO : Var w gO 21 (.int .i32 o)) (vB : Var w gB 23 (.slice B nB cB)) (vb : Var w gb 5 (.int .u8 base))
    (rA : Rd .i32 w A nA lA) (rB : Rd .i32 w B nB lB) (rX : Rd .i32 w X nX lX) (hA : nA ≤ 100) (hB : nB ≤ 100) (hX : nX ≤ 60) (hb01 : 0 ≤ base ∧ base ≤ 1)
    (hl : ∀ x ∈ lA.map cls, x ≠ 21) (hx : ∀ x ∈ lX.map cls, opS x = false ∧ x ≠ 22) (ho : cls o = 19 ∨ cls o = 20) :
    Calls Try.prog 25 #[.slice X nX cX, .pointer (some ⟨gA, 0, none⟩), .pointer (some ⟨gO, 0, none⟩), .pointer (some ⟨gB, 0, none⟩), .pointer (some ⟨gb, 0, none⟩)] w
      (TwoRet ((isoL (lA.map cls) (lB.map cls) (cls o) base).map Prod.fst) ((isoL (lA.map cls) (lB.map cls) (cls o) base).map Prod.snd) w) := by
  have c1 := vA.cell
  have c2 := vO.cell
  have c3 := vB.cell
  have c4 := vb.cell
  have hiso := hide (iso_levels (B := lB.map cls) (base := base) hl hx ho)
  clear hl hx ho
  go_enter Try.func25, Try.ntmps25
  go_wp2_with fail
  have hds : ∀ d ∈ [13, 15, 18, 12, 14, 17, 19, 8, 16], d < 70 := by decide
  generalize ha : Act.mk _ _ = a0
  have hsz : a0.tmps.size = 70 := by rw [← ha]; rfl
  have k0 : a0.tmps.getD 0 undef = .slice X nX cX := by rw [← ha]; rfl
  have k1 : a0.tmps.getD 1 undef = .pointer (some ⟨gA, 0, none⟩) := by rw [← ha]; rfl
  have k2 : a0.tmps.getD 2 undef = .pointer (some ⟨gO, 0, none⟩) := by rw [← ha]; rfl
  generalize hp : Plan.mk w a0 21 .i32 [⟨1, 13, .slice A nA cA⟩, ⟨3, 15, .int .i32 o⟩, ⟨6, 18, .slice X nX cX⟩] [⟨0, 12, 0, []⟩, ⟨2, 14, nA, lA⟩, ⟨5, 17, nA + 1, lA ++ [o]⟩, ⟨7, 19, nA + 1 + nX, lA ++ [o] ++ lX⟩, ⟨8, 8, nA + 1 + nX, lA ++ [o] ++ lX⟩] [⟨4, 16, 1, [o]⟩] nilC nilC = p
  have hD : p.dsts = [13, 15, 18, 12, 14, 17, 19, 8, 16] := by subst hp; rfl
  have hN : p.idxs = [1, 3, 6, 0, 2, 5, 7, 8, 4] := by subst hp; rfl
  have hpa : p.a0 = a0 := by subst hp; rfl
  have hpw : p.w0 = w := by subst hp; rfl
  have hpe : p.e = 21 := by subst hp; rfl
  have hpk : p.k = .i32 := by subst hp; rfl
  have ok : p.OK := ⟨by rw [hD]; decide, by rw [hN]; decide, fun d hd => by rw [hpa, hsz]; rw [hD] at hd; exact hds d hd⟩
  refine wp_region_inv (by kernel_rfl) (fun L a' w' => p.Inv w.heap.size L a' w') ?_ ?_ ?_ ?_
  · as_aux_lemma =>
    have hf : ∀ i, (Array.replicate 9 false).getD i false = false := fun i => by
      rcases Nat.lt_or_ge i 9 with h | h
      · simp [h]
      · simp [h]
    subst hp
    refine ⟨hB_drewN (show Below w.heap.size w _ from Below.refl _ _) 1, (show Below w.heap.size w _ from Below.refl _ _).size, rfl, rfl, fun _ _ => rfl, fun f _ h => ?_, 0, 0, nilC, nilC, ⟨fun s c _ => ?_, .inl ⟨rfl, rfl⟩⟩, ⟨fun s c _ => ?_, .inl ⟨rfl, rfl⟩⟩, Own.none_ _ _ _ _, Own.none_ _ _ _ _, .inl rfl⟩
    · exact absurd ((hf f.idx).symm.trans h) (by decide)
    · exact hf c.idx
    · exact hf c.idx
  · intro L a' w' i op hs hcl hI ho hl hdep
    have hi : i < 9 := by
      rcases Nat.lt_or_ge i 9 with h | h
      · exact h
      · rw [Array.getElem?_eq_none (by simpa using h)] at ho; cases ho
    have e0 : a'.tmps.getD 0 undef = .slice X nX cX := by rw [hI.keep 0 (by rw [hD]; decide), hpa]; exact k0
    have e1 : a'.tmps.getD 1 undef = .pointer (some ⟨gA, 0, none⟩) := by rw [hI.keep 1 (by rw [hD]; decide), hpa]; exact k1
    have e2 : a'.tmps.getD 2 undef = .pointer (some ⟨gO, 0, none⟩) := by rw [hI.keep 2 (by rw [hD]; decide), hpa]; exact k2
    have hw : Below w.heap.size w w' := by have := hI.bel; rw [hpw] at this; exact this
    have hel : Elt Try.prog 23 p.e p.k := by subst hp; exact elt32
    rcases (show i = 0 ∨ i = 1 ∨ i = 2 ∨ i = 3 ∨ i = 4 ∨ i = 5 ∨ i = 6 ∨ i = 7 ∨ i = 8 by omega) with rfl | rfl | rfl | rfl | rfl | rfl | rfl | rfl | rfl
    all_goals (have ho2 := ho; simp only [List.getElem?_toArray, List.getElem?_cons_succ, List.getElem?_cons_zero, Option.some.injEq] at ho2; subst ho2; refine wpOp_of ho rfl ?_; clear ho hi)
    · as_aux_lemma =>
      refine hI.new1 ok (c := ⟨0, 12, 0, []⟩) (by subst hp; rfl) hl rfl (cs := #[]) (cp := 0) ?_ ?_
      · rw [hpe]
        simp only [execOp]
        go_simp
      · rw [hpe, hpk]; exact own_empty _ _ _ _ _ rfl hI.low
    · as_aux_lemma =>
      refine hI.fx ok ⟨1, 13, .slice A nA cA⟩ (by subst hp; simp) hl rfl ?_
      have hc : w'.cell? ⟨gA, 0, none⟩ = some (.slice A nA cA) := (vA.below hw vA.lt).cell
      simp only [execOp, Act.eval, e1]
      go_simp
    · as_aux_lemma =>
      refine hI.app1 ok (s := 0) (c' := ⟨0, 12, 0, []⟩) (c := ⟨2, 14, nA, lA⟩) (by subst hp; rfl) (by subst hp; rfl) hl (hdep ⟨0, .data⟩ (by simp) rfl) rfl rfl hel (y := .tmp 13) (A' := A) (m := nA) (cy := cA) (ys := lA) ?_ ?_ ?_ ?_ ?_
      · exact hI.fix ⟨1, 13, .slice A nA cA⟩ (by subst hp; simp) (hdep ⟨1, .data⟩ (by simp) rfl)
      · rw [hpk]; exact rA.below hw
      · simp
      · simp
      · simp only; omega
    · as_aux_lemma =>
      refine hI.fx ok ⟨3, 15, .int .i32 o⟩ (by subst hp; simp) hl rfl ?_
      have hc : w'.cell? ⟨gO, 0, none⟩ = some (.int .i32 o) := (vO.below hw vO.lt).cell
      simp only [execOp, Act.eval, e2]
      go_simp
    · as_aux_lemma =>
      refine hI.new2 ok (c := ⟨4, 16, 1, [o]⟩) (by subst hp; rfl) hl rfl (cs := #[.int .i32 o]) (cp := 1) ?_ ?_
      · rw [hpe]
        have e15 : a'.tmps.getD 15 undef = .int .i32 o := hI.fix ⟨3, 15, .int .i32 o⟩ (by subst hp; simp) (hdep ⟨3, .data⟩ (by simp) rfl)
        simp only [execOp, Act.eval, e15, List.map_toArray, List.map_cons, List.map_nil]
        go_simp
      · rw [hpe, hpk]; exact own_one _ _ _ _ _ _ rfl hI.low
    · as_aux_lemma =>
      obtain ⟨x, hx, hv, hn, hz⟩ := hI.look2 (s := 0) (c := ⟨4, 16, 1, [o]⟩) (by subst hp; rfl) (by subst hp; rfl) (hdep ⟨4, .data⟩ (by simp) rfl)
      simp only at hv hn hz
      rw [hpk, hpe] at hx
      refine hI.app1 ok (s := 1) (c' := ⟨2, 14, nA, lA⟩) (c := ⟨5, 17, nA + 1, lA ++ [o]⟩) (by subst hp; rfl) (by subst hp; rfl) hl (hdep ⟨2, .data⟩ (by simp) rfl) rfl rfl hel (y := .tmp 16) (A' := x.A) (m := 1) (cy := x.c) (ys := [o]) ?_ ?_ ?_ ?_ ?_
      · exact (by rw [← hn]; exact hv)
      · rw [hpk]; exact (by rw [← hn, ← hz]; exact hx.rd)
      · simp
      · simp
      · simp only; omega
    · as_aux_lemma =>
      refine hI.fx ok ⟨6, 18, .slice X nX cX⟩ (by subst hp; simp) hl rfl ?_
      simp only [execOp, Act.eval, e0]; rfl
    · as_aux_lemma =>
      refine hI.app1 ok (s := 2) (c' := ⟨5, 17, nA + 1, lA ++ [o]⟩) (c := ⟨7, 19, nA + 1 + nX, lA ++ [o] ++ lX⟩) (by subst hp; rfl) (by subst hp; rfl) hl (hdep ⟨5, .data⟩ (by simp) rfl) rfl rfl hel (y := .tmp 18) (A' := X) (m := nX) (cy := cX) (ys := lX) ?_ ?_ ?_ ?_ ?_
      · exact hI.fix ⟨6, 18, .slice X nX cX⟩ (by subst hp; simp) (hdep ⟨6, .data⟩ (by simp) rfl)
      · rw [hpk]; exact rX.below hw
      · simp
      · simp
      · simp only; omega
    · as_aux_lemma =>
      exact hI.cpy1 ok (s := 3) (c' := ⟨7, 19, nA + 1 + nX, lA ++ [o] ++ lX⟩) (c := ⟨8, 8, nA + 1 + nX, lA ++ [o] ++ lX⟩) (by subst hp; rfl) (by subst hp; rfl) hl (hdep ⟨7, .data⟩ (by simp) rfl) rfl rfl rfl rfl
  · intro L a' w' hs hI hall
    have HL1 := hide (hI.look1 (s := 4) (c := ⟨8, 8, nA + 1 + nX, lA ++ [o] ++ lX⟩) (by subst hp; rfl) (by subst hp; rfl) (hall 8 (by decide)))
    have HL2 := hide (hI.look2 (s := 0) (c := ⟨4, 16, 1, [o]⟩) (by subst hp; rfl) (by subst hp; rfl) (hall 4 (by decide)))
    have hbw := hI.bel
    have hlow := hI.low
    rw [hpw] at hbw
    rw [hpk, hpe] at HL1 HL2
    rw [act_puts (a := a') (a0 := p.a0) (ds := p.dsts) hI.size hI.dfr hI.keep, hD, hpa]
    clear hI hall hs ok hN hD hds hpa hpw hpe hpk hp p hsz k0 k1 k2 L
    simp only [List.foldl_cons, List.foldl_nil]
    obtain ⟨⟨A1, n1, cc1, zz1⟩, hx1, hv1, hn1, hz1⟩ := HL1.out
    simp only [Cur.val] at hv1 hn1 hz1
    subst hn1; subst hz1
    simp only [hv1]
    clear HL1 HL2 hv1
    generalize a'.tmps.getD 13 undef = z13
    generalize a'.tmps.getD 15 undef = z15
    generalize a'.tmps.getD 18 undef = z18
    generalize a'.tmps.getD 12 undef = z12
    generalize a'.tmps.getD 14 undef = z14
    generalize a'.tmps.getD 17 undef = z17
    generalize a'.tmps.getD 19 undef = z19
    generalize a'.tmps.getD 16 undef = z16
    clear a'
    subst ha
    simp only at hx1
    simp only [Act.put, List.setIfInBounds_toArray, List.set_cons_succ, List.set_cons_zero]
    go_wp2_with fail
    have hbw1 := hbw
    clear hbw
    obtain ⟨w1, rfl⟩ : ∃ wq : World, wq = w' := ⟨_, rfl⟩
    have hds : ∀ d ∈ [20, 23, 22, 24, 8, 21], d < 70 := by decide
    generalize ha : Act.mk _ _ = a0
    have hsz : a0.tmps.size = 70 := by rw [← ha]; rfl
    have k8 : a0.tmps.getD 8 undef = .slice A1 (nA + 1 + nX) cc1 := by rw [← ha]; rfl
    have k3 : a0.tmps.getD 3 undef = .pointer (some ⟨gB, 0, none⟩) := by rw [← ha]; rfl
    generalize hp : Plan.mk w a0 21 .i32 [⟨0, 20, .slice A1 (nA + 1 + nX) cc1⟩, ⟨3, 23, .slice B nB cB⟩] [⟨2, 22, nA + 1 + nX + 1, lA ++ [o] ++ lX ++ [8297]⟩, ⟨4, 24, nA + 1 + nX + 1 + nB, lA ++ [o] ++ lX ++ [8297] ++ lB⟩, ⟨5, 8, nA + 1 + nX + 1 + nB, lA ++ [o] ++ lX ++ [8297] ++ lB⟩] [⟨1, 21, 1, [8297]⟩] ⟨A1, nA + 1 + nX, cc1, lA ++ [o] ++ lX⟩ nilC = p
    have hD : p.dsts = [20, 23, 22, 24, 8, 21] := by subst hp; rfl
    have hN : p.idxs = [0, 3, 2, 4, 5, 1] := by subst hp; rfl
    have hpa : p.a0 = a0 := by subst hp; rfl
    have hpw : p.w0 = w := by subst hp; rfl
    have hpe : p.e = 21 := by subst hp; rfl
    have hpk : p.k = .i32 := by subst hp; rfl
    have ok : p.OK := ⟨by rw [hD]; decide, by rw [hN]; decide, fun d hd => by rw [hpa, hsz]; rw [hD] at hd; exact hds d hd⟩
    refine wp_region_inv (by kernel_rfl) (fun L a' w' => p.Inv w.heap.size L a' w') ?_ ?_ ?_ ?_
    · as_aux_lemma =>
      have hf : ∀ i, (Array.replicate 6 false).getD i false = false := fun i => by
        rcases Nat.lt_or_ge i 6 with h | h
        · simp [h]
        · simp [h]
      subst hp
      refine ⟨hB_drewN (show Below w.heap.size w _ from hbw1) 1, (show Below w.heap.size w _ from hbw1).size, rfl, rfl, fun _ _ => rfl, fun f _ h => ?_, 0, 0, ⟨A1, nA + 1 + nX, cc1, lA ++ [o] ++ lX⟩, nilC, ⟨fun s c _ => ?_, .inl ⟨rfl, rfl⟩⟩, ⟨fun s c _ => ?_, .inl ⟨rfl, rfl⟩⟩, hx1, Own.none_ _ _ _ _, ne_nilC _⟩
      · exact absurd ((hf f.idx).symm.trans h) (by decide)
      · exact hf c.idx
      · exact hf c.idx
    · intro L a' w' i op hs hcl hI ho hl hdep
      have hi : i < 6 := by
        rcases Nat.lt_or_ge i 6 with h | h
        · exact h
        · rw [Array.getElem?_eq_none (by simpa using h)] at ho; cases ho
      have e3 : a'.tmps.getD 3 undef = .pointer (some ⟨gB, 0, none⟩) := by rw [hI.keep 3 (by rw [hD]; decide), hpa]; exact k3
      have hw : Below w.heap.size w w' := by have := hI.bel; rw [hpw] at this; exact this
      have hel : Elt Try.prog 23 p.e p.k := by subst hp; exact elt32
      rcases (show i = 0 ∨ i = 1 ∨ i = 2 ∨ i = 3 ∨ i = 4 ∨ i = 5 by omega) with rfl | rfl | rfl | rfl | rfl | rfl
      all_goals (have ho2 := ho; simp only [List.getElem?_toArray, List.getElem?_cons_succ, List.getElem?_cons_zero, Option.some.injEq] at ho2; subst ho2; refine wpOp_of ho rfl ?_; clear ho hi)
      · as_aux_lemma =>
        refine hI.fx ok ⟨0, 20, .slice A1 (nA + 1 + nX) cc1⟩ (by subst hp; simp) hl rfl ?_
        have e8 : a'.tmps.getD 8 undef = .slice A1 (nA + 1 + nX) cc1 := by
          rw [hI.keep0 8 (fun q hq e => ?_), hpa]; exact k8
          have hq2 : q = (5, 8) := by subst hp; simp [Plan.pairs] at hq; rcases hq with rfl | rfl | rfl | rfl | rfl | rfl <;> first | rfl | (exact absurd e (by decide))
          subst hq2
          cases h5 : L.getD 5 false with
          | false => rfl
          | true =>
            have h6 := hcl 5 _ rfl h5 ⟨0, .phase⟩ (Array.mem_of_getElem? (i := 2) rfl) rfl
            have h7 : (0 : Nat) < L.size := by rw [hs]; simp
            simp [h7] at hl h6
            rw [hl] at h6; cases h6
        simp only [execOp, Act.eval, e8]; rfl
      · as_aux_lemma =>
        refine hI.new2 ok (c := ⟨1, 21, 1, [8297]⟩) (by subst hp; rfl) hl rfl (cs := #[.int .i32 8297]) (cp := 1) ?_ ?_
        · rw [hpe]
          simp only [execOp, Act.eval, List.map_toArray, List.map_cons, List.map_nil]
          go_simp
        · rw [hpe, hpk]; exact own_one _ _ _ _ _ _ rfl hI.low
      · as_aux_lemma =>
        obtain ⟨x, hx, hv, hn, hz⟩ := hI.look2 (s := 0) (c := ⟨1, 21, 1, [8297]⟩) (by subst hp; rfl) (by subst hp; rfl) (hdep ⟨1, .data⟩ (by simp) rfl)
        simp only at hv hn hz
        rw [hpk, hpe] at hx
        refine hI.appz1 ok (c := ⟨2, 22, nA + 1 + nX + 1, lA ++ [o] ++ lX ++ [8297]⟩) (by subst hp; rfl) hl rfl rfl hel (y := .tmp 21) (A' := x.A) (m := 1) (cy := x.c) (ys := [8297]) ?_ ?_ ?_ ?_ ?_ ?_
        · rw [show p.x1 = ⟨A1, nA + 1 + nX, cc1, lA ++ [o] ++ lX⟩ by subst hp; rfl]; exact hI.fix ⟨0, 20, .slice A1 (nA + 1 + nX) cc1⟩ (by subst hp; simp) (hdep ⟨0, .data⟩ (by simp) rfl)
        · exact (by rw [← hn]; exact hv)
        · rw [hpk]; exact (by rw [← hn, ← hz]; exact hx.rd)
        · subst hp; rfl
        · subst hp; rfl
        · subst hp; simp only; omega
      · as_aux_lemma =>
        refine hI.fx ok ⟨3, 23, .slice B nB cB⟩ (by subst hp; simp) hl rfl ?_
        have hc : w'.cell? ⟨gB, 0, none⟩ = some (.slice B nB cB) := (vB.below hw vB.lt).cell
        simp only [execOp, Act.eval, e3]
        go_simp
      · as_aux_lemma =>
        refine hI.app1 ok (s := 0) (c' := ⟨2, 22, nA + 1 + nX + 1, lA ++ [o] ++ lX ++ [8297]⟩) (c := ⟨4, 24, nA + 1 + nX + 1 + nB, lA ++ [o] ++ lX ++ [8297] ++ lB⟩) (by subst hp; rfl) (by subst hp; rfl) hl (hdep ⟨2, .data⟩ (by simp) rfl) rfl rfl hel (y := .tmp 23) (A' := B) (m := nB) (cy := cB) (ys := lB) ?_ ?_ ?_ ?_ ?_
        · exact hI.fix ⟨3, 23, .slice B nB cB⟩ (by subst hp; simp) (hdep ⟨3, .data⟩ (by simp) rfl)
        · rw [hpk]; exact rB.below hw
        · simp
        · simp
        · simp only; omega
      · as_aux_lemma =>
        exact hI.cpy1 ok (s := 1) (c' := ⟨4, 24, nA + 1 + nX + 1 + nB, lA ++ [o] ++ lX ++ [8297] ++ lB⟩) (c := ⟨5, 8, nA + 1 + nX + 1 + nB, lA ++ [o] ++ lX ++ [8297] ++ lB⟩) (by subst hp; rfl) (by subst hp; rfl) hl (hdep ⟨4, .data⟩ (by simp) rfl) rfl rfl rfl rfl
    · intro L a' w' hs hI hall
      have HL1 := hide (hI.look1 (s := 2) (c := ⟨5, 8, nA + 1 + nX + 1 + nB, lA ++ [o] ++ lX ++ [8297] ++ lB⟩) (by subst hp; rfl) (by subst hp; rfl) (hall 5 (by decide)))
      have HL2 := hide (hI.look2 (s := 0) (c := ⟨1, 21, 1, [8297]⟩) (by subst hp; rfl) (by subst hp; rfl) (hall 1 (by decide)))
      have hbw := hI.bel
      have hlow := hI.low
      rw [hpw] at hbw
      rw [hpk, hpe] at HL1 HL2
      rw [act_puts (a := a') (a0 := p.a0) (ds := p.dsts) hI.size hI.dfr hI.keep, hD, hpa]
      clear hI hall hs ok hN hD hds hpa hpw hpe hpk hp p hsz k8 k3 L
      simp only [List.foldl_cons, List.foldl_nil]
      obtain ⟨⟨A2, n2, cc2, zz2⟩, hx2, hv2, hn2, hz2⟩ := HL1.out
      simp only [Cur.val] at hv2 hn2 hz2
      subst hn2; subst hz2
      simp only [hv2]
      clear HL1 HL2 hv2
      generalize a'.tmps.getD 20 undef = y20
      generalize a'.tmps.getD 23 undef = y23
      generalize a'.tmps.getD 22 undef = y22
      generalize a'.tmps.getD 24 undef = y24
      generalize a'.tmps.getD 21 undef = y21
      clear a'
      subst ha
      simp only at hx2
      simp only [Act.put, List.setIfInBounds_toArray, List.set_cons_succ, List.set_cons_zero]
      have c5 := (vb.below hbw vb.lt).cell
      have c6 := (vA.below hbw vA.lt).cell
      clear c1 c2 c3 c4
      obtain ⟨N, hNe⟩ : ∃ N, nA + 1 + nX + 1 + nB = N := ⟨_, rfl⟩
      rw [hNe] at hx2 ⊢
      have hNH := hide hNe
      have hN1 : N ≤ 300 := by omega
      have hN2 : nA + 1 ≤ N := by omega
      have hN3 : nA + 1 + nX ≤ N := by omega
      have hN4 : nA + 1 + nX < N := by omega
      clear hNe
      have hrow : (lA ++ [o] ++ lX ++ [8297] ++ lB).map cls = isoR (lA.map cls) (lX.map cls) (lB.map cls) (cls o) 22 := by
        have h22 : cls 8297 = 22 := by decide +kernel
        simp [isoR, h22]
      go_wp2_with fail
      refine (exp_any A2 N cc2 _ base _ hx2.rd (by omega) hb01).mono ?_
      rintro e w3 ⟨g1, c7, g2, c8, rfl, hL, hO, hne, hb3⟩
      rw [hrow] at hL hO
      have hbl3 := hide (hbw.trans (hb3.mono hbw.size))
      have hLA := hide (show (lA.map cls).length = nA by rw [List.length_map, rA.len])
      have hLX := hide (show (lX.map cls).length = nX by rw [List.length_map, rX.len])
      rw [hLA.out, hLX.out] at hiso
      generalize levelsS (isoR (lA.map cls) (lX.map cls) (lB.map cls) (cls o) 22) base = LV at *
      generalize classesS (isoR (lA.map cls) (lX.map cls) (lB.map cls) (cls o) 22) base = CS at *
      have c9 := ((vA.below hbl3.out vA.lt)).cell
      clear c5 c6 hrow hx2
      have hL2 := hide hL
      have hO2 := hide hO
      have hcapL := hL.cap_
      have hcapO := hO.cap_
      clear hL hO
      have tn : ((N : Int) != (N : Int)) = false := by simp
      go_wp2_with fail
      clear hbw
      have hds : ∀ d ∈ [47, 48, 49, 51, 52, 53, 54, 55, 56, 59, 60, 61, 63, 64, 65, 66, 67, 68, 46, 50, 57, 6, 58, 62, 69, 7], d < 70 := by decide
      generalize ha : Act.mk _ _ = a0
      have hsz : a0.tmps.size = 70 := by rw [← ha]; rfl
      have k0 : a0.tmps.getD 0 undef = .slice X nX cX := by rw [← ha]; rfl
      have k9 : a0.tmps.getD 9 undef = .slice (some ⟨g1, 0, none⟩) N c7 := by rw [← ha]; rfl
      have k10 : a0.tmps.getD 10 undef = .slice (some ⟨g2, 0, none⟩) N c8 := by rw [← ha]; rfl
      have k11 : a0.tmps.getD 11 undef = .int .i64 ((nA : Int) + 1) := by rw [← ha]; rfl
      generalize hp : Plan.mk w3 a0 5 .u8 [⟨1, 47, .slice (some ⟨g1, 0, none⟩) N c7⟩, ⟨2, 48, .int .i64 ((nA : Int) + 1)⟩, ⟨3, 49, .slice (some ⟨g1, 0, none⟩) (nA + 1) c7⟩, ⟨5, 51, .slice (some ⟨g1, 0, none⟩) N c7⟩, ⟨6, 52, .int .i64 ((nA : Int) + 1)⟩, ⟨7, 53, .slice X nX cX⟩, ⟨8, 54, .int .i64 (nX : Int)⟩, ⟨9, 55, .int .i64 ((nA : Int) + 1 + (nX : Int))⟩, ⟨10, 56, .slice (some ⟨g1, nA + 1 + nX, none⟩) (N - (nA + 1 + nX)) (c7 - (nA + 1 + nX))⟩, ⟨13, 59, .slice (some ⟨g2, 0, none⟩) N c8⟩, ⟨14, 60, .int .i64 ((nA : Int) + 1)⟩, ⟨15, 61, .slice (some ⟨g2, 0, none⟩) (nA + 1) c8⟩, ⟨17, 63, .slice (some ⟨g2, 0, none⟩) N c8⟩, ⟨18, 64, .int .i64 ((nA : Int) + 1)⟩, ⟨19, 65, .slice X nX cX⟩, ⟨20, 66, .int .i64 (nX : Int)⟩, ⟨21, 67, .int .i64 ((nA : Int) + 1 + (nX : Int))⟩, ⟨22, 68, .slice (some ⟨g2, nA + 1 + nX, none⟩) (N - (nA + 1 + nX)) (c8 - (nA + 1 + nX))⟩] [⟨0, 46, 0, []⟩, ⟨4, 50, nA + 1, LV.take (nA + 1)⟩, ⟨11, 57, nA + 1 + (N - (nA + 1 + nX)), LV.take (nA + 1) ++ LV.drop (nA + 1 + nX)⟩, ⟨24, 6, nA + 1 + (N - (nA + 1 + nX)), LV.take (nA + 1) ++ LV.drop (nA + 1 + nX)⟩] [⟨12, 58, 0, []⟩, ⟨16, 62, nA + 1, CS.take (nA + 1)⟩, ⟨23, 69, nA + 1 + (N - (nA + 1 + nX)), CS.take (nA + 1) ++ CS.drop (nA + 1 + nX)⟩, ⟨25, 7, nA + 1 + (N - (nA + 1 + nX)), CS.take (nA + 1) ++ CS.drop (nA + 1 + nX)⟩] nilC nilC = p
      have hD : p.dsts = [47, 48, 49, 51, 52, 53, 54, 55, 56, 59, 60, 61, 63, 64, 65, 66, 67, 68, 46, 50, 57, 6, 58, 62, 69, 7] := by subst hp; rfl
      have hN : p.idxs = [1, 2, 3, 5, 6, 7, 8, 9, 10, 13, 14, 15, 17, 18, 19, 20, 21, 22, 0, 4, 11, 24, 12, 16, 23, 25] := by subst hp; rfl
      have hpa : p.a0 = a0 := by subst hp; rfl
      have hpw : p.w0 = w3 := by subst hp; rfl
      have hpe : p.e = 5 := by subst hp; rfl
      have hpk : p.k = .u8 := by subst hp; rfl
      have ok : p.OK := ⟨by rw [hD]; decide, by rw [hN]; decide, fun d hd => by rw [hpa, hsz]; rw [hD] at hd; exact hds d hd⟩
      refine wp_region_inv (by kernel_rfl) (fun L a' w' => p.Inv w3.heap.size L a' w') ?_ ?_ ?_ ?_
      · as_aux_lemma =>
        have hf : ∀ i, (Array.replicate 26 false).getD i false = false := fun i => by
          rcases Nat.lt_or_ge i 26 with h | h
          · simp [h]
          · simp [h]
        subst hp
        refine ⟨hB_drewN (show Below w3.heap.size w3 _ from Below.refl _ _) 1, (show Below w3.heap.size w3 _ from Below.refl _ _).size, rfl, rfl, fun _ _ => rfl, fun f _ h => ?_, 0, 0, nilC, nilC, ⟨fun s c _ => ?_, .inl ⟨rfl, rfl⟩⟩, ⟨fun s c _ => ?_, .inl ⟨rfl, rfl⟩⟩, Own.none_ _ _ _ _, Own.none_ _ _ _ _, .inl rfl⟩
        · exact absurd ((hf f.idx).symm.trans h) (by decide)
        · exact hf c.idx
        · exact hf c.idx
      · intro L a' w' i op hs hcl hI ho hl hdep
        have hi : i < 26 := by
          rcases Nat.lt_or_ge i 26 with h | h
          · exact h
          · rw [Array.getElem?_eq_none (by simpa using h)] at ho; cases ho
        have e0 : a'.tmps.getD 0 undef = .slice X nX cX := by rw [hI.keep 0 (by rw [hD]; decide), hpa]; exact k0
        have e9 : a'.tmps.getD 9 undef = .slice (some ⟨g1, 0, none⟩) N c7 := by rw [hI.keep 9 (by rw [hD]; decide), hpa]; exact k9
        have e10 : a'.tmps.getD 10 undef = .slice (some ⟨g2, 0, none⟩) N c8 := by rw [hI.keep 10 (by rw [hD]; decide), hpa]; exact k10
        have e11 : a'.tmps.getD 11 undef = .int .i64 ((nA : Int) + 1) := by rw [hI.keep 11 (by rw [hD]; decide), hpa]; exact k11
        have hw : Below w3.heap.size w3 w' := by have := hI.bel; rw [hpw] at this; exact this
        have hel : Elt Try.prog 22 p.e p.k := by subst hp; exact elt8
        rcases (show i = 0 ∨ i = 1 ∨ i = 2 ∨ i = 3 ∨ i = 4 ∨ i = 5 ∨ i = 6 ∨ i = 7 ∨ i = 8 ∨ i = 9 ∨ i = 10 ∨ i = 11 ∨ i = 12 ∨ i = 13 ∨ i = 14 ∨ i = 15 ∨ i = 16 ∨ i = 17 ∨ i = 18 ∨ i = 19 ∨ i = 20 ∨ i = 21 ∨ i = 22 ∨ i = 23 ∨ i = 24 ∨ i = 25 by omega) with rfl | rfl | rfl | rfl | rfl | rfl | rfl | rfl | rfl | rfl | rfl | rfl | rfl | rfl | rfl | rfl | rfl | rfl | rfl | rfl | rfl | rfl | rfl | rfl | rfl | rfl
        all_goals (have ho2 := ho; simp only [List.getElem?_toArray, List.getElem?_cons_succ, List.getElem?_cons_zero, Option.some.injEq] at ho2; subst ho2; refine wpOp_of ho rfl ?_; clear ho hi)
        · as_aux_lemma =>
          refine hI.new1 ok (c := ⟨0, 46, 0, []⟩) (by subst hp; rfl) hl rfl (cs := #[]) (cp := 0) ?_ ?_
          · rw [hpe]
            simp only [execOp]
            go_simp
          · rw [hpe, hpk]; exact own_empty _ _ _ _ _ rfl hI.low
        · as_aux_lemma =>
          refine hI.fx ok ⟨1, 47, .slice (some ⟨g1, 0, none⟩) N c7⟩ (by subst hp; simp) hl rfl ?_
          simp only [execOp, Act.eval, e9]; rfl
        · as_aux_lemma =>
          refine hI.fx ok ⟨2, 48, .int .i64 ((nA : Int) + 1)⟩ (by subst hp; simp) hl rfl ?_
          simp only [execOp, Act.eval, e11]; rfl
        · as_aux_lemma =>
          refine hI.fx ok ⟨3, 49, .slice (some ⟨g1, 0, none⟩) (nA + 1) c7⟩ (by subst hp; simp) hl rfl ?_
          have v47 : a'.tmps.getD 47 undef = .slice (some ⟨g1, 0, none⟩) N c7 := hI.fix ⟨1, 47, .slice (some ⟨g1, 0, none⟩) N c7⟩ (by subst hp; simp) (hdep ⟨1, .data⟩ (by simp) rfl)
          have v48 : a'.tmps.getD 48 undef = .int .i64 ((nA : Int) + 1) := hI.fix ⟨2, 48, .int .i64 ((nA : Int) + 1)⟩ (by subst hp; simp) (hdep ⟨2, .data⟩ (by simp) rfl)
          have t1 : ((nA : Int) + 1).toNat = nA + 1 := by omega
          have t2 : (0 : Int) ≤ (nA : Int) + 1 := by omega
          have t3 : (nA : Int) + 1 ≤ (c7 : Int) := by omega
          have t4 : ((nA : Int) + 1 + (nX : Int)).toNat = nA + 1 + nX := by omega
          have t5 : (0 : Int) ≤ (nA : Int) + 1 + (nX : Int) := by omega
          have t6 : (nA : Int) + 1 + (nX : Int) ≤ (N : Int) := by omega
          have t7 : (N : Int) ≤ (c7 : Int) := by omega
          have t8 : IntKind.i64.wrap ((nA : Int) + 1 + (nX : Int)) = (nA : Int) + 1 + (nX : Int) := IntWalk.i64_in _ (by omega)
          have t9 : ¬ c7 = nA + 1 + nX := by omega
          simp only [execOp, Act.eval, v47, v48, Option.map_some, Option.map_none]
          go_simp
        · as_aux_lemma =>
          refine hI.app1 ok (s := 0) (c' := ⟨0, 46, 0, []⟩) (c := ⟨4, 50, nA + 1, LV.take (nA + 1)⟩) (by subst hp; rfl) (by subst hp; rfl) hl (hdep ⟨0, .data⟩ (by simp) rfl) rfl rfl hel (y := .tmp 49) (A' := some ⟨g1, 0, none⟩) (m := nA + 1) (cy := c7) (ys := LV.take (nA + 1)) ?_ ?_ ?_ ?_ ?_
          · exact hI.fix ⟨3, 49, .slice (some ⟨g1, 0, none⟩) (nA + 1) c7⟩ (by subst hp; simp) (hdep ⟨3, .data⟩ (by simp) rfl)
          · rw [hpk]; exact rd_to (hL2.out.rd.below hw) hN2
          · simp
          · simp
          · simp only; omega
        · as_aux_lemma =>
          refine hI.fx ok ⟨5, 51, .slice (some ⟨g1, 0, none⟩) N c7⟩ (by subst hp; simp) hl rfl ?_
          simp only [execOp, Act.eval, e9]; rfl
        · as_aux_lemma =>
          refine hI.fx ok ⟨6, 52, .int .i64 ((nA : Int) + 1)⟩ (by subst hp; simp) hl rfl ?_
          simp only [execOp, Act.eval, e11]; rfl
        · as_aux_lemma =>
          refine hI.fx ok ⟨7, 53, .slice X nX cX⟩ (by subst hp; simp) hl rfl ?_
          simp only [execOp, Act.eval, e0]; rfl
        · as_aux_lemma =>
          refine hI.fx ok ⟨8, 54, .int .i64 (nX : Int)⟩ (by subst hp; simp) hl rfl ?_
          have v53 : a'.tmps.getD 53 undef = .slice X nX cX := hI.fix ⟨7, 53, .slice X nX cX⟩ (by subst hp; simp) (hdep ⟨7, .data⟩ (by simp) rfl)
          simp only [execOp]
          go_simp
        · as_aux_lemma =>
          refine hI.fx ok ⟨9, 55, .int .i64 ((nA : Int) + 1 + (nX : Int))⟩ (by subst hp; simp) hl rfl ?_
          have v52 : a'.tmps.getD 52 undef = .int .i64 ((nA : Int) + 1) := hI.fix ⟨6, 52, .int .i64 ((nA : Int) + 1)⟩ (by subst hp; simp) (hdep ⟨6, .data⟩ (by simp) rfl)
          have v54 : a'.tmps.getD 54 undef = .int .i64 (nX : Int) := hI.fix ⟨8, 54, .int .i64 (nX : Int)⟩ (by subst hp; simp) (hdep ⟨8, .data⟩ (by simp) rfl)
          have t1 : ((nA : Int) + 1).toNat = nA + 1 := by omega
          have t2 : (0 : Int) ≤ (nA : Int) + 1 := by omega
          have t3 : (nA : Int) + 1 ≤ (c7 : Int) := by omega
          have t4 : ((nA : Int) + 1 + (nX : Int)).toNat = nA + 1 + nX := by omega
          have t5 : (0 : Int) ≤ (nA : Int) + 1 + (nX : Int) := by omega
          have t6 : (nA : Int) + 1 + (nX : Int) ≤ (N : Int) := by omega
          have t7 : (N : Int) ≤ (c7 : Int) := by omega
          have t8 : IntKind.i64.wrap ((nA : Int) + 1 + (nX : Int)) = (nA : Int) + 1 + (nX : Int) := IntWalk.i64_in _ (by omega)
          have t9 : ¬ c7 = nA + 1 + nX := by omega
          simp only [execOp, Act.eval, v52, v54]
          go_simp
        · as_aux_lemma =>
          refine hI.fx ok ⟨10, 56, .slice (some ⟨g1, nA + 1 + nX, none⟩) (N - (nA + 1 + nX)) (c7 - (nA + 1 + nX))⟩ (by subst hp; simp) hl rfl ?_
          have v51 : a'.tmps.getD 51 undef = .slice (some ⟨g1, 0, none⟩) N c7 := hI.fix ⟨5, 51, .slice (some ⟨g1, 0, none⟩) N c7⟩ (by subst hp; simp) (hdep ⟨5, .data⟩ (by simp) rfl)
          have v55 : a'.tmps.getD 55 undef = .int .i64 ((nA : Int) + 1 + (nX : Int)) := hI.fix ⟨9, 55, .int .i64 ((nA : Int) + 1 + (nX : Int))⟩ (by subst hp; simp) (hdep ⟨9, .data⟩ (by simp) rfl)
          have t1 : ((nA : Int) + 1).toNat = nA + 1 := by omega
          have t2 : (0 : Int) ≤ (nA : Int) + 1 := by omega
          have t3 : (nA : Int) + 1 ≤ (c7 : Int) := by omega
          have t4 : ((nA : Int) + 1 + (nX : Int)).toNat = nA + 1 + nX := by omega
          have t5 : (0 : Int) ≤ (nA : Int) + 1 + (nX : Int) := by omega
          have t6 : (nA : Int) + 1 + (nX : Int) ≤ (N : Int) := by omega
          have t7 : (N : Int) ≤ (c7 : Int) := by omega
          have t8 : IntKind.i64.wrap ((nA : Int) + 1 + (nX : Int)) = (nA : Int) + 1 + (nX : Int) := IntWalk.i64_in _ (by omega)
          have t9 : ¬ c7 = nA + 1 + nX := by omega
          simp only [execOp, Act.eval, v51, v55, Option.map_some, Option.map_none]
          go_simp
        · as_aux_lemma =>
          refine hI.app1 ok (s := 1) (c' := ⟨4, 50, nA + 1, LV.take (nA + 1)⟩) (c := ⟨11, 57, nA + 1 + (N - (nA + 1 + nX)), LV.take (nA + 1) ++ LV.drop (nA + 1 + nX)⟩) (by subst hp; rfl) (by subst hp; rfl) hl (hdep ⟨4, .data⟩ (by simp) rfl) rfl rfl hel (y := .tmp 56) (A' := some ⟨g1, nA + 1 + nX, none⟩) (m := N - (nA + 1 + nX)) (cy := c7 - (nA + 1 + nX)) (ys := LV.drop (nA + 1 + nX)) ?_ ?_ ?_ ?_ ?_
          · exact hI.fix ⟨10, 56, .slice (some ⟨g1, nA + 1 + nX, none⟩) (N - (nA + 1 + nX)) (c7 - (nA + 1 + nX))⟩ (by subst hp; simp) (hdep ⟨10, .data⟩ (by simp) rfl)
          · rw [hpk]; exact (by have h9 := rd_from (hL2.out.rd.below hw) hN3; rw [Nat.zero_add] at h9; exact h9)
          · simp
          · simp
          · simp only; omega
        · as_aux_lemma =>
          refine hI.new2 ok (c := ⟨12, 58, 0, []⟩) (by subst hp; rfl) hl rfl (cs := #[]) (cp := 0) ?_ ?_
          · rw [hpe]
            simp only [execOp]
            go_simp
          · rw [hpe, hpk]; exact own_empty _ _ _ _ _ rfl hI.low
        · as_aux_lemma =>
          refine hI.fx ok ⟨13, 59, .slice (some ⟨g2, 0, none⟩) N c8⟩ (by subst hp; simp) hl rfl ?_
          simp only [execOp, Act.eval, e10]; rfl
        · as_aux_lemma =>
          refine hI.fx ok ⟨14, 60, .int .i64 ((nA : Int) + 1)⟩ (by subst hp; simp) hl rfl ?_
          simp only [execOp, Act.eval, e11]; rfl
        · as_aux_lemma =>
          refine hI.fx ok ⟨15, 61, .slice (some ⟨g2, 0, none⟩) (nA + 1) c8⟩ (by subst hp; simp) hl rfl ?_
          have v59 : a'.tmps.getD 59 undef = .slice (some ⟨g2, 0, none⟩) N c8 := hI.fix ⟨13, 59, .slice (some ⟨g2, 0, none⟩) N c8⟩ (by subst hp; simp) (hdep ⟨13, .data⟩ (by simp) rfl)
          have v60 : a'.tmps.getD 60 undef = .int .i64 ((nA : Int) + 1) := hI.fix ⟨14, 60, .int .i64 ((nA : Int) + 1)⟩ (by subst hp; simp) (hdep ⟨14, .data⟩ (by simp) rfl)
          have t1 : ((nA : Int) + 1).toNat = nA + 1 := by omega
          have t2 : (0 : Int) ≤ (nA : Int) + 1 := by omega
          have t3 : (nA : Int) + 1 ≤ (c8 : Int) := by omega
          have t4 : ((nA : Int) + 1 + (nX : Int)).toNat = nA + 1 + nX := by omega
          have t5 : (0 : Int) ≤ (nA : Int) + 1 + (nX : Int) := by omega
          have t6 : (nA : Int) + 1 + (nX : Int) ≤ (N : Int) := by omega
          have t7 : (N : Int) ≤ (c8 : Int) := by omega
          have t8 : IntKind.i64.wrap ((nA : Int) + 1 + (nX : Int)) = (nA : Int) + 1 + (nX : Int) := IntWalk.i64_in _ (by omega)
          have t9 : ¬ c8 = nA + 1 + nX := by omega
          simp only [execOp, Act.eval, v59, v60, Option.map_some, Option.map_none]
          go_simp
        · as_aux_lemma =>
          refine hI.app2 ok (s := 0) (c' := ⟨12, 58, 0, []⟩) (c := ⟨16, 62, nA + 1, CS.take (nA + 1)⟩) (by subst hp; rfl) (by subst hp; rfl) hl (hdep ⟨12, .data⟩ (by simp) rfl) rfl rfl hel (y := .tmp 61) (A' := some ⟨g2, 0, none⟩) (m := nA + 1) (cy := c8) (ys := CS.take (nA + 1)) ?_ ?_ ?_ ?_ ?_
          · exact hI.fix ⟨15, 61, .slice (some ⟨g2, 0, none⟩) (nA + 1) c8⟩ (by subst hp; simp) (hdep ⟨15, .data⟩ (by simp) rfl)
          · rw [hpk]; exact rd_to (hO2.out.rd.below hw) hN2
          · simp
          · simp
          · simp only; omega
        · as_aux_lemma =>
          refine hI.fx ok ⟨17, 63, .slice (some ⟨g2, 0, none⟩) N c8⟩ (by subst hp; simp) hl rfl ?_
          simp only [execOp, Act.eval, e10]; rfl
        · as_aux_lemma =>
          refine hI.fx ok ⟨18, 64, .int .i64 ((nA : Int) + 1)⟩ (by subst hp; simp) hl rfl ?_
          simp only [execOp, Act.eval, e11]; rfl
        · as_aux_lemma =>
          refine hI.fx ok ⟨19, 65, .slice X nX cX⟩ (by subst hp; simp) hl rfl ?_
          simp only [execOp, Act.eval, e0]; rfl
        · as_aux_lemma =>
          refine hI.fx ok ⟨20, 66, .int .i64 (nX : Int)⟩ (by subst hp; simp) hl rfl ?_
          have v65 : a'.tmps.getD 65 undef = .slice X nX cX := hI.fix ⟨19, 65, .slice X nX cX⟩ (by subst hp; simp) (hdep ⟨19, .data⟩ (by simp) rfl)
          simp only [execOp]
          go_simp
        · as_aux_lemma =>
          refine hI.fx ok ⟨21, 67, .int .i64 ((nA : Int) + 1 + (nX : Int))⟩ (by subst hp; simp) hl rfl ?_
          have v64 : a'.tmps.getD 64 undef = .int .i64 ((nA : Int) + 1) := hI.fix ⟨18, 64, .int .i64 ((nA : Int) + 1)⟩ (by subst hp; simp) (hdep ⟨18, .data⟩ (by simp) rfl)
          have v66 : a'.tmps.getD 66 undef = .int .i64 (nX : Int) := hI.fix ⟨20, 66, .int .i64 (nX : Int)⟩ (by subst hp; simp) (hdep ⟨20, .data⟩ (by simp) rfl)
          have t1 : ((nA : Int) + 1).toNat = nA + 1 := by omega
          have t2 : (0 : Int) ≤ (nA : Int) + 1 := by omega
          have t3 : (nA : Int) + 1 ≤ (c8 : Int) := by omega
          have t4 : ((nA : Int) + 1 + (nX : Int)).toNat = nA + 1 + nX := by omega
          have t5 : (0 : Int) ≤ (nA : Int) + 1 + (nX : Int) := by omega
          have t6 : (nA : Int) + 1 + (nX : Int) ≤ (N : Int) := by omega
          have t7 : (N : Int) ≤ (c8 : Int) := by omega
          have t8 : IntKind.i64.wrap ((nA : Int) + 1 + (nX : Int)) = (nA : Int) + 1 + (nX : Int) := IntWalk.i64_in _ (by omega)
          have t9 : ¬ c8 = nA + 1 + nX := by omega
          simp only [execOp, Act.eval, v64, v66]
          go_simp
        · as_aux_lemma =>
          refine hI.fx ok ⟨22, 68, .slice (some ⟨g2, nA + 1 + nX, none⟩) (N - (nA + 1 + nX)) (c8 - (nA + 1 + nX))⟩ (by subst hp; simp) hl rfl ?_
          have v63 : a'.tmps.getD 63 undef = .slice (some ⟨g2, 0, none⟩) N c8 := hI.fix ⟨17, 63, .slice (some ⟨g2, 0, none⟩) N c8⟩ (by subst hp; simp) (hdep ⟨17, .data⟩ (by simp) rfl)
          have v67 : a'.tmps.getD 67 undef = .int .i64 ((nA : Int) + 1 + (nX : Int)) := hI.fix ⟨21, 67, .int .i64 ((nA : Int) + 1 + (nX : Int))⟩ (by subst hp; simp) (hdep ⟨21, .data⟩ (by simp) rfl)
          have t1 : ((nA : Int) + 1).toNat = nA + 1 := by omega
          have t2 : (0 : Int) ≤ (nA : Int) + 1 := by omega
          have t3 : (nA : Int) + 1 ≤ (c8 : Int) := by omega
          have t4 : ((nA : Int) + 1 + (nX : Int)).toNat = nA + 1 + nX := by omega
          have t5 : (0 : Int) ≤ (nA : Int) + 1 + (nX : Int) := by omega
          have t6 : (nA : Int) + 1 + (nX : Int) ≤ (N : Int) := by omega
          have t7 : (N : Int) ≤ (c8 : Int) := by omega
          have t8 : IntKind.i64.wrap ((nA : Int) + 1 + (nX : Int)) = (nA : Int) + 1 + (nX : Int) := IntWalk.i64_in _ (by omega)
          have t9 : ¬ c8 = nA + 1 + nX := by omega
          simp only [execOp, Act.eval, v63, v67, Option.map_some, Option.map_none]
          go_simp
        · as_aux_lemma =>
          refine hI.app2 ok (s := 1) (c' := ⟨16, 62, nA + 1, CS.take (nA + 1)⟩) (c := ⟨23, 69, nA + 1 + (N - (nA + 1 + nX)), CS.take (nA + 1) ++ CS.drop (nA + 1 + nX)⟩) (by subst hp; rfl) (by subst hp; rfl) hl (hdep ⟨16, .data⟩ (by simp) rfl) rfl rfl hel (y := .tmp 68) (A' := some ⟨g2, nA + 1 + nX, none⟩) (m := N - (nA + 1 + nX)) (cy := c8 - (nA + 1 + nX)) (ys := CS.drop (nA + 1 + nX)) ?_ ?_ ?_ ?_ ?_
          · exact hI.fix ⟨22, 68, .slice (some ⟨g2, nA + 1 + nX, none⟩) (N - (nA + 1 + nX)) (c8 - (nA + 1 + nX))⟩ (by subst hp; simp) (hdep ⟨22, .data⟩ (by simp) rfl)
          · rw [hpk]; exact (by have h9 := rd_from (hO2.out.rd.below hw) hN3; rw [Nat.zero_add] at h9; exact h9)
          · simp
          · simp
          · simp only; omega
        · as_aux_lemma =>
          exact hI.cpy1 ok (s := 2) (c' := ⟨11, 57, nA + 1 + (N - (nA + 1 + nX)), LV.take (nA + 1) ++ LV.drop (nA + 1 + nX)⟩) (c := ⟨24, 6, nA + 1 + (N - (nA + 1 + nX)), LV.take (nA + 1) ++ LV.drop (nA + 1 + nX)⟩) (by subst hp; rfl) (by subst hp; rfl) hl (hdep ⟨11, .data⟩ (by simp) rfl) rfl rfl rfl rfl
        · as_aux_lemma =>
          exact hI.cpy2 ok (s := 2) (c' := ⟨23, 69, nA + 1 + (N - (nA + 1 + nX)), CS.take (nA + 1) ++ CS.drop (nA + 1 + nX)⟩) (c := ⟨25, 7, nA + 1 + (N - (nA + 1 + nX)), CS.take (nA + 1) ++ CS.drop (nA + 1 + nX)⟩) (by subst hp; rfl) (by subst hp; rfl) hl (hdep ⟨23, .data⟩ (by simp) rfl) rfl rfl rfl rfl
      · intro L a' w' hs hI hall
        have HL1 := hide (hI.look1 (s := 3) (c := ⟨24, 6, nA + 1 + (N - (nA + 1 + nX)), LV.take (nA + 1) ++ LV.drop (nA + 1 + nX)⟩) (by subst hp; rfl) (by subst hp; rfl) (hall 24 (by decide)))
        have HL2 := hide (hI.look2 (s := 3) (c := ⟨25, 7, nA + 1 + (N - (nA + 1 + nX)), CS.take (nA + 1) ++ CS.drop (nA + 1 + nX)⟩) (by subst hp; rfl) (by subst hp; rfl) (hall 25 (by decide)))
        have hbw := hI.bel
        have hlow := hI.low
        rw [hpw] at hbw
        rw [hpk, hpe] at HL1 HL2
        rw [act_puts (a := a') (a0 := p.a0) (ds := p.dsts) hI.size hI.dfr hI.keep, hD, hpa]
        clear hI hall hs ok hN hD hds hpa hpw hpe hpk hp p hsz k0 k9 k10 k11 L
        simp only [List.foldl_cons, List.foldl_nil]
        obtain ⟨⟨A5, n5, cc5, zz5⟩, hx5, hv5, hn5, hz5⟩ := HL1.out
        obtain ⟨⟨A6, n6, cc6, zz6⟩, hx6, hv6, hn6, hz6⟩ := HL2.out
        simp only [Cur.val] at hv5 hn5 hz5 hv6 hn6 hz6
        subst hn5; subst hz5; subst hn6; subst hz6
        simp only [hv5, hv6]
        clear HL1 HL2 hv5 hv6
        generalize a'.tmps.getD 46 undef = x46
        generalize a'.tmps.getD 47 undef = x47
        generalize a'.tmps.getD 48 undef = x48
        generalize a'.tmps.getD 49 undef = x49
        generalize a'.tmps.getD 50 undef = x50
        generalize a'.tmps.getD 51 undef = x51
        generalize a'.tmps.getD 52 undef = x52
        generalize a'.tmps.getD 53 undef = x53
        generalize a'.tmps.getD 54 undef = x54
        generalize a'.tmps.getD 55 undef = x55
        generalize a'.tmps.getD 56 undef = x56
        generalize a'.tmps.getD 57 undef = x57
        generalize a'.tmps.getD 58 undef = x58
        generalize a'.tmps.getD 59 undef = x59
        generalize a'.tmps.getD 60 undef = x60
        generalize a'.tmps.getD 61 undef = x61
        generalize a'.tmps.getD 62 undef = x62
        generalize a'.tmps.getD 63 undef = x63
        generalize a'.tmps.getD 64 undef = x64
        generalize a'.tmps.getD 65 undef = x65
        generalize a'.tmps.getD 66 undef = x66
        generalize a'.tmps.getD 67 undef = x67
        generalize a'.tmps.getD 68 undef = x68
        generalize a'.tmps.getD 69 undef = x69
        clear a'
        subst ha
        simp only at hx5 hx6
        simp only [Act.put, List.setIfInBounds_toArray, List.set_cons_succ, List.set_cons_zero]
        obtain ⟨i1, i2⟩ := hiso.out
        rw [i1] at hx5
        rw [i2] at hx6
        have l5 := hx5.len
        have l6 := hx6.len
        go_wp2_with fail
        go_ret2
        refine ⟨A5, cc5, A6, cc6, by rw [l5, l6]; rfl, by rw [l5]; exact hx5.more hbl3.out.size, by rw [l6]; exact hx6.more hbl3.out.size, hbl3.out.trans (hbw.mono hbl3.out.size)⟩
      · intro i op ho
        as_aux_lemma =>
          have hi : i < 26 := by
            rcases Nat.lt_or_ge i 26 with h | h
            · exact h
            · rw [Array.getElem?_eq_none (by simpa using h)] at ho; cases ho
          rcases (show i = 0 ∨ i = 1 ∨ i = 2 ∨ i = 3 ∨ i = 4 ∨ i = 5 ∨ i = 6 ∨ i = 7 ∨ i = 8 ∨ i = 9 ∨ i = 10 ∨ i = 11 ∨ i = 12 ∨ i = 13 ∨ i = 14 ∨ i = 15 ∨ i = 16 ∨ i = 17 ∨ i = 18 ∨ i = 19 ∨ i = 20 ∨ i = 21 ∨ i = 22 ∨ i = 23 ∨ i = 24 ∨ i = 25 by omega) with rfl | rfl | rfl | rfl | rfl | rfl | rfl | rfl | rfl | rfl | rfl | rfl | rfl | rfl | rfl | rfl | rfl | rfl | rfl | rfl | rfl | rfl | rfl | rfl | rfl | rfl
          all_goals (simp only [List.getElem?_toArray, List.getElem?_cons_succ, List.getElem?_cons_zero, Option.some.injEq] at ho; subst ho; simp)
    · intro i op ho
      as_aux_lemma =>
        have hi : i < 6 := by
          rcases Nat.lt_or_ge i 6 with h | h
          · exact h
          · rw [Array.getElem?_eq_none (by simpa using h)] at ho; cases ho
        rcases (show i = 0 ∨ i = 1 ∨ i = 2 ∨ i = 3 ∨ i = 4 ∨ i = 5 by omega) with rfl | rfl | rfl | rfl | rfl | rfl
        all_goals (simp only [List.getElem?_toArray, List.getElem?_cons_succ, List.getElem?_cons_zero, Option.some.injEq] at ho; subst ho; simp)
  · intro i op ho
    as_aux_lemma =>
      have hi : i < 9 := by
        rcases Nat.lt_or_ge i 9 with h | h
        · exact h
        · rw [Array.getElem?_eq_none (by simpa using h)] at ho; cases ho
      rcases (show i = 0 ∨ i = 1 ∨ i = 2 ∨ i = 3 ∨ i = 4 ∨ i = 5 ∨ i = 6 ∨ i = 7 ∨ i = 8 by omega) with rfl | rfl | rfl | rfl | rfl | rfl | rfl | rfl | rfl
      all_goals (simp only [List.getElem?_toArray, List.getElem?_cons_succ, List.getElem?_cons_zero, Option.some.injEq] at ho; subst ho; simp)
end Go.Proofs.Ytaojjneajiobnaa

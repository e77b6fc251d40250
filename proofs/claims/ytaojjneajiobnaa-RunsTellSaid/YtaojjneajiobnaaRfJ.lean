/-
  The reference of layer 19: Explicit.
-/
import Derived.Test.YtaojjneajiobnaaRfI
import Derived.StillTailTactics
import Derived.Deep.DeepCutAuto
import Derived.Test.YtaojjneajiobnaaRgc
namespace Go.Proofs.Ytaojjneajiobnaa
open Go.RowKit

/-- two rows of the call's own -/
def RowsRet (l1 l2 : List Int) (w : World) (e : Ending) (w' : World) : Prop :=
  ∃ A1 c1 A2 c2, e = .returned (.tuple #[.slice A1 l1.length c1, .slice A2 l2.length c2]) ∧ Own w.heap.size 5 .u8 w' A1 l1.length c1 l1 ∧ Own w.heap.size 5 .u8 w' A2 l2.length c2 l2 ∧ Below w.heap.size w w'
theorem wp_enter {P : Program} {Q : Exit → Act → World → Prop} {K : Act → World → Prop} {a : Act} {w : World} {o : Oper} {f : FuncId} {args : Array Value} (h : (execOp a.eval o).run P w = .ok (.enter f args) w) (hc : Calls P f args w (fun e w' => ∃ v, e = .returned v ∧ K (a.put o.dst v) w')) : o.wp P a w K Q := by
  unfold Oper.wp
  rw [h, Oper.upon_enter]
  refine hc.mono ?_
  rintro e w' ⟨v, rfl, hK⟩
  exact hK
theorem yields_undef {ops : Array Oper} {a : Act} {j d : Nat} {b : Bool} {o : Oper} (ho : ops[j]? = some o) (hd : o.dst = some d) (hv : a.tmps.getD d undef = undef) : (yielded ops a.tmps j == some b) = false := by
  have h : yielded ops a.tmps j = none := by
    unfold yielded
    rw [ho]
    simp only [hd, Option.bind_some]
    rw [Array.getD_eq_getD_getElem?] at hv
    cases h : a.tmps[d]? with
    | none => rfl
    | some v => rw [h] at hv; simp at hv; rw [hv]; rfl
  rw [h]; rfl
theorem wpOp_not {P : Program} {Q : Exit → Act → World → Prop} {ops : Array Oper} {i j : Nat} {b : Bool} {K : Act → World → Prop} {a : Act} {w : World} {o : Oper} (ho : ops[i]? = some o) (hg : o.guard = some (j, b)) (hy : (yielded ops a.tmps j == some b) = false) (h : K (a.put o.dst undef) w) : wpOp P ops Q i K a w := by
  unfold wpOp
  rw [ho]
  simp only [Region.wanted, hg, hy]
  exact h
theorem step_other_ {f : Bool} {s : PS} {x : Int} (h : x < 14 ∧ x ≠ 9 ∧ x ≠ 10) : stepS f s x = (s, s.top.lv, asS s x) := by
  unfold stepS
  rw [if_neg (by omega), if_neg (by omega), if_neg (by omega), if_neg (by omega), if_neg (by omega), if_neg (by omega)]
theorem way_ctx {cl : List Int} {k0 mi n : Nat} {x0 : Int} (hx : cl[k0]? = some x0) (hm : (matchS cl)[k0]? = some (mi : Int)) (hn : cl.length = n) : ∀ (k : Nat) (mk : Int), k0 + 1 ≤ k → k < mi → (matchS cl)[k]? = some mk → 0 ≤ mk → mk < mi ∨ mi = n := by
  intro k mk h1 h2 h3 h4
  rcases match_cases hx hm with ⟨_, h⟩ | ⟨e, h⟩ | ⟨q, h⟩ | ⟨_, h, _⟩
  · right; omega
  · left
    obtain ⟨_, he, hke, hel, _, _, hin⟩ := h
    have hx2 : cl[k]? = some (cl.getD k 0) := of_getD (by omega)
    have := (hin k _ mk (by omega) (by omega) hx2 h3).1 h4
    omega
  · have := h.2.2.2.1; have := h.2.2.1; omega
  · omega
set_option maxRecDepth 100000 in
set_option maxHeartbeats 8000000 in
theorem refexp_one (A : Option Addr) (n c : Nat) (l : List Int) (b0 base : Int) (w : World) (hr : Rd .i32 w A n l) (h32 : I32 l) (hn : n ≤ 90000) (hb : 0 ≤ base ∧ base ≤ 1) (hq : Hid (base = if 1 < b0 then 1 else b0)) :
    Calls Try.prog 15 #[.slice A n c, .int .u8 b0] w (RowsRet (levelsS (l.map cls) base) (classesS (l.map cls) base) w) := by
  have hln := hide hr.len
  have hcl := hide (show (l.map cls).length = n by rw [List.length_map, hr.len])
  have hml := hide (show (matchS (l.map cls)).length = n by rw [match_len, List.length_map, hr.len])
  go_enter Try.func15, Try.ntmps15
  go_upto_if 15 with (fail)
  go_cut [1] from 14 to 15 (fun s1 wx => s1 = .int .u8 base ∧ w = wx)
  case first =>
    go_wp2_with fail
    all_goals go_meet
    all_goals first
      | exact ⟨by rw [hq.out, if_pos (by omega)], rfl⟩
      | exact ⟨by rw [hq.out, if_neg (by omega)], rfl⟩
  obtain ⟨rfl, rfl⟩ := hcut
  clear hq
  go_wp2_with fail
  refine (refclasses_any A n c l w hr h32 (by omega)).mono ?_
  rintro e w1 ⟨A1, c1, rfl, hC, hb1⟩
  rw [hcl.out] at hC ⊢
  go_wp2_with fail
  refine (refmatch_any A1 n c1 (l.map cls) _ hC.rd (by omega)).mono ?_
  rintro e w2 ⟨A2, c2, rfl, hM, hb2⟩
  rw [hml.out] at hM ⊢
  have hC2 := hide (hC.below hb2).rd
  have hM2 := hide hM.rd
  have hbw := hide (hb1.trans (hb2.mono hb1.size))
  clear hC hM hb1 hb2
  have hcr : ∀ x ∈ l.map cls, 0 ≤ x ∧ x ≤ 22 := by
    intro x hx
    obtain ⟨r, _, rfl⟩ := List.mem_map.1 hx
    exact cls_range r
  have HCR := hide hcr
  clear hcr
  generalize l.map cls = cl at *
  go_wp2_with fail
  have hinv0 : XR w2 (w2.heap.size + 1) w2.heap.size 1 none none 0 0 cl base 0 ((w2.alloc (.cells #[.int .u8 base, .int .u8 255, .bool false] 69)).alloc (.cells #[.slice (some ⟨w2.heap.size, 0, none⟩) 1 1, .int .i64 0, .int .i64 0, .int .i64 0] 72)) :=
    ⟨⟨heap_at_new _ _ _ (by simp), by simp; omega, Nat.le_refl _, ⟨⟨_, heap_at_old _ (heap_at_new _ _ _ rfl)⟩, fun j u hu => by
      rw [cell_of_row _ _ _ _ _ _ (heap_at_old _ (heap_at_new w2 _ _ rfl))]
      have hj : j < 3 := by have := (List.getElem?_eq_some_iff.1 hu).1; rw [entC_len] at this; simpa [expSt, start] using this
      rw [← hu]
      match j, hj with
      | 0, _ | 1, _ | 2, _ => rfl⟩⟩, Own.none_ _ _ _ _, Own.none_ _ _ _ _, .inl rfl, ((Below.refl _ _).alloc (Nat.le_refl _) _).alloc (by simp) _, by simp⟩
  go_loopw [8, 9, 11] (fun L O i wr => ∃ (k : Nat) (A8 A9 : Option Addr) (c8 c9 b c : Nat), k ≤ n ∧ i = .int .i64 ((k : Nat) : Int) ∧ L = .slice A8 k c8 ∧ O = .slice A9 k c9 ∧ XR w2 (w2.heap.size + 1) b c A8 A9 c8 c9 cl base k wr) (fun _ _ i _ => n - (intOf i).toNat)
  case atStart => exact ⟨0, none, none, 0, 0, _, _, Nat.zero_le _, rfl, rfl, rfl, hinv0⟩
  case round =>
    clear hinv0
    obtain ⟨k, A8, A9, c8, c9, b, c', hk, rfl, rfl, rfl, inv⟩ := hrel
    obtain ⟨wo, rfl⟩ : ∃ wo : World, wo = wr := ⟨_, rfl⟩
    by_cases hkn : k < n
    · obtain ⟨bb, off, x, rfl, hbw, hz, hck⟩ := (hC2.out.below inv.bel).at_ hkn
      have hxr := HCR.out x (List.mem_of_getElem? hz.out)
      obtain ⟨hf, hf2⟩ := exp_fit cl hb k
      have hM := hide inv.mid
      have q1 : (k : Int) < (n : Int) := by omega
      have q2 : (0 : Int) ≤ (k : Int) := by omega
      obtain ⟨s, hs⟩ : ∃ s, (expSt cl base k).1 = s := ⟨_, rfl⟩
      rw [hs] at hM hf hf2
      have hse := hide hs.symm
      have hF := hide hf
      have hF2 := hide hf2
      generalize w2.heap.size + 1 = gs at *
      have hT := hide (fun y : BW wo => (hM.out.below y.below).top hf (show k ≤ 100000 by omega))
      have g0 : ∀ y : BW wo, y.world.cell? ⟨gs, 0, none⟩ = some (.slice (some ⟨b, 0, none⟩) s.stk.length c') := fun y => (f72 (hM.out.below y.below).sb.box).1
      have g1 : ∀ y : BW wo, y.world.cell? ⟨gs, 1, none⟩ = some (.int .i64 s.is) := fun y => (f72 (hM.out.below y.below).sb.box).2.1
      have g2 : ∀ y : BW wo, y.world.cell? ⟨gs, 2, none⟩ = some (.int .i64 s.em) := fun y => (f72 (hM.out.below y.below).sb.box).2.2.1
      have g3 : ∀ y : BW wo, y.world.cell? ⟨gs, 3, none⟩ = some (.int .i64 s.nw) := fun y => (f72 (hM.out.below y.below).sb.box).2.2.2.1
      have gc : ∀ y : BW wo, y.world.cell? ⟨bb, off + k, none⟩ = some (.int .u8 x) := fun y => rd_cell (hC2.out.below (hM.out.below y.below).bel) hz.out
      have hfl0 := fE0
      have hfl1 := fE1
      have hovc := ov_cases hf x
      clear hs hf hf2 inv hck
      have hkind : Hid (x = 14 ∨ x = 15 ∨ x = 17 ∨ x = 18) ∨ x = 16 ∨ x = 19 ∨ x = 20 ∨ x = 21 ∨ x = 22 ∨ x = 10 ∨ x = 9 ∨ Hid (x < 14 ∧ x ≠ 9 ∧ x ≠ 10) := by unfold Hid; omega
      clear hxr
      rcases hkind with hxe | rfl | rfl | rfl | rfl | rfl | rfl | rfl | hx1
      · have hxo := hxe.out
        have d1 : decide (14 ≤ x) = true := by simp; omega
        have d2 : decide (x ≤ 18) = true := by simp; omega
        have d3 : (x != 16) = true := by simp; omega
        clear hxo
        rcases hovc with ⟨o1, hov⟩ | ⟨o1, hov⟩
        · as_aux_lemma =>
          have hst := hide (show stepS (fsiAt cl k) s x = (embedS s x, s.top.lv, 9) by unfold stepS; rw [if_pos hxe.out])
          go_wp2_with fail
          refine wp_region_below (by kernel_rfl) (by kernel_rfl) ?_
          repeat (go_big_quiet_step ((go_at_call 38; exact Calls.below_of (hT.out _))))
          refine wpQuiet_nil ?_
          rintro _ ⟨y, rfl⟩
          have xm1 := hide (hM.out.below y.below)
          obtain ⟨p0, p1, p2, p3, p4⟩ := f72 xm1.out.sb.box
          have hT1 := hide (xm1.out.top hF.out (by omega))
          clear hT g0 g1 g2 g3 gc
          go_wp2_with fail
          refine hT1.out.mono ?_
          rintro en w4 ⟨rfl, hb4⟩
          have xm2 := hide (xm1.out.below hb4)
          clear p0 p1 p2 p3 p4 hT1 hb4
          obtain ⟨p0, p1, p2, p3, p4⟩ := f72 xm2.out.sb.box
          have hT2 := hide (xm2.out.top hF.out (by omega))
          go_wp2_with fail
          refine hT2.out.mono ?_
          rintro en w5 ⟨rfl, hb5⟩
          have xm3 := hide (xm2.out.below hb5)
          clear p0 p1 p2 p3 p4 hT2 hb5 xm2
          have gc := rd_cell (hC2.out.below xm3.out.bel) hz.out
          obtain ⟨p0, p1, p2, p3, p4⟩ := f72 xm3.out.sb.box
          go_wp2_with fail
          go_still_tail 5, (by kernel_rfl)
          change wpList _ _ _ _ _ w5.drew
          have xm4 := hide (xm3.out.below (Below.refl w5.heap.size w5).drew)
          have hcall := hide (refembeds_any x hxe.out xm4.out.sb.rs hF.out (by omega))
          obtain ⟨s5, hs5⟩ : ∃ s5, embedS s x = s5 := ⟨_, rfl⟩
          rw [hs5] at hst hcall
          clear xm3
          generalize w5.drew = w6d at *
          go_wp2_with fail
          refine hcall.out.mono ?_
          rintro en w6 ⟨v5, rfl, hR5, hb6⟩
          obtain ⟨b5, c5, hv5, _, _, _⟩ := id hR5
          have hRR : RS w6 (.agg #[.slice (some ⟨b5, 0, none⟩) s5.stk.length c5, .int .i64 s5.is, .int .i64 s5.em, .int .i64 s5.nw]) s5 := hv5 ▸ hR5
          subst hv5
          have xm6 := hide (xm4.out.below hb6)
          have hbx := hide xm6.out.sb.box
          have xm7 := hide (xm6.out.store hRR)
          clear hb6 hR5 hRR xm6 p0 p1 p2 p3 p4
          go_wp2_with (first
            | (refine wpList_store_row rfl 72 (.tmp 10) (.tmp 69) rfl gs #[.slice (some ⟨b5, 0, none⟩) s5.stk.length c5, .int .i64 s5.is, .int .i64 s5.em, .int .i64 s5.nw] rfl rfl 72 _ hbx.out (by kernel_rfl) rfl (by simp [Value.oneCell']) ?_; generalize w6.setRow gs #[.slice (some ⟨b5, 0, none⟩) s5.stk.length c5, .int .i64 s5.is, .int .i64 s5.em, .int .i64 s5.nw] = w7 at *; obtain ⟨p0, p1, p2, p3, p4⟩ := f72 xm7.out.sb.box; have gc7 := rd_cell (hC2.out.below xm7.out.bel) hz.out)
            | (at_builtin; refine wpList_app elt8 rfl (.tmp 147) (.tmp 149) rfl rfl rfl (xm7.out.L.alloc _) (own_one _ _ _ _ _ _ rfl (Nat.le_refl _)).rd (by omega) (by have := xm7.out.bel.size; simp; omega) ?_; intro A3 c3 w8 hL3 hgr3 hat3; have xa := hide (xm7.out.app hL3 hgr3 hat3); clear hL3 hgr3 hat3)
            | (at_builtin; refine wpList_app elt8 rfl (.tmp 151) (.tmp 153) rfl rfl rfl (xa.out.O.alloc _) (own_one _ _ _ _ _ _ rfl (Nat.le_refl _)).rd (by omega) (by have := xa.out.bel.size; simp; omega) ?_; intro A4 c4 w9 hO3 hgr4 hat4; have xr := hide (xa.out.app hz.out (hse.out ▸ hst.out) hO3 hgr4 hat4); clear hO3 hgr4 hat4))
          go_roundw
          case rel => exact ⟨k + 1, A3, A4, c3, c4, _, _, by omega, by go_num, rfl, rfl, xr.out⟩
          case measure => simp [intOf]; omega
        · as_aux_lemma =>
          have hst := hide (show stepS (fsiAt cl k) s x = (embedS s x, s.top.lv, 9) by unfold stepS; rw [if_pos hxe.out])
          go_wp2_with fail
          refine wp_region_below (by kernel_rfl) (by kernel_rfl) ?_
          repeat (go_big_quiet_step ((go_at_call 38; exact Calls.below_of (hT.out _))))
          refine wpQuiet_nil ?_
          rintro _ ⟨y, rfl⟩
          have xm1 := hide (hM.out.below y.below)
          obtain ⟨p0, p1, p2, p3, p4⟩ := f72 xm1.out.sb.box
          have hT1 := hide (xm1.out.top hF.out (by omega))
          clear hT g0 g1 g2 g3 gc
          go_wp2_with fail
          refine hT1.out.mono ?_
          rintro en w4 ⟨rfl, hb4⟩
          have xm2 := hide (xm1.out.below hb4)
          clear p0 p1 p2 p3 p4 hT1 hb4
          have xm3 := xm2
          obtain ⟨w5, rfl⟩ : ∃ w5 : World, w5 = w4 := ⟨_, rfl⟩
          clear xm2
          have gc := rd_cell (hC2.out.below xm3.out.bel) hz.out
          obtain ⟨p0, p1, p2, p3, p4⟩ := f72 xm3.out.sb.box
          go_wp2_with fail
          go_still_tail 5, (by kernel_rfl)
          change wpList _ _ _ _ _ w5.drew
          have xm4 := hide (xm3.out.below (Below.refl w5.heap.size w5).drew)
          have hcall := hide (refembeds_any x hxe.out xm4.out.sb.rs hF.out (by omega))
          obtain ⟨s5, hs5⟩ : ∃ s5, embedS s x = s5 := ⟨_, rfl⟩
          rw [hs5] at hst hcall
          clear xm3
          generalize w5.drew = w6d at *
          go_wp2_with fail
          refine hcall.out.mono ?_
          rintro en w6 ⟨v5, rfl, hR5, hb6⟩
          obtain ⟨b5, c5, hv5, _, _, _⟩ := id hR5
          have hRR : RS w6 (.agg #[.slice (some ⟨b5, 0, none⟩) s5.stk.length c5, .int .i64 s5.is, .int .i64 s5.em, .int .i64 s5.nw]) s5 := hv5 ▸ hR5
          subst hv5
          have xm6 := hide (xm4.out.below hb6)
          have hbx := hide xm6.out.sb.box
          have xm7 := hide (xm6.out.store hRR)
          clear hb6 hR5 hRR xm6 p0 p1 p2 p3 p4
          go_wp2_with (first
            | (refine wpList_store_row rfl 72 (.tmp 10) (.tmp 69) rfl gs #[.slice (some ⟨b5, 0, none⟩) s5.stk.length c5, .int .i64 s5.is, .int .i64 s5.em, .int .i64 s5.nw] rfl rfl 72 _ hbx.out (by kernel_rfl) rfl (by simp [Value.oneCell']) ?_; generalize w6.setRow gs #[.slice (some ⟨b5, 0, none⟩) s5.stk.length c5, .int .i64 s5.is, .int .i64 s5.em, .int .i64 s5.nw] = w7 at *; obtain ⟨p0, p1, p2, p3, p4⟩ := f72 xm7.out.sb.box; have gc7 := rd_cell (hC2.out.below xm7.out.bel) hz.out)
            | (at_builtin; refine wpList_app elt8 rfl (.tmp 147) (.tmp 149) rfl rfl rfl (xm7.out.L.alloc _) (own_one _ _ _ _ _ _ rfl (Nat.le_refl _)).rd (by omega) (by have := xm7.out.bel.size; simp; omega) ?_; intro A3 c3 w8 hL3 hgr3 hat3; have xa := hide (xm7.out.app hL3 hgr3 hat3); clear hL3 hgr3 hat3)
            | (at_builtin; refine wpList_app elt8 rfl (.tmp 151) (.tmp 153) rfl rfl rfl (xa.out.O.alloc _) (own_one _ _ _ _ _ _ rfl (Nat.le_refl _)).rd (by omega) (by have := xa.out.bel.size; simp; omega) ?_; intro A4 c4 w9 hO3 hgr4 hat4; have xr := hide (xa.out.app hz.out (hse.out ▸ hst.out) hO3 hgr4 hat4); clear hO3 hgr4 hat4))
          go_roundw
          case rel => exact ⟨k + 1, A3, A4, c3, c4, _, _, by omega, by go_num, rfl, rfl, xr.out⟩
          case measure => simp [intOf]; omega
      · skip
        rcases hovc with ⟨o1, hov⟩ | ⟨o1, hov⟩
        · as_aux_lemma =>
          have hst := hide (show stepS (fsiAt cl k) s 16 = (endS s, (endS s).top.lv, 9) from rfl)
          go_wp2_with fail
          refine wp_region_below (by kernel_rfl) (by kernel_rfl) ?_
          repeat (go_big_quiet_step ((go_at_call 38; exact Calls.below_of (hT.out _))))
          refine wpQuiet_nil ?_
          rintro _ ⟨y, rfl⟩
          have xm1 := hide (hM.out.below y.below)
          obtain ⟨p0, p1, p2, p3, p4⟩ := f72 xm1.out.sb.box
          have hT1 := hide (xm1.out.top hF.out (by omega))
          clear hT g0 g1 g2 g3 gc
          go_wp2_with fail
          refine hT1.out.mono ?_
          rintro en w4 ⟨rfl, hb4⟩
          have xm2 := hide (xm1.out.below hb4)
          clear p0 p1 p2 p3 p4 hT1 hb4
          obtain ⟨p0, p1, p2, p3, p4⟩ := f72 xm2.out.sb.box
          have hT2 := hide (xm2.out.top hF.out (by omega))
          go_wp2_with fail
          refine hT2.out.mono ?_
          rintro en w5 ⟨rfl, hb5⟩
          have xm3 := hide (xm2.out.below hb5)
          clear p0 p1 p2 p3 p4 hT2 hb5 xm2
          have gc := rd_cell (hC2.out.below xm3.out.bel) hz.out
          obtain ⟨p0, p1, p2, p3, p4⟩ := f72 xm3.out.sb.box
          have hcall := hide (refends_any xm3.out.sb.rs hF.out (by omega))
          have hF5 := hide (end_fit hF.out)
          obtain ⟨s5, hs5⟩ : ∃ s5, endS s = s5 := ⟨_, rfl⟩
          rw [hs5] at hst hcall hF5
          go_wp2_with fail
          refine hcall.out.mono ?_
          rintro en w6 ⟨v5, rfl, hR5, hb6⟩
          obtain ⟨b5, c5, hv5, _, _, _⟩ := id hR5
          have hRR : RS w6 (.agg #[.slice (some ⟨b5, 0, none⟩) s5.stk.length c5, .int .i64 s5.is, .int .i64 s5.em, .int .i64 s5.nw]) s5 := hv5 ▸ hR5
          subst hv5
          have xm6 := hide (xm3.out.below hb6)
          have hbx := hide xm6.out.sb.box
          have xm7 := hide (xm6.out.store hRR)
          clear hb6 hR5 hRR xm6 p0 p1 p2 p3 p4
          go_wp2_with (refine wpList_store_row rfl 72 (.tmp 10) (.tmp 77) rfl gs #[.slice (some ⟨b5, 0, none⟩) s5.stk.length c5, .int .i64 s5.is, .int .i64 s5.em, .int .i64 s5.nw] rfl rfl 72 _ hbx.out (by kernel_rfl) rfl (by simp [Value.oneCell']) ?_; generalize w6.setRow gs #[.slice (some ⟨b5, 0, none⟩) s5.stk.length c5, .int .i64 s5.is, .int .i64 s5.em, .int .i64 s5.nw] = w7 at *; obtain ⟨p0, p1, p2, p3, p4⟩ := f72 xm7.out.sb.box; have gc7 := rd_cell (hC2.out.below xm7.out.bel) hz.out)
          have hT7 := hide (xm7.out.top hF5.out (by omega))
          refine hT7.out.mono ?_
          rintro en w8' ⟨rfl, hb8⟩
          have xm8 := hide (xm7.out.below hb8)
          clear p0 p1 p2 p3 p4 hT7 hb8
          go_wp2_with (first
            | (at_builtin; refine wpList_app elt8 rfl (.tmp 147) (.tmp 149) rfl rfl rfl (xm8.out.L.alloc _) (own_one _ _ _ _ _ _ rfl (Nat.le_refl _)).rd (by omega) (by have := xm8.out.bel.size; simp; omega) ?_; intro A3 c3 w8 hL3 hgr3 hat3; have xa := hide (xm8.out.app hL3 hgr3 hat3); clear hL3 hgr3 hat3)
            | (at_builtin; refine wpList_app elt8 rfl (.tmp 151) (.tmp 153) rfl rfl rfl (xa.out.O.alloc _) (own_one _ _ _ _ _ _ rfl (Nat.le_refl _)).rd (by omega) (by have := xa.out.bel.size; simp; omega) ?_; intro A4 c4 w9 hO3 hgr4 hat4; have xr := hide (xa.out.app hz.out (hse.out ▸ hst.out) hO3 hgr4 hat4); clear hO3 hgr4 hat4))
          go_roundw
          case rel => exact ⟨k + 1, A3, A4, c3, c4, _, _, by omega, by go_num, rfl, rfl, xr.out⟩
          case measure => simp [intOf]; omega
        · as_aux_lemma =>
          have hst := hide (show stepS (fsiAt cl k) s 16 = (endS s, (endS s).top.lv, 9) from rfl)
          go_wp2_with fail
          refine wp_region_below (by kernel_rfl) (by kernel_rfl) ?_
          repeat (go_big_quiet_step ((go_at_call 38; exact Calls.below_of (hT.out _))))
          refine wpQuiet_nil ?_
          rintro _ ⟨y, rfl⟩
          have xm1 := hide (hM.out.below y.below)
          obtain ⟨p0, p1, p2, p3, p4⟩ := f72 xm1.out.sb.box
          have hT1 := hide (xm1.out.top hF.out (by omega))
          clear hT g0 g1 g2 g3 gc
          go_wp2_with fail
          refine hT1.out.mono ?_
          rintro en w4 ⟨rfl, hb4⟩
          have xm2 := hide (xm1.out.below hb4)
          clear p0 p1 p2 p3 p4 hT1 hb4
          have xm3 := xm2
          obtain ⟨w5, rfl⟩ : ∃ w5 : World, w5 = w4 := ⟨_, rfl⟩
          clear xm2
          have gc := rd_cell (hC2.out.below xm3.out.bel) hz.out
          obtain ⟨p0, p1, p2, p3, p4⟩ := f72 xm3.out.sb.box
          have hcall := hide (refends_any xm3.out.sb.rs hF.out (by omega))
          have hF5 := hide (end_fit hF.out)
          obtain ⟨s5, hs5⟩ : ∃ s5, endS s = s5 := ⟨_, rfl⟩
          rw [hs5] at hst hcall hF5
          go_wp2_with fail
          refine hcall.out.mono ?_
          rintro en w6 ⟨v5, rfl, hR5, hb6⟩
          obtain ⟨b5, c5, hv5, _, _, _⟩ := id hR5
          have hRR : RS w6 (.agg #[.slice (some ⟨b5, 0, none⟩) s5.stk.length c5, .int .i64 s5.is, .int .i64 s5.em, .int .i64 s5.nw]) s5 := hv5 ▸ hR5
          subst hv5
          have xm6 := hide (xm3.out.below hb6)
          have hbx := hide xm6.out.sb.box
          have xm7 := hide (xm6.out.store hRR)
          clear hb6 hR5 hRR xm6 p0 p1 p2 p3 p4
          go_wp2_with (refine wpList_store_row rfl 72 (.tmp 10) (.tmp 77) rfl gs #[.slice (some ⟨b5, 0, none⟩) s5.stk.length c5, .int .i64 s5.is, .int .i64 s5.em, .int .i64 s5.nw] rfl rfl 72 _ hbx.out (by kernel_rfl) rfl (by simp [Value.oneCell']) ?_; generalize w6.setRow gs #[.slice (some ⟨b5, 0, none⟩) s5.stk.length c5, .int .i64 s5.is, .int .i64 s5.em, .int .i64 s5.nw] = w7 at *; obtain ⟨p0, p1, p2, p3, p4⟩ := f72 xm7.out.sb.box; have gc7 := rd_cell (hC2.out.below xm7.out.bel) hz.out)
          have hT7 := hide (xm7.out.top hF5.out (by omega))
          refine hT7.out.mono ?_
          rintro en w8' ⟨rfl, hb8⟩
          have xm8 := hide (xm7.out.below hb8)
          clear p0 p1 p2 p3 p4 hT7 hb8
          go_wp2_with (first
            | (at_builtin; refine wpList_app elt8 rfl (.tmp 147) (.tmp 149) rfl rfl rfl (xm8.out.L.alloc _) (own_one _ _ _ _ _ _ rfl (Nat.le_refl _)).rd (by omega) (by have := xm8.out.bel.size; simp; omega) ?_; intro A3 c3 w8 hL3 hgr3 hat3; have xa := hide (xm8.out.app hL3 hgr3 hat3); clear hL3 hgr3 hat3)
            | (at_builtin; refine wpList_app elt8 rfl (.tmp 151) (.tmp 153) rfl rfl rfl (xa.out.O.alloc _) (own_one _ _ _ _ _ _ rfl (Nat.le_refl _)).rd (by omega) (by have := xa.out.bel.size; simp; omega) ?_; intro A4 c4 w9 hO3 hgr4 hat4; have xr := hide (xa.out.app hz.out (hse.out ▸ hst.out) hO3 hgr4 hat4); clear hO3 hgr4 hat4))
          go_roundw
          case rel => exact ⟨k + 1, A3, A4, c3, c4, _, _, by omega, by go_num, rfl, rfl, xr.out⟩
          case measure => simp [intOf]; omega
      · skip
        rcases hovc with ⟨o1, hov⟩ | ⟨o1, hov⟩
        · as_aux_lemma =>
          have hst := hide (show stepS (fsiAt cl k) s 19 = (openS s false, s.top.lv, (mapE s.top).ov) by rw [step_open _ _ (show opS 19 = true from rfl), hov.out]; simp)
          go_wp2_with fail
          refine wp_region_below (by kernel_rfl) (by kernel_rfl) ?_
          repeat (go_big_quiet_step ((go_at_call 38; exact Calls.below_of (hT.out _))))
          refine wpQuiet_nil ?_
          rintro _ ⟨y, rfl⟩
          have xm1 := hide (hM.out.below y.below)
          obtain ⟨p0, p1, p2, p3, p4⟩ := f72 xm1.out.sb.box
          have hT1 := hide (xm1.out.top hF.out (by omega))
          clear hT g0 g1 g2 g3 gc
          go_wp2_with fail
          refine hT1.out.mono ?_
          rintro en w4 ⟨rfl, hb4⟩
          have xm2 := hide (xm1.out.below hb4)
          clear p0 p1 p2 p3 p4 hT1 hb4
          obtain ⟨p0, p1, p2, p3, p4⟩ := f72 xm2.out.sb.box
          have hT2 := hide (xm2.out.top hF.out (by omega))
          go_wp2_with fail
          refine hT2.out.mono ?_
          rintro en w5 ⟨rfl, hb5⟩
          have xm3 := hide (xm2.out.below hb5)
          clear p0 p1 p2 p3 p4 hT2 hb5 xm2
          have gc := rd_cell (hC2.out.below xm3.out.bel) hz.out
          obtain ⟨p0, p1, p2, p3, p4⟩ := f72 xm3.out.sb.box
          go_wp2_with fail
          refine (op41 19 _).mono ?_
          rintro en w5' ⟨rfl, rfl⟩
          rw [show opS 19 = true from rfl]
          go_wp2_with fail
          obtain ⟨s5, hs5⟩ : ∃ s5, openS s false = s5 := ⟨_, rfl⟩
          rw [hs5] at hst
          have hds : ∀ d ∈ [87, 88, 89, 90, 91, 92, 93, 94, 95, 96, 97, 98, 99, 100, 101, 102, 103, 104, 105, 106, 107, 108, 109, 110, 111], d < 157 := by decide
          generalize ha : Act.mk _ _ = a0
          have hsz : a0.tmps.size = 157 := by rw [← ha]; rfl
          have k6 : a0.tmps.getD 6 undef = .slice (some ⟨bb, off, none⟩) n c1 := by rw [← ha]; rfl
          have k7 : a0.tmps.getD 7 undef = .slice A2 n c2 := by rw [← ha]; rfl
          have k10 : a0.tmps.getD 10 undef = .pointer (some ⟨gs, 0, none⟩) := by rw [← ha]; rfl
          have k11 : a0.tmps.getD 11 undef = .int .i64 ((k : Nat) : Int) := by rw [← ha]; rfl
          generalize hp : Plan.mk w5 a0 5 .u8 [⟨0, 87, (.agg #[.slice (some ⟨b, 0, none⟩) s.stk.length c', .int .i64 s.is, .int .i64 s.em, .int .i64 s.nw])⟩, ⟨1, 88, .slice (some ⟨bb, off, none⟩) n c1⟩, ⟨2, 89, .int .i64 ((k : Nat) : Int)⟩, ⟨3, 90, .pointer (some ⟨bb, off + k, none⟩)⟩, ⟨4, 91, .int .u8 19⟩, ⟨5, 92, .bool false⟩, ⟨6, 93, .bool false⟩, ⟨7, 94, .slice (some ⟨bb, off, none⟩) n c1⟩, ⟨8, 95, .int .i64 ((k : Nat) : Int)⟩, ⟨9, 96, .pointer (some ⟨bb, off + k, none⟩)⟩, ⟨10, 97, .int .u8 19⟩, ⟨11, 98, .bool false⟩, ⟨12, 99, .bool false⟩, ⟨13, 100, undef⟩, ⟨14, 101, undef⟩, ⟨15, 102, undef⟩, ⟨16, 103, undef⟩, ⟨17, 104, undef⟩, ⟨18, 105, undef⟩, ⟨19, 106, undef⟩, ⟨20, 107, undef⟩, ⟨21, 108, undef⟩, ⟨22, 109, undef⟩, ⟨23, 110, .bool false⟩, ⟨24, 111, .bool false⟩] [] [] ⟨none, 0, 0, []⟩ ⟨none, 0, 0, []⟩ = p
          have hD : p.dsts = [87, 88, 89, 90, 91, 92, 93, 94, 95, 96, 97, 98, 99, 100, 101, 102, 103, 104, 105, 106, 107, 108, 109, 110, 111] := by subst hp; rfl
          have hN : p.idxs = [0, 1, 2, 3, 4, 5, 6, 7, 8, 9, 10, 11, 12, 13, 14, 15, 16, 17, 18, 19, 20, 21, 22, 23, 24] := by subst hp; rfl
          have hpa : p.a0 = a0 := by subst hp; rfl
          have hpw : p.w0 = w5 := by subst hp; rfl
          have ok : p.OK := ⟨by rw [hD]; decide, by rw [hN]; decide, fun d hd => by rw [hpa, hsz]; rw [hD] at hd; exact hds d hd⟩
          refine wp_region_call (by kernel_rfl) 25 (by simp) (fun L a' w' => p.Inv w5.heap.size L a' w') (fun a' w' => ∃ (vs : Nat → Value) (v6 : Value), a' = ([87, 88, 89, 90, 91, 92, 93, 94, 95, 96, 97, 98, 99, 100, 101, 102, 103, 104, 105, 106, 107, 108, 109, 110, 111].foldl (fun b d => b.put (some d) (vs d)) a0).put (some 112) v6 ∧ RS w' v6 (openS s false) ∧ Below w5.heap.size w5 w') ?_ ?_ ?_ ?_ (by kernel_rfl) ?_ ?_
          · as_aux_lemma =>
            subst hp
            refine ⟨(show Below w5.heap.size w5 _ from (Below.refl _ _).drew), Nat.le_refl _, rfl, rfl, fun _ _ => rfl, fun f _ h => ?_, 0, 0, ⟨none, 0, 0, []⟩, ⟨none, 0, 0, []⟩, ⟨fun s c h => by simp at h, .inl ⟨rfl, rfl⟩⟩, ⟨fun s c h => by simp at h, .inl ⟨rfl, rfl⟩⟩, Own.none_ _ _ _ _, Own.none_ _ _ _ _, .inl rfl⟩
            exact absurd ((rep_false _ _).symm.trans h) (by decide)
          · intro L a' w' i op hi hs hI ho hl hdep
            have e6 : a'.tmps.getD 6 undef = .slice (some ⟨bb, off, none⟩) n c1 := by rw [hI.keep 6 (by rw [hD]; decide), hpa]; exact k6
            have e7 : a'.tmps.getD 7 undef = .slice A2 n c2 := by rw [hI.keep 7 (by rw [hD]; decide), hpa]; exact k7
            have e10 : a'.tmps.getD 10 undef = .pointer (some ⟨gs, 0, none⟩) := by rw [hI.keep 10 (by rw [hD]; decide), hpa]; exact k10
            have e11 : a'.tmps.getD 11 undef = .int .i64 ((k : Nat) : Int) := by rw [hI.keep 11 (by rw [hD]; decide), hpa]; exact k11
            have hw : Below w5.heap.size w5 w' := by have := hI.bel; rw [hpw] at this; exact this
            have hxm := xm3.out.below hw
            rcases (show i = 0 ∨ i = 1 ∨ i = 2 ∨ i = 3 ∨ i = 4 ∨ i = 5 ∨ i = 6 ∨ i = 7 ∨ i = 8 ∨ i = 9 ∨ i = 10 ∨ i = 11 ∨ i = 12 ∨ i = 13 ∨ i = 14 ∨ i = 15 ∨ i = 16 ∨ i = 17 ∨ i = 18 ∨ i = 19 ∨ i = 20 ∨ i = 21 ∨ i = 22 ∨ i = 23 ∨ i = 24 by omega) with rfl | rfl | rfl | rfl | rfl | rfl | rfl | rfl | rfl | rfl | rfl | rfl | rfl | rfl | rfl | rfl | rfl | rfl | rfl | rfl | rfl | rfl | rfl | rfl | rfl
            all_goals (have ho2 := ho; simp only [List.getElem?_toArray, List.getElem?_cons_succ, List.getElem?_cons_zero, Option.some.injEq] at ho2; subst ho2)
            · as_aux_lemma =>
              refine wpOp_of ho rfl ?_
              refine hI.fx ok ⟨0, 87, (.agg #[.slice (some ⟨b, 0, none⟩) s.stk.length c', .int .i64 s.is, .int .i64 s.em, .int .i64 s.nw])⟩ (by subst hp; simp) hl rfl ?_
              obtain ⟨p0, p1, p2, p3, p4⟩ := f72 hxm.sb.box
              simp only [execOp, Act.eval, e10]; go_simp
            · as_aux_lemma =>
              refine wpOp_of ho rfl ?_
              refine hI.fx ok ⟨1, 88, .slice (some ⟨bb, off, none⟩) n c1⟩ (by subst hp; simp) hl rfl ?_
              simp only [execOp, Act.eval, e6]; rfl
            · as_aux_lemma =>
              refine wpOp_of ho rfl ?_
              refine hI.fx ok ⟨2, 89, .int .i64 ((k : Nat) : Int)⟩ (by subst hp; simp) hl rfl ?_
              simp only [execOp, Act.eval, e11]; rfl
            · as_aux_lemma =>
              refine wpOp_of ho rfl ?_
              have e88 := hI.fix ⟨1, 88, .slice (some ⟨bb, off, none⟩) n c1⟩ (by subst hp; simp) (hdep ⟨1, .data⟩ (by simp) rfl); simp only at e88
              have e89 := hI.fix ⟨2, 89, .int .i64 ((k : Nat) : Int)⟩ (by subst hp; simp) (hdep ⟨2, .data⟩ (by simp) rfl); simp only at e89
              refine hI.fx ok ⟨3, 90, .pointer (some ⟨bb, off + k, none⟩)⟩ (by subst hp; simp) hl rfl ?_
              simp only [execOp, Act.eval, e88, e89]; go_simp
            · as_aux_lemma =>
              refine wpOp_of ho rfl ?_
              have e90 := hI.fix ⟨3, 90, .pointer (some ⟨bb, off + k, none⟩)⟩ (by subst hp; simp) (hdep ⟨3, .data⟩ (by simp) rfl); simp only at e90
              refine hI.fx ok ⟨4, 91, .int .u8 19⟩ (by subst hp; simp) hl rfl ?_
              have gcw := rd_cell (hC2.out.below hxm.bel) hz.out
              simp only [execOp, Act.eval, e90]; go_simp
            · as_aux_lemma =>
              refine wpOp_of ho rfl ?_
              have e91 := hI.fix ⟨4, 91, .int .u8 19⟩ (by subst hp; simp) (hdep ⟨4, .data⟩ (by simp) rfl); simp only at e91
              refine hI.fx ok ⟨5, 92, .bool false⟩ (by subst hp; simp) hl rfl ?_
              simp only [execOp, Act.eval, e91]; rfl
            · as_aux_lemma =>
              refine wpOp_of ho rfl ?_
              have e92 := hI.fix ⟨5, 92, .bool false⟩ (by subst hp; simp) (hdep ⟨5, .data⟩ (by simp) rfl); simp only at e92
              refine hI.fx ok ⟨6, 93, .bool false⟩ (by subst hp; simp) hl rfl ?_
              simp only [execOp, Act.eval, e92]; rfl
            · as_aux_lemma =>
              have e93 := hI.fix ⟨6, 93, .bool false⟩ (by subst hp; simp) (hdep ⟨6, .guard⟩ (by simp) rfl); simp only at e93
              refine wpOp_yes ho rfl (yields_of (d := 93) rfl rfl e93) ?_
              refine hI.fx ok ⟨7, 94, .slice (some ⟨bb, off, none⟩) n c1⟩ (by subst hp; simp) hl rfl ?_
              simp only [execOp, Act.eval, e6]; rfl
            · as_aux_lemma =>
              have e93 := hI.fix ⟨6, 93, .bool false⟩ (by subst hp; simp) (hdep ⟨6, .guard⟩ (by simp) rfl); simp only at e93
              refine wpOp_yes ho rfl (yields_of (d := 93) rfl rfl e93) ?_
              refine hI.fx ok ⟨8, 95, .int .i64 ((k : Nat) : Int)⟩ (by subst hp; simp) hl rfl ?_
              simp only [execOp, Act.eval, e11]; rfl
            · as_aux_lemma =>
              have e93 := hI.fix ⟨6, 93, .bool false⟩ (by subst hp; simp) (hdep ⟨6, .guard⟩ (by simp) rfl); simp only at e93
              refine wpOp_yes ho rfl (yields_of (d := 93) rfl rfl e93) ?_
              have e94 := hI.fix ⟨7, 94, .slice (some ⟨bb, off, none⟩) n c1⟩ (by subst hp; simp) (hdep ⟨7, .data⟩ (by simp) rfl); simp only at e94
              have e95 := hI.fix ⟨8, 95, .int .i64 ((k : Nat) : Int)⟩ (by subst hp; simp) (hdep ⟨8, .data⟩ (by simp) rfl); simp only at e95
              refine hI.fx ok ⟨9, 96, .pointer (some ⟨bb, off + k, none⟩)⟩ (by subst hp; simp) hl rfl ?_
              simp only [execOp, Act.eval, e94, e95]; go_simp
            · as_aux_lemma =>
              have e93 := hI.fix ⟨6, 93, .bool false⟩ (by subst hp; simp) (hdep ⟨6, .guard⟩ (by simp) rfl); simp only at e93
              refine wpOp_yes ho rfl (yields_of (d := 93) rfl rfl e93) ?_
              have e96 := hI.fix ⟨9, 96, .pointer (some ⟨bb, off + k, none⟩)⟩ (by subst hp; simp) (hdep ⟨9, .data⟩ (by simp) rfl); simp only at e96
              refine hI.fx ok ⟨10, 97, .int .u8 19⟩ (by subst hp; simp) hl rfl ?_
              have gcw := rd_cell (hC2.out.below hxm.bel) hz.out
              simp only [execOp, Act.eval, e96]; go_simp
            · as_aux_lemma =>
              have e93 := hI.fix ⟨6, 93, .bool false⟩ (by subst hp; simp) (hdep ⟨6, .guard⟩ (by simp) rfl); simp only at e93
              refine wpOp_yes ho rfl (yields_of (d := 93) rfl rfl e93) ?_
              have e97 := hI.fix ⟨10, 97, .int .u8 19⟩ (by subst hp; simp) (hdep ⟨10, .data⟩ (by simp) rfl); simp only at e97
              refine hI.fx ok ⟨11, 98, .bool false⟩ (by subst hp; simp) hl rfl ?_
              simp only [execOp, Act.eval, e97]; rfl
            · as_aux_lemma =>
              have e93 := hI.fix ⟨6, 93, .bool false⟩ (by subst hp; simp) (hdep ⟨6, .guard⟩ (by simp) rfl); simp only at e93
              refine wpOp_yes ho rfl (yields_of (d := 93) rfl rfl e93) ?_
              have e98 := hI.fix ⟨11, 98, .bool false⟩ (by subst hp; simp) (hdep ⟨11, .data⟩ (by simp) rfl); simp only at e98
              refine hI.fx ok ⟨12, 99, .bool false⟩ (by subst hp; simp) hl rfl ?_
              simp only [execOp, Act.eval, e98]; rfl
            · as_aux_lemma =>
              have e99 := hI.fix ⟨12, 99, .bool false⟩ (by subst hp; simp) (hdep ⟨12, .guard⟩ (by simp) rfl); simp only at e99
              refine wpOp_no ho rfl (yields_of (d := 99) rfl rfl e99) (by decide) ?_
              exact hI.no ok ⟨13, 100, undef⟩ (by subst hp; simp) hl rfl
            · as_aux_lemma =>
              have e99 := hI.fix ⟨12, 99, .bool false⟩ (by subst hp; simp) (hdep ⟨12, .guard⟩ (by simp) rfl); simp only at e99
              refine wpOp_no ho rfl (yields_of (d := 99) rfl rfl e99) (by decide) ?_
              exact hI.no ok ⟨14, 101, undef⟩ (by subst hp; simp) hl rfl
            · as_aux_lemma =>
              have e99 := hI.fix ⟨12, 99, .bool false⟩ (by subst hp; simp) (hdep ⟨12, .guard⟩ (by simp) rfl); simp only at e99
              refine wpOp_no ho rfl (yields_of (d := 99) rfl rfl e99) (by decide) ?_
              exact hI.no ok ⟨15, 102, undef⟩ (by subst hp; simp) hl rfl
            · as_aux_lemma =>
              have e99 := hI.fix ⟨12, 99, .bool false⟩ (by subst hp; simp) (hdep ⟨12, .guard⟩ (by simp) rfl); simp only at e99
              refine wpOp_no ho rfl (yields_of (d := 99) rfl rfl e99) (by decide) ?_
              exact hI.no ok ⟨16, 103, undef⟩ (by subst hp; simp) hl rfl
            · as_aux_lemma =>
              have e99 := hI.fix ⟨12, 99, .bool false⟩ (by subst hp; simp) (hdep ⟨12, .guard⟩ (by simp) rfl); simp only at e99
              refine wpOp_no ho rfl (yields_of (d := 99) rfl rfl e99) (by decide) ?_
              exact hI.no ok ⟨17, 104, undef⟩ (by subst hp; simp) hl rfl
            · as_aux_lemma =>
              have e99 := hI.fix ⟨12, 99, .bool false⟩ (by subst hp; simp) (hdep ⟨12, .guard⟩ (by simp) rfl); simp only at e99
              refine wpOp_no ho rfl (yields_of (d := 99) rfl rfl e99) (by decide) ?_
              exact hI.no ok ⟨18, 105, undef⟩ (by subst hp; simp) hl rfl
            · as_aux_lemma =>
              have e99 := hI.fix ⟨12, 99, .bool false⟩ (by subst hp; simp) (hdep ⟨12, .guard⟩ (by simp) rfl); simp only at e99
              refine wpOp_no ho rfl (yields_of (d := 99) rfl rfl e99) (by decide) ?_
              exact hI.no ok ⟨19, 106, undef⟩ (by subst hp; simp) hl rfl
            · as_aux_lemma =>
              have e99 := hI.fix ⟨12, 99, .bool false⟩ (by subst hp; simp) (hdep ⟨12, .guard⟩ (by simp) rfl); simp only at e99
              refine wpOp_no ho rfl (yields_of (d := 99) rfl rfl e99) (by decide) ?_
              exact hI.no ok ⟨20, 107, undef⟩ (by subst hp; simp) hl rfl
            · as_aux_lemma =>
              have e99 := hI.fix ⟨12, 99, .bool false⟩ (by subst hp; simp) (hdep ⟨12, .guard⟩ (by simp) rfl); simp only at e99
              refine wpOp_no ho rfl (yields_of (d := 99) rfl rfl e99) (by decide) ?_
              exact hI.no ok ⟨21, 108, undef⟩ (by subst hp; simp) hl rfl
            · as_aux_lemma =>
              have e99 := hI.fix ⟨12, 99, .bool false⟩ (by subst hp; simp) (hdep ⟨12, .guard⟩ (by simp) rfl); simp only at e99
              refine wpOp_no ho rfl (yields_of (d := 99) rfl rfl e99) (by decide) ?_
              exact hI.no ok ⟨22, 109, undef⟩ (by subst hp; simp) hl rfl
            · as_aux_lemma =>
              have e93 := hI.fix ⟨6, 93, .bool false⟩ (by subst hp; simp) (hdep ⟨6, .guard⟩ (by simp) rfl); simp only at e93
              refine wpOp_yes ho rfl (yields_of (d := 93) rfl rfl e93) ?_
              have e99 := hI.fix ⟨12, 99, .bool false⟩ (by subst hp; simp) (hdep ⟨12, .data⟩ (by simp) rfl); simp only at e99
              have e109 := hI.fix ⟨22, 109, undef⟩ (by subst hp; simp) (hdep ⟨22, .data⟩ (by simp) rfl); simp only at e109
              refine hI.fx ok ⟨23, 110, .bool false⟩ (by subst hp; simp) hl rfl ?_
              simp only [execOp, Act.eval, e99, e109]; rfl
            · as_aux_lemma =>
              refine wpOp_of ho rfl ?_
              have e93 := hI.fix ⟨6, 93, .bool false⟩ (by subst hp; simp) (hdep ⟨6, .data⟩ (by simp) rfl); simp only at e93
              have e110 := hI.fix ⟨23, 110, .bool false⟩ (by subst hp; simp) (hdep ⟨23, .data⟩ (by simp) rfl); simp only at e110
              refine hI.fx ok ⟨24, 111, .bool false⟩ (by subst hp; simp) hl rfl ?_
              simp only [execOp, Act.eval, e93, e110]; rfl
          · intro L a' w' hI hall
            as_aux_lemma =>
              have hw : Below w5.heap.size w5 w' := by have := hI.bel; rw [hpw] at this; exact this
              have hxm := xm3.out.below hw
              have e87 := hI.fix ⟨0, 87, (.agg #[.slice (some ⟨b, 0, none⟩) s.stk.length c', .int .i64 s.is, .int .i64 s.em, .int .i64 s.nw])⟩ (by subst hp; simp) (hall 0 (by decide)); simp only at e87
              have e111 := hI.fix ⟨24, 111, .bool false⟩ (by subst hp; simp) (hall 24 (by decide)); simp only at e111
              unfold wpOp; simp only [List.getElem?_toArray, List.getElem?_cons_succ, List.getElem?_cons_zero, Region.wanted, if_true]
              refine .inl ?_
              refine wp_enter (f := 42) (args := #[(.agg #[.slice (some ⟨b, 0, none⟩) s.stk.length c', .int .i64 s.is, .int .i64 s.em, .int .i64 s.nw]), .bool false]) ?_ ?_
              · simp only [execOp]; go_simp
              refine (refopened_any false hxm.sb.rs hF.out (by omega)).mono ?_
              rintro en w6 ⟨v6, rfl, hR6, hb6⟩
              refine ⟨v6, rfl, fun d => a'.tmps.getD d undef, v6, ?_, hR6, hw.trans (hb6.mono hw.size)⟩
              have hae := act_puts (a := a') (a0 := p.a0) (ds := p.dsts) hI.size hI.dfr hI.keep
              rw [hD, hpa] at hae
              exact congrArg (fun q : Act => q.put (some 112) v6) hae
          · rintro a' w6 ⟨vs, v6, hae, hR6, hb6⟩
            clear hD hN ok hp hpa hpw hds k6 k7 k11
            rw [hs5] at hR6
            obtain ⟨b5, c5, hv5, _, _, _⟩ := id hR6
            have hRR : RS w6 (.agg #[.slice (some ⟨b5, 0, none⟩) s5.stk.length c5, .int .i64 s5.is, .int .i64 s5.em, .int .i64 s5.nw]) s5 := hv5 ▸ hR6
            have xm6 := hide (xm3.out.below hb6)
            have hbx := hide xm6.out.sb.box
            have xm7 := hide (xm6.out.store hRR)
            have e10 : a'.tmps.getD 10 undef = .pointer (some ⟨gs, 0, none⟩) := by
              rw [hae]; simp only [List.foldl_cons, List.foldl_nil]
              repeat rw [getD_put_ne (by decide)]
              exact k10
            have e112 : a'.tmps.getD 112 undef = v6 := by
              rw [hae]; refine getD_put_eq ?_
              simp only [List.foldl_cons, List.foldl_nil, size_put]; rw [hsz]; decide
            refine wpOp_of (o := { dst := none, op := .store 72 (.tmp 10) (.tmp 112), type := 0, pos := "ref.go:192", after := _, guard := none }) rfl rfl ?_
            refine wp_store_row 72 (.tmp 10) (.tmp 112) rfl gs #[.slice (some ⟨b5, 0, none⟩) s5.stk.length c5, .int .i64 s5.is, .int .i64 s5.em, .int .i64 s5.nw] e10 (e112.trans hv5) 72 _ hbx.out (by kernel_rfl) rfl (by simp [Value.oneCell']) ?_
            generalize w6.setRow gs #[.slice (some ⟨b5, 0, none⟩) s5.stk.length c5, .int .i64 s5.is, .int .i64 s5.em, .int .i64 s5.nw] = w7 at *
            clear hb6 hR6 hRR xm6 hbx hv5 e10 e112 xm3 p0 p1 p2 p3 p4 gc
            simp only [Act.put]
            rw [hae]
            clear hae
            simp only [List.foldl_cons, List.foldl_nil]
            generalize vs 87 = v87
            generalize vs 88 = v88
            generalize vs 89 = v89
            generalize vs 90 = v90
            generalize vs 91 = v91
            generalize vs 92 = v92
            generalize vs 93 = v93
            generalize vs 94 = v94
            generalize vs 95 = v95
            generalize vs 96 = v96
            generalize vs 97 = v97
            generalize vs 98 = v98
            generalize vs 99 = v99
            generalize vs 100 = v100
            generalize vs 101 = v101
            generalize vs 102 = v102
            generalize vs 103 = v103
            generalize vs 104 = v104
            generalize vs 105 = v105
            generalize vs 106 = v106
            generalize vs 107 = v107
            generalize vs 108 = v108
            generalize vs 109 = v109
            generalize vs 110 = v110
            generalize vs 111 = v111
            subst ha
            simp only [Act.put, List.setIfInBounds_toArray, List.set_cons_zero, List.set_cons_succ]
            obtain ⟨p0, p1, p2, p3, p4⟩ := f72 xm7.out.sb.box
            have gc7 := rd_cell (hC2.out.below xm7.out.bel) hz.out
            go_wp2_with (first
              | (at_builtin; refine wpList_app elt8 rfl (.tmp 147) (.tmp 149) rfl rfl rfl (xm7.out.L.alloc _) (own_one _ _ _ _ _ _ rfl (Nat.le_refl _)).rd (by omega) (by have := xm7.out.bel.size; simp; omega) ?_; intro A3 c3 w8 hL3 hgr3 hat3; have xa := hide (xm7.out.app hL3 hgr3 hat3); clear hL3 hgr3 hat3)
              | (at_builtin; refine wpList_app elt8 rfl (.tmp 151) (.tmp 153) rfl rfl rfl (xa.out.O.alloc _) (own_one _ _ _ _ _ _ rfl (Nat.le_refl _)).rd (by omega) (by have := xa.out.bel.size; simp; omega) ?_; intro A4 c4 w9 hO3 hgr4 hat4; have xr := hide (xa.out.app hz.out (hse.out ▸ hst.out) hO3 hgr4 hat4); clear hO3 hgr4 hat4))
            go_roundw
            case rel => exact ⟨k + 1, A3, A4, c3, c4, _, _, by omega, by go_num, rfl, rfl, xr.out⟩
            case measure => simp [intOf]; omega
          · exact fun o ho => by
              have ho2 := ho; simp only [List.getElem?_toArray, List.getElem?_cons_succ, List.getElem?_cons_zero, Option.some.injEq] at ho2; subst ho2
              exact ⟨⟨25, .data⟩, by simp, rfl, rfl⟩
          · intro i op ho
            as_aux_lemma =>
              have hi : i < 27 := by
                rcases Nat.lt_or_ge i 27 with h | h
                · exact h
                · rw [Array.getElem?_eq_none (by simpa using h)] at ho; cases ho
              rcases (show i = 0 ∨ i = 1 ∨ i = 2 ∨ i = 3 ∨ i = 4 ∨ i = 5 ∨ i = 6 ∨ i = 7 ∨ i = 8 ∨ i = 9 ∨ i = 10 ∨ i = 11 ∨ i = 12 ∨ i = 13 ∨ i = 14 ∨ i = 15 ∨ i = 16 ∨ i = 17 ∨ i = 18 ∨ i = 19 ∨ i = 20 ∨ i = 21 ∨ i = 22 ∨ i = 23 ∨ i = 24 ∨ i = 25 ∨ i = 26 by omega) with rfl | rfl | rfl | rfl | rfl | rfl | rfl | rfl | rfl | rfl | rfl | rfl | rfl | rfl | rfl | rfl | rfl | rfl | rfl | rfl | rfl | rfl | rfl | rfl | rfl | rfl | rfl
              all_goals (simp only [List.getElem?_toArray, List.getElem?_cons_succ, List.getElem?_cons_zero, Option.some.injEq] at ho; subst ho; simp)
        · as_aux_lemma =>
          have hst := hide (show stepS (fsiAt cl k) s 19 = (openS s false, s.top.lv, 19) by rw [step_open _ _ (show opS 19 = true from rfl), hov.out]; simp)
          go_wp2_with fail
          refine wp_region_below (by kernel_rfl) (by kernel_rfl) ?_
          repeat (go_big_quiet_step ((go_at_call 38; exact Calls.below_of (hT.out _))))
          refine wpQuiet_nil ?_
          rintro _ ⟨y, rfl⟩
          have xm1 := hide (hM.out.below y.below)
          obtain ⟨p0, p1, p2, p3, p4⟩ := f72 xm1.out.sb.box
          have hT1 := hide (xm1.out.top hF.out (by omega))
          clear hT g0 g1 g2 g3 gc
          go_wp2_with fail
          refine hT1.out.mono ?_
          rintro en w4 ⟨rfl, hb4⟩
          have xm2 := hide (xm1.out.below hb4)
          clear p0 p1 p2 p3 p4 hT1 hb4
          have xm3 := xm2
          obtain ⟨w5, rfl⟩ : ∃ w5 : World, w5 = w4 := ⟨_, rfl⟩
          clear xm2
          have gc := rd_cell (hC2.out.below xm3.out.bel) hz.out
          obtain ⟨p0, p1, p2, p3, p4⟩ := f72 xm3.out.sb.box
          go_wp2_with fail
          refine (op41 19 _).mono ?_
          rintro en w5' ⟨rfl, rfl⟩
          rw [show opS 19 = true from rfl]
          go_wp2_with fail
          obtain ⟨s5, hs5⟩ : ∃ s5, openS s false = s5 := ⟨_, rfl⟩
          rw [hs5] at hst
          have hds : ∀ d ∈ [87, 88, 89, 90, 91, 92, 93, 94, 95, 96, 97, 98, 99, 100, 101, 102, 103, 104, 105, 106, 107, 108, 109, 110, 111], d < 157 := by decide
          generalize ha : Act.mk _ _ = a0
          have hsz : a0.tmps.size = 157 := by rw [← ha]; rfl
          have k6 : a0.tmps.getD 6 undef = .slice (some ⟨bb, off, none⟩) n c1 := by rw [← ha]; rfl
          have k7 : a0.tmps.getD 7 undef = .slice A2 n c2 := by rw [← ha]; rfl
          have k10 : a0.tmps.getD 10 undef = .pointer (some ⟨gs, 0, none⟩) := by rw [← ha]; rfl
          have k11 : a0.tmps.getD 11 undef = .int .i64 ((k : Nat) : Int) := by rw [← ha]; rfl
          generalize hp : Plan.mk w5 a0 5 .u8 [⟨0, 87, (.agg #[.slice (some ⟨b, 0, none⟩) s.stk.length c', .int .i64 s.is, .int .i64 s.em, .int .i64 s.nw])⟩, ⟨1, 88, .slice (some ⟨bb, off, none⟩) n c1⟩, ⟨2, 89, .int .i64 ((k : Nat) : Int)⟩, ⟨3, 90, .pointer (some ⟨bb, off + k, none⟩)⟩, ⟨4, 91, .int .u8 19⟩, ⟨5, 92, .bool false⟩, ⟨6, 93, .bool false⟩, ⟨7, 94, .slice (some ⟨bb, off, none⟩) n c1⟩, ⟨8, 95, .int .i64 ((k : Nat) : Int)⟩, ⟨9, 96, .pointer (some ⟨bb, off + k, none⟩)⟩, ⟨10, 97, .int .u8 19⟩, ⟨11, 98, .bool false⟩, ⟨12, 99, .bool false⟩, ⟨13, 100, undef⟩, ⟨14, 101, undef⟩, ⟨15, 102, undef⟩, ⟨16, 103, undef⟩, ⟨17, 104, undef⟩, ⟨18, 105, undef⟩, ⟨19, 106, undef⟩, ⟨20, 107, undef⟩, ⟨21, 108, undef⟩, ⟨22, 109, undef⟩, ⟨23, 110, .bool false⟩, ⟨24, 111, .bool false⟩] [] [] ⟨none, 0, 0, []⟩ ⟨none, 0, 0, []⟩ = p
          have hD : p.dsts = [87, 88, 89, 90, 91, 92, 93, 94, 95, 96, 97, 98, 99, 100, 101, 102, 103, 104, 105, 106, 107, 108, 109, 110, 111] := by subst hp; rfl
          have hN : p.idxs = [0, 1, 2, 3, 4, 5, 6, 7, 8, 9, 10, 11, 12, 13, 14, 15, 16, 17, 18, 19, 20, 21, 22, 23, 24] := by subst hp; rfl
          have hpa : p.a0 = a0 := by subst hp; rfl
          have hpw : p.w0 = w5 := by subst hp; rfl
          have ok : p.OK := ⟨by rw [hD]; decide, by rw [hN]; decide, fun d hd => by rw [hpa, hsz]; rw [hD] at hd; exact hds d hd⟩
          refine wp_region_call (by kernel_rfl) 25 (by simp) (fun L a' w' => p.Inv w5.heap.size L a' w') (fun a' w' => ∃ (vs : Nat → Value) (v6 : Value), a' = ([87, 88, 89, 90, 91, 92, 93, 94, 95, 96, 97, 98, 99, 100, 101, 102, 103, 104, 105, 106, 107, 108, 109, 110, 111].foldl (fun b d => b.put (some d) (vs d)) a0).put (some 112) v6 ∧ RS w' v6 (openS s false) ∧ Below w5.heap.size w5 w') ?_ ?_ ?_ ?_ (by kernel_rfl) ?_ ?_
          · as_aux_lemma =>
            subst hp
            refine ⟨(show Below w5.heap.size w5 _ from (Below.refl _ _).drew), Nat.le_refl _, rfl, rfl, fun _ _ => rfl, fun f _ h => ?_, 0, 0, ⟨none, 0, 0, []⟩, ⟨none, 0, 0, []⟩, ⟨fun s c h => by simp at h, .inl ⟨rfl, rfl⟩⟩, ⟨fun s c h => by simp at h, .inl ⟨rfl, rfl⟩⟩, Own.none_ _ _ _ _, Own.none_ _ _ _ _, .inl rfl⟩
            exact absurd ((rep_false _ _).symm.trans h) (by decide)
          · intro L a' w' i op hi hs hI ho hl hdep
            have e6 : a'.tmps.getD 6 undef = .slice (some ⟨bb, off, none⟩) n c1 := by rw [hI.keep 6 (by rw [hD]; decide), hpa]; exact k6
            have e7 : a'.tmps.getD 7 undef = .slice A2 n c2 := by rw [hI.keep 7 (by rw [hD]; decide), hpa]; exact k7
            have e10 : a'.tmps.getD 10 undef = .pointer (some ⟨gs, 0, none⟩) := by rw [hI.keep 10 (by rw [hD]; decide), hpa]; exact k10
            have e11 : a'.tmps.getD 11 undef = .int .i64 ((k : Nat) : Int) := by rw [hI.keep 11 (by rw [hD]; decide), hpa]; exact k11
            have hw : Below w5.heap.size w5 w' := by have := hI.bel; rw [hpw] at this; exact this
            have hxm := xm3.out.below hw
            rcases (show i = 0 ∨ i = 1 ∨ i = 2 ∨ i = 3 ∨ i = 4 ∨ i = 5 ∨ i = 6 ∨ i = 7 ∨ i = 8 ∨ i = 9 ∨ i = 10 ∨ i = 11 ∨ i = 12 ∨ i = 13 ∨ i = 14 ∨ i = 15 ∨ i = 16 ∨ i = 17 ∨ i = 18 ∨ i = 19 ∨ i = 20 ∨ i = 21 ∨ i = 22 ∨ i = 23 ∨ i = 24 by omega) with rfl | rfl | rfl | rfl | rfl | rfl | rfl | rfl | rfl | rfl | rfl | rfl | rfl | rfl | rfl | rfl | rfl | rfl | rfl | rfl | rfl | rfl | rfl | rfl | rfl
            all_goals (have ho2 := ho; simp only [List.getElem?_toArray, List.getElem?_cons_succ, List.getElem?_cons_zero, Option.some.injEq] at ho2; subst ho2)
            · as_aux_lemma =>
              refine wpOp_of ho rfl ?_
              refine hI.fx ok ⟨0, 87, (.agg #[.slice (some ⟨b, 0, none⟩) s.stk.length c', .int .i64 s.is, .int .i64 s.em, .int .i64 s.nw])⟩ (by subst hp; simp) hl rfl ?_
              obtain ⟨p0, p1, p2, p3, p4⟩ := f72 hxm.sb.box
              simp only [execOp, Act.eval, e10]; go_simp
            · as_aux_lemma =>
              refine wpOp_of ho rfl ?_
              refine hI.fx ok ⟨1, 88, .slice (some ⟨bb, off, none⟩) n c1⟩ (by subst hp; simp) hl rfl ?_
              simp only [execOp, Act.eval, e6]; rfl
            · as_aux_lemma =>
              refine wpOp_of ho rfl ?_
              refine hI.fx ok ⟨2, 89, .int .i64 ((k : Nat) : Int)⟩ (by subst hp; simp) hl rfl ?_
              simp only [execOp, Act.eval, e11]; rfl
            · as_aux_lemma =>
              refine wpOp_of ho rfl ?_
              have e88 := hI.fix ⟨1, 88, .slice (some ⟨bb, off, none⟩) n c1⟩ (by subst hp; simp) (hdep ⟨1, .data⟩ (by simp) rfl); simp only at e88
              have e89 := hI.fix ⟨2, 89, .int .i64 ((k : Nat) : Int)⟩ (by subst hp; simp) (hdep ⟨2, .data⟩ (by simp) rfl); simp only at e89
              refine hI.fx ok ⟨3, 90, .pointer (some ⟨bb, off + k, none⟩)⟩ (by subst hp; simp) hl rfl ?_
              simp only [execOp, Act.eval, e88, e89]; go_simp
            · as_aux_lemma =>
              refine wpOp_of ho rfl ?_
              have e90 := hI.fix ⟨3, 90, .pointer (some ⟨bb, off + k, none⟩)⟩ (by subst hp; simp) (hdep ⟨3, .data⟩ (by simp) rfl); simp only at e90
              refine hI.fx ok ⟨4, 91, .int .u8 19⟩ (by subst hp; simp) hl rfl ?_
              have gcw := rd_cell (hC2.out.below hxm.bel) hz.out
              simp only [execOp, Act.eval, e90]; go_simp
            · as_aux_lemma =>
              refine wpOp_of ho rfl ?_
              have e91 := hI.fix ⟨4, 91, .int .u8 19⟩ (by subst hp; simp) (hdep ⟨4, .data⟩ (by simp) rfl); simp only at e91
              refine hI.fx ok ⟨5, 92, .bool false⟩ (by subst hp; simp) hl rfl ?_
              simp only [execOp, Act.eval, e91]; rfl
            · as_aux_lemma =>
              refine wpOp_of ho rfl ?_
              have e92 := hI.fix ⟨5, 92, .bool false⟩ (by subst hp; simp) (hdep ⟨5, .data⟩ (by simp) rfl); simp only at e92
              refine hI.fx ok ⟨6, 93, .bool false⟩ (by subst hp; simp) hl rfl ?_
              simp only [execOp, Act.eval, e92]; rfl
            · as_aux_lemma =>
              have e93 := hI.fix ⟨6, 93, .bool false⟩ (by subst hp; simp) (hdep ⟨6, .guard⟩ (by simp) rfl); simp only at e93
              refine wpOp_yes ho rfl (yields_of (d := 93) rfl rfl e93) ?_
              refine hI.fx ok ⟨7, 94, .slice (some ⟨bb, off, none⟩) n c1⟩ (by subst hp; simp) hl rfl ?_
              simp only [execOp, Act.eval, e6]; rfl
            · as_aux_lemma =>
              have e93 := hI.fix ⟨6, 93, .bool false⟩ (by subst hp; simp) (hdep ⟨6, .guard⟩ (by simp) rfl); simp only at e93
              refine wpOp_yes ho rfl (yields_of (d := 93) rfl rfl e93) ?_
              refine hI.fx ok ⟨8, 95, .int .i64 ((k : Nat) : Int)⟩ (by subst hp; simp) hl rfl ?_
              simp only [execOp, Act.eval, e11]; rfl
            · as_aux_lemma =>
              have e93 := hI.fix ⟨6, 93, .bool false⟩ (by subst hp; simp) (hdep ⟨6, .guard⟩ (by simp) rfl); simp only at e93
              refine wpOp_yes ho rfl (yields_of (d := 93) rfl rfl e93) ?_
              have e94 := hI.fix ⟨7, 94, .slice (some ⟨bb, off, none⟩) n c1⟩ (by subst hp; simp) (hdep ⟨7, .data⟩ (by simp) rfl); simp only at e94
              have e95 := hI.fix ⟨8, 95, .int .i64 ((k : Nat) : Int)⟩ (by subst hp; simp) (hdep ⟨8, .data⟩ (by simp) rfl); simp only at e95
              refine hI.fx ok ⟨9, 96, .pointer (some ⟨bb, off + k, none⟩)⟩ (by subst hp; simp) hl rfl ?_
              simp only [execOp, Act.eval, e94, e95]; go_simp
            · as_aux_lemma =>
              have e93 := hI.fix ⟨6, 93, .bool false⟩ (by subst hp; simp) (hdep ⟨6, .guard⟩ (by simp) rfl); simp only at e93
              refine wpOp_yes ho rfl (yields_of (d := 93) rfl rfl e93) ?_
              have e96 := hI.fix ⟨9, 96, .pointer (some ⟨bb, off + k, none⟩)⟩ (by subst hp; simp) (hdep ⟨9, .data⟩ (by simp) rfl); simp only at e96
              refine hI.fx ok ⟨10, 97, .int .u8 19⟩ (by subst hp; simp) hl rfl ?_
              have gcw := rd_cell (hC2.out.below hxm.bel) hz.out
              simp only [execOp, Act.eval, e96]; go_simp
            · as_aux_lemma =>
              have e93 := hI.fix ⟨6, 93, .bool false⟩ (by subst hp; simp) (hdep ⟨6, .guard⟩ (by simp) rfl); simp only at e93
              refine wpOp_yes ho rfl (yields_of (d := 93) rfl rfl e93) ?_
              have e97 := hI.fix ⟨10, 97, .int .u8 19⟩ (by subst hp; simp) (hdep ⟨10, .data⟩ (by simp) rfl); simp only at e97
              refine hI.fx ok ⟨11, 98, .bool false⟩ (by subst hp; simp) hl rfl ?_
              simp only [execOp, Act.eval, e97]; rfl
            · as_aux_lemma =>
              have e93 := hI.fix ⟨6, 93, .bool false⟩ (by subst hp; simp) (hdep ⟨6, .guard⟩ (by simp) rfl); simp only at e93
              refine wpOp_yes ho rfl (yields_of (d := 93) rfl rfl e93) ?_
              have e98 := hI.fix ⟨11, 98, .bool false⟩ (by subst hp; simp) (hdep ⟨11, .data⟩ (by simp) rfl); simp only at e98
              refine hI.fx ok ⟨12, 99, .bool false⟩ (by subst hp; simp) hl rfl ?_
              simp only [execOp, Act.eval, e98]; rfl
            · as_aux_lemma =>
              have e99 := hI.fix ⟨12, 99, .bool false⟩ (by subst hp; simp) (hdep ⟨12, .guard⟩ (by simp) rfl); simp only at e99
              refine wpOp_no ho rfl (yields_of (d := 99) rfl rfl e99) (by decide) ?_
              exact hI.no ok ⟨13, 100, undef⟩ (by subst hp; simp) hl rfl
            · as_aux_lemma =>
              have e99 := hI.fix ⟨12, 99, .bool false⟩ (by subst hp; simp) (hdep ⟨12, .guard⟩ (by simp) rfl); simp only at e99
              refine wpOp_no ho rfl (yields_of (d := 99) rfl rfl e99) (by decide) ?_
              exact hI.no ok ⟨14, 101, undef⟩ (by subst hp; simp) hl rfl
            · as_aux_lemma =>
              have e99 := hI.fix ⟨12, 99, .bool false⟩ (by subst hp; simp) (hdep ⟨12, .guard⟩ (by simp) rfl); simp only at e99
              refine wpOp_no ho rfl (yields_of (d := 99) rfl rfl e99) (by decide) ?_
              exact hI.no ok ⟨15, 102, undef⟩ (by subst hp; simp) hl rfl
            · as_aux_lemma =>
              have e99 := hI.fix ⟨12, 99, .bool false⟩ (by subst hp; simp) (hdep ⟨12, .guard⟩ (by simp) rfl); simp only at e99
              refine wpOp_no ho rfl (yields_of (d := 99) rfl rfl e99) (by decide) ?_
              exact hI.no ok ⟨16, 103, undef⟩ (by subst hp; simp) hl rfl
            · as_aux_lemma =>
              have e99 := hI.fix ⟨12, 99, .bool false⟩ (by subst hp; simp) (hdep ⟨12, .guard⟩ (by simp) rfl); simp only at e99
              refine wpOp_no ho rfl (yields_of (d := 99) rfl rfl e99) (by decide) ?_
              exact hI.no ok ⟨17, 104, undef⟩ (by subst hp; simp) hl rfl
            · as_aux_lemma =>
              have e99 := hI.fix ⟨12, 99, .bool false⟩ (by subst hp; simp) (hdep ⟨12, .guard⟩ (by simp) rfl); simp only at e99
              refine wpOp_no ho rfl (yields_of (d := 99) rfl rfl e99) (by decide) ?_
              exact hI.no ok ⟨18, 105, undef⟩ (by subst hp; simp) hl rfl
            · as_aux_lemma =>
              have e99 := hI.fix ⟨12, 99, .bool false⟩ (by subst hp; simp) (hdep ⟨12, .guard⟩ (by simp) rfl); simp only at e99
              refine wpOp_no ho rfl (yields_of (d := 99) rfl rfl e99) (by decide) ?_
              exact hI.no ok ⟨19, 106, undef⟩ (by subst hp; simp) hl rfl
            · as_aux_lemma =>
              have e99 := hI.fix ⟨12, 99, .bool false⟩ (by subst hp; simp) (hdep ⟨12, .guard⟩ (by simp) rfl); simp only at e99
              refine wpOp_no ho rfl (yields_of (d := 99) rfl rfl e99) (by decide) ?_
              exact hI.no ok ⟨20, 107, undef⟩ (by subst hp; simp) hl rfl
            · as_aux_lemma =>
              have e99 := hI.fix ⟨12, 99, .bool false⟩ (by subst hp; simp) (hdep ⟨12, .guard⟩ (by simp) rfl); simp only at e99
              refine wpOp_no ho rfl (yields_of (d := 99) rfl rfl e99) (by decide) ?_
              exact hI.no ok ⟨21, 108, undef⟩ (by subst hp; simp) hl rfl
            · as_aux_lemma =>
              have e99 := hI.fix ⟨12, 99, .bool false⟩ (by subst hp; simp) (hdep ⟨12, .guard⟩ (by simp) rfl); simp only at e99
              refine wpOp_no ho rfl (yields_of (d := 99) rfl rfl e99) (by decide) ?_
              exact hI.no ok ⟨22, 109, undef⟩ (by subst hp; simp) hl rfl
            · as_aux_lemma =>
              have e93 := hI.fix ⟨6, 93, .bool false⟩ (by subst hp; simp) (hdep ⟨6, .guard⟩ (by simp) rfl); simp only at e93
              refine wpOp_yes ho rfl (yields_of (d := 93) rfl rfl e93) ?_
              have e99 := hI.fix ⟨12, 99, .bool false⟩ (by subst hp; simp) (hdep ⟨12, .data⟩ (by simp) rfl); simp only at e99
              have e109 := hI.fix ⟨22, 109, undef⟩ (by subst hp; simp) (hdep ⟨22, .data⟩ (by simp) rfl); simp only at e109
              refine hI.fx ok ⟨23, 110, .bool false⟩ (by subst hp; simp) hl rfl ?_
              simp only [execOp, Act.eval, e99, e109]; rfl
            · as_aux_lemma =>
              refine wpOp_of ho rfl ?_
              have e93 := hI.fix ⟨6, 93, .bool false⟩ (by subst hp; simp) (hdep ⟨6, .data⟩ (by simp) rfl); simp only at e93
              have e110 := hI.fix ⟨23, 110, .bool false⟩ (by subst hp; simp) (hdep ⟨23, .data⟩ (by simp) rfl); simp only at e110
              refine hI.fx ok ⟨24, 111, .bool false⟩ (by subst hp; simp) hl rfl ?_
              simp only [execOp, Act.eval, e93, e110]; rfl
          · intro L a' w' hI hall
            as_aux_lemma =>
              have hw : Below w5.heap.size w5 w' := by have := hI.bel; rw [hpw] at this; exact this
              have hxm := xm3.out.below hw
              have e87 := hI.fix ⟨0, 87, (.agg #[.slice (some ⟨b, 0, none⟩) s.stk.length c', .int .i64 s.is, .int .i64 s.em, .int .i64 s.nw])⟩ (by subst hp; simp) (hall 0 (by decide)); simp only at e87
              have e111 := hI.fix ⟨24, 111, .bool false⟩ (by subst hp; simp) (hall 24 (by decide)); simp only at e111
              unfold wpOp; simp only [List.getElem?_toArray, List.getElem?_cons_succ, List.getElem?_cons_zero, Region.wanted, if_true]
              refine .inl ?_
              refine wp_enter (f := 42) (args := #[(.agg #[.slice (some ⟨b, 0, none⟩) s.stk.length c', .int .i64 s.is, .int .i64 s.em, .int .i64 s.nw]), .bool false]) ?_ ?_
              · simp only [execOp]; go_simp
              refine (refopened_any false hxm.sb.rs hF.out (by omega)).mono ?_
              rintro en w6 ⟨v6, rfl, hR6, hb6⟩
              refine ⟨v6, rfl, fun d => a'.tmps.getD d undef, v6, ?_, hR6, hw.trans (hb6.mono hw.size)⟩
              have hae := act_puts (a := a') (a0 := p.a0) (ds := p.dsts) hI.size hI.dfr hI.keep
              rw [hD, hpa] at hae
              exact congrArg (fun q : Act => q.put (some 112) v6) hae
          · rintro a' w6 ⟨vs, v6, hae, hR6, hb6⟩
            clear hD hN ok hp hpa hpw hds k6 k7 k11
            rw [hs5] at hR6
            obtain ⟨b5, c5, hv5, _, _, _⟩ := id hR6
            have hRR : RS w6 (.agg #[.slice (some ⟨b5, 0, none⟩) s5.stk.length c5, .int .i64 s5.is, .int .i64 s5.em, .int .i64 s5.nw]) s5 := hv5 ▸ hR6
            have xm6 := hide (xm3.out.below hb6)
            have hbx := hide xm6.out.sb.box
            have xm7 := hide (xm6.out.store hRR)
            have e10 : a'.tmps.getD 10 undef = .pointer (some ⟨gs, 0, none⟩) := by
              rw [hae]; simp only [List.foldl_cons, List.foldl_nil]
              repeat rw [getD_put_ne (by decide)]
              exact k10
            have e112 : a'.tmps.getD 112 undef = v6 := by
              rw [hae]; refine getD_put_eq ?_
              simp only [List.foldl_cons, List.foldl_nil, size_put]; rw [hsz]; decide
            refine wpOp_of (o := { dst := none, op := .store 72 (.tmp 10) (.tmp 112), type := 0, pos := "ref.go:192", after := _, guard := none }) rfl rfl ?_
            refine wp_store_row 72 (.tmp 10) (.tmp 112) rfl gs #[.slice (some ⟨b5, 0, none⟩) s5.stk.length c5, .int .i64 s5.is, .int .i64 s5.em, .int .i64 s5.nw] e10 (e112.trans hv5) 72 _ hbx.out (by kernel_rfl) rfl (by simp [Value.oneCell']) ?_
            generalize w6.setRow gs #[.slice (some ⟨b5, 0, none⟩) s5.stk.length c5, .int .i64 s5.is, .int .i64 s5.em, .int .i64 s5.nw] = w7 at *
            clear hb6 hR6 hRR xm6 hbx hv5 e10 e112 xm3 p0 p1 p2 p3 p4 gc
            simp only [Act.put]
            rw [hae]
            clear hae
            simp only [List.foldl_cons, List.foldl_nil]
            generalize vs 87 = v87
            generalize vs 88 = v88
            generalize vs 89 = v89
            generalize vs 90 = v90
            generalize vs 91 = v91
            generalize vs 92 = v92
            generalize vs 93 = v93
            generalize vs 94 = v94
            generalize vs 95 = v95
            generalize vs 96 = v96
            generalize vs 97 = v97
            generalize vs 98 = v98
            generalize vs 99 = v99
            generalize vs 100 = v100
            generalize vs 101 = v101
            generalize vs 102 = v102
            generalize vs 103 = v103
            generalize vs 104 = v104
            generalize vs 105 = v105
            generalize vs 106 = v106
            generalize vs 107 = v107
            generalize vs 108 = v108
            generalize vs 109 = v109
            generalize vs 110 = v110
            generalize vs 111 = v111
            subst ha
            simp only [Act.put, List.setIfInBounds_toArray, List.set_cons_zero, List.set_cons_succ]
            obtain ⟨p0, p1, p2, p3, p4⟩ := f72 xm7.out.sb.box
            have gc7 := rd_cell (hC2.out.below xm7.out.bel) hz.out
            go_wp2_with (first
              | (at_builtin; refine wpList_app elt8 rfl (.tmp 147) (.tmp 149) rfl rfl rfl (xm7.out.L.alloc _) (own_one _ _ _ _ _ _ rfl (Nat.le_refl _)).rd (by omega) (by have := xm7.out.bel.size; simp; omega) ?_; intro A3 c3 w8 hL3 hgr3 hat3; have xa := hide (xm7.out.app hL3 hgr3 hat3); clear hL3 hgr3 hat3)
              | (at_builtin; refine wpList_app elt8 rfl (.tmp 151) (.tmp 153) rfl rfl rfl (xa.out.O.alloc _) (own_one _ _ _ _ _ _ rfl (Nat.le_refl _)).rd (by omega) (by have := xa.out.bel.size; simp; omega) ?_; intro A4 c4 w9 hO3 hgr4 hat4; have xr := hide (xa.out.app hz.out (hse.out ▸ hst.out) hO3 hgr4 hat4); clear hO3 hgr4 hat4))
            go_roundw
            case rel => exact ⟨k + 1, A3, A4, c3, c4, _, _, by omega, by go_num, rfl, rfl, xr.out⟩
            case measure => simp [intOf]; omega
          · exact fun o ho => by
              have ho2 := ho; simp only [List.getElem?_toArray, List.getElem?_cons_succ, List.getElem?_cons_zero, Option.some.injEq] at ho2; subst ho2
              exact ⟨⟨25, .data⟩, by simp, rfl, rfl⟩
          · intro i op ho
            as_aux_lemma =>
              have hi : i < 27 := by
                rcases Nat.lt_or_ge i 27 with h | h
                · exact h
                · rw [Array.getElem?_eq_none (by simpa using h)] at ho; cases ho
              rcases (show i = 0 ∨ i = 1 ∨ i = 2 ∨ i = 3 ∨ i = 4 ∨ i = 5 ∨ i = 6 ∨ i = 7 ∨ i = 8 ∨ i = 9 ∨ i = 10 ∨ i = 11 ∨ i = 12 ∨ i = 13 ∨ i = 14 ∨ i = 15 ∨ i = 16 ∨ i = 17 ∨ i = 18 ∨ i = 19 ∨ i = 20 ∨ i = 21 ∨ i = 22 ∨ i = 23 ∨ i = 24 ∨ i = 25 ∨ i = 26 by omega) with rfl | rfl | rfl | rfl | rfl | rfl | rfl | rfl | rfl | rfl | rfl | rfl | rfl | rfl | rfl | rfl | rfl | rfl | rfl | rfl | rfl | rfl | rfl | rfl | rfl | rfl | rfl
              all_goals (simp only [List.getElem?_toArray, List.getElem?_cons_succ, List.getElem?_cons_zero, Option.some.injEq] at ho; subst ho; simp)
      · skip
        rcases hovc with ⟨o1, hov⟩ | ⟨o1, hov⟩
        · as_aux_lemma =>
          have hst := hide (show stepS (fsiAt cl k) s 20 = (openS s true, s.top.lv, (mapE s.top).ov) by rw [step_open _ _ (show opS 20 = true from rfl), hov.out]; simp)
          go_wp2_with fail
          refine wp_region_below (by kernel_rfl) (by kernel_rfl) ?_
          repeat (go_big_quiet_step ((go_at_call 38; exact Calls.below_of (hT.out _))))
          refine wpQuiet_nil ?_
          rintro _ ⟨y, rfl⟩
          have xm1 := hide (hM.out.below y.below)
          obtain ⟨p0, p1, p2, p3, p4⟩ := f72 xm1.out.sb.box
          have hT1 := hide (xm1.out.top hF.out (by omega))
          clear hT g0 g1 g2 g3 gc
          go_wp2_with fail
          refine hT1.out.mono ?_
          rintro en w4 ⟨rfl, hb4⟩
          have xm2 := hide (xm1.out.below hb4)
          clear p0 p1 p2 p3 p4 hT1 hb4
          obtain ⟨p0, p1, p2, p3, p4⟩ := f72 xm2.out.sb.box
          have hT2 := hide (xm2.out.top hF.out (by omega))
          go_wp2_with fail
          refine hT2.out.mono ?_
          rintro en w5 ⟨rfl, hb5⟩
          have xm3 := hide (xm2.out.below hb5)
          clear p0 p1 p2 p3 p4 hT2 hb5 xm2
          have gc := rd_cell (hC2.out.below xm3.out.bel) hz.out
          obtain ⟨p0, p1, p2, p3, p4⟩ := f72 xm3.out.sb.box
          go_wp2_with fail
          refine (op41 20 _).mono ?_
          rintro en w5' ⟨rfl, rfl⟩
          rw [show opS 20 = true from rfl]
          go_wp2_with fail
          obtain ⟨s5, hs5⟩ : ∃ s5, openS s true = s5 := ⟨_, rfl⟩
          rw [hs5] at hst
          have hds : ∀ d ∈ [87, 88, 89, 90, 91, 92, 93, 94, 95, 96, 97, 98, 99, 100, 101, 102, 103, 104, 105, 106, 107, 108, 109, 110, 111], d < 157 := by decide
          generalize ha : Act.mk _ _ = a0
          have hsz : a0.tmps.size = 157 := by rw [← ha]; rfl
          have k6 : a0.tmps.getD 6 undef = .slice (some ⟨bb, off, none⟩) n c1 := by rw [← ha]; rfl
          have k7 : a0.tmps.getD 7 undef = .slice A2 n c2 := by rw [← ha]; rfl
          have k10 : a0.tmps.getD 10 undef = .pointer (some ⟨gs, 0, none⟩) := by rw [← ha]; rfl
          have k11 : a0.tmps.getD 11 undef = .int .i64 ((k : Nat) : Int) := by rw [← ha]; rfl
          generalize hp : Plan.mk w5 a0 5 .u8 [⟨0, 87, (.agg #[.slice (some ⟨b, 0, none⟩) s.stk.length c', .int .i64 s.is, .int .i64 s.em, .int .i64 s.nw])⟩, ⟨1, 88, .slice (some ⟨bb, off, none⟩) n c1⟩, ⟨2, 89, .int .i64 ((k : Nat) : Int)⟩, ⟨3, 90, .pointer (some ⟨bb, off + k, none⟩)⟩, ⟨4, 91, .int .u8 20⟩, ⟨5, 92, .bool true⟩, ⟨6, 93, .bool true⟩, ⟨7, 94, undef⟩, ⟨8, 95, undef⟩, ⟨9, 96, undef⟩, ⟨10, 97, undef⟩, ⟨11, 98, undef⟩, ⟨12, 99, undef⟩, ⟨13, 100, undef⟩, ⟨14, 101, undef⟩, ⟨15, 102, undef⟩, ⟨16, 103, undef⟩, ⟨17, 104, undef⟩, ⟨18, 105, undef⟩, ⟨19, 106, undef⟩, ⟨20, 107, undef⟩, ⟨21, 108, undef⟩, ⟨22, 109, undef⟩, ⟨23, 110, undef⟩, ⟨24, 111, .bool true⟩] [] [] ⟨none, 0, 0, []⟩ ⟨none, 0, 0, []⟩ = p
          have hD : p.dsts = [87, 88, 89, 90, 91, 92, 93, 94, 95, 96, 97, 98, 99, 100, 101, 102, 103, 104, 105, 106, 107, 108, 109, 110, 111] := by subst hp; rfl
          have hN : p.idxs = [0, 1, 2, 3, 4, 5, 6, 7, 8, 9, 10, 11, 12, 13, 14, 15, 16, 17, 18, 19, 20, 21, 22, 23, 24] := by subst hp; rfl
          have hpa : p.a0 = a0 := by subst hp; rfl
          have hpw : p.w0 = w5 := by subst hp; rfl
          have ok : p.OK := ⟨by rw [hD]; decide, by rw [hN]; decide, fun d hd => by rw [hpa, hsz]; rw [hD] at hd; exact hds d hd⟩
          refine wp_region_call (by kernel_rfl) 25 (by simp) (fun L a' w' => p.Inv w5.heap.size L a' w') (fun a' w' => ∃ (vs : Nat → Value) (v6 : Value), a' = ([87, 88, 89, 90, 91, 92, 93, 94, 95, 96, 97, 98, 99, 100, 101, 102, 103, 104, 105, 106, 107, 108, 109, 110, 111].foldl (fun b d => b.put (some d) (vs d)) a0).put (some 112) v6 ∧ RS w' v6 (openS s true) ∧ Below w5.heap.size w5 w') ?_ ?_ ?_ ?_ (by kernel_rfl) ?_ ?_
          · as_aux_lemma =>
            subst hp
            refine ⟨(show Below w5.heap.size w5 _ from (Below.refl _ _).drew), Nat.le_refl _, rfl, rfl, fun _ _ => rfl, fun f _ h => ?_, 0, 0, ⟨none, 0, 0, []⟩, ⟨none, 0, 0, []⟩, ⟨fun s c h => by simp at h, .inl ⟨rfl, rfl⟩⟩, ⟨fun s c h => by simp at h, .inl ⟨rfl, rfl⟩⟩, Own.none_ _ _ _ _, Own.none_ _ _ _ _, .inl rfl⟩
            exact absurd ((rep_false _ _).symm.trans h) (by decide)
          · intro L a' w' i op hi hs hI ho hl hdep
            have e6 : a'.tmps.getD 6 undef = .slice (some ⟨bb, off, none⟩) n c1 := by rw [hI.keep 6 (by rw [hD]; decide), hpa]; exact k6
            have e7 : a'.tmps.getD 7 undef = .slice A2 n c2 := by rw [hI.keep 7 (by rw [hD]; decide), hpa]; exact k7
            have e10 : a'.tmps.getD 10 undef = .pointer (some ⟨gs, 0, none⟩) := by rw [hI.keep 10 (by rw [hD]; decide), hpa]; exact k10
            have e11 : a'.tmps.getD 11 undef = .int .i64 ((k : Nat) : Int) := by rw [hI.keep 11 (by rw [hD]; decide), hpa]; exact k11
            have hw : Below w5.heap.size w5 w' := by have := hI.bel; rw [hpw] at this; exact this
            have hxm := xm3.out.below hw
            rcases (show i = 0 ∨ i = 1 ∨ i = 2 ∨ i = 3 ∨ i = 4 ∨ i = 5 ∨ i = 6 ∨ i = 7 ∨ i = 8 ∨ i = 9 ∨ i = 10 ∨ i = 11 ∨ i = 12 ∨ i = 13 ∨ i = 14 ∨ i = 15 ∨ i = 16 ∨ i = 17 ∨ i = 18 ∨ i = 19 ∨ i = 20 ∨ i = 21 ∨ i = 22 ∨ i = 23 ∨ i = 24 by omega) with rfl | rfl | rfl | rfl | rfl | rfl | rfl | rfl | rfl | rfl | rfl | rfl | rfl | rfl | rfl | rfl | rfl | rfl | rfl | rfl | rfl | rfl | rfl | rfl | rfl
            all_goals (have ho2 := ho; simp only [List.getElem?_toArray, List.getElem?_cons_succ, List.getElem?_cons_zero, Option.some.injEq] at ho2; subst ho2)
            · as_aux_lemma =>
              refine wpOp_of ho rfl ?_
              refine hI.fx ok ⟨0, 87, (.agg #[.slice (some ⟨b, 0, none⟩) s.stk.length c', .int .i64 s.is, .int .i64 s.em, .int .i64 s.nw])⟩ (by subst hp; simp) hl rfl ?_
              obtain ⟨p0, p1, p2, p3, p4⟩ := f72 hxm.sb.box
              simp only [execOp, Act.eval, e10]; go_simp
            · as_aux_lemma =>
              refine wpOp_of ho rfl ?_
              refine hI.fx ok ⟨1, 88, .slice (some ⟨bb, off, none⟩) n c1⟩ (by subst hp; simp) hl rfl ?_
              simp only [execOp, Act.eval, e6]; rfl
            · as_aux_lemma =>
              refine wpOp_of ho rfl ?_
              refine hI.fx ok ⟨2, 89, .int .i64 ((k : Nat) : Int)⟩ (by subst hp; simp) hl rfl ?_
              simp only [execOp, Act.eval, e11]; rfl
            · as_aux_lemma =>
              refine wpOp_of ho rfl ?_
              have e88 := hI.fix ⟨1, 88, .slice (some ⟨bb, off, none⟩) n c1⟩ (by subst hp; simp) (hdep ⟨1, .data⟩ (by simp) rfl); simp only at e88
              have e89 := hI.fix ⟨2, 89, .int .i64 ((k : Nat) : Int)⟩ (by subst hp; simp) (hdep ⟨2, .data⟩ (by simp) rfl); simp only at e89
              refine hI.fx ok ⟨3, 90, .pointer (some ⟨bb, off + k, none⟩)⟩ (by subst hp; simp) hl rfl ?_
              simp only [execOp, Act.eval, e88, e89]; go_simp
            · as_aux_lemma =>
              refine wpOp_of ho rfl ?_
              have e90 := hI.fix ⟨3, 90, .pointer (some ⟨bb, off + k, none⟩)⟩ (by subst hp; simp) (hdep ⟨3, .data⟩ (by simp) rfl); simp only at e90
              refine hI.fx ok ⟨4, 91, .int .u8 20⟩ (by subst hp; simp) hl rfl ?_
              have gcw := rd_cell (hC2.out.below hxm.bel) hz.out
              simp only [execOp, Act.eval, e90]; go_simp
            · as_aux_lemma =>
              refine wpOp_of ho rfl ?_
              have e91 := hI.fix ⟨4, 91, .int .u8 20⟩ (by subst hp; simp) (hdep ⟨4, .data⟩ (by simp) rfl); simp only at e91
              refine hI.fx ok ⟨5, 92, .bool true⟩ (by subst hp; simp) hl rfl ?_
              simp only [execOp, Act.eval, e91]; rfl
            · as_aux_lemma =>
              refine wpOp_of ho rfl ?_
              have e92 := hI.fix ⟨5, 92, .bool true⟩ (by subst hp; simp) (hdep ⟨5, .data⟩ (by simp) rfl); simp only at e92
              refine hI.fx ok ⟨6, 93, .bool true⟩ (by subst hp; simp) hl rfl ?_
              simp only [execOp, Act.eval, e92]; rfl
            · as_aux_lemma =>
              have e93 := hI.fix ⟨6, 93, .bool true⟩ (by subst hp; simp) (hdep ⟨6, .guard⟩ (by simp) rfl); simp only at e93
              refine wpOp_no ho rfl (yields_of (d := 93) rfl rfl e93) (by decide) ?_
              exact hI.no ok ⟨7, 94, undef⟩ (by subst hp; simp) hl rfl
            · as_aux_lemma =>
              have e93 := hI.fix ⟨6, 93, .bool true⟩ (by subst hp; simp) (hdep ⟨6, .guard⟩ (by simp) rfl); simp only at e93
              refine wpOp_no ho rfl (yields_of (d := 93) rfl rfl e93) (by decide) ?_
              exact hI.no ok ⟨8, 95, undef⟩ (by subst hp; simp) hl rfl
            · as_aux_lemma =>
              have e93 := hI.fix ⟨6, 93, .bool true⟩ (by subst hp; simp) (hdep ⟨6, .guard⟩ (by simp) rfl); simp only at e93
              refine wpOp_no ho rfl (yields_of (d := 93) rfl rfl e93) (by decide) ?_
              exact hI.no ok ⟨9, 96, undef⟩ (by subst hp; simp) hl rfl
            · as_aux_lemma =>
              have e93 := hI.fix ⟨6, 93, .bool true⟩ (by subst hp; simp) (hdep ⟨6, .guard⟩ (by simp) rfl); simp only at e93
              refine wpOp_no ho rfl (yields_of (d := 93) rfl rfl e93) (by decide) ?_
              exact hI.no ok ⟨10, 97, undef⟩ (by subst hp; simp) hl rfl
            · as_aux_lemma =>
              have e93 := hI.fix ⟨6, 93, .bool true⟩ (by subst hp; simp) (hdep ⟨6, .guard⟩ (by simp) rfl); simp only at e93
              refine wpOp_no ho rfl (yields_of (d := 93) rfl rfl e93) (by decide) ?_
              exact hI.no ok ⟨11, 98, undef⟩ (by subst hp; simp) hl rfl
            · as_aux_lemma =>
              have e93 := hI.fix ⟨6, 93, .bool true⟩ (by subst hp; simp) (hdep ⟨6, .guard⟩ (by simp) rfl); simp only at e93
              refine wpOp_no ho rfl (yields_of (d := 93) rfl rfl e93) (by decide) ?_
              exact hI.no ok ⟨12, 99, undef⟩ (by subst hp; simp) hl rfl
            · as_aux_lemma =>
              have e99 := hI.fix ⟨12, 99, undef⟩ (by subst hp; simp) (hdep ⟨12, .guard⟩ (by simp) rfl); simp only at e99
              refine wpOp_not ho rfl (yields_undef (d := 99) rfl rfl e99) ?_
              exact hI.no ok ⟨13, 100, undef⟩ (by subst hp; simp) hl rfl
            · as_aux_lemma =>
              have e99 := hI.fix ⟨12, 99, undef⟩ (by subst hp; simp) (hdep ⟨12, .guard⟩ (by simp) rfl); simp only at e99
              refine wpOp_not ho rfl (yields_undef (d := 99) rfl rfl e99) ?_
              exact hI.no ok ⟨14, 101, undef⟩ (by subst hp; simp) hl rfl
            · as_aux_lemma =>
              have e99 := hI.fix ⟨12, 99, undef⟩ (by subst hp; simp) (hdep ⟨12, .guard⟩ (by simp) rfl); simp only at e99
              refine wpOp_not ho rfl (yields_undef (d := 99) rfl rfl e99) ?_
              exact hI.no ok ⟨15, 102, undef⟩ (by subst hp; simp) hl rfl
            · as_aux_lemma =>
              have e99 := hI.fix ⟨12, 99, undef⟩ (by subst hp; simp) (hdep ⟨12, .guard⟩ (by simp) rfl); simp only at e99
              refine wpOp_not ho rfl (yields_undef (d := 99) rfl rfl e99) ?_
              exact hI.no ok ⟨16, 103, undef⟩ (by subst hp; simp) hl rfl
            · as_aux_lemma =>
              have e99 := hI.fix ⟨12, 99, undef⟩ (by subst hp; simp) (hdep ⟨12, .guard⟩ (by simp) rfl); simp only at e99
              refine wpOp_not ho rfl (yields_undef (d := 99) rfl rfl e99) ?_
              exact hI.no ok ⟨17, 104, undef⟩ (by subst hp; simp) hl rfl
            · as_aux_lemma =>
              have e99 := hI.fix ⟨12, 99, undef⟩ (by subst hp; simp) (hdep ⟨12, .guard⟩ (by simp) rfl); simp only at e99
              refine wpOp_not ho rfl (yields_undef (d := 99) rfl rfl e99) ?_
              exact hI.no ok ⟨18, 105, undef⟩ (by subst hp; simp) hl rfl
            · as_aux_lemma =>
              have e99 := hI.fix ⟨12, 99, undef⟩ (by subst hp; simp) (hdep ⟨12, .guard⟩ (by simp) rfl); simp only at e99
              refine wpOp_not ho rfl (yields_undef (d := 99) rfl rfl e99) ?_
              exact hI.no ok ⟨19, 106, undef⟩ (by subst hp; simp) hl rfl
            · as_aux_lemma =>
              have e99 := hI.fix ⟨12, 99, undef⟩ (by subst hp; simp) (hdep ⟨12, .guard⟩ (by simp) rfl); simp only at e99
              refine wpOp_not ho rfl (yields_undef (d := 99) rfl rfl e99) ?_
              exact hI.no ok ⟨20, 107, undef⟩ (by subst hp; simp) hl rfl
            · as_aux_lemma =>
              have e99 := hI.fix ⟨12, 99, undef⟩ (by subst hp; simp) (hdep ⟨12, .guard⟩ (by simp) rfl); simp only at e99
              refine wpOp_not ho rfl (yields_undef (d := 99) rfl rfl e99) ?_
              exact hI.no ok ⟨21, 108, undef⟩ (by subst hp; simp) hl rfl
            · as_aux_lemma =>
              have e99 := hI.fix ⟨12, 99, undef⟩ (by subst hp; simp) (hdep ⟨12, .guard⟩ (by simp) rfl); simp only at e99
              refine wpOp_not ho rfl (yields_undef (d := 99) rfl rfl e99) ?_
              exact hI.no ok ⟨22, 109, undef⟩ (by subst hp; simp) hl rfl
            · as_aux_lemma =>
              have e93 := hI.fix ⟨6, 93, .bool true⟩ (by subst hp; simp) (hdep ⟨6, .guard⟩ (by simp) rfl); simp only at e93
              refine wpOp_no ho rfl (yields_of (d := 93) rfl rfl e93) (by decide) ?_
              exact hI.no ok ⟨23, 110, undef⟩ (by subst hp; simp) hl rfl
            · as_aux_lemma =>
              refine wpOp_of ho rfl ?_
              have e93 := hI.fix ⟨6, 93, .bool true⟩ (by subst hp; simp) (hdep ⟨6, .data⟩ (by simp) rfl); simp only at e93
              have e110 := hI.fix ⟨23, 110, undef⟩ (by subst hp; simp) (hdep ⟨23, .data⟩ (by simp) rfl); simp only at e110
              refine hI.fx ok ⟨24, 111, .bool true⟩ (by subst hp; simp) hl rfl ?_
              simp only [execOp, Act.eval, e93, e110]; rfl
          · intro L a' w' hI hall
            as_aux_lemma =>
              have hw : Below w5.heap.size w5 w' := by have := hI.bel; rw [hpw] at this; exact this
              have hxm := xm3.out.below hw
              have e87 := hI.fix ⟨0, 87, (.agg #[.slice (some ⟨b, 0, none⟩) s.stk.length c', .int .i64 s.is, .int .i64 s.em, .int .i64 s.nw])⟩ (by subst hp; simp) (hall 0 (by decide)); simp only at e87
              have e111 := hI.fix ⟨24, 111, .bool true⟩ (by subst hp; simp) (hall 24 (by decide)); simp only at e111
              unfold wpOp; simp only [List.getElem?_toArray, List.getElem?_cons_succ, List.getElem?_cons_zero, Region.wanted, if_true]
              refine .inl ?_
              refine wp_enter (f := 42) (args := #[(.agg #[.slice (some ⟨b, 0, none⟩) s.stk.length c', .int .i64 s.is, .int .i64 s.em, .int .i64 s.nw]), .bool true]) ?_ ?_
              · simp only [execOp]; go_simp
              refine (refopened_any true hxm.sb.rs hF.out (by omega)).mono ?_
              rintro en w6 ⟨v6, rfl, hR6, hb6⟩
              refine ⟨v6, rfl, fun d => a'.tmps.getD d undef, v6, ?_, hR6, hw.trans (hb6.mono hw.size)⟩
              have hae := act_puts (a := a') (a0 := p.a0) (ds := p.dsts) hI.size hI.dfr hI.keep
              rw [hD, hpa] at hae
              exact congrArg (fun q : Act => q.put (some 112) v6) hae
          · rintro a' w6 ⟨vs, v6, hae, hR6, hb6⟩
            clear hD hN ok hp hpa hpw hds k6 k7 k11
            rw [hs5] at hR6
            obtain ⟨b5, c5, hv5, _, _, _⟩ := id hR6
            have hRR : RS w6 (.agg #[.slice (some ⟨b5, 0, none⟩) s5.stk.length c5, .int .i64 s5.is, .int .i64 s5.em, .int .i64 s5.nw]) s5 := hv5 ▸ hR6
            have xm6 := hide (xm3.out.below hb6)
            have hbx := hide xm6.out.sb.box
            have xm7 := hide (xm6.out.store hRR)
            have e10 : a'.tmps.getD 10 undef = .pointer (some ⟨gs, 0, none⟩) := by
              rw [hae]; simp only [List.foldl_cons, List.foldl_nil]
              repeat rw [getD_put_ne (by decide)]
              exact k10
            have e112 : a'.tmps.getD 112 undef = v6 := by
              rw [hae]; refine getD_put_eq ?_
              simp only [List.foldl_cons, List.foldl_nil, size_put]; rw [hsz]; decide
            refine wpOp_of (o := { dst := none, op := .store 72 (.tmp 10) (.tmp 112), type := 0, pos := "ref.go:192", after := _, guard := none }) rfl rfl ?_
            refine wp_store_row 72 (.tmp 10) (.tmp 112) rfl gs #[.slice (some ⟨b5, 0, none⟩) s5.stk.length c5, .int .i64 s5.is, .int .i64 s5.em, .int .i64 s5.nw] e10 (e112.trans hv5) 72 _ hbx.out (by kernel_rfl) rfl (by simp [Value.oneCell']) ?_
            generalize w6.setRow gs #[.slice (some ⟨b5, 0, none⟩) s5.stk.length c5, .int .i64 s5.is, .int .i64 s5.em, .int .i64 s5.nw] = w7 at *
            clear hb6 hR6 hRR xm6 hbx hv5 e10 e112 xm3 p0 p1 p2 p3 p4 gc
            simp only [Act.put]
            rw [hae]
            clear hae
            simp only [List.foldl_cons, List.foldl_nil]
            generalize vs 87 = v87
            generalize vs 88 = v88
            generalize vs 89 = v89
            generalize vs 90 = v90
            generalize vs 91 = v91
            generalize vs 92 = v92
            generalize vs 93 = v93
            generalize vs 94 = v94
            generalize vs 95 = v95
            generalize vs 96 = v96
            generalize vs 97 = v97
            generalize vs 98 = v98
            generalize vs 99 = v99
            generalize vs 100 = v100
            generalize vs 101 = v101
            generalize vs 102 = v102
            generalize vs 103 = v103
            generalize vs 104 = v104
            generalize vs 105 = v105
            generalize vs 106 = v106
            generalize vs 107 = v107
            generalize vs 108 = v108
            generalize vs 109 = v109
            generalize vs 110 = v110
            generalize vs 111 = v111
            subst ha
            simp only [Act.put, List.setIfInBounds_toArray, List.set_cons_zero, List.set_cons_succ]
            obtain ⟨p0, p1, p2, p3, p4⟩ := f72 xm7.out.sb.box
            have gc7 := rd_cell (hC2.out.below xm7.out.bel) hz.out
            go_wp2_with (first
              | (at_builtin; refine wpList_app elt8 rfl (.tmp 147) (.tmp 149) rfl rfl rfl (xm7.out.L.alloc _) (own_one _ _ _ _ _ _ rfl (Nat.le_refl _)).rd (by omega) (by have := xm7.out.bel.size; simp; omega) ?_; intro A3 c3 w8 hL3 hgr3 hat3; have xa := hide (xm7.out.app hL3 hgr3 hat3); clear hL3 hgr3 hat3)
              | (at_builtin; refine wpList_app elt8 rfl (.tmp 151) (.tmp 153) rfl rfl rfl (xa.out.O.alloc _) (own_one _ _ _ _ _ _ rfl (Nat.le_refl _)).rd (by omega) (by have := xa.out.bel.size; simp; omega) ?_; intro A4 c4 w9 hO3 hgr4 hat4; have xr := hide (xa.out.app hz.out (hse.out ▸ hst.out) hO3 hgr4 hat4); clear hO3 hgr4 hat4))
            go_roundw
            case rel => exact ⟨k + 1, A3, A4, c3, c4, _, _, by omega, by go_num, rfl, rfl, xr.out⟩
            case measure => simp [intOf]; omega
          · exact fun o ho => by
              have ho2 := ho; simp only [List.getElem?_toArray, List.getElem?_cons_succ, List.getElem?_cons_zero, Option.some.injEq] at ho2; subst ho2
              exact ⟨⟨25, .data⟩, by simp, rfl, rfl⟩
          · intro i op ho
            as_aux_lemma =>
              have hi : i < 27 := by
                rcases Nat.lt_or_ge i 27 with h | h
                · exact h
                · rw [Array.getElem?_eq_none (by simpa using h)] at ho; cases ho
              rcases (show i = 0 ∨ i = 1 ∨ i = 2 ∨ i = 3 ∨ i = 4 ∨ i = 5 ∨ i = 6 ∨ i = 7 ∨ i = 8 ∨ i = 9 ∨ i = 10 ∨ i = 11 ∨ i = 12 ∨ i = 13 ∨ i = 14 ∨ i = 15 ∨ i = 16 ∨ i = 17 ∨ i = 18 ∨ i = 19 ∨ i = 20 ∨ i = 21 ∨ i = 22 ∨ i = 23 ∨ i = 24 ∨ i = 25 ∨ i = 26 by omega) with rfl | rfl | rfl | rfl | rfl | rfl | rfl | rfl | rfl | rfl | rfl | rfl | rfl | rfl | rfl | rfl | rfl | rfl | rfl | rfl | rfl | rfl | rfl | rfl | rfl | rfl | rfl
              all_goals (simp only [List.getElem?_toArray, List.getElem?_cons_succ, List.getElem?_cons_zero, Option.some.injEq] at ho; subst ho; simp)
        · as_aux_lemma =>
          have hst := hide (show stepS (fsiAt cl k) s 20 = (openS s true, s.top.lv, 20) by rw [step_open _ _ (show opS 20 = true from rfl), hov.out]; simp)
          go_wp2_with fail
          refine wp_region_below (by kernel_rfl) (by kernel_rfl) ?_
          repeat (go_big_quiet_step ((go_at_call 38; exact Calls.below_of (hT.out _))))
          refine wpQuiet_nil ?_
          rintro _ ⟨y, rfl⟩
          have xm1 := hide (hM.out.below y.below)
          obtain ⟨p0, p1, p2, p3, p4⟩ := f72 xm1.out.sb.box
          have hT1 := hide (xm1.out.top hF.out (by omega))
          clear hT g0 g1 g2 g3 gc
          go_wp2_with fail
          refine hT1.out.mono ?_
          rintro en w4 ⟨rfl, hb4⟩
          have xm2 := hide (xm1.out.below hb4)
          clear p0 p1 p2 p3 p4 hT1 hb4
          have xm3 := xm2
          obtain ⟨w5, rfl⟩ : ∃ w5 : World, w5 = w4 := ⟨_, rfl⟩
          clear xm2
          have gc := rd_cell (hC2.out.below xm3.out.bel) hz.out
          obtain ⟨p0, p1, p2, p3, p4⟩ := f72 xm3.out.sb.box
          go_wp2_with fail
          refine (op41 20 _).mono ?_
          rintro en w5' ⟨rfl, rfl⟩
          rw [show opS 20 = true from rfl]
          go_wp2_with fail
          obtain ⟨s5, hs5⟩ : ∃ s5, openS s true = s5 := ⟨_, rfl⟩
          rw [hs5] at hst
          have hds : ∀ d ∈ [87, 88, 89, 90, 91, 92, 93, 94, 95, 96, 97, 98, 99, 100, 101, 102, 103, 104, 105, 106, 107, 108, 109, 110, 111], d < 157 := by decide
          generalize ha : Act.mk _ _ = a0
          have hsz : a0.tmps.size = 157 := by rw [← ha]; rfl
          have k6 : a0.tmps.getD 6 undef = .slice (some ⟨bb, off, none⟩) n c1 := by rw [← ha]; rfl
          have k7 : a0.tmps.getD 7 undef = .slice A2 n c2 := by rw [← ha]; rfl
          have k10 : a0.tmps.getD 10 undef = .pointer (some ⟨gs, 0, none⟩) := by rw [← ha]; rfl
          have k11 : a0.tmps.getD 11 undef = .int .i64 ((k : Nat) : Int) := by rw [← ha]; rfl
          generalize hp : Plan.mk w5 a0 5 .u8 [⟨0, 87, (.agg #[.slice (some ⟨b, 0, none⟩) s.stk.length c', .int .i64 s.is, .int .i64 s.em, .int .i64 s.nw])⟩, ⟨1, 88, .slice (some ⟨bb, off, none⟩) n c1⟩, ⟨2, 89, .int .i64 ((k : Nat) : Int)⟩, ⟨3, 90, .pointer (some ⟨bb, off + k, none⟩)⟩, ⟨4, 91, .int .u8 20⟩, ⟨5, 92, .bool true⟩, ⟨6, 93, .bool true⟩, ⟨7, 94, undef⟩, ⟨8, 95, undef⟩, ⟨9, 96, undef⟩, ⟨10, 97, undef⟩, ⟨11, 98, undef⟩, ⟨12, 99, undef⟩, ⟨13, 100, undef⟩, ⟨14, 101, undef⟩, ⟨15, 102, undef⟩, ⟨16, 103, undef⟩, ⟨17, 104, undef⟩, ⟨18, 105, undef⟩, ⟨19, 106, undef⟩, ⟨20, 107, undef⟩, ⟨21, 108, undef⟩, ⟨22, 109, undef⟩, ⟨23, 110, undef⟩, ⟨24, 111, .bool true⟩] [] [] ⟨none, 0, 0, []⟩ ⟨none, 0, 0, []⟩ = p
          have hD : p.dsts = [87, 88, 89, 90, 91, 92, 93, 94, 95, 96, 97, 98, 99, 100, 101, 102, 103, 104, 105, 106, 107, 108, 109, 110, 111] := by subst hp; rfl
          have hN : p.idxs = [0, 1, 2, 3, 4, 5, 6, 7, 8, 9, 10, 11, 12, 13, 14, 15, 16, 17, 18, 19, 20, 21, 22, 23, 24] := by subst hp; rfl
          have hpa : p.a0 = a0 := by subst hp; rfl
          have hpw : p.w0 = w5 := by subst hp; rfl
          have ok : p.OK := ⟨by rw [hD]; decide, by rw [hN]; decide, fun d hd => by rw [hpa, hsz]; rw [hD] at hd; exact hds d hd⟩
          refine wp_region_call (by kernel_rfl) 25 (by simp) (fun L a' w' => p.Inv w5.heap.size L a' w') (fun a' w' => ∃ (vs : Nat → Value) (v6 : Value), a' = ([87, 88, 89, 90, 91, 92, 93, 94, 95, 96, 97, 98, 99, 100, 101, 102, 103, 104, 105, 106, 107, 108, 109, 110, 111].foldl (fun b d => b.put (some d) (vs d)) a0).put (some 112) v6 ∧ RS w' v6 (openS s true) ∧ Below w5.heap.size w5 w') ?_ ?_ ?_ ?_ (by kernel_rfl) ?_ ?_
          · as_aux_lemma =>
            subst hp
            refine ⟨(show Below w5.heap.size w5 _ from (Below.refl _ _).drew), Nat.le_refl _, rfl, rfl, fun _ _ => rfl, fun f _ h => ?_, 0, 0, ⟨none, 0, 0, []⟩, ⟨none, 0, 0, []⟩, ⟨fun s c h => by simp at h, .inl ⟨rfl, rfl⟩⟩, ⟨fun s c h => by simp at h, .inl ⟨rfl, rfl⟩⟩, Own.none_ _ _ _ _, Own.none_ _ _ _ _, .inl rfl⟩
            exact absurd ((rep_false _ _).symm.trans h) (by decide)
          · intro L a' w' i op hi hs hI ho hl hdep
            have e6 : a'.tmps.getD 6 undef = .slice (some ⟨bb, off, none⟩) n c1 := by rw [hI.keep 6 (by rw [hD]; decide), hpa]; exact k6
            have e7 : a'.tmps.getD 7 undef = .slice A2 n c2 := by rw [hI.keep 7 (by rw [hD]; decide), hpa]; exact k7
            have e10 : a'.tmps.getD 10 undef = .pointer (some ⟨gs, 0, none⟩) := by rw [hI.keep 10 (by rw [hD]; decide), hpa]; exact k10
            have e11 : a'.tmps.getD 11 undef = .int .i64 ((k : Nat) : Int) := by rw [hI.keep 11 (by rw [hD]; decide), hpa]; exact k11
            have hw : Below w5.heap.size w5 w' := by have := hI.bel; rw [hpw] at this; exact this
            have hxm := xm3.out.below hw
            rcases (show i = 0 ∨ i = 1 ∨ i = 2 ∨ i = 3 ∨ i = 4 ∨ i = 5 ∨ i = 6 ∨ i = 7 ∨ i = 8 ∨ i = 9 ∨ i = 10 ∨ i = 11 ∨ i = 12 ∨ i = 13 ∨ i = 14 ∨ i = 15 ∨ i = 16 ∨ i = 17 ∨ i = 18 ∨ i = 19 ∨ i = 20 ∨ i = 21 ∨ i = 22 ∨ i = 23 ∨ i = 24 by omega) with rfl | rfl | rfl | rfl | rfl | rfl | rfl | rfl | rfl | rfl | rfl | rfl | rfl | rfl | rfl | rfl | rfl | rfl | rfl | rfl | rfl | rfl | rfl | rfl | rfl
            all_goals (have ho2 := ho; simp only [List.getElem?_toArray, List.getElem?_cons_succ, List.getElem?_cons_zero, Option.some.injEq] at ho2; subst ho2)
            · as_aux_lemma =>
              refine wpOp_of ho rfl ?_
              refine hI.fx ok ⟨0, 87, (.agg #[.slice (some ⟨b, 0, none⟩) s.stk.length c', .int .i64 s.is, .int .i64 s.em, .int .i64 s.nw])⟩ (by subst hp; simp) hl rfl ?_
              obtain ⟨p0, p1, p2, p3, p4⟩ := f72 hxm.sb.box
              simp only [execOp, Act.eval, e10]; go_simp
            · as_aux_lemma =>
              refine wpOp_of ho rfl ?_
              refine hI.fx ok ⟨1, 88, .slice (some ⟨bb, off, none⟩) n c1⟩ (by subst hp; simp) hl rfl ?_
              simp only [execOp, Act.eval, e6]; rfl
            · as_aux_lemma =>
              refine wpOp_of ho rfl ?_
              refine hI.fx ok ⟨2, 89, .int .i64 ((k : Nat) : Int)⟩ (by subst hp; simp) hl rfl ?_
              simp only [execOp, Act.eval, e11]; rfl
            · as_aux_lemma =>
              refine wpOp_of ho rfl ?_
              have e88 := hI.fix ⟨1, 88, .slice (some ⟨bb, off, none⟩) n c1⟩ (by subst hp; simp) (hdep ⟨1, .data⟩ (by simp) rfl); simp only at e88
              have e89 := hI.fix ⟨2, 89, .int .i64 ((k : Nat) : Int)⟩ (by subst hp; simp) (hdep ⟨2, .data⟩ (by simp) rfl); simp only at e89
              refine hI.fx ok ⟨3, 90, .pointer (some ⟨bb, off + k, none⟩)⟩ (by subst hp; simp) hl rfl ?_
              simp only [execOp, Act.eval, e88, e89]; go_simp
            · as_aux_lemma =>
              refine wpOp_of ho rfl ?_
              have e90 := hI.fix ⟨3, 90, .pointer (some ⟨bb, off + k, none⟩)⟩ (by subst hp; simp) (hdep ⟨3, .data⟩ (by simp) rfl); simp only at e90
              refine hI.fx ok ⟨4, 91, .int .u8 20⟩ (by subst hp; simp) hl rfl ?_
              have gcw := rd_cell (hC2.out.below hxm.bel) hz.out
              simp only [execOp, Act.eval, e90]; go_simp
            · as_aux_lemma =>
              refine wpOp_of ho rfl ?_
              have e91 := hI.fix ⟨4, 91, .int .u8 20⟩ (by subst hp; simp) (hdep ⟨4, .data⟩ (by simp) rfl); simp only at e91
              refine hI.fx ok ⟨5, 92, .bool true⟩ (by subst hp; simp) hl rfl ?_
              simp only [execOp, Act.eval, e91]; rfl
            · as_aux_lemma =>
              refine wpOp_of ho rfl ?_
              have e92 := hI.fix ⟨5, 92, .bool true⟩ (by subst hp; simp) (hdep ⟨5, .data⟩ (by simp) rfl); simp only at e92
              refine hI.fx ok ⟨6, 93, .bool true⟩ (by subst hp; simp) hl rfl ?_
              simp only [execOp, Act.eval, e92]; rfl
            · as_aux_lemma =>
              have e93 := hI.fix ⟨6, 93, .bool true⟩ (by subst hp; simp) (hdep ⟨6, .guard⟩ (by simp) rfl); simp only at e93
              refine wpOp_no ho rfl (yields_of (d := 93) rfl rfl e93) (by decide) ?_
              exact hI.no ok ⟨7, 94, undef⟩ (by subst hp; simp) hl rfl
            · as_aux_lemma =>
              have e93 := hI.fix ⟨6, 93, .bool true⟩ (by subst hp; simp) (hdep ⟨6, .guard⟩ (by simp) rfl); simp only at e93
              refine wpOp_no ho rfl (yields_of (d := 93) rfl rfl e93) (by decide) ?_
              exact hI.no ok ⟨8, 95, undef⟩ (by subst hp; simp) hl rfl
            · as_aux_lemma =>
              have e93 := hI.fix ⟨6, 93, .bool true⟩ (by subst hp; simp) (hdep ⟨6, .guard⟩ (by simp) rfl); simp only at e93
              refine wpOp_no ho rfl (yields_of (d := 93) rfl rfl e93) (by decide) ?_
              exact hI.no ok ⟨9, 96, undef⟩ (by subst hp; simp) hl rfl
            · as_aux_lemma =>
              have e93 := hI.fix ⟨6, 93, .bool true⟩ (by subst hp; simp) (hdep ⟨6, .guard⟩ (by simp) rfl); simp only at e93
              refine wpOp_no ho rfl (yields_of (d := 93) rfl rfl e93) (by decide) ?_
              exact hI.no ok ⟨10, 97, undef⟩ (by subst hp; simp) hl rfl
            · as_aux_lemma =>
              have e93 := hI.fix ⟨6, 93, .bool true⟩ (by subst hp; simp) (hdep ⟨6, .guard⟩ (by simp) rfl); simp only at e93
              refine wpOp_no ho rfl (yields_of (d := 93) rfl rfl e93) (by decide) ?_
              exact hI.no ok ⟨11, 98, undef⟩ (by subst hp; simp) hl rfl
            · as_aux_lemma =>
              have e93 := hI.fix ⟨6, 93, .bool true⟩ (by subst hp; simp) (hdep ⟨6, .guard⟩ (by simp) rfl); simp only at e93
              refine wpOp_no ho rfl (yields_of (d := 93) rfl rfl e93) (by decide) ?_
              exact hI.no ok ⟨12, 99, undef⟩ (by subst hp; simp) hl rfl
            · as_aux_lemma =>
              have e99 := hI.fix ⟨12, 99, undef⟩ (by subst hp; simp) (hdep ⟨12, .guard⟩ (by simp) rfl); simp only at e99
              refine wpOp_not ho rfl (yields_undef (d := 99) rfl rfl e99) ?_
              exact hI.no ok ⟨13, 100, undef⟩ (by subst hp; simp) hl rfl
            · as_aux_lemma =>
              have e99 := hI.fix ⟨12, 99, undef⟩ (by subst hp; simp) (hdep ⟨12, .guard⟩ (by simp) rfl); simp only at e99
              refine wpOp_not ho rfl (yields_undef (d := 99) rfl rfl e99) ?_
              exact hI.no ok ⟨14, 101, undef⟩ (by subst hp; simp) hl rfl
            · as_aux_lemma =>
              have e99 := hI.fix ⟨12, 99, undef⟩ (by subst hp; simp) (hdep ⟨12, .guard⟩ (by simp) rfl); simp only at e99
              refine wpOp_not ho rfl (yields_undef (d := 99) rfl rfl e99) ?_
              exact hI.no ok ⟨15, 102, undef⟩ (by subst hp; simp) hl rfl
            · as_aux_lemma =>
              have e99 := hI.fix ⟨12, 99, undef⟩ (by subst hp; simp) (hdep ⟨12, .guard⟩ (by simp) rfl); simp only at e99
              refine wpOp_not ho rfl (yields_undef (d := 99) rfl rfl e99) ?_
              exact hI.no ok ⟨16, 103, undef⟩ (by subst hp; simp) hl rfl
            · as_aux_lemma =>
              have e99 := hI.fix ⟨12, 99, undef⟩ (by subst hp; simp) (hdep ⟨12, .guard⟩ (by simp) rfl); simp only at e99
              refine wpOp_not ho rfl (yields_undef (d := 99) rfl rfl e99) ?_
              exact hI.no ok ⟨17, 104, undef⟩ (by subst hp; simp) hl rfl
            · as_aux_lemma =>
              have e99 := hI.fix ⟨12, 99, undef⟩ (by subst hp; simp) (hdep ⟨12, .guard⟩ (by simp) rfl); simp only at e99
              refine wpOp_not ho rfl (yields_undef (d := 99) rfl rfl e99) ?_
              exact hI.no ok ⟨18, 105, undef⟩ (by subst hp; simp) hl rfl
            · as_aux_lemma =>
              have e99 := hI.fix ⟨12, 99, undef⟩ (by subst hp; simp) (hdep ⟨12, .guard⟩ (by simp) rfl); simp only at e99
              refine wpOp_not ho rfl (yields_undef (d := 99) rfl rfl e99) ?_
              exact hI.no ok ⟨19, 106, undef⟩ (by subst hp; simp) hl rfl
            · as_aux_lemma =>
              have e99 := hI.fix ⟨12, 99, undef⟩ (by subst hp; simp) (hdep ⟨12, .guard⟩ (by simp) rfl); simp only at e99
              refine wpOp_not ho rfl (yields_undef (d := 99) rfl rfl e99) ?_
              exact hI.no ok ⟨20, 107, undef⟩ (by subst hp; simp) hl rfl
            · as_aux_lemma =>
              have e99 := hI.fix ⟨12, 99, undef⟩ (by subst hp; simp) (hdep ⟨12, .guard⟩ (by simp) rfl); simp only at e99
              refine wpOp_not ho rfl (yields_undef (d := 99) rfl rfl e99) ?_
              exact hI.no ok ⟨21, 108, undef⟩ (by subst hp; simp) hl rfl
            · as_aux_lemma =>
              have e99 := hI.fix ⟨12, 99, undef⟩ (by subst hp; simp) (hdep ⟨12, .guard⟩ (by simp) rfl); simp only at e99
              refine wpOp_not ho rfl (yields_undef (d := 99) rfl rfl e99) ?_
              exact hI.no ok ⟨22, 109, undef⟩ (by subst hp; simp) hl rfl
            · as_aux_lemma =>
              have e93 := hI.fix ⟨6, 93, .bool true⟩ (by subst hp; simp) (hdep ⟨6, .guard⟩ (by simp) rfl); simp only at e93
              refine wpOp_no ho rfl (yields_of (d := 93) rfl rfl e93) (by decide) ?_
              exact hI.no ok ⟨23, 110, undef⟩ (by subst hp; simp) hl rfl
            · as_aux_lemma =>
              refine wpOp_of ho rfl ?_
              have e93 := hI.fix ⟨6, 93, .bool true⟩ (by subst hp; simp) (hdep ⟨6, .data⟩ (by simp) rfl); simp only at e93
              have e110 := hI.fix ⟨23, 110, undef⟩ (by subst hp; simp) (hdep ⟨23, .data⟩ (by simp) rfl); simp only at e110
              refine hI.fx ok ⟨24, 111, .bool true⟩ (by subst hp; simp) hl rfl ?_
              simp only [execOp, Act.eval, e93, e110]; rfl
          · intro L a' w' hI hall
            as_aux_lemma =>
              have hw : Below w5.heap.size w5 w' := by have := hI.bel; rw [hpw] at this; exact this
              have hxm := xm3.out.below hw
              have e87 := hI.fix ⟨0, 87, (.agg #[.slice (some ⟨b, 0, none⟩) s.stk.length c', .int .i64 s.is, .int .i64 s.em, .int .i64 s.nw])⟩ (by subst hp; simp) (hall 0 (by decide)); simp only at e87
              have e111 := hI.fix ⟨24, 111, .bool true⟩ (by subst hp; simp) (hall 24 (by decide)); simp only at e111
              unfold wpOp; simp only [List.getElem?_toArray, List.getElem?_cons_succ, List.getElem?_cons_zero, Region.wanted, if_true]
              refine .inl ?_
              refine wp_enter (f := 42) (args := #[(.agg #[.slice (some ⟨b, 0, none⟩) s.stk.length c', .int .i64 s.is, .int .i64 s.em, .int .i64 s.nw]), .bool true]) ?_ ?_
              · simp only [execOp]; go_simp
              refine (refopened_any true hxm.sb.rs hF.out (by omega)).mono ?_
              rintro en w6 ⟨v6, rfl, hR6, hb6⟩
              refine ⟨v6, rfl, fun d => a'.tmps.getD d undef, v6, ?_, hR6, hw.trans (hb6.mono hw.size)⟩
              have hae := act_puts (a := a') (a0 := p.a0) (ds := p.dsts) hI.size hI.dfr hI.keep
              rw [hD, hpa] at hae
              exact congrArg (fun q : Act => q.put (some 112) v6) hae
          · rintro a' w6 ⟨vs, v6, hae, hR6, hb6⟩
            clear hD hN ok hp hpa hpw hds k6 k7 k11
            rw [hs5] at hR6
            obtain ⟨b5, c5, hv5, _, _, _⟩ := id hR6
            have hRR : RS w6 (.agg #[.slice (some ⟨b5, 0, none⟩) s5.stk.length c5, .int .i64 s5.is, .int .i64 s5.em, .int .i64 s5.nw]) s5 := hv5 ▸ hR6
            have xm6 := hide (xm3.out.below hb6)
            have hbx := hide xm6.out.sb.box
            have xm7 := hide (xm6.out.store hRR)
            have e10 : a'.tmps.getD 10 undef = .pointer (some ⟨gs, 0, none⟩) := by
              rw [hae]; simp only [List.foldl_cons, List.foldl_nil]
              repeat rw [getD_put_ne (by decide)]
              exact k10
            have e112 : a'.tmps.getD 112 undef = v6 := by
              rw [hae]; refine getD_put_eq ?_
              simp only [List.foldl_cons, List.foldl_nil, size_put]; rw [hsz]; decide
            refine wpOp_of (o := { dst := none, op := .store 72 (.tmp 10) (.tmp 112), type := 0, pos := "ref.go:192", after := _, guard := none }) rfl rfl ?_
            refine wp_store_row 72 (.tmp 10) (.tmp 112) rfl gs #[.slice (some ⟨b5, 0, none⟩) s5.stk.length c5, .int .i64 s5.is, .int .i64 s5.em, .int .i64 s5.nw] e10 (e112.trans hv5) 72 _ hbx.out (by kernel_rfl) rfl (by simp [Value.oneCell']) ?_
            generalize w6.setRow gs #[.slice (some ⟨b5, 0, none⟩) s5.stk.length c5, .int .i64 s5.is, .int .i64 s5.em, .int .i64 s5.nw] = w7 at *
            clear hb6 hR6 hRR xm6 hbx hv5 e10 e112 xm3 p0 p1 p2 p3 p4 gc
            simp only [Act.put]
            rw [hae]
            clear hae
            simp only [List.foldl_cons, List.foldl_nil]
            generalize vs 87 = v87
            generalize vs 88 = v88
            generalize vs 89 = v89
            generalize vs 90 = v90
            generalize vs 91 = v91
            generalize vs 92 = v92
            generalize vs 93 = v93
            generalize vs 94 = v94
            generalize vs 95 = v95
            generalize vs 96 = v96
            generalize vs 97 = v97
            generalize vs 98 = v98
            generalize vs 99 = v99
            generalize vs 100 = v100
            generalize vs 101 = v101
            generalize vs 102 = v102
            generalize vs 103 = v103
            generalize vs 104 = v104
            generalize vs 105 = v105
            generalize vs 106 = v106
            generalize vs 107 = v107
            generalize vs 108 = v108
            generalize vs 109 = v109
            generalize vs 110 = v110
            generalize vs 111 = v111
            subst ha
            simp only [Act.put, List.setIfInBounds_toArray, List.set_cons_zero, List.set_cons_succ]
            obtain ⟨p0, p1, p2, p3, p4⟩ := f72 xm7.out.sb.box
            have gc7 := rd_cell (hC2.out.below xm7.out.bel) hz.out
            go_wp2_with (first
              | (at_builtin; refine wpList_app elt8 rfl (.tmp 147) (.tmp 149) rfl rfl rfl (xm7.out.L.alloc _) (own_one _ _ _ _ _ _ rfl (Nat.le_refl _)).rd (by omega) (by have := xm7.out.bel.size; simp; omega) ?_; intro A3 c3 w8 hL3 hgr3 hat3; have xa := hide (xm7.out.app hL3 hgr3 hat3); clear hL3 hgr3 hat3)
              | (at_builtin; refine wpList_app elt8 rfl (.tmp 151) (.tmp 153) rfl rfl rfl (xa.out.O.alloc _) (own_one _ _ _ _ _ _ rfl (Nat.le_refl _)).rd (by omega) (by have := xa.out.bel.size; simp; omega) ?_; intro A4 c4 w9 hO3 hgr4 hat4; have xr := hide (xa.out.app hz.out (hse.out ▸ hst.out) hO3 hgr4 hat4); clear hO3 hgr4 hat4))
            go_roundw
            case rel => exact ⟨k + 1, A3, A4, c3, c4, _, _, by omega, by go_num, rfl, rfl, xr.out⟩
            case measure => simp [intOf]; omega
          · exact fun o ho => by
              have ho2 := ho; simp only [List.getElem?_toArray, List.getElem?_cons_succ, List.getElem?_cons_zero, Option.some.injEq] at ho2; subst ho2
              exact ⟨⟨25, .data⟩, by simp, rfl, rfl⟩
          · intro i op ho
            as_aux_lemma =>
              have hi : i < 27 := by
                rcases Nat.lt_or_ge i 27 with h | h
                · exact h
                · rw [Array.getElem?_eq_none (by simpa using h)] at ho; cases ho
              rcases (show i = 0 ∨ i = 1 ∨ i = 2 ∨ i = 3 ∨ i = 4 ∨ i = 5 ∨ i = 6 ∨ i = 7 ∨ i = 8 ∨ i = 9 ∨ i = 10 ∨ i = 11 ∨ i = 12 ∨ i = 13 ∨ i = 14 ∨ i = 15 ∨ i = 16 ∨ i = 17 ∨ i = 18 ∨ i = 19 ∨ i = 20 ∨ i = 21 ∨ i = 22 ∨ i = 23 ∨ i = 24 ∨ i = 25 ∨ i = 26 by omega) with rfl | rfl | rfl | rfl | rfl | rfl | rfl | rfl | rfl | rfl | rfl | rfl | rfl | rfl | rfl | rfl | rfl | rfl | rfl | rfl | rfl | rfl | rfl | rfl | rfl | rfl | rfl
              all_goals (simp only [List.getElem?_toArray, List.getElem?_cons_succ, List.getElem?_cons_zero, Option.some.injEq] at ho; subst ho; simp)
      · skip
        rcases hovc with ⟨o1, hov⟩ | ⟨o1, hov⟩
        · as_aux_lemma =>
          have hst := hide (show stepS (fsiAt cl k) s 21 = (openS s (fsiAt cl k), s.top.lv, (mapE s.top).ov) by rw [step_open _ _ (show opS 21 = true from rfl), hov.out]; simp)
          go_wp2_with fail
          refine wp_region_below (by kernel_rfl) (by kernel_rfl) ?_
          repeat (go_big_quiet_step ((go_at_call 38; exact Calls.below_of (hT.out _))))
          refine wpQuiet_nil ?_
          rintro _ ⟨y, rfl⟩
          have xm1 := hide (hM.out.below y.below)
          obtain ⟨p0, p1, p2, p3, p4⟩ := f72 xm1.out.sb.box
          have hT1 := hide (xm1.out.top hF.out (by omega))
          clear hT g0 g1 g2 g3 gc
          go_wp2_with fail
          refine hT1.out.mono ?_
          rintro en w4 ⟨rfl, hb4⟩
          have xm2 := hide (xm1.out.below hb4)
          clear p0 p1 p2 p3 p4 hT1 hb4
          obtain ⟨p0, p1, p2, p3, p4⟩ := f72 xm2.out.sb.box
          have hT2 := hide (xm2.out.top hF.out (by omega))
          go_wp2_with fail
          refine hT2.out.mono ?_
          rintro en w5 ⟨rfl, hb5⟩
          have xm3 := hide (xm2.out.below hb5)
          clear p0 p1 p2 p3 p4 hT2 hb5 xm2
          have gc := rd_cell (hC2.out.below xm3.out.bel) hz.out
          obtain ⟨p0, p1, p2, p3, p4⟩ := f72 xm3.out.sb.box
          go_wp2_with fail
          refine (op41 21 _).mono ?_
          rintro en w5' ⟨rfl, rfl⟩
          rw [show opS 21 = true from rfl]
          obtain ⟨mi, hmi1, hmi2, hmi3⟩ := open_match hz.out (show opS 21 = true from rfl)
          have hmr := hM2.out.below xm3.out.bel
          obtain ⟨bm, offm, mk, rfl, _, hzm, hcm⟩ := hmr.at_ hkn
          obtain rfl : mk = (mi : Int) := by
            have := hzm.out
            rw [hmi1] at this
            injection this with this
            exact this.symm
          have hln2 := hcl.out
          have hway := hide (fun W (hb : Below w2.heap.size w2 W) => way_any (some ⟨bb, off, none⟩) (some ⟨bm, offm, none⟩) n c1 c2 (k + 1) mi cl W (hC2.out.below hb) (hM2.out.below hb) (by omega) (by omega) (by omega) (way_ctx hz.out hmi1 hcl.out))
          have hwv := wayV_one (strongS 0 ((cl.take mi).drop (k + 1))) (strong_tell _ 0)
          have hfs : fsiAt cl k = (strongS 0 ((cl.take mi).drop (k + 1))).1 := by unfold fsiAt; rw [getD_of hmi1, Int.toNat_natCast]
          rw [← hfs] at hwv
          have e1 : IntKind.i64.wrap ((k : Int) + 1) = (k : Int) + 1 := IntWalk.i64_in _ (by omega)
          have he1 := hide e1
          have hm1h := hide hmi1
          clear hfs hmr hzm hcm hln2 e1 hmi1 hmi3
          generalize wayV (strongS 0 ((cl.take mi).drop (k + 1))) = wv at *
          obtain ⟨s5, hs5q⟩ : ∃ s5, openS s (fsiAt cl k) = s5 := ⟨_, rfl⟩
          rw [hs5q] at hst
          obtain ⟨fsi, hfq⟩ : ∃ fsi, fsiAt cl k = fsi := ⟨_, rfl⟩
          rw [hfq] at hwv hs5q
          clear hfq
          have hs5h := hide hs5q
          clear hs5q
          have hwvh := hide hwv
          clear hwv
          go_wp2_with fail
          have hs5 := hs5h.out
          have hwv := hwvh.out
          clear hs5h hwvh
          have hds : ∀ d ∈ [87, 88, 89, 90, 91, 92, 93, 94, 95, 96, 97, 98, 99, 100, 101, 102, 103, 104, 105, 106, 107, 108, 109, 110, 111], d < 157 := by decide
          generalize ha : Act.mk _ _ = a0
          have hsz : a0.tmps.size = 157 := by rw [← ha]; rfl
          have k6 : a0.tmps.getD 6 undef = .slice (some ⟨bb, off, none⟩) n c1 := by rw [← ha]; rfl
          have k7 : a0.tmps.getD 7 undef = .slice (some ⟨bm, offm, none⟩) n c2 := by rw [← ha]; rfl
          have k10 : a0.tmps.getD 10 undef = .pointer (some ⟨gs, 0, none⟩) := by rw [← ha]; rfl
          have k11 : a0.tmps.getD 11 undef = .int .i64 ((k : Nat) : Int) := by rw [← ha]; rfl
          generalize hp : Plan.mk w5 a0 5 .u8 [⟨0, 87, (.agg #[.slice (some ⟨b, 0, none⟩) s.stk.length c', .int .i64 s.is, .int .i64 s.em, .int .i64 s.nw])⟩, ⟨1, 88, .slice (some ⟨bb, off, none⟩) n c1⟩, ⟨2, 89, .int .i64 ((k : Nat) : Int)⟩, ⟨3, 90, .pointer (some ⟨bb, off + k, none⟩)⟩, ⟨4, 91, .int .u8 21⟩, ⟨5, 92, .bool false⟩, ⟨6, 93, .bool false⟩, ⟨7, 94, .slice (some ⟨bb, off, none⟩) n c1⟩, ⟨8, 95, .int .i64 ((k : Nat) : Int)⟩, ⟨9, 96, .pointer (some ⟨bb, off + k, none⟩)⟩, ⟨10, 97, .int .u8 21⟩, ⟨11, 98, .bool true⟩, ⟨12, 99, .bool true⟩, ⟨13, 100, .slice (some ⟨bb, off, none⟩) n c1⟩, ⟨14, 101, .slice (some ⟨bm, offm, none⟩) n c2⟩, ⟨15, 102, .int .i64 ((k : Nat) : Int)⟩, ⟨16, 103, .int .i64 ((k : Int) + 1)⟩, ⟨17, 104, .slice (some ⟨bm, offm, none⟩) n c2⟩, ⟨18, 105, .int .i64 ((k : Nat) : Int)⟩, ⟨19, 106, .pointer (some ⟨bm, offm + k, none⟩)⟩, ⟨20, 107, .int .i64 (mi : Int)⟩, ⟨21, 108, .int .i64 wv⟩, ⟨22, 109, .bool fsi⟩, ⟨23, 110, .bool fsi⟩, ⟨24, 111, .bool fsi⟩] [] [] ⟨none, 0, 0, []⟩ ⟨none, 0, 0, []⟩ = p
          have hD : p.dsts = [87, 88, 89, 90, 91, 92, 93, 94, 95, 96, 97, 98, 99, 100, 101, 102, 103, 104, 105, 106, 107, 108, 109, 110, 111] := by subst hp; rfl
          have hN : p.idxs = [0, 1, 2, 3, 4, 5, 6, 7, 8, 9, 10, 11, 12, 13, 14, 15, 16, 17, 18, 19, 20, 21, 22, 23, 24] := by subst hp; rfl
          have hpa : p.a0 = a0 := by subst hp; rfl
          have hpw : p.w0 = w5 := by subst hp; rfl
          have ok : p.OK := ⟨by rw [hD]; decide, by rw [hN]; decide, fun d hd => by rw [hpa, hsz]; rw [hD] at hd; exact hds d hd⟩
          refine wp_region_call (by kernel_rfl) 25 (by simp) (fun L a' w' => p.Inv w5.heap.size L a' w') (fun a' w' => ∃ (vs : Nat → Value) (v6 : Value), a' = ([87, 88, 89, 90, 91, 92, 93, 94, 95, 96, 97, 98, 99, 100, 101, 102, 103, 104, 105, 106, 107, 108, 109, 110, 111].foldl (fun b d => b.put (some d) (vs d)) a0).put (some 112) v6 ∧ RS w' v6 (openS s fsi) ∧ Below w5.heap.size w5 w') ?_ ?_ ?_ ?_ (by kernel_rfl) ?_ ?_
          · as_aux_lemma =>
            subst hp
            refine ⟨(show Below w5.heap.size w5 _ from (Below.refl _ _).drew), Nat.le_refl _, rfl, rfl, fun _ _ => rfl, fun f _ h => ?_, 0, 0, ⟨none, 0, 0, []⟩, ⟨none, 0, 0, []⟩, ⟨fun s c h => by simp at h, .inl ⟨rfl, rfl⟩⟩, ⟨fun s c h => by simp at h, .inl ⟨rfl, rfl⟩⟩, Own.none_ _ _ _ _, Own.none_ _ _ _ _, .inl rfl⟩
            exact absurd ((rep_false _ _).symm.trans h) (by decide)
          · intro L a' w' i op hi hs hI ho hl hdep
            have e6 : a'.tmps.getD 6 undef = .slice (some ⟨bb, off, none⟩) n c1 := by rw [hI.keep 6 (by rw [hD]; decide), hpa]; exact k6
            have e7 : a'.tmps.getD 7 undef = .slice (some ⟨bm, offm, none⟩) n c2 := by rw [hI.keep 7 (by rw [hD]; decide), hpa]; exact k7
            have e10 : a'.tmps.getD 10 undef = .pointer (some ⟨gs, 0, none⟩) := by rw [hI.keep 10 (by rw [hD]; decide), hpa]; exact k10
            have e11 : a'.tmps.getD 11 undef = .int .i64 ((k : Nat) : Int) := by rw [hI.keep 11 (by rw [hD]; decide), hpa]; exact k11
            have hw : Below w5.heap.size w5 w' := by have := hI.bel; rw [hpw] at this; exact this
            have hxm := xm3.out.below hw
            rcases (show i = 0 ∨ i = 1 ∨ i = 2 ∨ i = 3 ∨ i = 4 ∨ i = 5 ∨ i = 6 ∨ i = 7 ∨ i = 8 ∨ i = 9 ∨ i = 10 ∨ i = 11 ∨ i = 12 ∨ i = 13 ∨ i = 14 ∨ i = 15 ∨ i = 16 ∨ i = 17 ∨ i = 18 ∨ i = 19 ∨ i = 20 ∨ i = 21 ∨ i = 22 ∨ i = 23 ∨ i = 24 by omega) with rfl | rfl | rfl | rfl | rfl | rfl | rfl | rfl | rfl | rfl | rfl | rfl | rfl | rfl | rfl | rfl | rfl | rfl | rfl | rfl | rfl | rfl | rfl | rfl | rfl
            all_goals (have ho2 := ho; simp only [List.getElem?_toArray, List.getElem?_cons_succ, List.getElem?_cons_zero, Option.some.injEq] at ho2; subst ho2)
            · as_aux_lemma =>
              refine wpOp_of ho rfl ?_
              refine hI.fx ok ⟨0, 87, (.agg #[.slice (some ⟨b, 0, none⟩) s.stk.length c', .int .i64 s.is, .int .i64 s.em, .int .i64 s.nw])⟩ (by subst hp; simp) hl rfl ?_
              obtain ⟨p0, p1, p2, p3, p4⟩ := f72 hxm.sb.box
              simp only [execOp, Act.eval, e10]; go_simp
            · as_aux_lemma =>
              refine wpOp_of ho rfl ?_
              refine hI.fx ok ⟨1, 88, .slice (some ⟨bb, off, none⟩) n c1⟩ (by subst hp; simp) hl rfl ?_
              simp only [execOp, Act.eval, e6]; rfl
            · as_aux_lemma =>
              refine wpOp_of ho rfl ?_
              refine hI.fx ok ⟨2, 89, .int .i64 ((k : Nat) : Int)⟩ (by subst hp; simp) hl rfl ?_
              simp only [execOp, Act.eval, e11]; rfl
            · as_aux_lemma =>
              refine wpOp_of ho rfl ?_
              have e88 := hI.fix ⟨1, 88, .slice (some ⟨bb, off, none⟩) n c1⟩ (by subst hp; simp) (hdep ⟨1, .data⟩ (by simp) rfl); simp only at e88
              have e89 := hI.fix ⟨2, 89, .int .i64 ((k : Nat) : Int)⟩ (by subst hp; simp) (hdep ⟨2, .data⟩ (by simp) rfl); simp only at e89
              refine hI.fx ok ⟨3, 90, .pointer (some ⟨bb, off + k, none⟩)⟩ (by subst hp; simp) hl rfl ?_
              simp only [execOp, Act.eval, e88, e89]; go_simp
            · as_aux_lemma =>
              refine wpOp_of ho rfl ?_
              have e90 := hI.fix ⟨3, 90, .pointer (some ⟨bb, off + k, none⟩)⟩ (by subst hp; simp) (hdep ⟨3, .data⟩ (by simp) rfl); simp only at e90
              refine hI.fx ok ⟨4, 91, .int .u8 21⟩ (by subst hp; simp) hl rfl ?_
              have gcw := rd_cell (hC2.out.below hxm.bel) hz.out
              simp only [execOp, Act.eval, e90]; go_simp
            · as_aux_lemma =>
              refine wpOp_of ho rfl ?_
              have e91 := hI.fix ⟨4, 91, .int .u8 21⟩ (by subst hp; simp) (hdep ⟨4, .data⟩ (by simp) rfl); simp only at e91
              refine hI.fx ok ⟨5, 92, .bool false⟩ (by subst hp; simp) hl rfl ?_
              simp only [execOp, Act.eval, e91]; rfl
            · as_aux_lemma =>
              refine wpOp_of ho rfl ?_
              have e92 := hI.fix ⟨5, 92, .bool false⟩ (by subst hp; simp) (hdep ⟨5, .data⟩ (by simp) rfl); simp only at e92
              refine hI.fx ok ⟨6, 93, .bool false⟩ (by subst hp; simp) hl rfl ?_
              simp only [execOp, Act.eval, e92]; rfl
            · as_aux_lemma =>
              have e93 := hI.fix ⟨6, 93, .bool false⟩ (by subst hp; simp) (hdep ⟨6, .guard⟩ (by simp) rfl); simp only at e93
              refine wpOp_yes ho rfl (yields_of (d := 93) rfl rfl e93) ?_
              refine hI.fx ok ⟨7, 94, .slice (some ⟨bb, off, none⟩) n c1⟩ (by subst hp; simp) hl rfl ?_
              simp only [execOp, Act.eval, e6]; rfl
            · as_aux_lemma =>
              have e93 := hI.fix ⟨6, 93, .bool false⟩ (by subst hp; simp) (hdep ⟨6, .guard⟩ (by simp) rfl); simp only at e93
              refine wpOp_yes ho rfl (yields_of (d := 93) rfl rfl e93) ?_
              refine hI.fx ok ⟨8, 95, .int .i64 ((k : Nat) : Int)⟩ (by subst hp; simp) hl rfl ?_
              simp only [execOp, Act.eval, e11]; rfl
            · as_aux_lemma =>
              have e93 := hI.fix ⟨6, 93, .bool false⟩ (by subst hp; simp) (hdep ⟨6, .guard⟩ (by simp) rfl); simp only at e93
              refine wpOp_yes ho rfl (yields_of (d := 93) rfl rfl e93) ?_
              have e94 := hI.fix ⟨7, 94, .slice (some ⟨bb, off, none⟩) n c1⟩ (by subst hp; simp) (hdep ⟨7, .data⟩ (by simp) rfl); simp only at e94
              have e95 := hI.fix ⟨8, 95, .int .i64 ((k : Nat) : Int)⟩ (by subst hp; simp) (hdep ⟨8, .data⟩ (by simp) rfl); simp only at e95
              refine hI.fx ok ⟨9, 96, .pointer (some ⟨bb, off + k, none⟩)⟩ (by subst hp; simp) hl rfl ?_
              simp only [execOp, Act.eval, e94, e95]; go_simp
            · as_aux_lemma =>
              have e93 := hI.fix ⟨6, 93, .bool false⟩ (by subst hp; simp) (hdep ⟨6, .guard⟩ (by simp) rfl); simp only at e93
              refine wpOp_yes ho rfl (yields_of (d := 93) rfl rfl e93) ?_
              have e96 := hI.fix ⟨9, 96, .pointer (some ⟨bb, off + k, none⟩)⟩ (by subst hp; simp) (hdep ⟨9, .data⟩ (by simp) rfl); simp only at e96
              refine hI.fx ok ⟨10, 97, .int .u8 21⟩ (by subst hp; simp) hl rfl ?_
              have gcw := rd_cell (hC2.out.below hxm.bel) hz.out
              simp only [execOp, Act.eval, e96]; go_simp
            · as_aux_lemma =>
              have e93 := hI.fix ⟨6, 93, .bool false⟩ (by subst hp; simp) (hdep ⟨6, .guard⟩ (by simp) rfl); simp only at e93
              refine wpOp_yes ho rfl (yields_of (d := 93) rfl rfl e93) ?_
              have e97 := hI.fix ⟨10, 97, .int .u8 21⟩ (by subst hp; simp) (hdep ⟨10, .data⟩ (by simp) rfl); simp only at e97
              refine hI.fx ok ⟨11, 98, .bool true⟩ (by subst hp; simp) hl rfl ?_
              simp only [execOp, Act.eval, e97]; rfl
            · as_aux_lemma =>
              have e93 := hI.fix ⟨6, 93, .bool false⟩ (by subst hp; simp) (hdep ⟨6, .guard⟩ (by simp) rfl); simp only at e93
              refine wpOp_yes ho rfl (yields_of (d := 93) rfl rfl e93) ?_
              have e98 := hI.fix ⟨11, 98, .bool true⟩ (by subst hp; simp) (hdep ⟨11, .data⟩ (by simp) rfl); simp only at e98
              refine hI.fx ok ⟨12, 99, .bool true⟩ (by subst hp; simp) hl rfl ?_
              simp only [execOp, Act.eval, e98]; rfl
            · as_aux_lemma =>
              have e99 := hI.fix ⟨12, 99, .bool true⟩ (by subst hp; simp) (hdep ⟨12, .guard⟩ (by simp) rfl); simp only at e99
              refine wpOp_yes ho rfl (yields_of (d := 99) rfl rfl e99) ?_
              refine hI.fx ok ⟨13, 100, .slice (some ⟨bb, off, none⟩) n c1⟩ (by subst hp; simp) hl rfl ?_
              simp only [execOp, Act.eval, e6]; rfl
            · as_aux_lemma =>
              have e99 := hI.fix ⟨12, 99, .bool true⟩ (by subst hp; simp) (hdep ⟨12, .guard⟩ (by simp) rfl); simp only at e99
              refine wpOp_yes ho rfl (yields_of (d := 99) rfl rfl e99) ?_
              refine hI.fx ok ⟨14, 101, .slice (some ⟨bm, offm, none⟩) n c2⟩ (by subst hp; simp) hl rfl ?_
              simp only [execOp, Act.eval, e7]; rfl
            · as_aux_lemma =>
              have e99 := hI.fix ⟨12, 99, .bool true⟩ (by subst hp; simp) (hdep ⟨12, .guard⟩ (by simp) rfl); simp only at e99
              refine wpOp_yes ho rfl (yields_of (d := 99) rfl rfl e99) ?_
              refine hI.fx ok ⟨15, 102, .int .i64 ((k : Nat) : Int)⟩ (by subst hp; simp) hl rfl ?_
              simp only [execOp, Act.eval, e11]; rfl
            · as_aux_lemma =>
              have e99 := hI.fix ⟨12, 99, .bool true⟩ (by subst hp; simp) (hdep ⟨12, .guard⟩ (by simp) rfl); simp only at e99
              refine wpOp_yes ho rfl (yields_of (d := 99) rfl rfl e99) ?_
              have e102 := hI.fix ⟨15, 102, .int .i64 ((k : Nat) : Int)⟩ (by subst hp; simp) (hdep ⟨15, .data⟩ (by simp) rfl); simp only at e102
              refine hI.fx ok ⟨16, 103, .int .i64 ((k : Int) + 1)⟩ (by subst hp; simp) hl rfl ?_
              have e1 := he1.out
              simp only [execOp, Act.eval, e102]; go_simp
            · as_aux_lemma =>
              have e99 := hI.fix ⟨12, 99, .bool true⟩ (by subst hp; simp) (hdep ⟨12, .guard⟩ (by simp) rfl); simp only at e99
              refine wpOp_yes ho rfl (yields_of (d := 99) rfl rfl e99) ?_
              refine hI.fx ok ⟨17, 104, .slice (some ⟨bm, offm, none⟩) n c2⟩ (by subst hp; simp) hl rfl ?_
              simp only [execOp, Act.eval, e7]; rfl
            · as_aux_lemma =>
              have e99 := hI.fix ⟨12, 99, .bool true⟩ (by subst hp; simp) (hdep ⟨12, .guard⟩ (by simp) rfl); simp only at e99
              refine wpOp_yes ho rfl (yields_of (d := 99) rfl rfl e99) ?_
              refine hI.fx ok ⟨18, 105, .int .i64 ((k : Nat) : Int)⟩ (by subst hp; simp) hl rfl ?_
              simp only [execOp, Act.eval, e11]; rfl
            · as_aux_lemma =>
              have e99 := hI.fix ⟨12, 99, .bool true⟩ (by subst hp; simp) (hdep ⟨12, .guard⟩ (by simp) rfl); simp only at e99
              refine wpOp_yes ho rfl (yields_of (d := 99) rfl rfl e99) ?_
              have e104 := hI.fix ⟨17, 104, .slice (some ⟨bm, offm, none⟩) n c2⟩ (by subst hp; simp) (hdep ⟨17, .data⟩ (by simp) rfl); simp only at e104
              have e105 := hI.fix ⟨18, 105, .int .i64 ((k : Nat) : Int)⟩ (by subst hp; simp) (hdep ⟨18, .data⟩ (by simp) rfl); simp only at e105
              refine hI.fx ok ⟨19, 106, .pointer (some ⟨bm, offm + k, none⟩)⟩ (by subst hp; simp) hl rfl ?_
              simp only [execOp, Act.eval, e104, e105]; go_simp
            · as_aux_lemma =>
              have e99 := hI.fix ⟨12, 99, .bool true⟩ (by subst hp; simp) (hdep ⟨12, .guard⟩ (by simp) rfl); simp only at e99
              refine wpOp_yes ho rfl (yields_of (d := 99) rfl rfl e99) ?_
              have e106 := hI.fix ⟨19, 106, .pointer (some ⟨bm, offm + k, none⟩)⟩ (by subst hp; simp) (hdep ⟨19, .data⟩ (by simp) rfl); simp only at e106
              refine hI.fx ok ⟨20, 107, .int .i64 (mi : Int)⟩ (by subst hp; simp) hl rfl ?_
              have gcw := rd_cell (hM2.out.below hxm.bel) hm1h.out
              simp only [execOp, Act.eval, e106]; go_simp
            · as_aux_lemma =>
              have e99 := hI.fix ⟨12, 99, .bool true⟩ (by subst hp; simp) (hdep ⟨12, .guard⟩ (by simp) rfl); simp only at e99
              refine wpOp_yes ho rfl (yields_of (d := 99) rfl rfl e99) ?_
              have e100 := hI.fix ⟨13, 100, .slice (some ⟨bb, off, none⟩) n c1⟩ (by subst hp; simp) (hdep ⟨13, .data⟩ (by simp) rfl); simp only at e100
              have e101 := hI.fix ⟨14, 101, .slice (some ⟨bm, offm, none⟩) n c2⟩ (by subst hp; simp) (hdep ⟨14, .data⟩ (by simp) rfl); simp only at e101
              have e103 := hI.fix ⟨16, 103, .int .i64 ((k : Int) + 1)⟩ (by subst hp; simp) (hdep ⟨16, .data⟩ (by simp) rfl); simp only at e103
              have e107 := hI.fix ⟨20, 107, .int .i64 (mi : Int)⟩ (by subst hp; simp) (hdep ⟨20, .data⟩ (by simp) rfl); simp only at e107
              refine wp_enter (f := 43) (args := #[.slice (some ⟨bb, off, none⟩) n c1, .slice (some ⟨bm, offm, none⟩) n c2, .int .i64 ((k : Int) + 1), .int .i64 (mi : Int)]) ?_ ?_
              · simp only [execOp]; go_simp
              refine (hway.out w' hxm.bel).mono ?_
              rintro en w7 ⟨rfl, rfl⟩
              exact ⟨_, rfl, hI.fixed ok.1 ok.2.1 ok.2.2 (f := ⟨21, 108, .int .i64 wv⟩) (by subst hp; simp) hl⟩
            · as_aux_lemma =>
              have e99 := hI.fix ⟨12, 99, .bool true⟩ (by subst hp; simp) (hdep ⟨12, .guard⟩ (by simp) rfl); simp only at e99
              refine wpOp_yes ho rfl (yields_of (d := 99) rfl rfl e99) ?_
              have e108 := hI.fix ⟨21, 108, .int .i64 wv⟩ (by subst hp; simp) (hdep ⟨21, .data⟩ (by simp) rfl); simp only at e108
              refine hI.fx ok ⟨22, 109, .bool fsi⟩ (by subst hp; simp) hl rfl ?_
              simp only [execOp, Act.eval, e108]; go_simp
            · as_aux_lemma =>
              have e93 := hI.fix ⟨6, 93, .bool false⟩ (by subst hp; simp) (hdep ⟨6, .guard⟩ (by simp) rfl); simp only at e93
              refine wpOp_yes ho rfl (yields_of (d := 93) rfl rfl e93) ?_
              have e99 := hI.fix ⟨12, 99, .bool true⟩ (by subst hp; simp) (hdep ⟨12, .data⟩ (by simp) rfl); simp only at e99
              have e109 := hI.fix ⟨22, 109, .bool fsi⟩ (by subst hp; simp) (hdep ⟨22, .data⟩ (by simp) rfl); simp only at e109
              refine hI.fx ok ⟨23, 110, .bool fsi⟩ (by subst hp; simp) hl rfl ?_
              simp only [execOp, Act.eval, e99, e109]; rfl
            · as_aux_lemma =>
              refine wpOp_of ho rfl ?_
              have e93 := hI.fix ⟨6, 93, .bool false⟩ (by subst hp; simp) (hdep ⟨6, .data⟩ (by simp) rfl); simp only at e93
              have e110 := hI.fix ⟨23, 110, .bool fsi⟩ (by subst hp; simp) (hdep ⟨23, .data⟩ (by simp) rfl); simp only at e110
              refine hI.fx ok ⟨24, 111, .bool fsi⟩ (by subst hp; simp) hl rfl ?_
              simp only [execOp, Act.eval, e93, e110]; rfl
          · intro L a' w' hI hall
            as_aux_lemma =>
              have hw : Below w5.heap.size w5 w' := by have := hI.bel; rw [hpw] at this; exact this
              have hxm := xm3.out.below hw
              have e87 := hI.fix ⟨0, 87, (.agg #[.slice (some ⟨b, 0, none⟩) s.stk.length c', .int .i64 s.is, .int .i64 s.em, .int .i64 s.nw])⟩ (by subst hp; simp) (hall 0 (by decide)); simp only at e87
              have e111 := hI.fix ⟨24, 111, .bool fsi⟩ (by subst hp; simp) (hall 24 (by decide)); simp only at e111
              unfold wpOp; simp only [List.getElem?_toArray, List.getElem?_cons_succ, List.getElem?_cons_zero, Region.wanted, if_true]
              refine .inl ?_
              refine wp_enter (f := 42) (args := #[(.agg #[.slice (some ⟨b, 0, none⟩) s.stk.length c', .int .i64 s.is, .int .i64 s.em, .int .i64 s.nw]), .bool fsi]) ?_ ?_
              · simp only [execOp]; go_simp
              refine (refopened_any fsi hxm.sb.rs hF.out (by omega)).mono ?_
              rintro en w6 ⟨v6, rfl, hR6, hb6⟩
              refine ⟨v6, rfl, fun d => a'.tmps.getD d undef, v6, ?_, hR6, hw.trans (hb6.mono hw.size)⟩
              have hae := act_puts (a := a') (a0 := p.a0) (ds := p.dsts) hI.size hI.dfr hI.keep
              rw [hD, hpa] at hae
              exact congrArg (fun q : Act => q.put (some 112) v6) hae
          · rintro a' w6 ⟨vs, v6, hae, hR6, hb6⟩
            clear hD hN ok hp hpa hpw hds k6 k7 k11
            rw [hs5] at hR6
            obtain ⟨b5, c5, hv5, _, _, _⟩ := id hR6
            have hRR : RS w6 (.agg #[.slice (some ⟨b5, 0, none⟩) s5.stk.length c5, .int .i64 s5.is, .int .i64 s5.em, .int .i64 s5.nw]) s5 := hv5 ▸ hR6
            have xm6 := hide (xm3.out.below hb6)
            have hbx := hide xm6.out.sb.box
            have xm7 := hide (xm6.out.store hRR)
            have e10 : a'.tmps.getD 10 undef = .pointer (some ⟨gs, 0, none⟩) := by
              rw [hae]; simp only [List.foldl_cons, List.foldl_nil]
              repeat rw [getD_put_ne (by decide)]
              exact k10
            have e112 : a'.tmps.getD 112 undef = v6 := by
              rw [hae]; refine getD_put_eq ?_
              simp only [List.foldl_cons, List.foldl_nil, size_put]; rw [hsz]; decide
            refine wpOp_of (o := { dst := none, op := .store 72 (.tmp 10) (.tmp 112), type := 0, pos := "ref.go:192", after := _, guard := none }) rfl rfl ?_
            refine wp_store_row 72 (.tmp 10) (.tmp 112) rfl gs #[.slice (some ⟨b5, 0, none⟩) s5.stk.length c5, .int .i64 s5.is, .int .i64 s5.em, .int .i64 s5.nw] e10 (e112.trans hv5) 72 _ hbx.out (by kernel_rfl) rfl (by simp [Value.oneCell']) ?_
            generalize w6.setRow gs #[.slice (some ⟨b5, 0, none⟩) s5.stk.length c5, .int .i64 s5.is, .int .i64 s5.em, .int .i64 s5.nw] = w7 at *
            clear hb6 hR6 hRR xm6 hbx hv5 e10 e112 xm3 p0 p1 p2 p3 p4 gc
            simp only [Act.put]
            rw [hae]
            clear hae
            simp only [List.foldl_cons, List.foldl_nil]
            generalize vs 87 = v87
            generalize vs 88 = v88
            generalize vs 89 = v89
            generalize vs 90 = v90
            generalize vs 91 = v91
            generalize vs 92 = v92
            generalize vs 93 = v93
            generalize vs 94 = v94
            generalize vs 95 = v95
            generalize vs 96 = v96
            generalize vs 97 = v97
            generalize vs 98 = v98
            generalize vs 99 = v99
            generalize vs 100 = v100
            generalize vs 101 = v101
            generalize vs 102 = v102
            generalize vs 103 = v103
            generalize vs 104 = v104
            generalize vs 105 = v105
            generalize vs 106 = v106
            generalize vs 107 = v107
            generalize vs 108 = v108
            generalize vs 109 = v109
            generalize vs 110 = v110
            generalize vs 111 = v111
            subst ha
            simp only [Act.put, List.setIfInBounds_toArray, List.set_cons_zero, List.set_cons_succ]
            obtain ⟨p0, p1, p2, p3, p4⟩ := f72 xm7.out.sb.box
            have gc7 := rd_cell (hC2.out.below xm7.out.bel) hz.out
            go_wp2_with (first
              | (at_builtin; refine wpList_app elt8 rfl (.tmp 147) (.tmp 149) rfl rfl rfl (xm7.out.L.alloc _) (own_one _ _ _ _ _ _ rfl (Nat.le_refl _)).rd (by omega) (by have := xm7.out.bel.size; simp; omega) ?_; intro A3 c3 w8 hL3 hgr3 hat3; have xa := hide (xm7.out.app hL3 hgr3 hat3); clear hL3 hgr3 hat3)
              | (at_builtin; refine wpList_app elt8 rfl (.tmp 151) (.tmp 153) rfl rfl rfl (xa.out.O.alloc _) (own_one _ _ _ _ _ _ rfl (Nat.le_refl _)).rd (by omega) (by have := xa.out.bel.size; simp; omega) ?_; intro A4 c4 w9 hO3 hgr4 hat4; have xr := hide (xa.out.app hz.out (hse.out ▸ hst.out) hO3 hgr4 hat4); clear hO3 hgr4 hat4))
            go_roundw
            case rel => exact ⟨k + 1, A3, A4, c3, c4, _, _, by omega, by go_num, rfl, rfl, xr.out⟩
            case measure => simp [intOf]; omega
          · exact fun o ho => by
              have ho2 := ho; simp only [List.getElem?_toArray, List.getElem?_cons_succ, List.getElem?_cons_zero, Option.some.injEq] at ho2; subst ho2
              exact ⟨⟨25, .data⟩, by simp, rfl, rfl⟩
          · intro i op ho
            as_aux_lemma =>
              have hi : i < 27 := by
                rcases Nat.lt_or_ge i 27 with h | h
                · exact h
                · rw [Array.getElem?_eq_none (by simpa using h)] at ho; cases ho
              rcases (show i = 0 ∨ i = 1 ∨ i = 2 ∨ i = 3 ∨ i = 4 ∨ i = 5 ∨ i = 6 ∨ i = 7 ∨ i = 8 ∨ i = 9 ∨ i = 10 ∨ i = 11 ∨ i = 12 ∨ i = 13 ∨ i = 14 ∨ i = 15 ∨ i = 16 ∨ i = 17 ∨ i = 18 ∨ i = 19 ∨ i = 20 ∨ i = 21 ∨ i = 22 ∨ i = 23 ∨ i = 24 ∨ i = 25 ∨ i = 26 by omega) with rfl | rfl | rfl | rfl | rfl | rfl | rfl | rfl | rfl | rfl | rfl | rfl | rfl | rfl | rfl | rfl | rfl | rfl | rfl | rfl | rfl | rfl | rfl | rfl | rfl | rfl | rfl
              all_goals (simp only [List.getElem?_toArray, List.getElem?_cons_succ, List.getElem?_cons_zero, Option.some.injEq] at ho; subst ho; simp)
        · as_aux_lemma =>
          have hst := hide (show stepS (fsiAt cl k) s 21 = (openS s (fsiAt cl k), s.top.lv, 21) by rw [step_open _ _ (show opS 21 = true from rfl), hov.out]; simp)
          go_wp2_with fail
          refine wp_region_below (by kernel_rfl) (by kernel_rfl) ?_
          repeat (go_big_quiet_step ((go_at_call 38; exact Calls.below_of (hT.out _))))
          refine wpQuiet_nil ?_
          rintro _ ⟨y, rfl⟩
          have xm1 := hide (hM.out.below y.below)
          obtain ⟨p0, p1, p2, p3, p4⟩ := f72 xm1.out.sb.box
          have hT1 := hide (xm1.out.top hF.out (by omega))
          clear hT g0 g1 g2 g3 gc
          go_wp2_with fail
          refine hT1.out.mono ?_
          rintro en w4 ⟨rfl, hb4⟩
          have xm2 := hide (xm1.out.below hb4)
          clear p0 p1 p2 p3 p4 hT1 hb4
          have xm3 := xm2
          obtain ⟨w5, rfl⟩ : ∃ w5 : World, w5 = w4 := ⟨_, rfl⟩
          clear xm2
          have gc := rd_cell (hC2.out.below xm3.out.bel) hz.out
          obtain ⟨p0, p1, p2, p3, p4⟩ := f72 xm3.out.sb.box
          go_wp2_with fail
          refine (op41 21 _).mono ?_
          rintro en w5' ⟨rfl, rfl⟩
          rw [show opS 21 = true from rfl]
          obtain ⟨mi, hmi1, hmi2, hmi3⟩ := open_match hz.out (show opS 21 = true from rfl)
          have hmr := hM2.out.below xm3.out.bel
          obtain ⟨bm, offm, mk, rfl, _, hzm, hcm⟩ := hmr.at_ hkn
          obtain rfl : mk = (mi : Int) := by
            have := hzm.out
            rw [hmi1] at this
            injection this with this
            exact this.symm
          have hln2 := hcl.out
          have hway := hide (fun W (hb : Below w2.heap.size w2 W) => way_any (some ⟨bb, off, none⟩) (some ⟨bm, offm, none⟩) n c1 c2 (k + 1) mi cl W (hC2.out.below hb) (hM2.out.below hb) (by omega) (by omega) (by omega) (way_ctx hz.out hmi1 hcl.out))
          have hwv := wayV_one (strongS 0 ((cl.take mi).drop (k + 1))) (strong_tell _ 0)
          have hfs : fsiAt cl k = (strongS 0 ((cl.take mi).drop (k + 1))).1 := by unfold fsiAt; rw [getD_of hmi1, Int.toNat_natCast]
          rw [← hfs] at hwv
          have e1 : IntKind.i64.wrap ((k : Int) + 1) = (k : Int) + 1 := IntWalk.i64_in _ (by omega)
          have he1 := hide e1
          have hm1h := hide hmi1
          clear hfs hmr hzm hcm hln2 e1 hmi1 hmi3
          generalize wayV (strongS 0 ((cl.take mi).drop (k + 1))) = wv at *
          obtain ⟨s5, hs5q⟩ : ∃ s5, openS s (fsiAt cl k) = s5 := ⟨_, rfl⟩
          rw [hs5q] at hst
          obtain ⟨fsi, hfq⟩ : ∃ fsi, fsiAt cl k = fsi := ⟨_, rfl⟩
          rw [hfq] at hwv hs5q
          clear hfq
          have hs5h := hide hs5q
          clear hs5q
          have hwvh := hide hwv
          clear hwv
          go_wp2_with fail
          have hs5 := hs5h.out
          have hwv := hwvh.out
          clear hs5h hwvh
          have hds : ∀ d ∈ [87, 88, 89, 90, 91, 92, 93, 94, 95, 96, 97, 98, 99, 100, 101, 102, 103, 104, 105, 106, 107, 108, 109, 110, 111], d < 157 := by decide
          generalize ha : Act.mk _ _ = a0
          have hsz : a0.tmps.size = 157 := by rw [← ha]; rfl
          have k6 : a0.tmps.getD 6 undef = .slice (some ⟨bb, off, none⟩) n c1 := by rw [← ha]; rfl
          have k7 : a0.tmps.getD 7 undef = .slice (some ⟨bm, offm, none⟩) n c2 := by rw [← ha]; rfl
          have k10 : a0.tmps.getD 10 undef = .pointer (some ⟨gs, 0, none⟩) := by rw [← ha]; rfl
          have k11 : a0.tmps.getD 11 undef = .int .i64 ((k : Nat) : Int) := by rw [← ha]; rfl
          generalize hp : Plan.mk w5 a0 5 .u8 [⟨0, 87, (.agg #[.slice (some ⟨b, 0, none⟩) s.stk.length c', .int .i64 s.is, .int .i64 s.em, .int .i64 s.nw])⟩, ⟨1, 88, .slice (some ⟨bb, off, none⟩) n c1⟩, ⟨2, 89, .int .i64 ((k : Nat) : Int)⟩, ⟨3, 90, .pointer (some ⟨bb, off + k, none⟩)⟩, ⟨4, 91, .int .u8 21⟩, ⟨5, 92, .bool false⟩, ⟨6, 93, .bool false⟩, ⟨7, 94, .slice (some ⟨bb, off, none⟩) n c1⟩, ⟨8, 95, .int .i64 ((k : Nat) : Int)⟩, ⟨9, 96, .pointer (some ⟨bb, off + k, none⟩)⟩, ⟨10, 97, .int .u8 21⟩, ⟨11, 98, .bool true⟩, ⟨12, 99, .bool true⟩, ⟨13, 100, .slice (some ⟨bb, off, none⟩) n c1⟩, ⟨14, 101, .slice (some ⟨bm, offm, none⟩) n c2⟩, ⟨15, 102, .int .i64 ((k : Nat) : Int)⟩, ⟨16, 103, .int .i64 ((k : Int) + 1)⟩, ⟨17, 104, .slice (some ⟨bm, offm, none⟩) n c2⟩, ⟨18, 105, .int .i64 ((k : Nat) : Int)⟩, ⟨19, 106, .pointer (some ⟨bm, offm + k, none⟩)⟩, ⟨20, 107, .int .i64 (mi : Int)⟩, ⟨21, 108, .int .i64 wv⟩, ⟨22, 109, .bool fsi⟩, ⟨23, 110, .bool fsi⟩, ⟨24, 111, .bool fsi⟩] [] [] ⟨none, 0, 0, []⟩ ⟨none, 0, 0, []⟩ = p
          have hD : p.dsts = [87, 88, 89, 90, 91, 92, 93, 94, 95, 96, 97, 98, 99, 100, 101, 102, 103, 104, 105, 106, 107, 108, 109, 110, 111] := by subst hp; rfl
          have hN : p.idxs = [0, 1, 2, 3, 4, 5, 6, 7, 8, 9, 10, 11, 12, 13, 14, 15, 16, 17, 18, 19, 20, 21, 22, 23, 24] := by subst hp; rfl
          have hpa : p.a0 = a0 := by subst hp; rfl
          have hpw : p.w0 = w5 := by subst hp; rfl
          have ok : p.OK := ⟨by rw [hD]; decide, by rw [hN]; decide, fun d hd => by rw [hpa, hsz]; rw [hD] at hd; exact hds d hd⟩
          refine wp_region_call (by kernel_rfl) 25 (by simp) (fun L a' w' => p.Inv w5.heap.size L a' w') (fun a' w' => ∃ (vs : Nat → Value) (v6 : Value), a' = ([87, 88, 89, 90, 91, 92, 93, 94, 95, 96, 97, 98, 99, 100, 101, 102, 103, 104, 105, 106, 107, 108, 109, 110, 111].foldl (fun b d => b.put (some d) (vs d)) a0).put (some 112) v6 ∧ RS w' v6 (openS s fsi) ∧ Below w5.heap.size w5 w') ?_ ?_ ?_ ?_ (by kernel_rfl) ?_ ?_
          · as_aux_lemma =>
            subst hp
            refine ⟨(show Below w5.heap.size w5 _ from (Below.refl _ _).drew), Nat.le_refl _, rfl, rfl, fun _ _ => rfl, fun f _ h => ?_, 0, 0, ⟨none, 0, 0, []⟩, ⟨none, 0, 0, []⟩, ⟨fun s c h => by simp at h, .inl ⟨rfl, rfl⟩⟩, ⟨fun s c h => by simp at h, .inl ⟨rfl, rfl⟩⟩, Own.none_ _ _ _ _, Own.none_ _ _ _ _, .inl rfl⟩
            exact absurd ((rep_false _ _).symm.trans h) (by decide)
          · intro L a' w' i op hi hs hI ho hl hdep
            have e6 : a'.tmps.getD 6 undef = .slice (some ⟨bb, off, none⟩) n c1 := by rw [hI.keep 6 (by rw [hD]; decide), hpa]; exact k6
            have e7 : a'.tmps.getD 7 undef = .slice (some ⟨bm, offm, none⟩) n c2 := by rw [hI.keep 7 (by rw [hD]; decide), hpa]; exact k7
            have e10 : a'.tmps.getD 10 undef = .pointer (some ⟨gs, 0, none⟩) := by rw [hI.keep 10 (by rw [hD]; decide), hpa]; exact k10
            have e11 : a'.tmps.getD 11 undef = .int .i64 ((k : Nat) : Int) := by rw [hI.keep 11 (by rw [hD]; decide), hpa]; exact k11
            have hw : Below w5.heap.size w5 w' := by have := hI.bel; rw [hpw] at this; exact this
            have hxm := xm3.out.below hw
            rcases (show i = 0 ∨ i = 1 ∨ i = 2 ∨ i = 3 ∨ i = 4 ∨ i = 5 ∨ i = 6 ∨ i = 7 ∨ i = 8 ∨ i = 9 ∨ i = 10 ∨ i = 11 ∨ i = 12 ∨ i = 13 ∨ i = 14 ∨ i = 15 ∨ i = 16 ∨ i = 17 ∨ i = 18 ∨ i = 19 ∨ i = 20 ∨ i = 21 ∨ i = 22 ∨ i = 23 ∨ i = 24 by omega) with rfl | rfl | rfl | rfl | rfl | rfl | rfl | rfl | rfl | rfl | rfl | rfl | rfl | rfl | rfl | rfl | rfl | rfl | rfl | rfl | rfl | rfl | rfl | rfl | rfl
            all_goals (have ho2 := ho; simp only [List.getElem?_toArray, List.getElem?_cons_succ, List.getElem?_cons_zero, Option.some.injEq] at ho2; subst ho2)
            · as_aux_lemma =>
              refine wpOp_of ho rfl ?_
              refine hI.fx ok ⟨0, 87, (.agg #[.slice (some ⟨b, 0, none⟩) s.stk.length c', .int .i64 s.is, .int .i64 s.em, .int .i64 s.nw])⟩ (by subst hp; simp) hl rfl ?_
              obtain ⟨p0, p1, p2, p3, p4⟩ := f72 hxm.sb.box
              simp only [execOp, Act.eval, e10]; go_simp
            · as_aux_lemma =>
              refine wpOp_of ho rfl ?_
              refine hI.fx ok ⟨1, 88, .slice (some ⟨bb, off, none⟩) n c1⟩ (by subst hp; simp) hl rfl ?_
              simp only [execOp, Act.eval, e6]; rfl
            · as_aux_lemma =>
              refine wpOp_of ho rfl ?_
              refine hI.fx ok ⟨2, 89, .int .i64 ((k : Nat) : Int)⟩ (by subst hp; simp) hl rfl ?_
              simp only [execOp, Act.eval, e11]; rfl
            · as_aux_lemma =>
              refine wpOp_of ho rfl ?_
              have e88 := hI.fix ⟨1, 88, .slice (some ⟨bb, off, none⟩) n c1⟩ (by subst hp; simp) (hdep ⟨1, .data⟩ (by simp) rfl); simp only at e88
              have e89 := hI.fix ⟨2, 89, .int .i64 ((k : Nat) : Int)⟩ (by subst hp; simp) (hdep ⟨2, .data⟩ (by simp) rfl); simp only at e89
              refine hI.fx ok ⟨3, 90, .pointer (some ⟨bb, off + k, none⟩)⟩ (by subst hp; simp) hl rfl ?_
              simp only [execOp, Act.eval, e88, e89]; go_simp
            · as_aux_lemma =>
              refine wpOp_of ho rfl ?_
              have e90 := hI.fix ⟨3, 90, .pointer (some ⟨bb, off + k, none⟩)⟩ (by subst hp; simp) (hdep ⟨3, .data⟩ (by simp) rfl); simp only at e90
              refine hI.fx ok ⟨4, 91, .int .u8 21⟩ (by subst hp; simp) hl rfl ?_
              have gcw := rd_cell (hC2.out.below hxm.bel) hz.out
              simp only [execOp, Act.eval, e90]; go_simp
            · as_aux_lemma =>
              refine wpOp_of ho rfl ?_
              have e91 := hI.fix ⟨4, 91, .int .u8 21⟩ (by subst hp; simp) (hdep ⟨4, .data⟩ (by simp) rfl); simp only at e91
              refine hI.fx ok ⟨5, 92, .bool false⟩ (by subst hp; simp) hl rfl ?_
              simp only [execOp, Act.eval, e91]; rfl
            · as_aux_lemma =>
              refine wpOp_of ho rfl ?_
              have e92 := hI.fix ⟨5, 92, .bool false⟩ (by subst hp; simp) (hdep ⟨5, .data⟩ (by simp) rfl); simp only at e92
              refine hI.fx ok ⟨6, 93, .bool false⟩ (by subst hp; simp) hl rfl ?_
              simp only [execOp, Act.eval, e92]; rfl
            · as_aux_lemma =>
              have e93 := hI.fix ⟨6, 93, .bool false⟩ (by subst hp; simp) (hdep ⟨6, .guard⟩ (by simp) rfl); simp only at e93
              refine wpOp_yes ho rfl (yields_of (d := 93) rfl rfl e93) ?_
              refine hI.fx ok ⟨7, 94, .slice (some ⟨bb, off, none⟩) n c1⟩ (by subst hp; simp) hl rfl ?_
              simp only [execOp, Act.eval, e6]; rfl
            · as_aux_lemma =>
              have e93 := hI.fix ⟨6, 93, .bool false⟩ (by subst hp; simp) (hdep ⟨6, .guard⟩ (by simp) rfl); simp only at e93
              refine wpOp_yes ho rfl (yields_of (d := 93) rfl rfl e93) ?_
              refine hI.fx ok ⟨8, 95, .int .i64 ((k : Nat) : Int)⟩ (by subst hp; simp) hl rfl ?_
              simp only [execOp, Act.eval, e11]; rfl
            · as_aux_lemma =>
              have e93 := hI.fix ⟨6, 93, .bool false⟩ (by subst hp; simp) (hdep ⟨6, .guard⟩ (by simp) rfl); simp only at e93
              refine wpOp_yes ho rfl (yields_of (d := 93) rfl rfl e93) ?_
              have e94 := hI.fix ⟨7, 94, .slice (some ⟨bb, off, none⟩) n c1⟩ (by subst hp; simp) (hdep ⟨7, .data⟩ (by simp) rfl); simp only at e94
              have e95 := hI.fix ⟨8, 95, .int .i64 ((k : Nat) : Int)⟩ (by subst hp; simp) (hdep ⟨8, .data⟩ (by simp) rfl); simp only at e95
              refine hI.fx ok ⟨9, 96, .pointer (some ⟨bb, off + k, none⟩)⟩ (by subst hp; simp) hl rfl ?_
              simp only [execOp, Act.eval, e94, e95]; go_simp
            · as_aux_lemma =>
              have e93 := hI.fix ⟨6, 93, .bool false⟩ (by subst hp; simp) (hdep ⟨6, .guard⟩ (by simp) rfl); simp only at e93
              refine wpOp_yes ho rfl (yields_of (d := 93) rfl rfl e93) ?_
              have e96 := hI.fix ⟨9, 96, .pointer (some ⟨bb, off + k, none⟩)⟩ (by subst hp; simp) (hdep ⟨9, .data⟩ (by simp) rfl); simp only at e96
              refine hI.fx ok ⟨10, 97, .int .u8 21⟩ (by subst hp; simp) hl rfl ?_
              have gcw := rd_cell (hC2.out.below hxm.bel) hz.out
              simp only [execOp, Act.eval, e96]; go_simp
            · as_aux_lemma =>
              have e93 := hI.fix ⟨6, 93, .bool false⟩ (by subst hp; simp) (hdep ⟨6, .guard⟩ (by simp) rfl); simp only at e93
              refine wpOp_yes ho rfl (yields_of (d := 93) rfl rfl e93) ?_
              have e97 := hI.fix ⟨10, 97, .int .u8 21⟩ (by subst hp; simp) (hdep ⟨10, .data⟩ (by simp) rfl); simp only at e97
              refine hI.fx ok ⟨11, 98, .bool true⟩ (by subst hp; simp) hl rfl ?_
              simp only [execOp, Act.eval, e97]; rfl
            · as_aux_lemma =>
              have e93 := hI.fix ⟨6, 93, .bool false⟩ (by subst hp; simp) (hdep ⟨6, .guard⟩ (by simp) rfl); simp only at e93
              refine wpOp_yes ho rfl (yields_of (d := 93) rfl rfl e93) ?_
              have e98 := hI.fix ⟨11, 98, .bool true⟩ (by subst hp; simp) (hdep ⟨11, .data⟩ (by simp) rfl); simp only at e98
              refine hI.fx ok ⟨12, 99, .bool true⟩ (by subst hp; simp) hl rfl ?_
              simp only [execOp, Act.eval, e98]; rfl
            · as_aux_lemma =>
              have e99 := hI.fix ⟨12, 99, .bool true⟩ (by subst hp; simp) (hdep ⟨12, .guard⟩ (by simp) rfl); simp only at e99
              refine wpOp_yes ho rfl (yields_of (d := 99) rfl rfl e99) ?_
              refine hI.fx ok ⟨13, 100, .slice (some ⟨bb, off, none⟩) n c1⟩ (by subst hp; simp) hl rfl ?_
              simp only [execOp, Act.eval, e6]; rfl
            · as_aux_lemma =>
              have e99 := hI.fix ⟨12, 99, .bool true⟩ (by subst hp; simp) (hdep ⟨12, .guard⟩ (by simp) rfl); simp only at e99
              refine wpOp_yes ho rfl (yields_of (d := 99) rfl rfl e99) ?_
              refine hI.fx ok ⟨14, 101, .slice (some ⟨bm, offm, none⟩) n c2⟩ (by subst hp; simp) hl rfl ?_
              simp only [execOp, Act.eval, e7]; rfl
            · as_aux_lemma =>
              have e99 := hI.fix ⟨12, 99, .bool true⟩ (by subst hp; simp) (hdep ⟨12, .guard⟩ (by simp) rfl); simp only at e99
              refine wpOp_yes ho rfl (yields_of (d := 99) rfl rfl e99) ?_
              refine hI.fx ok ⟨15, 102, .int .i64 ((k : Nat) : Int)⟩ (by subst hp; simp) hl rfl ?_
              simp only [execOp, Act.eval, e11]; rfl
            · as_aux_lemma =>
              have e99 := hI.fix ⟨12, 99, .bool true⟩ (by subst hp; simp) (hdep ⟨12, .guard⟩ (by simp) rfl); simp only at e99
              refine wpOp_yes ho rfl (yields_of (d := 99) rfl rfl e99) ?_
              have e102 := hI.fix ⟨15, 102, .int .i64 ((k : Nat) : Int)⟩ (by subst hp; simp) (hdep ⟨15, .data⟩ (by simp) rfl); simp only at e102
              refine hI.fx ok ⟨16, 103, .int .i64 ((k : Int) + 1)⟩ (by subst hp; simp) hl rfl ?_
              have e1 := he1.out
              simp only [execOp, Act.eval, e102]; go_simp
            · as_aux_lemma =>
              have e99 := hI.fix ⟨12, 99, .bool true⟩ (by subst hp; simp) (hdep ⟨12, .guard⟩ (by simp) rfl); simp only at e99
              refine wpOp_yes ho rfl (yields_of (d := 99) rfl rfl e99) ?_
              refine hI.fx ok ⟨17, 104, .slice (some ⟨bm, offm, none⟩) n c2⟩ (by subst hp; simp) hl rfl ?_
              simp only [execOp, Act.eval, e7]; rfl
            · as_aux_lemma =>
              have e99 := hI.fix ⟨12, 99, .bool true⟩ (by subst hp; simp) (hdep ⟨12, .guard⟩ (by simp) rfl); simp only at e99
              refine wpOp_yes ho rfl (yields_of (d := 99) rfl rfl e99) ?_
              refine hI.fx ok ⟨18, 105, .int .i64 ((k : Nat) : Int)⟩ (by subst hp; simp) hl rfl ?_
              simp only [execOp, Act.eval, e11]; rfl
            · as_aux_lemma =>
              have e99 := hI.fix ⟨12, 99, .bool true⟩ (by subst hp; simp) (hdep ⟨12, .guard⟩ (by simp) rfl); simp only at e99
              refine wpOp_yes ho rfl (yields_of (d := 99) rfl rfl e99) ?_
              have e104 := hI.fix ⟨17, 104, .slice (some ⟨bm, offm, none⟩) n c2⟩ (by subst hp; simp) (hdep ⟨17, .data⟩ (by simp) rfl); simp only at e104
              have e105 := hI.fix ⟨18, 105, .int .i64 ((k : Nat) : Int)⟩ (by subst hp; simp) (hdep ⟨18, .data⟩ (by simp) rfl); simp only at e105
              refine hI.fx ok ⟨19, 106, .pointer (some ⟨bm, offm + k, none⟩)⟩ (by subst hp; simp) hl rfl ?_
              simp only [execOp, Act.eval, e104, e105]; go_simp
            · as_aux_lemma =>
              have e99 := hI.fix ⟨12, 99, .bool true⟩ (by subst hp; simp) (hdep ⟨12, .guard⟩ (by simp) rfl); simp only at e99
              refine wpOp_yes ho rfl (yields_of (d := 99) rfl rfl e99) ?_
              have e106 := hI.fix ⟨19, 106, .pointer (some ⟨bm, offm + k, none⟩)⟩ (by subst hp; simp) (hdep ⟨19, .data⟩ (by simp) rfl); simp only at e106
              refine hI.fx ok ⟨20, 107, .int .i64 (mi : Int)⟩ (by subst hp; simp) hl rfl ?_
              have gcw := rd_cell (hM2.out.below hxm.bel) hm1h.out
              simp only [execOp, Act.eval, e106]; go_simp
            · as_aux_lemma =>
              have e99 := hI.fix ⟨12, 99, .bool true⟩ (by subst hp; simp) (hdep ⟨12, .guard⟩ (by simp) rfl); simp only at e99
              refine wpOp_yes ho rfl (yields_of (d := 99) rfl rfl e99) ?_
              have e100 := hI.fix ⟨13, 100, .slice (some ⟨bb, off, none⟩) n c1⟩ (by subst hp; simp) (hdep ⟨13, .data⟩ (by simp) rfl); simp only at e100
              have e101 := hI.fix ⟨14, 101, .slice (some ⟨bm, offm, none⟩) n c2⟩ (by subst hp; simp) (hdep ⟨14, .data⟩ (by simp) rfl); simp only at e101
              have e103 := hI.fix ⟨16, 103, .int .i64 ((k : Int) + 1)⟩ (by subst hp; simp) (hdep ⟨16, .data⟩ (by simp) rfl); simp only at e103
              have e107 := hI.fix ⟨20, 107, .int .i64 (mi : Int)⟩ (by subst hp; simp) (hdep ⟨20, .data⟩ (by simp) rfl); simp only at e107
              refine wp_enter (f := 43) (args := #[.slice (some ⟨bb, off, none⟩) n c1, .slice (some ⟨bm, offm, none⟩) n c2, .int .i64 ((k : Int) + 1), .int .i64 (mi : Int)]) ?_ ?_
              · simp only [execOp]; go_simp
              refine (hway.out w' hxm.bel).mono ?_
              rintro en w7 ⟨rfl, rfl⟩
              exact ⟨_, rfl, hI.fixed ok.1 ok.2.1 ok.2.2 (f := ⟨21, 108, .int .i64 wv⟩) (by subst hp; simp) hl⟩
            · as_aux_lemma =>
              have e99 := hI.fix ⟨12, 99, .bool true⟩ (by subst hp; simp) (hdep ⟨12, .guard⟩ (by simp) rfl); simp only at e99
              refine wpOp_yes ho rfl (yields_of (d := 99) rfl rfl e99) ?_
              have e108 := hI.fix ⟨21, 108, .int .i64 wv⟩ (by subst hp; simp) (hdep ⟨21, .data⟩ (by simp) rfl); simp only at e108
              refine hI.fx ok ⟨22, 109, .bool fsi⟩ (by subst hp; simp) hl rfl ?_
              simp only [execOp, Act.eval, e108]; go_simp
            · as_aux_lemma =>
              have e93 := hI.fix ⟨6, 93, .bool false⟩ (by subst hp; simp) (hdep ⟨6, .guard⟩ (by simp) rfl); simp only at e93
              refine wpOp_yes ho rfl (yields_of (d := 93) rfl rfl e93) ?_
              have e99 := hI.fix ⟨12, 99, .bool true⟩ (by subst hp; simp) (hdep ⟨12, .data⟩ (by simp) rfl); simp only at e99
              have e109 := hI.fix ⟨22, 109, .bool fsi⟩ (by subst hp; simp) (hdep ⟨22, .data⟩ (by simp) rfl); simp only at e109
              refine hI.fx ok ⟨23, 110, .bool fsi⟩ (by subst hp; simp) hl rfl ?_
              simp only [execOp, Act.eval, e99, e109]; rfl
            · as_aux_lemma =>
              refine wpOp_of ho rfl ?_
              have e93 := hI.fix ⟨6, 93, .bool false⟩ (by subst hp; simp) (hdep ⟨6, .data⟩ (by simp) rfl); simp only at e93
              have e110 := hI.fix ⟨23, 110, .bool fsi⟩ (by subst hp; simp) (hdep ⟨23, .data⟩ (by simp) rfl); simp only at e110
              refine hI.fx ok ⟨24, 111, .bool fsi⟩ (by subst hp; simp) hl rfl ?_
              simp only [execOp, Act.eval, e93, e110]; rfl
          · intro L a' w' hI hall
            as_aux_lemma =>
              have hw : Below w5.heap.size w5 w' := by have := hI.bel; rw [hpw] at this; exact this
              have hxm := xm3.out.below hw
              have e87 := hI.fix ⟨0, 87, (.agg #[.slice (some ⟨b, 0, none⟩) s.stk.length c', .int .i64 s.is, .int .i64 s.em, .int .i64 s.nw])⟩ (by subst hp; simp) (hall 0 (by decide)); simp only at e87
              have e111 := hI.fix ⟨24, 111, .bool fsi⟩ (by subst hp; simp) (hall 24 (by decide)); simp only at e111
              unfold wpOp; simp only [List.getElem?_toArray, List.getElem?_cons_succ, List.getElem?_cons_zero, Region.wanted, if_true]
              refine .inl ?_
              refine wp_enter (f := 42) (args := #[(.agg #[.slice (some ⟨b, 0, none⟩) s.stk.length c', .int .i64 s.is, .int .i64 s.em, .int .i64 s.nw]), .bool fsi]) ?_ ?_
              · simp only [execOp]; go_simp
              refine (refopened_any fsi hxm.sb.rs hF.out (by omega)).mono ?_
              rintro en w6 ⟨v6, rfl, hR6, hb6⟩
              refine ⟨v6, rfl, fun d => a'.tmps.getD d undef, v6, ?_, hR6, hw.trans (hb6.mono hw.size)⟩
              have hae := act_puts (a := a') (a0 := p.a0) (ds := p.dsts) hI.size hI.dfr hI.keep
              rw [hD, hpa] at hae
              exact congrArg (fun q : Act => q.put (some 112) v6) hae
          · rintro a' w6 ⟨vs, v6, hae, hR6, hb6⟩
            clear hD hN ok hp hpa hpw hds k6 k7 k11
            rw [hs5] at hR6
            obtain ⟨b5, c5, hv5, _, _, _⟩ := id hR6
            have hRR : RS w6 (.agg #[.slice (some ⟨b5, 0, none⟩) s5.stk.length c5, .int .i64 s5.is, .int .i64 s5.em, .int .i64 s5.nw]) s5 := hv5 ▸ hR6
            have xm6 := hide (xm3.out.below hb6)
            have hbx := hide xm6.out.sb.box
            have xm7 := hide (xm6.out.store hRR)
            have e10 : a'.tmps.getD 10 undef = .pointer (some ⟨gs, 0, none⟩) := by
              rw [hae]; simp only [List.foldl_cons, List.foldl_nil]
              repeat rw [getD_put_ne (by decide)]
              exact k10
            have e112 : a'.tmps.getD 112 undef = v6 := by
              rw [hae]; refine getD_put_eq ?_
              simp only [List.foldl_cons, List.foldl_nil, size_put]; rw [hsz]; decide
            refine wpOp_of (o := { dst := none, op := .store 72 (.tmp 10) (.tmp 112), type := 0, pos := "ref.go:192", after := _, guard := none }) rfl rfl ?_
            refine wp_store_row 72 (.tmp 10) (.tmp 112) rfl gs #[.slice (some ⟨b5, 0, none⟩) s5.stk.length c5, .int .i64 s5.is, .int .i64 s5.em, .int .i64 s5.nw] e10 (e112.trans hv5) 72 _ hbx.out (by kernel_rfl) rfl (by simp [Value.oneCell']) ?_
            generalize w6.setRow gs #[.slice (some ⟨b5, 0, none⟩) s5.stk.length c5, .int .i64 s5.is, .int .i64 s5.em, .int .i64 s5.nw] = w7 at *
            clear hb6 hR6 hRR xm6 hbx hv5 e10 e112 xm3 p0 p1 p2 p3 p4 gc
            simp only [Act.put]
            rw [hae]
            clear hae
            simp only [List.foldl_cons, List.foldl_nil]
            generalize vs 87 = v87
            generalize vs 88 = v88
            generalize vs 89 = v89
            generalize vs 90 = v90
            generalize vs 91 = v91
            generalize vs 92 = v92
            generalize vs 93 = v93
            generalize vs 94 = v94
            generalize vs 95 = v95
            generalize vs 96 = v96
            generalize vs 97 = v97
            generalize vs 98 = v98
            generalize vs 99 = v99
            generalize vs 100 = v100
            generalize vs 101 = v101
            generalize vs 102 = v102
            generalize vs 103 = v103
            generalize vs 104 = v104
            generalize vs 105 = v105
            generalize vs 106 = v106
            generalize vs 107 = v107
            generalize vs 108 = v108
            generalize vs 109 = v109
            generalize vs 110 = v110
            generalize vs 111 = v111
            subst ha
            simp only [Act.put, List.setIfInBounds_toArray, List.set_cons_zero, List.set_cons_succ]
            obtain ⟨p0, p1, p2, p3, p4⟩ := f72 xm7.out.sb.box
            have gc7 := rd_cell (hC2.out.below xm7.out.bel) hz.out
            go_wp2_with (first
              | (at_builtin; refine wpList_app elt8 rfl (.tmp 147) (.tmp 149) rfl rfl rfl (xm7.out.L.alloc _) (own_one _ _ _ _ _ _ rfl (Nat.le_refl _)).rd (by omega) (by have := xm7.out.bel.size; simp; omega) ?_; intro A3 c3 w8 hL3 hgr3 hat3; have xa := hide (xm7.out.app hL3 hgr3 hat3); clear hL3 hgr3 hat3)
              | (at_builtin; refine wpList_app elt8 rfl (.tmp 151) (.tmp 153) rfl rfl rfl (xa.out.O.alloc _) (own_one _ _ _ _ _ _ rfl (Nat.le_refl _)).rd (by omega) (by have := xa.out.bel.size; simp; omega) ?_; intro A4 c4 w9 hO3 hgr4 hat4; have xr := hide (xa.out.app hz.out (hse.out ▸ hst.out) hO3 hgr4 hat4); clear hO3 hgr4 hat4))
            go_roundw
            case rel => exact ⟨k + 1, A3, A4, c3, c4, _, _, by omega, by go_num, rfl, rfl, xr.out⟩
            case measure => simp [intOf]; omega
          · exact fun o ho => by
              have ho2 := ho; simp only [List.getElem?_toArray, List.getElem?_cons_succ, List.getElem?_cons_zero, Option.some.injEq] at ho2; subst ho2
              exact ⟨⟨25, .data⟩, by simp, rfl, rfl⟩
          · intro i op ho
            as_aux_lemma =>
              have hi : i < 27 := by
                rcases Nat.lt_or_ge i 27 with h | h
                · exact h
                · rw [Array.getElem?_eq_none (by simpa using h)] at ho; cases ho
              rcases (show i = 0 ∨ i = 1 ∨ i = 2 ∨ i = 3 ∨ i = 4 ∨ i = 5 ∨ i = 6 ∨ i = 7 ∨ i = 8 ∨ i = 9 ∨ i = 10 ∨ i = 11 ∨ i = 12 ∨ i = 13 ∨ i = 14 ∨ i = 15 ∨ i = 16 ∨ i = 17 ∨ i = 18 ∨ i = 19 ∨ i = 20 ∨ i = 21 ∨ i = 22 ∨ i = 23 ∨ i = 24 ∨ i = 25 ∨ i = 26 by omega) with rfl | rfl | rfl | rfl | rfl | rfl | rfl | rfl | rfl | rfl | rfl | rfl | rfl | rfl | rfl | rfl | rfl | rfl | rfl | rfl | rfl | rfl | rfl | rfl | rfl | rfl | rfl
              all_goals (simp only [List.getElem?_toArray, List.getElem?_cons_succ, List.getElem?_cons_zero, Option.some.injEq] at ho; subst ho; simp)
      · have hovc2 := ov_cases (close_fit hF.out hF2.out) 22
        rcases hovc with ⟨o1, hov⟩ | ⟨o1, hov⟩ <;> rcases hovc2 with ⟨o2, hov2⟩ | ⟨o2, hov2⟩
        · as_aux_lemma =>
          have o2' : ((mapE (closeS s).top).ov != 255) = true := o2
          clear o2
          have hst := hide (show stepS (fsiAt cl k) s 22 = (closeS s, (closeS s).top.lv, asS (closeS s) 22) from rfl)
          go_wp2_with fail
          refine wp_region_below (by kernel_rfl) (by kernel_rfl) ?_
          repeat (go_big_quiet_step ((go_at_call 38; exact Calls.below_of (hT.out _))))
          refine wpQuiet_nil ?_
          rintro _ ⟨y, rfl⟩
          have xm1 := hide (hM.out.below y.below)
          obtain ⟨p0, p1, p2, p3, p4⟩ := f72 xm1.out.sb.box
          have hT1 := hide (xm1.out.top hF.out (by omega))
          clear hT g0 g1 g2 g3 gc
          go_wp2_with fail
          refine hT1.out.mono ?_
          rintro en w4 ⟨rfl, hb4⟩
          have xm2 := hide (xm1.out.below hb4)
          clear p0 p1 p2 p3 p4 hT1 hb4
          obtain ⟨p0, p1, p2, p3, p4⟩ := f72 xm2.out.sb.box
          have hT2 := hide (xm2.out.top hF.out (by omega))
          go_wp2_with fail
          refine hT2.out.mono ?_
          rintro en w5 ⟨rfl, hb5⟩
          have xm3 := hide (xm2.out.below hb5)
          clear p0 p1 p2 p3 p4 hT2 hb5 xm2
          have gc := rd_cell (hC2.out.below xm3.out.bel) hz.out
          obtain ⟨p0, p1, p2, p3, p4⟩ := f72 xm3.out.sb.box
          have hcall := hide (refclosed_any xm3.out.sb.rs hF.out hF2.out (by omega))
          have hF5 := hide (close_fit hF.out hF2.out)
          obtain ⟨s5, hs5⟩ : ∃ s5, closeS s = s5 := ⟨_, rfl⟩
          rw [hs5] at hst hcall hF5 hov2 o2'
          rw [hov2.out] at hst
          go_wp2_with fail
          refine (op41 22 _).mono ?_
          rintro en w5' ⟨rfl, rfl⟩
          rw [show opS 22 = false from rfl]
          go_wp2_with fail
          refine hcall.out.mono ?_
          rintro en w6 ⟨v5, rfl, hR5, hb6⟩
          obtain ⟨b5, c5, hv5, _, _, _⟩ := id hR5
          have hRR : RS w6 (.agg #[.slice (some ⟨b5, 0, none⟩) s5.stk.length c5, .int .i64 s5.is, .int .i64 s5.em, .int .i64 s5.nw]) s5 := hv5 ▸ hR5
          subst hv5
          have xm6 := hide (xm3.out.below hb6)
          have hbx := hide xm6.out.sb.box
          have xm7 := hide (xm6.out.store hRR)
          clear hb6 hR5 hRR xm6 p0 p1 p2 p3 p4
          go_wp2_with (refine wpList_store_row rfl 72 (.tmp 10) (.tmp 120) rfl gs #[.slice (some ⟨b5, 0, none⟩) s5.stk.length c5, .int .i64 s5.is, .int .i64 s5.em, .int .i64 s5.nw] rfl rfl 72 _ hbx.out (by kernel_rfl) rfl (by simp [Value.oneCell']) ?_; generalize w6.setRow gs #[.slice (some ⟨b5, 0, none⟩) s5.stk.length c5, .int .i64 s5.is, .int .i64 s5.em, .int .i64 s5.nw] = w7 at *; obtain ⟨p0, p1, p2, p3, p4⟩ := f72 xm7.out.sb.box; have gc7 := rd_cell (hC2.out.below xm7.out.bel) hz.out)
          have hT7 := hide (fun y : BW w7 => (xm7.out.below y.below).top hF5.out (show k ≤ 100000 by omega))
          have g0 : ∀ y : BW w7, y.world.cell? ⟨gs, 0, none⟩ = some (.slice (some ⟨b5, 0, none⟩) s5.stk.length c5) := fun y => (f72 (xm7.out.below y.below).sb.box).1
          have g1 : ∀ y : BW w7, y.world.cell? ⟨gs, 1, none⟩ = some (.int .i64 s5.is) := fun y => (f72 (xm7.out.below y.below).sb.box).2.1
          have g2 : ∀ y : BW w7, y.world.cell? ⟨gs, 2, none⟩ = some (.int .i64 s5.em) := fun y => (f72 (xm7.out.below y.below).sb.box).2.2.1
          have g3 : ∀ y : BW w7, y.world.cell? ⟨gs, 3, none⟩ = some (.int .i64 s5.nw) := fun y => (f72 (xm7.out.below y.below).sb.box).2.2.2.1
          have gc8 : ∀ y : BW w7, y.world.cell? ⟨bb, off + k, none⟩ = some (.int .u8 22) := fun y => rd_cell (hC2.out.below (xm7.out.below y.below).bel) hz.out
          clear p0 p1 p2 p3 p4 gc7
          simp only [Act.put]
          refine wp_region_below (by kernel_rfl) (by kernel_rfl) ?_
          repeat (go_big_quiet_step ((go_at_call 38; exact Calls.below_of (hT7.out _))))
          refine wpQuiet_nil ?_
          rintro _ ⟨y2, rfl⟩
          have xm8 := hide (xm7.out.below y2.below)
          obtain ⟨p0, p1, p2, p3, p4⟩ := f72 xm8.out.sb.box
          have hT8 := hide (xm8.out.top hF5.out (by omega))
          clear hT7 g0 g1 g2 g3 gc8
          go_wp2_with fail
          refine hT8.out.mono ?_
          rintro en w9' ⟨rfl, hb9⟩
          have xm9 := hide (xm8.out.below hb9)
          clear p0 p1 p2 p3 p4 hT8 hb9
          obtain ⟨p0, p1, p2, p3, p4⟩ := f72 xm9.out.sb.box
          have hT9 := hide (xm9.out.top hF5.out (by omega))
          go_wp2_with fail
          refine hT9.out.mono ?_
          rintro en w10 ⟨rfl, hb10⟩
          have xmA := hide (xm9.out.below hb10)
          clear p0 p1 p2 p3 p4 hT9 hb10
          go_wp2_with (first
            | (at_builtin; refine wpList_app elt8 rfl (.tmp 147) (.tmp 149) rfl rfl rfl (xmA.out.L.alloc _) (own_one _ _ _ _ _ _ rfl (Nat.le_refl _)).rd (by omega) (by have := xmA.out.bel.size; simp; omega) ?_; intro A3 c3 w8 hL3 hgr3 hat3; have xa := hide (xmA.out.app hL3 hgr3 hat3); clear hL3 hgr3 hat3)
            | (at_builtin; refine wpList_app elt8 rfl (.tmp 151) (.tmp 153) rfl rfl rfl (xa.out.O.alloc _) (own_one _ _ _ _ _ _ rfl (Nat.le_refl _)).rd (by omega) (by have := xa.out.bel.size; simp; omega) ?_; intro A4 c4 w9 hO3 hgr4 hat4; have xr := hide (xa.out.app hz.out (hse.out ▸ hst.out) hO3 hgr4 hat4); clear hO3 hgr4 hat4))
          go_roundw
          case rel => exact ⟨k + 1, A3, A4, c3, c4, _, _, by omega, by go_num, rfl, rfl, xr.out⟩
          case measure => simp [intOf]; omega
        · as_aux_lemma =>
          have o2' : ((mapE (closeS s).top).ov != 255) = false := o2
          clear o2
          have hst := hide (show stepS (fsiAt cl k) s 22 = (closeS s, (closeS s).top.lv, asS (closeS s) 22) from rfl)
          go_wp2_with fail
          refine wp_region_below (by kernel_rfl) (by kernel_rfl) ?_
          repeat (go_big_quiet_step ((go_at_call 38; exact Calls.below_of (hT.out _))))
          refine wpQuiet_nil ?_
          rintro _ ⟨y, rfl⟩
          have xm1 := hide (hM.out.below y.below)
          obtain ⟨p0, p1, p2, p3, p4⟩ := f72 xm1.out.sb.box
          have hT1 := hide (xm1.out.top hF.out (by omega))
          clear hT g0 g1 g2 g3 gc
          go_wp2_with fail
          refine hT1.out.mono ?_
          rintro en w4 ⟨rfl, hb4⟩
          have xm2 := hide (xm1.out.below hb4)
          clear p0 p1 p2 p3 p4 hT1 hb4
          obtain ⟨p0, p1, p2, p3, p4⟩ := f72 xm2.out.sb.box
          have hT2 := hide (xm2.out.top hF.out (by omega))
          go_wp2_with fail
          refine hT2.out.mono ?_
          rintro en w5 ⟨rfl, hb5⟩
          have xm3 := hide (xm2.out.below hb5)
          clear p0 p1 p2 p3 p4 hT2 hb5 xm2
          have gc := rd_cell (hC2.out.below xm3.out.bel) hz.out
          obtain ⟨p0, p1, p2, p3, p4⟩ := f72 xm3.out.sb.box
          have hcall := hide (refclosed_any xm3.out.sb.rs hF.out hF2.out (by omega))
          have hF5 := hide (close_fit hF.out hF2.out)
          obtain ⟨s5, hs5⟩ : ∃ s5, closeS s = s5 := ⟨_, rfl⟩
          rw [hs5] at hst hcall hF5 hov2 o2'
          rw [hov2.out] at hst
          go_wp2_with fail
          refine (op41 22 _).mono ?_
          rintro en w5' ⟨rfl, rfl⟩
          rw [show opS 22 = false from rfl]
          go_wp2_with fail
          refine hcall.out.mono ?_
          rintro en w6 ⟨v5, rfl, hR5, hb6⟩
          obtain ⟨b5, c5, hv5, _, _, _⟩ := id hR5
          have hRR : RS w6 (.agg #[.slice (some ⟨b5, 0, none⟩) s5.stk.length c5, .int .i64 s5.is, .int .i64 s5.em, .int .i64 s5.nw]) s5 := hv5 ▸ hR5
          subst hv5
          have xm6 := hide (xm3.out.below hb6)
          have hbx := hide xm6.out.sb.box
          have xm7 := hide (xm6.out.store hRR)
          clear hb6 hR5 hRR xm6 p0 p1 p2 p3 p4
          go_wp2_with (refine wpList_store_row rfl 72 (.tmp 10) (.tmp 120) rfl gs #[.slice (some ⟨b5, 0, none⟩) s5.stk.length c5, .int .i64 s5.is, .int .i64 s5.em, .int .i64 s5.nw] rfl rfl 72 _ hbx.out (by kernel_rfl) rfl (by simp [Value.oneCell']) ?_; generalize w6.setRow gs #[.slice (some ⟨b5, 0, none⟩) s5.stk.length c5, .int .i64 s5.is, .int .i64 s5.em, .int .i64 s5.nw] = w7 at *; obtain ⟨p0, p1, p2, p3, p4⟩ := f72 xm7.out.sb.box; have gc7 := rd_cell (hC2.out.below xm7.out.bel) hz.out)
          have hT7 := hide (fun y : BW w7 => (xm7.out.below y.below).top hF5.out (show k ≤ 100000 by omega))
          have g0 : ∀ y : BW w7, y.world.cell? ⟨gs, 0, none⟩ = some (.slice (some ⟨b5, 0, none⟩) s5.stk.length c5) := fun y => (f72 (xm7.out.below y.below).sb.box).1
          have g1 : ∀ y : BW w7, y.world.cell? ⟨gs, 1, none⟩ = some (.int .i64 s5.is) := fun y => (f72 (xm7.out.below y.below).sb.box).2.1
          have g2 : ∀ y : BW w7, y.world.cell? ⟨gs, 2, none⟩ = some (.int .i64 s5.em) := fun y => (f72 (xm7.out.below y.below).sb.box).2.2.1
          have g3 : ∀ y : BW w7, y.world.cell? ⟨gs, 3, none⟩ = some (.int .i64 s5.nw) := fun y => (f72 (xm7.out.below y.below).sb.box).2.2.2.1
          have gc8 : ∀ y : BW w7, y.world.cell? ⟨bb, off + k, none⟩ = some (.int .u8 22) := fun y => rd_cell (hC2.out.below (xm7.out.below y.below).bel) hz.out
          clear p0 p1 p2 p3 p4 gc7
          simp only [Act.put]
          refine wp_region_below (by kernel_rfl) (by kernel_rfl) ?_
          repeat (go_big_quiet_step ((go_at_call 38; exact Calls.below_of (hT7.out _))))
          refine wpQuiet_nil ?_
          rintro _ ⟨y2, rfl⟩
          have xm8 := hide (xm7.out.below y2.below)
          obtain ⟨p0, p1, p2, p3, p4⟩ := f72 xm8.out.sb.box
          have hT8 := hide (xm8.out.top hF5.out (by omega))
          clear hT7 g0 g1 g2 g3 gc8
          go_wp2_with fail
          refine hT8.out.mono ?_
          rintro en w9' ⟨rfl, hb9⟩
          have xm9 := hide (xm8.out.below hb9)
          clear p0 p1 p2 p3 p4 hT8 hb9
          have xmA := xm9
          go_wp2_with (first
            | (at_builtin; refine wpList_app elt8 rfl (.tmp 147) (.tmp 149) rfl rfl rfl (xmA.out.L.alloc _) (own_one _ _ _ _ _ _ rfl (Nat.le_refl _)).rd (by omega) (by have := xmA.out.bel.size; simp; omega) ?_; intro A3 c3 w8 hL3 hgr3 hat3; have xa := hide (xmA.out.app hL3 hgr3 hat3); clear hL3 hgr3 hat3)
            | (at_builtin; refine wpList_app elt8 rfl (.tmp 151) (.tmp 153) rfl rfl rfl (xa.out.O.alloc _) (own_one _ _ _ _ _ _ rfl (Nat.le_refl _)).rd (by omega) (by have := xa.out.bel.size; simp; omega) ?_; intro A4 c4 w9 hO3 hgr4 hat4; have xr := hide (xa.out.app hz.out (hse.out ▸ hst.out) hO3 hgr4 hat4); clear hO3 hgr4 hat4))
          go_roundw
          case rel => exact ⟨k + 1, A3, A4, c3, c4, _, _, by omega, by go_num, rfl, rfl, xr.out⟩
          case measure => simp [intOf]; omega
        · as_aux_lemma =>
          have o2' : ((mapE (closeS s).top).ov != 255) = true := o2
          clear o2
          have hst := hide (show stepS (fsiAt cl k) s 22 = (closeS s, (closeS s).top.lv, asS (closeS s) 22) from rfl)
          go_wp2_with fail
          refine wp_region_below (by kernel_rfl) (by kernel_rfl) ?_
          repeat (go_big_quiet_step ((go_at_call 38; exact Calls.below_of (hT.out _))))
          refine wpQuiet_nil ?_
          rintro _ ⟨y, rfl⟩
          have xm1 := hide (hM.out.below y.below)
          obtain ⟨p0, p1, p2, p3, p4⟩ := f72 xm1.out.sb.box
          have hT1 := hide (xm1.out.top hF.out (by omega))
          clear hT g0 g1 g2 g3 gc
          go_wp2_with fail
          refine hT1.out.mono ?_
          rintro en w4 ⟨rfl, hb4⟩
          have xm2 := hide (xm1.out.below hb4)
          clear p0 p1 p2 p3 p4 hT1 hb4
          have xm3 := xm2
          obtain ⟨w5, rfl⟩ : ∃ w5 : World, w5 = w4 := ⟨_, rfl⟩
          clear xm2
          have gc := rd_cell (hC2.out.below xm3.out.bel) hz.out
          obtain ⟨p0, p1, p2, p3, p4⟩ := f72 xm3.out.sb.box
          have hcall := hide (refclosed_any xm3.out.sb.rs hF.out hF2.out (by omega))
          have hF5 := hide (close_fit hF.out hF2.out)
          obtain ⟨s5, hs5⟩ : ∃ s5, closeS s = s5 := ⟨_, rfl⟩
          rw [hs5] at hst hcall hF5 hov2 o2'
          rw [hov2.out] at hst
          go_wp2_with fail
          refine (op41 22 _).mono ?_
          rintro en w5' ⟨rfl, rfl⟩
          rw [show opS 22 = false from rfl]
          go_wp2_with fail
          refine hcall.out.mono ?_
          rintro en w6 ⟨v5, rfl, hR5, hb6⟩
          obtain ⟨b5, c5, hv5, _, _, _⟩ := id hR5
          have hRR : RS w6 (.agg #[.slice (some ⟨b5, 0, none⟩) s5.stk.length c5, .int .i64 s5.is, .int .i64 s5.em, .int .i64 s5.nw]) s5 := hv5 ▸ hR5
          subst hv5
          have xm6 := hide (xm3.out.below hb6)
          have hbx := hide xm6.out.sb.box
          have xm7 := hide (xm6.out.store hRR)
          clear hb6 hR5 hRR xm6 p0 p1 p2 p3 p4
          go_wp2_with (refine wpList_store_row rfl 72 (.tmp 10) (.tmp 120) rfl gs #[.slice (some ⟨b5, 0, none⟩) s5.stk.length c5, .int .i64 s5.is, .int .i64 s5.em, .int .i64 s5.nw] rfl rfl 72 _ hbx.out (by kernel_rfl) rfl (by simp [Value.oneCell']) ?_; generalize w6.setRow gs #[.slice (some ⟨b5, 0, none⟩) s5.stk.length c5, .int .i64 s5.is, .int .i64 s5.em, .int .i64 s5.nw] = w7 at *; obtain ⟨p0, p1, p2, p3, p4⟩ := f72 xm7.out.sb.box; have gc7 := rd_cell (hC2.out.below xm7.out.bel) hz.out)
          have hT7 := hide (fun y : BW w7 => (xm7.out.below y.below).top hF5.out (show k ≤ 100000 by omega))
          have g0 : ∀ y : BW w7, y.world.cell? ⟨gs, 0, none⟩ = some (.slice (some ⟨b5, 0, none⟩) s5.stk.length c5) := fun y => (f72 (xm7.out.below y.below).sb.box).1
          have g1 : ∀ y : BW w7, y.world.cell? ⟨gs, 1, none⟩ = some (.int .i64 s5.is) := fun y => (f72 (xm7.out.below y.below).sb.box).2.1
          have g2 : ∀ y : BW w7, y.world.cell? ⟨gs, 2, none⟩ = some (.int .i64 s5.em) := fun y => (f72 (xm7.out.below y.below).sb.box).2.2.1
          have g3 : ∀ y : BW w7, y.world.cell? ⟨gs, 3, none⟩ = some (.int .i64 s5.nw) := fun y => (f72 (xm7.out.below y.below).sb.box).2.2.2.1
          have gc8 : ∀ y : BW w7, y.world.cell? ⟨bb, off + k, none⟩ = some (.int .u8 22) := fun y => rd_cell (hC2.out.below (xm7.out.below y.below).bel) hz.out
          clear p0 p1 p2 p3 p4 gc7
          simp only [Act.put]
          refine wp_region_below (by kernel_rfl) (by kernel_rfl) ?_
          repeat (go_big_quiet_step ((go_at_call 38; exact Calls.below_of (hT7.out _))))
          refine wpQuiet_nil ?_
          rintro _ ⟨y2, rfl⟩
          have xm8 := hide (xm7.out.below y2.below)
          obtain ⟨p0, p1, p2, p3, p4⟩ := f72 xm8.out.sb.box
          have hT8 := hide (xm8.out.top hF5.out (by omega))
          clear hT7 g0 g1 g2 g3 gc8
          go_wp2_with fail
          refine hT8.out.mono ?_
          rintro en w9' ⟨rfl, hb9⟩
          have xm9 := hide (xm8.out.below hb9)
          clear p0 p1 p2 p3 p4 hT8 hb9
          obtain ⟨p0, p1, p2, p3, p4⟩ := f72 xm9.out.sb.box
          have hT9 := hide (xm9.out.top hF5.out (by omega))
          go_wp2_with fail
          refine hT9.out.mono ?_
          rintro en w10 ⟨rfl, hb10⟩
          have xmA := hide (xm9.out.below hb10)
          clear p0 p1 p2 p3 p4 hT9 hb10
          go_wp2_with (first
            | (at_builtin; refine wpList_app elt8 rfl (.tmp 147) (.tmp 149) rfl rfl rfl (xmA.out.L.alloc _) (own_one _ _ _ _ _ _ rfl (Nat.le_refl _)).rd (by omega) (by have := xmA.out.bel.size; simp; omega) ?_; intro A3 c3 w8 hL3 hgr3 hat3; have xa := hide (xmA.out.app hL3 hgr3 hat3); clear hL3 hgr3 hat3)
            | (at_builtin; refine wpList_app elt8 rfl (.tmp 151) (.tmp 153) rfl rfl rfl (xa.out.O.alloc _) (own_one _ _ _ _ _ _ rfl (Nat.le_refl _)).rd (by omega) (by have := xa.out.bel.size; simp; omega) ?_; intro A4 c4 w9 hO3 hgr4 hat4; have xr := hide (xa.out.app hz.out (hse.out ▸ hst.out) hO3 hgr4 hat4); clear hO3 hgr4 hat4))
          go_roundw
          case rel => exact ⟨k + 1, A3, A4, c3, c4, _, _, by omega, by go_num, rfl, rfl, xr.out⟩
          case measure => simp [intOf]; omega
        · as_aux_lemma =>
          have o2' : ((mapE (closeS s).top).ov != 255) = false := o2
          clear o2
          have hst := hide (show stepS (fsiAt cl k) s 22 = (closeS s, (closeS s).top.lv, asS (closeS s) 22) from rfl)
          go_wp2_with fail
          refine wp_region_below (by kernel_rfl) (by kernel_rfl) ?_
          repeat (go_big_quiet_step ((go_at_call 38; exact Calls.below_of (hT.out _))))
          refine wpQuiet_nil ?_
          rintro _ ⟨y, rfl⟩
          have xm1 := hide (hM.out.below y.below)
          obtain ⟨p0, p1, p2, p3, p4⟩ := f72 xm1.out.sb.box
          have hT1 := hide (xm1.out.top hF.out (by omega))
          clear hT g0 g1 g2 g3 gc
          go_wp2_with fail
          refine hT1.out.mono ?_
          rintro en w4 ⟨rfl, hb4⟩
          have xm2 := hide (xm1.out.below hb4)
          clear p0 p1 p2 p3 p4 hT1 hb4
          have xm3 := xm2
          obtain ⟨w5, rfl⟩ : ∃ w5 : World, w5 = w4 := ⟨_, rfl⟩
          clear xm2
          have gc := rd_cell (hC2.out.below xm3.out.bel) hz.out
          obtain ⟨p0, p1, p2, p3, p4⟩ := f72 xm3.out.sb.box
          have hcall := hide (refclosed_any xm3.out.sb.rs hF.out hF2.out (by omega))
          have hF5 := hide (close_fit hF.out hF2.out)
          obtain ⟨s5, hs5⟩ : ∃ s5, closeS s = s5 := ⟨_, rfl⟩
          rw [hs5] at hst hcall hF5 hov2 o2'
          rw [hov2.out] at hst
          go_wp2_with fail
          refine (op41 22 _).mono ?_
          rintro en w5' ⟨rfl, rfl⟩
          rw [show opS 22 = false from rfl]
          go_wp2_with fail
          refine hcall.out.mono ?_
          rintro en w6 ⟨v5, rfl, hR5, hb6⟩
          obtain ⟨b5, c5, hv5, _, _, _⟩ := id hR5
          have hRR : RS w6 (.agg #[.slice (some ⟨b5, 0, none⟩) s5.stk.length c5, .int .i64 s5.is, .int .i64 s5.em, .int .i64 s5.nw]) s5 := hv5 ▸ hR5
          subst hv5
          have xm6 := hide (xm3.out.below hb6)
          have hbx := hide xm6.out.sb.box
          have xm7 := hide (xm6.out.store hRR)
          clear hb6 hR5 hRR xm6 p0 p1 p2 p3 p4
          go_wp2_with (refine wpList_store_row rfl 72 (.tmp 10) (.tmp 120) rfl gs #[.slice (some ⟨b5, 0, none⟩) s5.stk.length c5, .int .i64 s5.is, .int .i64 s5.em, .int .i64 s5.nw] rfl rfl 72 _ hbx.out (by kernel_rfl) rfl (by simp [Value.oneCell']) ?_; generalize w6.setRow gs #[.slice (some ⟨b5, 0, none⟩) s5.stk.length c5, .int .i64 s5.is, .int .i64 s5.em, .int .i64 s5.nw] = w7 at *; obtain ⟨p0, p1, p2, p3, p4⟩ := f72 xm7.out.sb.box; have gc7 := rd_cell (hC2.out.below xm7.out.bel) hz.out)
          have hT7 := hide (fun y : BW w7 => (xm7.out.below y.below).top hF5.out (show k ≤ 100000 by omega))
          have g0 : ∀ y : BW w7, y.world.cell? ⟨gs, 0, none⟩ = some (.slice (some ⟨b5, 0, none⟩) s5.stk.length c5) := fun y => (f72 (xm7.out.below y.below).sb.box).1
          have g1 : ∀ y : BW w7, y.world.cell? ⟨gs, 1, none⟩ = some (.int .i64 s5.is) := fun y => (f72 (xm7.out.below y.below).sb.box).2.1
          have g2 : ∀ y : BW w7, y.world.cell? ⟨gs, 2, none⟩ = some (.int .i64 s5.em) := fun y => (f72 (xm7.out.below y.below).sb.box).2.2.1
          have g3 : ∀ y : BW w7, y.world.cell? ⟨gs, 3, none⟩ = some (.int .i64 s5.nw) := fun y => (f72 (xm7.out.below y.below).sb.box).2.2.2.1
          have gc8 : ∀ y : BW w7, y.world.cell? ⟨bb, off + k, none⟩ = some (.int .u8 22) := fun y => rd_cell (hC2.out.below (xm7.out.below y.below).bel) hz.out
          clear p0 p1 p2 p3 p4 gc7
          simp only [Act.put]
          refine wp_region_below (by kernel_rfl) (by kernel_rfl) ?_
          repeat (go_big_quiet_step ((go_at_call 38; exact Calls.below_of (hT7.out _))))
          refine wpQuiet_nil ?_
          rintro _ ⟨y2, rfl⟩
          have xm8 := hide (xm7.out.below y2.below)
          obtain ⟨p0, p1, p2, p3, p4⟩ := f72 xm8.out.sb.box
          have hT8 := hide (xm8.out.top hF5.out (by omega))
          clear hT7 g0 g1 g2 g3 gc8
          go_wp2_with fail
          refine hT8.out.mono ?_
          rintro en w9' ⟨rfl, hb9⟩
          have xm9 := hide (xm8.out.below hb9)
          clear p0 p1 p2 p3 p4 hT8 hb9
          have xmA := xm9
          go_wp2_with (first
            | (at_builtin; refine wpList_app elt8 rfl (.tmp 147) (.tmp 149) rfl rfl rfl (xmA.out.L.alloc _) (own_one _ _ _ _ _ _ rfl (Nat.le_refl _)).rd (by omega) (by have := xmA.out.bel.size; simp; omega) ?_; intro A3 c3 w8 hL3 hgr3 hat3; have xa := hide (xmA.out.app hL3 hgr3 hat3); clear hL3 hgr3 hat3)
            | (at_builtin; refine wpList_app elt8 rfl (.tmp 151) (.tmp 153) rfl rfl rfl (xa.out.O.alloc _) (own_one _ _ _ _ _ _ rfl (Nat.le_refl _)).rd (by omega) (by have := xa.out.bel.size; simp; omega) ?_; intro A4 c4 w9 hO3 hgr4 hat4; have xr := hide (xa.out.app hz.out (hse.out ▸ hst.out) hO3 hgr4 hat4); clear hO3 hgr4 hat4))
          go_roundw
          case rel => exact ⟨k + 1, A3, A4, c3, c4, _, _, by omega, by go_num, rfl, rfl, xr.out⟩
          case measure => simp [intOf]; omega
      · skip
        rcases hovc with ⟨o1, hov⟩ | ⟨o1, hov⟩
        · as_aux_lemma =>
          have hst := hide (show stepS (fsiAt cl k) s 10 = (s, s.top.lv, 10) from rfl)
          go_wp2_with fail
          refine wp_region_below (by kernel_rfl) (by kernel_rfl) ?_
          repeat (go_big_quiet_step ((go_at_call 38; exact Calls.below_of (hT.out _))))
          refine wpQuiet_nil ?_
          rintro _ ⟨y, rfl⟩
          have xm1 := hide (hM.out.below y.below)
          obtain ⟨p0, p1, p2, p3, p4⟩ := f72 xm1.out.sb.box
          have hT1 := hide (xm1.out.top hF.out (by omega))
          clear hT g0 g1 g2 g3 gc
          go_wp2_with fail
          refine hT1.out.mono ?_
          rintro en w4 ⟨rfl, hb4⟩
          have xm2 := hide (xm1.out.below hb4)
          clear p0 p1 p2 p3 p4 hT1 hb4
          obtain ⟨p0, p1, p2, p3, p4⟩ := f72 xm2.out.sb.box
          have hT2 := hide (xm2.out.top hF.out (by omega))
          go_wp2_with fail
          refine hT2.out.mono ?_
          rintro en w5 ⟨rfl, hb5⟩
          have xm3 := hide (xm2.out.below hb5)
          clear p0 p1 p2 p3 p4 hT2 hb5 xm2
          have gc := rd_cell (hC2.out.below xm3.out.bel) hz.out
          go_wp2_with fail
          refine (op41 10 _).mono ?_
          rintro en w5' ⟨rfl, rfl⟩
          rw [show opS 10 = false from rfl]
          go_wp2_with (first
            | (at_builtin; refine wpList_app elt8 rfl (.tmp 147) (.tmp 149) rfl rfl rfl (xm3.out.L.alloc _) (own_one _ _ _ _ _ _ rfl (Nat.le_refl _)).rd (by omega) (by have := xm3.out.bel.size; simp; omega) ?_; intro A3 c3 w8 hL3 hgr3 hat3; have xa := hide (xm3.out.app hL3 hgr3 hat3); clear hL3 hgr3 hat3)
            | (at_builtin; refine wpList_app elt8 rfl (.tmp 151) (.tmp 153) rfl rfl rfl (xa.out.O.alloc _) (own_one _ _ _ _ _ _ rfl (Nat.le_refl _)).rd (by omega) (by have := xa.out.bel.size; simp; omega) ?_; intro A4 c4 w9 hO3 hgr4 hat4; have xr := hide (xa.out.app hz.out (hse.out ▸ hst.out) hO3 hgr4 hat4); clear hO3 hgr4 hat4))
          go_roundw
          case rel => exact ⟨k + 1, A3, A4, c3, c4, _, _, by omega, by go_num, rfl, rfl, xr.out⟩
          case measure => simp [intOf]; omega
        · as_aux_lemma =>
          have hst := hide (show stepS (fsiAt cl k) s 10 = (s, s.top.lv, 10) from rfl)
          go_wp2_with fail
          refine wp_region_below (by kernel_rfl) (by kernel_rfl) ?_
          repeat (go_big_quiet_step ((go_at_call 38; exact Calls.below_of (hT.out _))))
          refine wpQuiet_nil ?_
          rintro _ ⟨y, rfl⟩
          have xm1 := hide (hM.out.below y.below)
          obtain ⟨p0, p1, p2, p3, p4⟩ := f72 xm1.out.sb.box
          have hT1 := hide (xm1.out.top hF.out (by omega))
          clear hT g0 g1 g2 g3 gc
          go_wp2_with fail
          refine hT1.out.mono ?_
          rintro en w4 ⟨rfl, hb4⟩
          have xm2 := hide (xm1.out.below hb4)
          clear p0 p1 p2 p3 p4 hT1 hb4
          have xm3 := xm2
          obtain ⟨w5, rfl⟩ : ∃ w5 : World, w5 = w4 := ⟨_, rfl⟩
          clear xm2
          have gc := rd_cell (hC2.out.below xm3.out.bel) hz.out
          go_wp2_with fail
          refine (op41 10 _).mono ?_
          rintro en w5' ⟨rfl, rfl⟩
          rw [show opS 10 = false from rfl]
          go_wp2_with (first
            | (at_builtin; refine wpList_app elt8 rfl (.tmp 147) (.tmp 149) rfl rfl rfl (xm3.out.L.alloc _) (own_one _ _ _ _ _ _ rfl (Nat.le_refl _)).rd (by omega) (by have := xm3.out.bel.size; simp; omega) ?_; intro A3 c3 w8 hL3 hgr3 hat3; have xa := hide (xm3.out.app hL3 hgr3 hat3); clear hL3 hgr3 hat3)
            | (at_builtin; refine wpList_app elt8 rfl (.tmp 151) (.tmp 153) rfl rfl rfl (xa.out.O.alloc _) (own_one _ _ _ _ _ _ rfl (Nat.le_refl _)).rd (by omega) (by have := xa.out.bel.size; simp; omega) ?_; intro A4 c4 w9 hO3 hgr4 hat4; have xr := hide (xa.out.app hz.out (hse.out ▸ hst.out) hO3 hgr4 hat4); clear hO3 hgr4 hat4))
          go_roundw
          case rel => exact ⟨k + 1, A3, A4, c3, c4, _, _, by omega, by go_num, rfl, rfl, xr.out⟩
          case measure => simp [intOf]; omega
      · skip
        rcases hovc with ⟨o1, hov⟩ | ⟨o1, hov⟩
        · as_aux_lemma =>
          have hst := hide (show stepS (fsiAt cl k) s 9 = (s, s.top.lv, 9) from rfl)
          go_wp2_with fail
          refine wp_region_below (by kernel_rfl) (by kernel_rfl) ?_
          repeat (go_big_quiet_step ((go_at_call 38; exact Calls.below_of (hT.out _))))
          refine wpQuiet_nil ?_
          rintro _ ⟨y, rfl⟩
          have xm1 := hide (hM.out.below y.below)
          obtain ⟨p0, p1, p2, p3, p4⟩ := f72 xm1.out.sb.box
          have hT1 := hide (xm1.out.top hF.out (by omega))
          clear hT g0 g1 g2 g3 gc
          go_wp2_with fail
          refine hT1.out.mono ?_
          rintro en w4 ⟨rfl, hb4⟩
          have xm2 := hide (xm1.out.below hb4)
          clear p0 p1 p2 p3 p4 hT1 hb4
          obtain ⟨p0, p1, p2, p3, p4⟩ := f72 xm2.out.sb.box
          have hT2 := hide (xm2.out.top hF.out (by omega))
          go_wp2_with fail
          refine hT2.out.mono ?_
          rintro en w5 ⟨rfl, hb5⟩
          have xm3 := hide (xm2.out.below hb5)
          clear p0 p1 p2 p3 p4 hT2 hb5 xm2
          have gc := rd_cell (hC2.out.below xm3.out.bel) hz.out
          go_wp2_with fail
          refine (op41 9 _).mono ?_
          rintro en w5' ⟨rfl, rfl⟩
          rw [show opS 9 = false from rfl]
          go_wp2_with (first
            | (at_builtin; refine wpList_app elt8 rfl (.tmp 147) (.tmp 149) rfl rfl rfl (xm3.out.L.alloc _) (own_one _ _ _ _ _ _ rfl (Nat.le_refl _)).rd (by omega) (by have := xm3.out.bel.size; simp; omega) ?_; intro A3 c3 w8 hL3 hgr3 hat3; have xa := hide (xm3.out.app hL3 hgr3 hat3); clear hL3 hgr3 hat3)
            | (at_builtin; refine wpList_app elt8 rfl (.tmp 151) (.tmp 153) rfl rfl rfl (xa.out.O.alloc _) (own_one _ _ _ _ _ _ rfl (Nat.le_refl _)).rd (by omega) (by have := xa.out.bel.size; simp; omega) ?_; intro A4 c4 w9 hO3 hgr4 hat4; have xr := hide (xa.out.app hz.out (hse.out ▸ hst.out) hO3 hgr4 hat4); clear hO3 hgr4 hat4))
          go_roundw
          case rel => exact ⟨k + 1, A3, A4, c3, c4, _, _, by omega, by go_num, rfl, rfl, xr.out⟩
          case measure => simp [intOf]; omega
        · as_aux_lemma =>
          have hst := hide (show stepS (fsiAt cl k) s 9 = (s, s.top.lv, 9) from rfl)
          go_wp2_with fail
          refine wp_region_below (by kernel_rfl) (by kernel_rfl) ?_
          repeat (go_big_quiet_step ((go_at_call 38; exact Calls.below_of (hT.out _))))
          refine wpQuiet_nil ?_
          rintro _ ⟨y, rfl⟩
          have xm1 := hide (hM.out.below y.below)
          obtain ⟨p0, p1, p2, p3, p4⟩ := f72 xm1.out.sb.box
          have hT1 := hide (xm1.out.top hF.out (by omega))
          clear hT g0 g1 g2 g3 gc
          go_wp2_with fail
          refine hT1.out.mono ?_
          rintro en w4 ⟨rfl, hb4⟩
          have xm2 := hide (xm1.out.below hb4)
          clear p0 p1 p2 p3 p4 hT1 hb4
          have xm3 := xm2
          obtain ⟨w5, rfl⟩ : ∃ w5 : World, w5 = w4 := ⟨_, rfl⟩
          clear xm2
          have gc := rd_cell (hC2.out.below xm3.out.bel) hz.out
          go_wp2_with fail
          refine (op41 9 _).mono ?_
          rintro en w5' ⟨rfl, rfl⟩
          rw [show opS 9 = false from rfl]
          go_wp2_with (first
            | (at_builtin; refine wpList_app elt8 rfl (.tmp 147) (.tmp 149) rfl rfl rfl (xm3.out.L.alloc _) (own_one _ _ _ _ _ _ rfl (Nat.le_refl _)).rd (by omega) (by have := xm3.out.bel.size; simp; omega) ?_; intro A3 c3 w8 hL3 hgr3 hat3; have xa := hide (xm3.out.app hL3 hgr3 hat3); clear hL3 hgr3 hat3)
            | (at_builtin; refine wpList_app elt8 rfl (.tmp 151) (.tmp 153) rfl rfl rfl (xa.out.O.alloc _) (own_one _ _ _ _ _ _ rfl (Nat.le_refl _)).rd (by omega) (by have := xa.out.bel.size; simp; omega) ?_; intro A4 c4 w9 hO3 hgr4 hat4; have xr := hide (xa.out.app hz.out (hse.out ▸ hst.out) hO3 hgr4 hat4); clear hO3 hgr4 hat4))
          go_roundw
          case rel => exact ⟨k + 1, A3, A4, c3, c4, _, _, by omega, by go_num, rfl, rfl, xr.out⟩
          case measure => simp [intOf]; omega
      · have hxo := hx1.out
        have d1 : decide (14 ≤ x) = false := by simp; omega
        have d2 : (x == 16) = false := by simp; omega
        have d3 : (x == 22) = false := by simp; omega
        have d4 : (x == 10) = false := by simp; omega
        have d5 : (x == 9) = false := by simp; omega
        have hop : opS x = false := by unfold opS; simp; omega
        have hO := hide hop
        clear hop hxo
        rcases hovc with ⟨o1, hov⟩ | ⟨o1, hov⟩
        · as_aux_lemma =>
          have hst := hide (show stepS (fsiAt cl k) s x = (s, s.top.lv, (mapE s.top).ov) by rw [step_other_ hx1.out]; rw [hov.out])
          go_wp2_with fail
          refine wp_region_below (by kernel_rfl) (by kernel_rfl) ?_
          repeat (go_big_quiet_step ((go_at_call 38; exact Calls.below_of (hT.out _))))
          refine wpQuiet_nil ?_
          rintro _ ⟨y, rfl⟩
          have xm1 := hide (hM.out.below y.below)
          obtain ⟨p0, p1, p2, p3, p4⟩ := f72 xm1.out.sb.box
          have hT1 := hide (xm1.out.top hF.out (by omega))
          clear hT g0 g1 g2 g3 gc
          go_wp2_with fail
          refine hT1.out.mono ?_
          rintro en w4 ⟨rfl, hb4⟩
          have xm2 := hide (xm1.out.below hb4)
          clear p0 p1 p2 p3 p4 hT1 hb4
          obtain ⟨p0, p1, p2, p3, p4⟩ := f72 xm2.out.sb.box
          have hT2 := hide (xm2.out.top hF.out (by omega))
          go_wp2_with fail
          refine hT2.out.mono ?_
          rintro en w5 ⟨rfl, hb5⟩
          have xm3 := hide (xm2.out.below hb5)
          clear p0 p1 p2 p3 p4 hT2 hb5 xm2
          have gc := rd_cell (hC2.out.below xm3.out.bel) hz.out
          go_wp2_with fail
          refine (op41 x _).mono ?_
          rintro en w5' ⟨rfl, rfl⟩
          rw [hO.out]
          go_wp2_with (first
            | (at_builtin; refine wpList_app elt8 rfl (.tmp 147) (.tmp 149) rfl rfl rfl (xm3.out.L.alloc _) (own_one _ _ _ _ _ _ rfl (Nat.le_refl _)).rd (by omega) (by have := xm3.out.bel.size; simp; omega) ?_; intro A3 c3 w8 hL3 hgr3 hat3; have xa := hide (xm3.out.app hL3 hgr3 hat3); clear hL3 hgr3 hat3)
            | (at_builtin; refine wpList_app elt8 rfl (.tmp 151) (.tmp 153) rfl rfl rfl (xa.out.O.alloc _) (own_one _ _ _ _ _ _ rfl (Nat.le_refl _)).rd (by omega) (by have := xa.out.bel.size; simp; omega) ?_; intro A4 c4 w9 hO3 hgr4 hat4; have xr := hide (xa.out.app hz.out (hse.out ▸ hst.out) hO3 hgr4 hat4); clear hO3 hgr4 hat4))
          go_roundw
          case rel => exact ⟨k + 1, A3, A4, c3, c4, _, _, by omega, by go_num, rfl, rfl, xr.out⟩
          case measure => simp [intOf]; omega
        · as_aux_lemma =>
          have hst := hide (show stepS (fsiAt cl k) s x = (s, s.top.lv, x) by rw [step_other_ hx1.out]; rw [hov.out])
          go_wp2_with fail
          refine wp_region_below (by kernel_rfl) (by kernel_rfl) ?_
          repeat (go_big_quiet_step ((go_at_call 38; exact Calls.below_of (hT.out _))))
          refine wpQuiet_nil ?_
          rintro _ ⟨y, rfl⟩
          have xm1 := hide (hM.out.below y.below)
          obtain ⟨p0, p1, p2, p3, p4⟩ := f72 xm1.out.sb.box
          have hT1 := hide (xm1.out.top hF.out (by omega))
          clear hT g0 g1 g2 g3 gc
          go_wp2_with fail
          refine hT1.out.mono ?_
          rintro en w4 ⟨rfl, hb4⟩
          have xm2 := hide (xm1.out.below hb4)
          clear p0 p1 p2 p3 p4 hT1 hb4
          have xm3 := xm2
          obtain ⟨w5, rfl⟩ : ∃ w5 : World, w5 = w4 := ⟨_, rfl⟩
          clear xm2
          have gc := rd_cell (hC2.out.below xm3.out.bel) hz.out
          go_wp2_with fail
          refine (op41 x _).mono ?_
          rintro en w5' ⟨rfl, rfl⟩
          rw [hO.out]
          go_wp2_with (first
            | (at_builtin; refine wpList_app elt8 rfl (.tmp 147) (.tmp 149) rfl rfl rfl (xm3.out.L.alloc _) (own_one _ _ _ _ _ _ rfl (Nat.le_refl _)).rd (by omega) (by have := xm3.out.bel.size; simp; omega) ?_; intro A3 c3 w8 hL3 hgr3 hat3; have xa := hide (xm3.out.app hL3 hgr3 hat3); clear hL3 hgr3 hat3)
            | (at_builtin; refine wpList_app elt8 rfl (.tmp 151) (.tmp 153) rfl rfl rfl (xa.out.O.alloc _) (own_one _ _ _ _ _ _ rfl (Nat.le_refl _)).rd (by omega) (by have := xa.out.bel.size; simp; omega) ?_; intro A4 c4 w9 hO3 hgr4 hat4; have xr := hide (xa.out.app hz.out (hse.out ▸ hst.out) hO3 hgr4 hat4); clear hO3 hgr4 hat4))
          go_roundw
          case rel => exact ⟨k + 1, A3, A4, c3, c4, _, _, by omega, by go_num, rfl, rfl, xr.out⟩
          case measure => simp [intOf]; omega
    · obtain rfl : k = n := by omega
      clear hkn
      go_wp2_with fail
      go_ret2
      have e1 : (levelsS cl base).length = k := (levels_len cl base).trans hcl.out
      have e2 : (classesS cl base).length = k := (classes_len cl base).trans hcl.out
      have hL := inv.L
      have hO := inv.O
      rw [show (expSt cl base k).2.1 = levelsS cl base by unfold levelsS; rw [hcl.out]] at hL
      rw [show (expSt cl base k).2.2 = classesS cl base by unfold classesS; rw [hcl.out]] at hO
      exact ⟨A8, c8, A9, c9, by rw [e1, e2]; rfl, by rw [e1]; exact hL.more hbw.out.size, by rw [e2]; exact hO.more hbw.out.size, hbw.out.trans (inv.bel.mono hbw.out.size)⟩
end Go.Proofs.Ytaojjneajiobnaa

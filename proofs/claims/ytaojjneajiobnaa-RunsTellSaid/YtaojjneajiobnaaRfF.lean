/-
  The reference of layer 19: pop, next, ends, opened, embeds, closed.
-/
import Derived.Test.YtaojjneajiobnaaRfE
namespace Go.Proofs.Ytaojjneajiobnaa
open Go.RowKit

theorem entC_take (es : List Ent) (j : Nat) : entC (es.take j) = (entC es).take (j * 3) := by
  induction es generalizing j with
  | nil => simp [entC]
  | cons a es ih =>
    cases j with
    | zero => simp [entC]
    | succ j =>
      have e1 : entC (a :: es) = a.cells ++ entC es := rfl
      have e2 : (a :: es).take (j + 1) = a :: es.take j := rfl
      have e3 : entC (a :: es.take j) = a.cells ++ entC (es.take j) := rfl
      have hl : a.cells.length = 3 := rfl
      rw [e2, e3, e1, ih j, List.take_append, hl, show (j + 1) * 3 - 3 = j * 3 by omega, List.take_of_length_le (l := a.cells) (by rw [hl]; omega)]
theorem tail_rev (l : List Ent) : (l.tail.reverse.map mapE) = (l.reverse.map mapE).take (l.length - 1) := by
  cases l with
  | nil => rfl
  | cons a l => simp
theorem RS.cells_tail {w : World} {b : Nat} {stk : List Ent} (h : EC w b (stk.reverse.map mapE)) : EC w b (stk.tail.reverse.map mapE) := by
  refine ⟨h.1, ?_⟩
  intro j u hu
  rw [tail_rev, entC_take, List.getElem?_take] at hu
  split at hu
  · exact h.2 j u hu
  · cases hu
set_option maxRecDepth 100000 in
set_option maxHeartbeats 4000000 in
theorem refpop_any {s : PS} {k : Nat} {v : Value} {w : World} (h : RS w v s) (hf : Fit s k) (hk : k ≤ 100000) : Calls Try.prog 70 #[v] w (RetS { s with stk := s.stk.tail } w) := by
  obtain ⟨b, c, rfl, hb, hc, hcell⟩ := h
  have hl := hf.len
  obtain ⟨m, hm, _⟩ := RS.top (w := w) (b := b) hf hcell
  have a1 : IntKind.i64.wrap ((m : Int) + 1 - 1) = (m : Int) := by rw [show (m : Int) + 1 - 1 = m by omega]; exact IntWalk.i64_in _ (by omega)
  have a2 : (0 : Int) ≤ (m : Int) := by omega
  have am : m ≤ 100000 := by omega
  have htl := hide (show s.stk.tail.length = m by rw [List.length_tail, hm]; omega)
  have HC := hide (RS.cells_tail hcell)
  rw [hm] at hc ⊢
  have a3 : (m : Int) ≤ (c : Int) := by omega
  clear hm hf hl hcell
  go_enter Try.func70, Try.ntmps70
  go_wp2_with fail
  refine bodyPost_ret (results_cell_row rfl _ _ (w.heap.size + 1) 72 #[.slice (some ⟨b, 0, none⟩) m c, .int .i64 s.is, .int .i64 s.em, .int .i64 s.nw] (0, 0) _ rfl (heap_at_new _ _ _ (by simp)) Try.underlying72 rfl (by kernel_rfl)) rfl
    ⟨_, rfl, ⟨b, c, by rw [htl.out], by simp; omega, by rw [htl.out]; omega, HC.out.below (((Below.refl _ _).alloc (Nat.le_refl _) _).alloc (by simp) _)⟩, ((Below.refl _ _).alloc (Nat.le_refl _) _).alloc (by simp) _⟩

set_option maxHeartbeats 1000000 in
theorem refnext_any (lv : Int) (left : Bool) (w : World) (h : 0 ≤ lv ∧ lv ≤ 125) : Calls Try.prog 68 #[.int .u8 lv, .bool left] w fun e w' => e = .returned (.int .u8 (nextS lv left)) ∧ w = w' := by
  obtain ⟨h1, h2⟩ := h
  have h3 : 0 ≤ lv % 2 ∧ lv % 2 ≤ 1 := by omega
  obtain ⟨h4, h5⟩ := h3
  have e1 : nextS lv true = lv + 1 + lv % 2 := by
    unfold nextS
    by_cases e : (lv + 1) % 2 = 1
    · rw [decide_eq_true e, if_pos rfl]; omega
    · rw [decide_eq_false e, if_neg (by simp)]; omega
  have e2 : nextS lv false = lv + 2 - lv % 2 := by
    unfold nextS
    by_cases e : (lv + 1) % 2 = 1
    · rw [decide_eq_true e, if_neg (by simp)]; omega
    · rw [decide_eq_false e, if_pos rfl]; omega
  have E1 := hide e1
  have E2 := hide e2
  clear e1 e2
  cases left
  · go_enter Try.func68, Try.ntmps68
    go_wp2_with fail
    go_ret
    exact ⟨by rw [E2.out]; rfl, rfl⟩
  · go_enter Try.func68, Try.ntmps68
    go_wp2_with fail
    go_ret
    exact ⟨by rw [E1.out]; rfl, rfl⟩

/-- a store to a block that holds no entries -/
theorem RS.row {w : World} {v : Value} {s : PS} {g : Nat} {cs old : Array Value} {t : TypeId} {fr : Nat × Nat} (h : RS w v s) (hg : w.heap[g]? = some (.cells old t fr)) (ho : t ≠ 69) : RS (w.setRow g cs) v s := by
  obtain ⟨b, c, h1, h2, h3, h4⟩ := h
  exact ⟨b, c, h1, by rw [setRow_size]; exact h2, h3, h4.same (setRow_other _ _ _ _ (h4.ne hg ho))⟩
/-! ### PDF -/
theorem RS.box {w : World} {b c m : Nat} {v0 v1 v2 : Int} {s : PS} (hb : b < w.heap.size) (hc : m ≤ c) (hm : s.stk.length = m) (h : EC w b (s.stk.reverse.map mapE))
    (h0 : v0 = s.is) (h1 : v1 = s.em) (h2 : v2 = s.nw) : RS w (.agg #[.slice (some ⟨b, 0, none⟩) m c, .int .i64 v0, .int .i64 v1, .int .i64 v2]) s := by
  subst h0; subst h1; subst h2; subst hm
  exact ⟨b, c, rfl, hb, hc, h⟩
theorem cells_below {w w' : World} {b : Nat} {es : List Ent} (h : EC w b es) (hB : Below w.heap.size w w') : EC w' b es := h.below hB
theorem cells_two {w : World} {b : Nat} {es : List Ent} {o1 o2 : Obj} (h : EC w b es) : EC ((w.alloc o1).alloc o2) b es := h.below (((Below.refl _ _).alloc (Nat.le_refl _) _).alloc (by simp) _)
/-- a state's fields, in a block of their own -/
theorem f72 {w : World} {g : Nat} {v0 v1 v2 v3 : Value} (h : w.heap[g]? = some (.cells #[v0, v1, v2, v3] 72 (0, 0))) :
    w.cell? ⟨g, 0, none⟩ = some v0 ∧ w.cell? ⟨g, 1, none⟩ = some v1 ∧ w.cell? ⟨g, 2, none⟩ = some v2 ∧ w.cell? ⟨g, 3, none⟩ = some v3 ∧ ∀ j, w.frozen? ⟨g, j, none⟩ = false :=
  ⟨cell_of_row _ _ _ _ _ _ h, cell_of_row _ _ _ _ _ _ h, cell_of_row _ _ _ _ _ _ h, cell_of_row _ _ _ _ _ _ h, fun j => by simp [World.frozen?, h]⟩
theorem fE0 (a b c : Value) (w : World) : (Instr.field 69 (.agg #[a, b, c]) 0).run Try.prog w = .ok a w := by kernel_rfl
theorem fE1 (a b c : Value) (w : World) : (Instr.field 69 (.agg #[a, b, c]) 1).run Try.prog w = .ok b w := by kernel_rfl
theorem fE2 (a b c : Value) (w : World) : (Instr.field 69 (.agg #[a, b, c]) 2).run Try.prog w = .ok c w := by kernel_rfl
set_option maxRecDepth 100000 in
set_option maxHeartbeats 8000000 in
theorem refends_any {s : PS} {k : Nat} {v : Value} {w : World} (h : RS w v s) (hf : Fit s k) (hk : k ≤ 100000) : Calls Try.prog 40 #[v] w (RetS (endS s) w) := by
  obtain ⟨b, c, rfl, hb, hc, hcell⟩ := id h
  have hl := hf.len
  have hem := hf.em
  obtain ⟨m, hm, _⟩ := RS.top (w := w) (b := b) hf hcell
  have am : m ≤ 100000 := by omega
  have HM := hide hm
  rw [hm] at hc h ⊢
  have hB2 : Below w.heap.size w ((w.alloc (.cells #[.slice (some ⟨b, 0, none⟩) (m + 1) c, .int .i64 s.is, .int .i64 s.em, .int .i64 s.nw] 72)).alloc (.cells #[.slice none 0 0, .int .i64 0, .int .i64 0, .int .i64 0] 72)) := ((Below.refl _ _).alloc (Nat.le_refl _) _).alloc (by simp) _
  have hm1 : s.stk.length = m + 1 := hm
  clear hm hl
  have hl : m ≤ k := by have := hf.len; omega
  clear hm1
  by_cases h1 : 0 < s.is
  · have e := hide (end_a h1)
    have t1 : decide (0 < (s.is : Int)) = true := by simp; omega
    have HC := hide hcell
    clear hcell h hB2
    go_enter Try.func40, Try.ntmps40
    go_wp2_with fail
    refine bodyPost_ret (results_cell_row rfl _ _ (w.heap.size + 1) 72 #[.slice (some ⟨b, 0, none⟩) (m + 1) c, .int .i64 s.is, .int .i64 s.em, .int .i64 s.nw] (0, 0) _ rfl (heap_at_new _ _ _ (by simp)) Try.underlying72 rfl (by kernel_rfl)) rfl ⟨_, rfl, ?_, ((Below.refl _ _).alloc (Nat.le_refl _) _).alloc (by simp) _⟩
    rw [e.out]
    exact RS.box (by simp; omega) hc HM.out (cells_two HC.out) rfl rfl rfl
  · have t1 : decide (0 < (s.is : Int)) = false := by simp; omega
    by_cases h2 : 0 < s.em
    · have e := hide (end_b h1 h2)
      have t2 : decide (0 < (s.em : Int)) = true := by simp; omega
      have HC := hide hcell
      have hw : IntKind.i64.wrap ((s.em : Int) - 1) = (s.em : Int) - 1 := IntWalk.i64_in _ (by omega)
      clear hcell h hB2
      go_enter Try.func40, Try.ntmps40
      go_wp2_with fail
      refine bodyPost_ret (results_cell_row rfl _ _ (w.heap.size + 1) 72 #[.slice (some ⟨b, 0, none⟩) (m + 1) c, .int .i64 s.is, .int .i64 ((s.em : Int) - 1), .int .i64 s.nw] (0, 0) _ rfl (heap_at_new _ _ _ (by simp)) Try.underlying72 rfl (by kernel_rfl)) rfl ⟨_, rfl, ?_, ((Below.refl _ _).alloc (Nat.le_refl _) _).alloc (by simp) _⟩
      rw [e.out]
      exact RS.box (by simp; omega) hc HM.out (cells_two HC.out) rfl (by simp only; omega) rfl
    · have t2 : decide (0 < (s.em : Int)) = false := by simp; omega
      have htop := hide (reftop_any (h.below hB2) hf hk)
      have hfl := fE2
      by_cases hi : s.top.iso = false ∧ 1 < s.stk.length
      · have e := hide (end_e h1 h2 hi)
        have t3 : decide (1 < (m : Int) + 1) = true := by have := hi.2; rw [HM.out] at this; simp; omega
        have hiv : s.top.iso = false := hi.1
        go_enter Try.func40, Try.ntmps40
        go_wp2_with fail
        refine htop.out.mono ?_
        rintro en w2 ⟨rfl, hb2⟩
        have v0 := (hb2.block w.heap.size (by simp; omega)).trans (heap_at_old (.cells #[.slice none 0 0, .int .i64 0, .int .i64 0, .int .i64 0] 72) (heap_at_new w _ (.cells #[.slice (some ⟨b, 0, none⟩) (m + 1) c, .int .i64 s.is, .int .i64 s.em, .int .i64 s.nw] 72) rfl))
        have v1 := (hb2.block (w.heap.size + 1) (by simp)).trans (heap_at_new (w.alloc (.cells #[.slice (some ⟨b, 0, none⟩) (m + 1) c, .int .i64 s.is, .int .i64 s.em, .int .i64 s.nw] 72)) (w.heap.size + 1) (.cells #[.slice none 0 0, .int .i64 0, .int .i64 0, .int .i64 0] 72) (by simp))
        have hs2 := hb2.size
        simp only [World.size_alloc] at hs2
        obtain ⟨p0, p1, p2, p3, _⟩ := f72 v0
        have hB3 := hB2.trans (hb2.mono hB2.size)
        have hRS := (h.below hB2).below hb2
        have hcl3 := hide (cells_below hcell hB3)
        unfold entV
        rw [show (mapE s.top).iso = s.top.iso from rfl]
        rw [hiv]
        generalize (mapE s.top).lv = y0 at *
        generalize (mapE s.top).ov = y1 at *
        have hpop := hide (refpop_any hRS hf hk)
        have H0 := hide v0
        have H1 := hide v1
        clear v0 v1 htop hB2 hcell h
        go_wp2_with fail
        refine hpop.out.mono ?_
        rintro en w3 ⟨v5, rfl, hR5, hb3⟩
        obtain ⟨b5, c5, hv5, hb5, hc5, hcell5⟩ := id hR5
        rw [show ({ s with stk := s.stk.tail } : PS).stk.length = m by simp only [List.length_tail, HM.out]; omega] at hv5 hc5
        subst hv5
        have f1 := (hb3.block (w.heap.size + 1) (by omega)).trans H1.out
        have hB4 := hB3.trans (hb3.mono (by omega))
        have hF := hide f1
        clear f1 p0 p1 p2 p3
        go_wp2_with (refine wpList_store_row rfl 72 (.tmp 2) (.tmp 26) rfl (w.heap.size + 1) #[.slice (some ⟨b5, 0, none⟩) m c5, .int .i64 s.is, .int .i64 s.em, .int .i64 s.nw] rfl rfl 72 _ hF.out (by kernel_rfl) rfl (by simp [Value.oneCell']) ?_)
        refine bodyPost_ret (results_cell_row rfl _ _ (w.heap.size + 1) 72 #[.slice (some ⟨b5, 0, none⟩) m c5, .int .i64 s.is, .int .i64 s.em, .int .i64 s.nw] (0, 0) _ rfl (setRow_heap _ _ _ _ _ _ hF.out) Try.underlying72 rfl (by kernel_rfl)) rfl ⟨_, rfl, ?_, below_setRow hB4 (by omega) _⟩
        rw [e.out]
        exact hR5.row hF.out (by decide)
      · have e := hide (end_c h1 h2 hi)
        have hcase : (s.top.iso = true) ∨ (s.top.iso = false ∧ decide (1 < (m : Int) + 1) = false) := by
          cases hiv : s.top.iso with
          | true => exact .inl rfl
          | false =>
            refine .inr ⟨rfl, ?_⟩
            have : ¬ 1 < s.stk.length := fun h => hi ⟨hiv, h⟩
            rw [HM.out] at this
            simp; omega
        clear hi
        rcases hcase with hiv | ⟨hiv, t3⟩
        all_goals
          go_enter Try.func40, Try.ntmps40
          go_wp2_with fail
          refine htop.out.mono ?_
          rintro en w2 ⟨rfl, hb2⟩
          have v0 := (hb2.block w.heap.size (by simp; omega)).trans (heap_at_old (.cells #[.slice none 0 0, .int .i64 0, .int .i64 0, .int .i64 0] 72) (heap_at_new w _ (.cells #[.slice (some ⟨b, 0, none⟩) (m + 1) c, .int .i64 s.is, .int .i64 s.em, .int .i64 s.nw] 72) rfl))
          have v1 := (hb2.block (w.heap.size + 1) (by simp)).trans (heap_at_new (w.alloc (.cells #[.slice (some ⟨b, 0, none⟩) (m + 1) c, .int .i64 s.is, .int .i64 s.em, .int .i64 s.nw] 72)) (w.heap.size + 1) (.cells #[.slice none 0 0, .int .i64 0, .int .i64 0, .int .i64 0] 72) (by simp))
          have hs2 := hb2.size
          simp only [World.size_alloc] at hs2
          obtain ⟨p0, p1, p2, p3, _⟩ := f72 v0
          have hB3 := hB2.trans (hb2.mono hB2.size)
          have hRS := (h.below hB2).below hb2
          have hcl3 := hide (cells_below hcell hB3)
          unfold entV
          rw [show (mapE s.top).iso = s.top.iso from rfl]
          rw [hiv]
          generalize (mapE s.top).lv = y0 at *
          generalize (mapE s.top).ov = y1 at *
          have hF := hide v1
          clear v0 v1 htop hB2 hcell h
          go_wp2_with (refine wpList_store_row rfl 72 (.tmp 2) (.tmp 27) rfl (w.heap.size + 1) #[.slice (some ⟨b, 0, none⟩) (m + 1) c, .int .i64 s.is, .int .i64 s.em, .int .i64 s.nw] rfl rfl 72 _ hF.out (by kernel_rfl) rfl (by simp [Value.oneCell']) ?_)
          refine bodyPost_ret (results_cell_row rfl _ _ (w.heap.size + 1) 72 #[.slice (some ⟨b, 0, none⟩) (m + 1) c, .int .i64 s.is, .int .i64 s.em, .int .i64 s.nw] (0, 0) _ rfl (setRow_heap _ _ _ _ _ _ hF.out) Try.underlying72 rfl (by kernel_rfl)) rfl ⟨_, rfl, ?_, below_setRow hB3 (by omega) _⟩
          rw [e.out]
          exact RS.row hRS hF.out (by decide)
end Go.Proofs.Ytaojjneajiobnaa

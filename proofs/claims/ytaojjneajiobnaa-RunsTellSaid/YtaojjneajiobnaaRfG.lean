/-
  The reference of layer 19: opened, embeds.
-/
import Derived.Test.YtaojjneajiobnaaRfF
namespace Go.Proofs.Ytaojjneajiobnaa
open Go.RowKit

theorem next_rng {lv : Int} {left : Bool} (h : 0 ≤ lv ∧ lv ≤ 125) : 0 ≤ nextS lv left ∧ nextS lv left ≤ 127 := by unfold nextS; split <;> omega
theorem top_rng {s : PS} {k : Nat} (hf : Fit s k) : 0 ≤ s.top.lv ∧ s.top.lv ≤ 125 := top_u8 hf
set_option maxRecDepth 100000 in
set_option maxHeartbeats 8000000 in
theorem refopened_any {s : PS} {k : Nat} {v : Value} {w : World} (left : Bool) (h : RS w v s) (hf : Fit s k) (hk : k ≤ 99999) : Calls Try.prog 42 #[v, .bool left] w (RetS (openS s left) w) := by
  obtain ⟨b, c, rfl, hb, hc, hcell⟩ := id h
  have his := hf.is
  have hem := hf.em
  have hnw := hf.nw
  have hrng := next_rng (left := left) (top_rng hf)
  obtain ⟨m, hm, _⟩ := RS.top (w := w) (b := b) hf hcell
  have HM := hide hm
  rw [hm] at hc h ⊢
  have hl : m ≤ k := by have := hf.len; omega
  clear hm
  have hB2 : Below w.heap.size w ((w.alloc (.cells #[.slice (some ⟨b, 0, none⟩) (m + 1) c, .int .i64 s.is, .int .i64 s.em, .int .i64 s.nw] 72)).alloc (.cells #[.slice none 0 0, .int .i64 0, .int .i64 0, .int .i64 0] 72)) := ((Below.refl _ _).alloc (Nat.le_refl _) _).alloc (by simp) _
  have htop := hide (reftop_any (h.below hB2) hf (by omega))
  have hfl := fE0
  have hopen : (125 < nextS s.top.lv left ∨ 0 < s.is + s.em) ∨ ¬ (125 < nextS s.top.lv left ∨ 0 < s.is + s.em) := Classical.em _
  have hcase : (Hid (125 < nextS s.top.lv left ∨ 0 < s.is + s.em) ∧ ((decide (nextS s.top.lv left ≤ 125) = false) ∨ (decide (nextS s.top.lv left ≤ 125) = true ∧ ((s.is : Int) == 0) = false) ∨ (decide (nextS s.top.lv left ≤ 125) = true ∧ ((s.is : Int) == 0) = true ∧ ((s.em : Int) == 0) = false))) ∨
      (Hid (¬ (125 < nextS s.top.lv left ∨ 0 < s.is + s.em)) ∧ decide (nextS s.top.lv left ≤ 125) = true ∧ ((s.is : Int) == 0) = true ∧ ((s.em : Int) == 0) = true) := by
    simp only [decide_eq_true_eq, decide_eq_false_iff_not, beq_iff_eq, beq_eq_false_iff_ne, Hid]
    omega
  clear hopen
  rcases hcase with ⟨hc1, t1 | ⟨t1, t2⟩ | ⟨t1, t2, t3⟩⟩ | ⟨hc1, t1, t2, t3⟩
  · have e := hide (open_no hc1.out)
    go_enter Try.func42, Try.ntmps42
    go_wp2_with fail
    refine htop.out.mono ?_
    rintro en w2 ⟨rfl, hb2⟩
    have v0 := (hb2.block w.heap.size (by simp; omega)).trans (heap_at_old (.cells #[.slice none 0 0, .int .i64 0, .int .i64 0, .int .i64 0] 72) (heap_at_new w _ (.cells #[.slice (some ⟨b, 0, none⟩) (m + 1) c, .int .i64 s.is, .int .i64 s.em, .int .i64 s.nw] 72) rfl))
    have v1 := (hb2.block (w.heap.size + 1) (by simp)).trans (heap_at_new (w.alloc (.cells #[.slice (some ⟨b, 0, none⟩) (m + 1) c, .int .i64 s.is, .int .i64 s.em, .int .i64 s.nw] 72)) (w.heap.size + 1) (.cells #[.slice none 0 0, .int .i64 0, .int .i64 0, .int .i64 0] 72) (by simp))
    have hs2 := hb2.size
    simp only [World.size_alloc] at hs2
    obtain ⟨p0, p1, p2, p3, p4⟩ := f72 v0
    have hB3 := hB2.trans (hb2.mono hB2.size)
    unfold entV
    rw [show (mapE s.top).lv = s.top.lv from rfl]
    have f1 := hide ((Below.heap_setCell w2 ⟨w.heap.size, 1, none⟩ (.int .i64 ((s.is : Int) + 1)) (w.heap.size + 1) (by show w.heap.size + 1 ≠ w.heap.size; omega)).trans v1)
    have hB4 := Below.setCell hB3 (p := ⟨w.heap.size, 1, none⟩) (Nat.le_refl _) (.int .i64 ((s.is : Int) + 1))
    have hcl4 := hide (cells_below hcell hB4)
    have hH4 := hide hB4
    clear v0 v1 htop hB2 hcell h hB3 hB4
    have hnx := hide (refnext_any s.top.lv left w2 (top_rng hf))
    have h5 := hide hf
    generalize (mapE s.top).ov = y1 at *
    generalize (mapE s.top).iso = y2 at *
    generalize nextS s.top.lv left = nx at *
    generalize s.top.lv = y0 at *
    go_wp2_with fail
    refine hnx.out.mono ?_
    rintro en w5 ⟨rfl, rfl⟩
    go_wp2_with (refine wpList_store_row rfl 72 (.tmp 4) (.tmp 35) rfl (w.heap.size + 1) #[.slice (some ⟨b, 0, none⟩) (m + 1) c, .int .i64 ((s.is : Int) + 1), .int .i64 s.em, .int .i64 s.nw] rfl rfl 72 _ f1.out (by kernel_rfl) rfl (by simp [Value.oneCell']) ?_)
    refine bodyPost_ret (results_cell_row rfl _ _ (w.heap.size + 1) 72 #[.slice (some ⟨b, 0, none⟩) (m + 1) c, .int .i64 ((s.is : Int) + 1), .int .i64 s.em, .int .i64 s.nw] (0, 0) _ rfl (setRow_heap _ _ _ _ _ _ f1.out) Try.underlying72 rfl (by kernel_rfl)) rfl ⟨_, rfl, ?_, below_setRow hH4.out (by omega) _⟩
    rw [e.out]
    exact RS.row (RS.box (by have := hs2; simp [World.setCell]; omega) hc HM.out hcl4.out (by simp) (by simp) (by simp)) f1.out (by decide)
  · have e := hide (open_no hc1.out)
    go_enter Try.func42, Try.ntmps42
    go_wp2_with fail
    refine htop.out.mono ?_
    rintro en w2 ⟨rfl, hb2⟩
    have v0 := (hb2.block w.heap.size (by simp; omega)).trans (heap_at_old (.cells #[.slice none 0 0, .int .i64 0, .int .i64 0, .int .i64 0] 72) (heap_at_new w _ (.cells #[.slice (some ⟨b, 0, none⟩) (m + 1) c, .int .i64 s.is, .int .i64 s.em, .int .i64 s.nw] 72) rfl))
    have v1 := (hb2.block (w.heap.size + 1) (by simp)).trans (heap_at_new (w.alloc (.cells #[.slice (some ⟨b, 0, none⟩) (m + 1) c, .int .i64 s.is, .int .i64 s.em, .int .i64 s.nw] 72)) (w.heap.size + 1) (.cells #[.slice none 0 0, .int .i64 0, .int .i64 0, .int .i64 0] 72) (by simp))
    have hs2 := hb2.size
    simp only [World.size_alloc] at hs2
    obtain ⟨p0, p1, p2, p3, p4⟩ := f72 v0
    have hB3 := hB2.trans (hb2.mono hB2.size)
    unfold entV
    rw [show (mapE s.top).lv = s.top.lv from rfl]
    have f1 := hide ((Below.heap_setCell w2 ⟨w.heap.size, 1, none⟩ (.int .i64 ((s.is : Int) + 1)) (w.heap.size + 1) (by show w.heap.size + 1 ≠ w.heap.size; omega)).trans v1)
    have hB4 := Below.setCell hB3 (p := ⟨w.heap.size, 1, none⟩) (Nat.le_refl _) (.int .i64 ((s.is : Int) + 1))
    have hcl4 := hide (cells_below hcell hB4)
    have hH4 := hide hB4
    clear v0 v1 htop hB2 hcell h hB3 hB4
    have hnx := hide (refnext_any s.top.lv left w2 (top_rng hf))
    have h5 := hide hf
    generalize (mapE s.top).ov = y1 at *
    generalize (mapE s.top).iso = y2 at *
    generalize nextS s.top.lv left = nx at *
    generalize s.top.lv = y0 at *
    go_wp2_with fail
    refine hnx.out.mono ?_
    rintro en w5 ⟨rfl, rfl⟩
    go_wp2_with (refine wpList_store_row rfl 72 (.tmp 4) (.tmp 35) rfl (w.heap.size + 1) #[.slice (some ⟨b, 0, none⟩) (m + 1) c, .int .i64 ((s.is : Int) + 1), .int .i64 s.em, .int .i64 s.nw] rfl rfl 72 _ f1.out (by kernel_rfl) rfl (by simp [Value.oneCell']) ?_)
    refine bodyPost_ret (results_cell_row rfl _ _ (w.heap.size + 1) 72 #[.slice (some ⟨b, 0, none⟩) (m + 1) c, .int .i64 ((s.is : Int) + 1), .int .i64 s.em, .int .i64 s.nw] (0, 0) _ rfl (setRow_heap _ _ _ _ _ _ f1.out) Try.underlying72 rfl (by kernel_rfl)) rfl ⟨_, rfl, ?_, below_setRow hH4.out (by omega) _⟩
    rw [e.out]
    exact RS.row (RS.box (by have := hs2; simp [World.setCell]; omega) hc HM.out hcl4.out (by simp) (by simp) (by simp)) f1.out (by decide)
  · have e := hide (open_no hc1.out)
    go_enter Try.func42, Try.ntmps42
    go_wp2_with fail
    refine htop.out.mono ?_
    rintro en w2 ⟨rfl, hb2⟩
    have v0 := (hb2.block w.heap.size (by simp; omega)).trans (heap_at_old (.cells #[.slice none 0 0, .int .i64 0, .int .i64 0, .int .i64 0] 72) (heap_at_new w _ (.cells #[.slice (some ⟨b, 0, none⟩) (m + 1) c, .int .i64 s.is, .int .i64 s.em, .int .i64 s.nw] 72) rfl))
    have v1 := (hb2.block (w.heap.size + 1) (by simp)).trans (heap_at_new (w.alloc (.cells #[.slice (some ⟨b, 0, none⟩) (m + 1) c, .int .i64 s.is, .int .i64 s.em, .int .i64 s.nw] 72)) (w.heap.size + 1) (.cells #[.slice none 0 0, .int .i64 0, .int .i64 0, .int .i64 0] 72) (by simp))
    have hs2 := hb2.size
    simp only [World.size_alloc] at hs2
    obtain ⟨p0, p1, p2, p3, p4⟩ := f72 v0
    have hB3 := hB2.trans (hb2.mono hB2.size)
    unfold entV
    rw [show (mapE s.top).lv = s.top.lv from rfl]
    have f1 := hide ((Below.heap_setCell w2 ⟨w.heap.size, 1, none⟩ (.int .i64 ((s.is : Int) + 1)) (w.heap.size + 1) (by show w.heap.size + 1 ≠ w.heap.size; omega)).trans v1)
    have hB4 := Below.setCell hB3 (p := ⟨w.heap.size, 1, none⟩) (Nat.le_refl _) (.int .i64 ((s.is : Int) + 1))
    have hcl4 := hide (cells_below hcell hB4)
    have hH4 := hide hB4
    clear v0 v1 htop hB2 hcell h hB3 hB4
    have hnx := hide (refnext_any s.top.lv left w2 (top_rng hf))
    have h5 := hide hf
    generalize (mapE s.top).ov = y1 at *
    generalize (mapE s.top).iso = y2 at *
    generalize nextS s.top.lv left = nx at *
    generalize s.top.lv = y0 at *
    go_wp2_with fail
    refine hnx.out.mono ?_
    rintro en w5 ⟨rfl, rfl⟩
    go_wp2_with (refine wpList_store_row rfl 72 (.tmp 4) (.tmp 35) rfl (w.heap.size + 1) #[.slice (some ⟨b, 0, none⟩) (m + 1) c, .int .i64 ((s.is : Int) + 1), .int .i64 s.em, .int .i64 s.nw] rfl rfl 72 _ f1.out (by kernel_rfl) rfl (by simp [Value.oneCell']) ?_)
    refine bodyPost_ret (results_cell_row rfl _ _ (w.heap.size + 1) 72 #[.slice (some ⟨b, 0, none⟩) (m + 1) c, .int .i64 ((s.is : Int) + 1), .int .i64 s.em, .int .i64 s.nw] (0, 0) _ rfl (setRow_heap _ _ _ _ _ _ f1.out) Try.underlying72 rfl (by kernel_rfl)) rfl ⟨_, rfl, ?_, below_setRow hH4.out (by omega) _⟩
    rw [e.out]
    exact RS.row (RS.box (by have := hs2; simp [World.setCell]; omega) hc HM.out hcl4.out (by simp) (by simp) (by simp)) f1.out (by decide)
  · have e := hide (show openS s left = { stk := ⟨nextS s.top.lv left, 13, true⟩ :: s.stk, is := s.is, em := s.em, nw := s.nw + 1 } by rw [open_yes hc1.out, push_yes hc1.out])
    go_enter Try.func42, Try.ntmps42
    go_wp2_with fail
    refine htop.out.mono ?_
    rintro en w2 ⟨rfl, hb2⟩
    have v0 := (hb2.block w.heap.size (by simp; omega)).trans (heap_at_old (.cells #[.slice none 0 0, .int .i64 0, .int .i64 0, .int .i64 0] 72) (heap_at_new w _ (.cells #[.slice (some ⟨b, 0, none⟩) (m + 1) c, .int .i64 s.is, .int .i64 s.em, .int .i64 s.nw] 72) rfl))
    have v1 := (hb2.block (w.heap.size + 1) (by simp)).trans (heap_at_new (w.alloc (.cells #[.slice (some ⟨b, 0, none⟩) (m + 1) c, .int .i64 s.is, .int .i64 s.em, .int .i64 s.nw] 72)) (w.heap.size + 1) (.cells #[.slice none 0 0, .int .i64 0, .int .i64 0, .int .i64 0] 72) (by simp))
    have hs2 := hb2.size
    simp only [World.size_alloc] at hs2
    obtain ⟨p0, p1, p2, p3, p4⟩ := f72 v0
    have hB3 := hB2.trans (hb2.mono hB2.size)
    unfold entV
    rw [show (mapE s.top).lv = s.top.lv from rfl]
    have hB4 := Below.setCell hB3 (p := ⟨w.heap.size, 3, none⟩) (Nat.le_refl _) (.int .i64 ((s.nw : Int) + 1))
    have f1 := (Below.heap_setCell w2 ⟨w.heap.size, 3, none⟩ (.int .i64 ((s.nw : Int) + 1)) (w.heap.size + 1) (by show w.heap.size + 1 ≠ w.heap.size; omega)).trans v1
    have hRS := RS.box (s := { s with nw := s.nw + 1 }) (w := w2.setCell ⟨w.heap.size, 3, none⟩ (.int .i64 ((s.nw : Int) + 1))) (b := b) (c := c) (m := m + 1) (v0 := s.is) (v1 := s.em) (v2 := (s.nw : Int) + 1) (by simp [World.setCell]; omega) hc HM.out (cells_below hcell hB4) rfl rfl (by simp)
    have hpush := hide (refpush_any hRS ((hf.mono (Nat.le_succ k)).with s.is s.em (s.nw + 1) (by omega) (by omega) (by omega)) (by omega) ⟨nextS s.top.lv left, 13, true⟩)
    have hsz4 : w.heap.size + 1 + 1 ≤ (w2.setCell ⟨w.heap.size, 3, none⟩ (.int .i64 ((s.nw : Int) + 1))).heap.size := by simp [World.setCell]; omega
    have F1 := hide f1
    have H4 := hide hB4
    clear v0 v1 f1 htop hB2 hcell h hB3 hB4 hRS
    rw [show entV (mapE ⟨nextS s.top.lv left, 13, true⟩) = .agg #[.int .u8 (nextS s.top.lv left), .int .u8 255, .bool true] from rfl] at hpush
    have hnx := hide (refnext_any s.top.lv left w2 (top_rng hf))
    have h5 := hide hf
    generalize (mapE s.top).ov = y1 at *
    generalize (mapE s.top).iso = y2 at *
    generalize nextS s.top.lv left = nx at *
    generalize s.top.lv = y0 at *
    go_wp2_with fail
    refine hnx.out.mono ?_
    rintro en w5 ⟨rfl, rfl⟩
    go_wp2_with fail
    refine hpush.out.mono ?_
    rintro en w6 ⟨v6, rfl, hR6, hb6⟩
    obtain ⟨b6, c6, hv6, hb66, hc6, _⟩ := id hR6
    rw [show ({ ({ s with nw := s.nw + 1 } : PS) with stk := ⟨nx, 13, true⟩ :: s.stk } : PS).stk.length = m + 1 + 1 by simp only [List.length_cons, HM.out]] at hv6 hc6
    subst hv6
    have F6 := hide ((hb6.block (w.heap.size + 1) (by omega)).trans F1.out)
    have H6 := hide (H4.out.trans (hb6.mono (by omega)))
    clear F1
    go_wp2_with (refine wpList_store_row rfl 72 (.tmp 4) (.tmp 30) rfl (w.heap.size + 1) #[.slice (some ⟨b6, 0, none⟩) (m + 1 + 1) c6, .int .i64 s.is, .int .i64 s.em, .int .i64 ((s.nw + 1 : Nat) : Int)] rfl rfl 72 _ F6.out (by kernel_rfl) rfl (by simp [Value.oneCell']) ?_)
    refine bodyPost_ret (results_cell_row rfl _ _ (w.heap.size + 1) 72 #[.slice (some ⟨b6, 0, none⟩) (m + 1 + 1) c6, .int .i64 s.is, .int .i64 s.em, .int .i64 ((s.nw + 1 : Nat) : Int)] (0, 0) _ rfl (setRow_heap _ _ _ _ _ _ F6.out) Try.underlying72 rfl (by kernel_rfl)) rfl ⟨_, rfl, ?_, below_setRow H6.out (by omega) _⟩
    rw [e.out]
    exact hR6.row F6.out (by decide)

set_option maxRecDepth 100000 in
set_option maxHeartbeats 8000000 in
theorem refembeds_any {s : PS} {k : Nat} {v : Value} {w : World} (x : Int) (hx : x = 14 ∨ x = 15 ∨ x = 17 ∨ x = 18) (h : RS w v s) (hf : Fit s k) (hk : k ≤ 99999) : Calls Try.prog 39 #[v, .int .u8 x] w (RetS (embedS s x) w) := by
  obtain ⟨b, c, rfl, hb, hc, hcell⟩ := id h
  have his := hf.is
  have hem := hf.em
  have hnw := hf.nw
  obtain ⟨m, hm, _⟩ := RS.top (w := w) (b := b) hf hcell
  have HM := hide hm
  rw [hm] at hc h ⊢
  have hl : m ≤ k := by have := hf.len; omega
  clear hm
  have hB2 : Below w.heap.size w ((w.alloc (.cells #[.slice (some ⟨b, 0, none⟩) (m + 1) c, .int .i64 s.is, .int .i64 s.em, .int .i64 s.nw] 72)).alloc (.cells #[.slice none 0 0, .int .i64 0, .int .i64 0, .int .i64 0] 72)) := ((Below.refl _ _).alloc (Nat.le_refl _) _).alloc (by simp) _
  have htop := hide (reftop_any (h.below hB2) hf (by omega))
  have hfl := fE0
  have hcase : ∀ left, (Hid (125 < nextS s.top.lv left ∨ 0 < s.is + s.em) ∧ ((decide (nextS s.top.lv left ≤ 125) = false ∧ ((s.is : Int) == 0) = true ∧ Hid (s.is = 0)) ∨ (decide (nextS s.top.lv left ≤ 125) = false ∧ ((s.is : Int) == 0) = false ∧ Hid (s.is ≠ 0)) ∨ (decide (nextS s.top.lv left ≤ 125) = true ∧ ((s.is : Int) == 0) = false ∧ Hid (s.is ≠ 0)) ∨ (decide (nextS s.top.lv left ≤ 125) = true ∧ ((s.is : Int) == 0) = true ∧ ((s.em : Int) == 0) = false ∧ Hid (s.is = 0)))) ∨
      (Hid (¬ (125 < nextS s.top.lv left ∨ 0 < s.is + s.em)) ∧ decide (nextS s.top.lv left ≤ 125) = true ∧ ((s.is : Int) == 0) = true ∧ ((s.em : Int) == 0) = true) := by
    intro left
    simp only [decide_eq_true_eq, decide_eq_false_iff_not, beq_iff_eq, beq_eq_false_iff_ne, Hid]
    omega
  rcases hx with rfl | rfl | rfl | rfl
  · have hrng := next_rng (left := false) (top_rng hf)
    rcases hcase false with ⟨hc1, ⟨t1, t2, t4⟩ | ⟨t1, t2, t4⟩ | ⟨t1, t2, t4⟩ | ⟨t1, t2, t3, t4⟩⟩ | ⟨hc1, t1, t2, t3⟩
    all_goals clear hcase
    · as_aux_lemma =>
      have e := hide (embed_no0 (s := s) (x := 14) hc1.out t4.out)
      go_enter Try.func39, Try.ntmps39
      go_wp2_with fail
      refine htop.out.mono ?_
      rintro en w2 ⟨rfl, hb2⟩
      have v0 := (hb2.block w.heap.size (by simp; omega)).trans (heap_at_old (.cells #[.slice none 0 0, .int .i64 0, .int .i64 0, .int .i64 0] 72) (heap_at_new w _ (.cells #[.slice (some ⟨b, 0, none⟩) (m + 1) c, .int .i64 s.is, .int .i64 s.em, .int .i64 s.nw] 72) rfl))
      have v1 := (hb2.block (w.heap.size + 1) (by simp)).trans (heap_at_new (w.alloc (.cells #[.slice (some ⟨b, 0, none⟩) (m + 1) c, .int .i64 s.is, .int .i64 s.em, .int .i64 s.nw] 72)) (w.heap.size + 1) (.cells #[.slice none 0 0, .int .i64 0, .int .i64 0, .int .i64 0] 72) (by simp))
      have hs2 := hb2.size
      simp only [World.size_alloc] at hs2
      obtain ⟨p0, p1, p2, p3, p4⟩ := f72 v0
      have hB3 := hB2.trans (hb2.mono hB2.size)
      unfold entV
      rw [show (mapE s.top).lv = s.top.lv from rfl]
      have f1 := hide ((Below.heap_setCell w2 ⟨w.heap.size, 2, none⟩ (.int .i64 ((s.em : Int) + 1)) (w.heap.size + 1) (by show w.heap.size + 1 ≠ w.heap.size; omega)).trans v1)
      have hB4 := Below.setCell hB3 (p := ⟨w.heap.size, 2, none⟩) (Nat.le_refl _) (.int .i64 ((s.em : Int) + 1))
      have hcl4 := hide (cells_below hcell hB4)
      have hH4 := hide hB4
      clear v0 v1 htop hB2 hcell h hB3 hB4
      have hnx := hide (refnext_any s.top.lv false w2 (top_rng hf))
      have h5 := hide hf
      generalize (mapE s.top).ov = y1 at *
      generalize (mapE s.top).iso = y2 at *
      generalize nextS s.top.lv false = nx at *
      generalize s.top.lv = y0 at *
      go_wp2_with fail
      refine hnx.out.mono ?_
      rintro en w5 ⟨rfl, rfl⟩
      go_wp2_with (refine wpList_store_row rfl 72 (.tmp 4) (.tmp 47) rfl (w.heap.size + 1) #[.slice (some ⟨b, 0, none⟩) (m + 1) c, .int .i64 s.is, .int .i64 ((s.em : Int) + 1), .int .i64 s.nw] rfl rfl 72 _ f1.out (by kernel_rfl) rfl (by simp [Value.oneCell']) ?_)
      refine bodyPost_ret (results_cell_row rfl _ _ (w.heap.size + 1) 72 #[.slice (some ⟨b, 0, none⟩) (m + 1) c, .int .i64 s.is, .int .i64 ((s.em : Int) + 1), .int .i64 s.nw] (0, 0) _ rfl (setRow_heap _ _ _ _ _ _ f1.out) Try.underlying72 rfl (by kernel_rfl)) rfl ⟨_, rfl, ?_, below_setRow hH4.out (by omega) _⟩
      rw [e.out]
      exact RS.row (RS.box (by have := hs2; simp [World.setCell]; omega) hc HM.out hcl4.out (by simp) (by simp) (by simp)) f1.out (by decide)
    · as_aux_lemma =>
      have e := hide (embed_no1 (s := s) (x := 14) hc1.out t4.out)
      go_enter Try.func39, Try.ntmps39
      go_wp2_with fail
      refine htop.out.mono ?_
      rintro en w2 ⟨rfl, hb2⟩
      have v0 := (hb2.block w.heap.size (by simp; omega)).trans (heap_at_old (.cells #[.slice none 0 0, .int .i64 0, .int .i64 0, .int .i64 0] 72) (heap_at_new w _ (.cells #[.slice (some ⟨b, 0, none⟩) (m + 1) c, .int .i64 s.is, .int .i64 s.em, .int .i64 s.nw] 72) rfl))
      have v1 := (hb2.block (w.heap.size + 1) (by simp)).trans (heap_at_new (w.alloc (.cells #[.slice (some ⟨b, 0, none⟩) (m + 1) c, .int .i64 s.is, .int .i64 s.em, .int .i64 s.nw] 72)) (w.heap.size + 1) (.cells #[.slice none 0 0, .int .i64 0, .int .i64 0, .int .i64 0] 72) (by simp))
      have hs2 := hb2.size
      simp only [World.size_alloc] at hs2
      obtain ⟨p0, p1, p2, p3, p4⟩ := f72 v0
      have hB3 := hB2.trans (hb2.mono hB2.size)
      unfold entV
      rw [show (mapE s.top).lv = s.top.lv from rfl]
      have f1 := hide v1
      have hB4 := hB3
      have hcl4 := hide (cells_below hcell hB4)
      have hH4 := hide hB4
      clear v0 v1 htop hB2 hcell h hB3 hB4
      have hnx := hide (refnext_any s.top.lv false w2 (top_rng hf))
      have h5 := hide hf
      generalize (mapE s.top).ov = y1 at *
      generalize (mapE s.top).iso = y2 at *
      generalize nextS s.top.lv false = nx at *
      generalize s.top.lv = y0 at *
      go_wp2_with fail
      refine hnx.out.mono ?_
      rintro en w5 ⟨rfl, rfl⟩
      go_wp2_with (refine wpList_store_row rfl 72 (.tmp 4) (.tmp 47) rfl (w.heap.size + 1) #[.slice (some ⟨b, 0, none⟩) (m + 1) c, .int .i64 s.is, .int .i64 s.em, .int .i64 s.nw] rfl rfl 72 _ f1.out (by kernel_rfl) rfl (by simp [Value.oneCell']) ?_)
      refine bodyPost_ret (results_cell_row rfl _ _ (w.heap.size + 1) 72 #[.slice (some ⟨b, 0, none⟩) (m + 1) c, .int .i64 s.is, .int .i64 s.em, .int .i64 s.nw] (0, 0) _ rfl (setRow_heap _ _ _ _ _ _ f1.out) Try.underlying72 rfl (by kernel_rfl)) rfl ⟨_, rfl, ?_, below_setRow hH4.out (by omega) _⟩
      rw [e.out]
      exact RS.row (RS.box (by have := hs2; omega) hc HM.out hcl4.out rfl rfl rfl) f1.out (by decide)
    · as_aux_lemma =>
      have e := hide (embed_no1 (s := s) (x := 14) hc1.out t4.out)
      go_enter Try.func39, Try.ntmps39
      go_wp2_with fail
      refine htop.out.mono ?_
      rintro en w2 ⟨rfl, hb2⟩
      have v0 := (hb2.block w.heap.size (by simp; omega)).trans (heap_at_old (.cells #[.slice none 0 0, .int .i64 0, .int .i64 0, .int .i64 0] 72) (heap_at_new w _ (.cells #[.slice (some ⟨b, 0, none⟩) (m + 1) c, .int .i64 s.is, .int .i64 s.em, .int .i64 s.nw] 72) rfl))
      have v1 := (hb2.block (w.heap.size + 1) (by simp)).trans (heap_at_new (w.alloc (.cells #[.slice (some ⟨b, 0, none⟩) (m + 1) c, .int .i64 s.is, .int .i64 s.em, .int .i64 s.nw] 72)) (w.heap.size + 1) (.cells #[.slice none 0 0, .int .i64 0, .int .i64 0, .int .i64 0] 72) (by simp))
      have hs2 := hb2.size
      simp only [World.size_alloc] at hs2
      obtain ⟨p0, p1, p2, p3, p4⟩ := f72 v0
      have hB3 := hB2.trans (hb2.mono hB2.size)
      unfold entV
      rw [show (mapE s.top).lv = s.top.lv from rfl]
      have f1 := hide v1
      have hB4 := hB3
      have hcl4 := hide (cells_below hcell hB4)
      have hH4 := hide hB4
      clear v0 v1 htop hB2 hcell h hB3 hB4
      have hnx := hide (refnext_any s.top.lv false w2 (top_rng hf))
      have h5 := hide hf
      generalize (mapE s.top).ov = y1 at *
      generalize (mapE s.top).iso = y2 at *
      generalize nextS s.top.lv false = nx at *
      generalize s.top.lv = y0 at *
      go_wp2_with fail
      refine hnx.out.mono ?_
      rintro en w5 ⟨rfl, rfl⟩
      go_wp2_with (refine wpList_store_row rfl 72 (.tmp 4) (.tmp 47) rfl (w.heap.size + 1) #[.slice (some ⟨b, 0, none⟩) (m + 1) c, .int .i64 s.is, .int .i64 s.em, .int .i64 s.nw] rfl rfl 72 _ f1.out (by kernel_rfl) rfl (by simp [Value.oneCell']) ?_)
      refine bodyPost_ret (results_cell_row rfl _ _ (w.heap.size + 1) 72 #[.slice (some ⟨b, 0, none⟩) (m + 1) c, .int .i64 s.is, .int .i64 s.em, .int .i64 s.nw] (0, 0) _ rfl (setRow_heap _ _ _ _ _ _ f1.out) Try.underlying72 rfl (by kernel_rfl)) rfl ⟨_, rfl, ?_, below_setRow hH4.out (by omega) _⟩
      rw [e.out]
      exact RS.row (RS.box (by have := hs2; omega) hc HM.out hcl4.out rfl rfl rfl) f1.out (by decide)
    · as_aux_lemma =>
      have e := hide (embed_no0 (s := s) (x := 14) hc1.out t4.out)
      go_enter Try.func39, Try.ntmps39
      go_wp2_with fail
      refine htop.out.mono ?_
      rintro en w2 ⟨rfl, hb2⟩
      have v0 := (hb2.block w.heap.size (by simp; omega)).trans (heap_at_old (.cells #[.slice none 0 0, .int .i64 0, .int .i64 0, .int .i64 0] 72) (heap_at_new w _ (.cells #[.slice (some ⟨b, 0, none⟩) (m + 1) c, .int .i64 s.is, .int .i64 s.em, .int .i64 s.nw] 72) rfl))
      have v1 := (hb2.block (w.heap.size + 1) (by simp)).trans (heap_at_new (w.alloc (.cells #[.slice (some ⟨b, 0, none⟩) (m + 1) c, .int .i64 s.is, .int .i64 s.em, .int .i64 s.nw] 72)) (w.heap.size + 1) (.cells #[.slice none 0 0, .int .i64 0, .int .i64 0, .int .i64 0] 72) (by simp))
      have hs2 := hb2.size
      simp only [World.size_alloc] at hs2
      obtain ⟨p0, p1, p2, p3, p4⟩ := f72 v0
      have hB3 := hB2.trans (hb2.mono hB2.size)
      unfold entV
      rw [show (mapE s.top).lv = s.top.lv from rfl]
      have f1 := hide ((Below.heap_setCell w2 ⟨w.heap.size, 2, none⟩ (.int .i64 ((s.em : Int) + 1)) (w.heap.size + 1) (by show w.heap.size + 1 ≠ w.heap.size; omega)).trans v1)
      have hB4 := Below.setCell hB3 (p := ⟨w.heap.size, 2, none⟩) (Nat.le_refl _) (.int .i64 ((s.em : Int) + 1))
      have hcl4 := hide (cells_below hcell hB4)
      have hH4 := hide hB4
      clear v0 v1 htop hB2 hcell h hB3 hB4
      have hnx := hide (refnext_any s.top.lv false w2 (top_rng hf))
      have h5 := hide hf
      generalize (mapE s.top).ov = y1 at *
      generalize (mapE s.top).iso = y2 at *
      generalize nextS s.top.lv false = nx at *
      generalize s.top.lv = y0 at *
      go_wp2_with fail
      refine hnx.out.mono ?_
      rintro en w5 ⟨rfl, rfl⟩
      go_wp2_with (refine wpList_store_row rfl 72 (.tmp 4) (.tmp 47) rfl (w.heap.size + 1) #[.slice (some ⟨b, 0, none⟩) (m + 1) c, .int .i64 s.is, .int .i64 ((s.em : Int) + 1), .int .i64 s.nw] rfl rfl 72 _ f1.out (by kernel_rfl) rfl (by simp [Value.oneCell']) ?_)
      refine bodyPost_ret (results_cell_row rfl _ _ (w.heap.size + 1) 72 #[.slice (some ⟨b, 0, none⟩) (m + 1) c, .int .i64 s.is, .int .i64 ((s.em : Int) + 1), .int .i64 s.nw] (0, 0) _ rfl (setRow_heap _ _ _ _ _ _ f1.out) Try.underlying72 rfl (by kernel_rfl)) rfl ⟨_, rfl, ?_, below_setRow hH4.out (by omega) _⟩
      rw [e.out]
      exact RS.row (RS.box (by have := hs2; simp [World.setCell]; omega) hc HM.out hcl4.out (by simp) (by simp) (by simp)) f1.out (by decide)
    · as_aux_lemma =>
      have e := hide (show embedS s 14 = { s with stk := ⟨nextS s.top.lv false, 13, false⟩ :: s.stk } by rw [embed_yes (x := 14) hc1.out, push_yes (left := (14 == 15 || 14 == 18)) hc1.out]; rfl)
      go_enter Try.func39, Try.ntmps39
      go_wp2_with fail
      refine htop.out.mono ?_
      rintro en w2 ⟨rfl, hb2⟩
      have v0 := (hb2.block w.heap.size (by simp; omega)).trans (heap_at_old (.cells #[.slice none 0 0, .int .i64 0, .int .i64 0, .int .i64 0] 72) (heap_at_new w _ (.cells #[.slice (some ⟨b, 0, none⟩) (m + 1) c, .int .i64 s.is, .int .i64 s.em, .int .i64 s.nw] 72) rfl))
      have v1 := (hb2.block (w.heap.size + 1) (by simp)).trans (heap_at_new (w.alloc (.cells #[.slice (some ⟨b, 0, none⟩) (m + 1) c, .int .i64 s.is, .int .i64 s.em, .int .i64 s.nw] 72)) (w.heap.size + 1) (.cells #[.slice none 0 0, .int .i64 0, .int .i64 0, .int .i64 0] 72) (by simp))
      have hs2 := hb2.size
      simp only [World.size_alloc] at hs2
      obtain ⟨p0, p1, p2, p3, p4⟩ := f72 v0
      have hB3 := hB2.trans (hb2.mono hB2.size)
      unfold entV
      rw [show (mapE s.top).lv = s.top.lv from rfl]
      have hRS := ((h.below hB2).below hb2).below ((Below.refl w2.heap.size w2).alloc (Nat.le_refl _) (.cells #[.int .u8 (nextS s.top.lv false), .int .u8 255, .bool false] 69))
      have hpush := hide (refpush_any hRS hf (by omega) ⟨nextS s.top.lv false, 13, false⟩)
      have hB4 := hB3.alloc (by omega) (.cells #[.int .u8 (nextS s.top.lv false), .int .u8 255, .bool false] 69)
      have f1 := heap_at_old (.cells #[.int .u8 (nextS s.top.lv false), .int .u8 255, .bool false] 69) v1
      have hsz4 : w.heap.size + 1 + 1 ≤ (w2.alloc (.cells #[.int .u8 (nextS s.top.lv false), .int .u8 255, .bool false] 69)).heap.size := by simp; omega
      have hs5 : w.heap.size < w2.heap.size := by omega
      have F1 := hide f1
      have H4 := hide hB4
      clear v0 v1 f1 htop hB2 hcell h hB3 hB4 hRS
      rw [show entV (mapE ⟨nextS s.top.lv false, 13, false⟩) = .agg #[.int .u8 (nextS s.top.lv false), .int .u8 255, .bool false] from rfl] at hpush
      have hnx := hide (refnext_any s.top.lv false w2 (top_rng hf))
      have h5 := hide hf
      generalize (mapE s.top).ov = y1 at *
      generalize (mapE s.top).iso = y2 at *
      generalize nextS s.top.lv false = nx at *
      generalize s.top.lv = y0 at *
      go_wp2_with fail
      refine hnx.out.mono ?_
      rintro en w5 ⟨rfl, rfl⟩
      go_wp2_with fail
      refine hpush.out.mono ?_
      rintro en w6 ⟨v6, rfl, hR6, hb6⟩
      obtain ⟨b6, c6, hv6, hb66, hc6, _⟩ := id hR6
      rw [show ({ s with stk := ⟨nx, 13, false⟩ :: s.stk } : PS).stk.length = m + 1 + 1 by simp only [List.length_cons, HM.out]] at hv6 hc6
      subst hv6
      have F6 := hide ((hb6.block (w.heap.size + 1) (by omega)).trans F1.out)
      have H6 := hide (H4.out.trans (hb6.mono (by omega)))
      clear F1
      go_wp2_with (refine wpList_store_row rfl 72 (.tmp 4) (.tmp 39) rfl (w.heap.size + 1) #[.slice (some ⟨b6, 0, none⟩) (m + 1 + 1) c6, .int .i64 s.is, .int .i64 s.em, .int .i64 s.nw] rfl rfl 72 _ F6.out (by kernel_rfl) rfl (by simp [Value.oneCell']) ?_)
      refine bodyPost_ret (results_cell_row rfl _ _ (w.heap.size + 1) 72 #[.slice (some ⟨b6, 0, none⟩) (m + 1 + 1) c6, .int .i64 s.is, .int .i64 s.em, .int .i64 s.nw] (0, 0) _ rfl (setRow_heap _ _ _ _ _ _ F6.out) Try.underlying72 rfl (by kernel_rfl)) rfl ⟨_, rfl, ?_, below_setRow H6.out (by omega) _⟩
      rw [e.out]
      exact hR6.row F6.out (by decide)
  · have hrng := next_rng (left := true) (top_rng hf)
    rcases hcase true with ⟨hc1, ⟨t1, t2, t4⟩ | ⟨t1, t2, t4⟩ | ⟨t1, t2, t4⟩ | ⟨t1, t2, t3, t4⟩⟩ | ⟨hc1, t1, t2, t3⟩
    all_goals clear hcase
    · as_aux_lemma =>
      have e := hide (embed_no0 (s := s) (x := 15) hc1.out t4.out)
      go_enter Try.func39, Try.ntmps39
      go_wp2_with fail
      refine htop.out.mono ?_
      rintro en w2 ⟨rfl, hb2⟩
      have v0 := (hb2.block w.heap.size (by simp; omega)).trans (heap_at_old (.cells #[.slice none 0 0, .int .i64 0, .int .i64 0, .int .i64 0] 72) (heap_at_new w _ (.cells #[.slice (some ⟨b, 0, none⟩) (m + 1) c, .int .i64 s.is, .int .i64 s.em, .int .i64 s.nw] 72) rfl))
      have v1 := (hb2.block (w.heap.size + 1) (by simp)).trans (heap_at_new (w.alloc (.cells #[.slice (some ⟨b, 0, none⟩) (m + 1) c, .int .i64 s.is, .int .i64 s.em, .int .i64 s.nw] 72)) (w.heap.size + 1) (.cells #[.slice none 0 0, .int .i64 0, .int .i64 0, .int .i64 0] 72) (by simp))
      have hs2 := hb2.size
      simp only [World.size_alloc] at hs2
      obtain ⟨p0, p1, p2, p3, p4⟩ := f72 v0
      have hB3 := hB2.trans (hb2.mono hB2.size)
      unfold entV
      rw [show (mapE s.top).lv = s.top.lv from rfl]
      have f1 := hide ((Below.heap_setCell w2 ⟨w.heap.size, 2, none⟩ (.int .i64 ((s.em : Int) + 1)) (w.heap.size + 1) (by show w.heap.size + 1 ≠ w.heap.size; omega)).trans v1)
      have hB4 := Below.setCell hB3 (p := ⟨w.heap.size, 2, none⟩) (Nat.le_refl _) (.int .i64 ((s.em : Int) + 1))
      have hcl4 := hide (cells_below hcell hB4)
      have hH4 := hide hB4
      clear v0 v1 htop hB2 hcell h hB3 hB4
      have hnx := hide (refnext_any s.top.lv true w2 (top_rng hf))
      have h5 := hide hf
      generalize (mapE s.top).ov = y1 at *
      generalize (mapE s.top).iso = y2 at *
      generalize nextS s.top.lv true = nx at *
      generalize s.top.lv = y0 at *
      go_wp2_with fail
      refine hnx.out.mono ?_
      rintro en w5 ⟨rfl, rfl⟩
      go_wp2_with (refine wpList_store_row rfl 72 (.tmp 4) (.tmp 47) rfl (w.heap.size + 1) #[.slice (some ⟨b, 0, none⟩) (m + 1) c, .int .i64 s.is, .int .i64 ((s.em : Int) + 1), .int .i64 s.nw] rfl rfl 72 _ f1.out (by kernel_rfl) rfl (by simp [Value.oneCell']) ?_)
      refine bodyPost_ret (results_cell_row rfl _ _ (w.heap.size + 1) 72 #[.slice (some ⟨b, 0, none⟩) (m + 1) c, .int .i64 s.is, .int .i64 ((s.em : Int) + 1), .int .i64 s.nw] (0, 0) _ rfl (setRow_heap _ _ _ _ _ _ f1.out) Try.underlying72 rfl (by kernel_rfl)) rfl ⟨_, rfl, ?_, below_setRow hH4.out (by omega) _⟩
      rw [e.out]
      exact RS.row (RS.box (by have := hs2; simp [World.setCell]; omega) hc HM.out hcl4.out (by simp) (by simp) (by simp)) f1.out (by decide)
    · as_aux_lemma =>
      have e := hide (embed_no1 (s := s) (x := 15) hc1.out t4.out)
      go_enter Try.func39, Try.ntmps39
      go_wp2_with fail
      refine htop.out.mono ?_
      rintro en w2 ⟨rfl, hb2⟩
      have v0 := (hb2.block w.heap.size (by simp; omega)).trans (heap_at_old (.cells #[.slice none 0 0, .int .i64 0, .int .i64 0, .int .i64 0] 72) (heap_at_new w _ (.cells #[.slice (some ⟨b, 0, none⟩) (m + 1) c, .int .i64 s.is, .int .i64 s.em, .int .i64 s.nw] 72) rfl))
      have v1 := (hb2.block (w.heap.size + 1) (by simp)).trans (heap_at_new (w.alloc (.cells #[.slice (some ⟨b, 0, none⟩) (m + 1) c, .int .i64 s.is, .int .i64 s.em, .int .i64 s.nw] 72)) (w.heap.size + 1) (.cells #[.slice none 0 0, .int .i64 0, .int .i64 0, .int .i64 0] 72) (by simp))
      have hs2 := hb2.size
      simp only [World.size_alloc] at hs2
      obtain ⟨p0, p1, p2, p3, p4⟩ := f72 v0
      have hB3 := hB2.trans (hb2.mono hB2.size)
      unfold entV
      rw [show (mapE s.top).lv = s.top.lv from rfl]
      have f1 := hide v1
      have hB4 := hB3
      have hcl4 := hide (cells_below hcell hB4)
      have hH4 := hide hB4
      clear v0 v1 htop hB2 hcell h hB3 hB4
      have hnx := hide (refnext_any s.top.lv true w2 (top_rng hf))
      have h5 := hide hf
      generalize (mapE s.top).ov = y1 at *
      generalize (mapE s.top).iso = y2 at *
      generalize nextS s.top.lv true = nx at *
      generalize s.top.lv = y0 at *
      go_wp2_with fail
      refine hnx.out.mono ?_
      rintro en w5 ⟨rfl, rfl⟩
      go_wp2_with (refine wpList_store_row rfl 72 (.tmp 4) (.tmp 47) rfl (w.heap.size + 1) #[.slice (some ⟨b, 0, none⟩) (m + 1) c, .int .i64 s.is, .int .i64 s.em, .int .i64 s.nw] rfl rfl 72 _ f1.out (by kernel_rfl) rfl (by simp [Value.oneCell']) ?_)
      refine bodyPost_ret (results_cell_row rfl _ _ (w.heap.size + 1) 72 #[.slice (some ⟨b, 0, none⟩) (m + 1) c, .int .i64 s.is, .int .i64 s.em, .int .i64 s.nw] (0, 0) _ rfl (setRow_heap _ _ _ _ _ _ f1.out) Try.underlying72 rfl (by kernel_rfl)) rfl ⟨_, rfl, ?_, below_setRow hH4.out (by omega) _⟩
      rw [e.out]
      exact RS.row (RS.box (by have := hs2; omega) hc HM.out hcl4.out rfl rfl rfl) f1.out (by decide)
    · as_aux_lemma =>
      have e := hide (embed_no1 (s := s) (x := 15) hc1.out t4.out)
      go_enter Try.func39, Try.ntmps39
      go_wp2_with fail
      refine htop.out.mono ?_
      rintro en w2 ⟨rfl, hb2⟩
      have v0 := (hb2.block w.heap.size (by simp; omega)).trans (heap_at_old (.cells #[.slice none 0 0, .int .i64 0, .int .i64 0, .int .i64 0] 72) (heap_at_new w _ (.cells #[.slice (some ⟨b, 0, none⟩) (m + 1) c, .int .i64 s.is, .int .i64 s.em, .int .i64 s.nw] 72) rfl))
      have v1 := (hb2.block (w.heap.size + 1) (by simp)).trans (heap_at_new (w.alloc (.cells #[.slice (some ⟨b, 0, none⟩) (m + 1) c, .int .i64 s.is, .int .i64 s.em, .int .i64 s.nw] 72)) (w.heap.size + 1) (.cells #[.slice none 0 0, .int .i64 0, .int .i64 0, .int .i64 0] 72) (by simp))
      have hs2 := hb2.size
      simp only [World.size_alloc] at hs2
      obtain ⟨p0, p1, p2, p3, p4⟩ := f72 v0
      have hB3 := hB2.trans (hb2.mono hB2.size)
      unfold entV
      rw [show (mapE s.top).lv = s.top.lv from rfl]
      have f1 := hide v1
      have hB4 := hB3
      have hcl4 := hide (cells_below hcell hB4)
      have hH4 := hide hB4
      clear v0 v1 htop hB2 hcell h hB3 hB4
      have hnx := hide (refnext_any s.top.lv true w2 (top_rng hf))
      have h5 := hide hf
      generalize (mapE s.top).ov = y1 at *
      generalize (mapE s.top).iso = y2 at *
      generalize nextS s.top.lv true = nx at *
      generalize s.top.lv = y0 at *
      go_wp2_with fail
      refine hnx.out.mono ?_
      rintro en w5 ⟨rfl, rfl⟩
      go_wp2_with (refine wpList_store_row rfl 72 (.tmp 4) (.tmp 47) rfl (w.heap.size + 1) #[.slice (some ⟨b, 0, none⟩) (m + 1) c, .int .i64 s.is, .int .i64 s.em, .int .i64 s.nw] rfl rfl 72 _ f1.out (by kernel_rfl) rfl (by simp [Value.oneCell']) ?_)
      refine bodyPost_ret (results_cell_row rfl _ _ (w.heap.size + 1) 72 #[.slice (some ⟨b, 0, none⟩) (m + 1) c, .int .i64 s.is, .int .i64 s.em, .int .i64 s.nw] (0, 0) _ rfl (setRow_heap _ _ _ _ _ _ f1.out) Try.underlying72 rfl (by kernel_rfl)) rfl ⟨_, rfl, ?_, below_setRow hH4.out (by omega) _⟩
      rw [e.out]
      exact RS.row (RS.box (by have := hs2; omega) hc HM.out hcl4.out rfl rfl rfl) f1.out (by decide)
    · as_aux_lemma =>
      have e := hide (embed_no0 (s := s) (x := 15) hc1.out t4.out)
      go_enter Try.func39, Try.ntmps39
      go_wp2_with fail
      refine htop.out.mono ?_
      rintro en w2 ⟨rfl, hb2⟩
      have v0 := (hb2.block w.heap.size (by simp; omega)).trans (heap_at_old (.cells #[.slice none 0 0, .int .i64 0, .int .i64 0, .int .i64 0] 72) (heap_at_new w _ (.cells #[.slice (some ⟨b, 0, none⟩) (m + 1) c, .int .i64 s.is, .int .i64 s.em, .int .i64 s.nw] 72) rfl))
      have v1 := (hb2.block (w.heap.size + 1) (by simp)).trans (heap_at_new (w.alloc (.cells #[.slice (some ⟨b, 0, none⟩) (m + 1) c, .int .i64 s.is, .int .i64 s.em, .int .i64 s.nw] 72)) (w.heap.size + 1) (.cells #[.slice none 0 0, .int .i64 0, .int .i64 0, .int .i64 0] 72) (by simp))
      have hs2 := hb2.size
      simp only [World.size_alloc] at hs2
      obtain ⟨p0, p1, p2, p3, p4⟩ := f72 v0
      have hB3 := hB2.trans (hb2.mono hB2.size)
      unfold entV
      rw [show (mapE s.top).lv = s.top.lv from rfl]
      have f1 := hide ((Below.heap_setCell w2 ⟨w.heap.size, 2, none⟩ (.int .i64 ((s.em : Int) + 1)) (w.heap.size + 1) (by show w.heap.size + 1 ≠ w.heap.size; omega)).trans v1)
      have hB4 := Below.setCell hB3 (p := ⟨w.heap.size, 2, none⟩) (Nat.le_refl _) (.int .i64 ((s.em : Int) + 1))
      have hcl4 := hide (cells_below hcell hB4)
      have hH4 := hide hB4
      clear v0 v1 htop hB2 hcell h hB3 hB4
      have hnx := hide (refnext_any s.top.lv true w2 (top_rng hf))
      have h5 := hide hf
      generalize (mapE s.top).ov = y1 at *
      generalize (mapE s.top).iso = y2 at *
      generalize nextS s.top.lv true = nx at *
      generalize s.top.lv = y0 at *
      go_wp2_with fail
      refine hnx.out.mono ?_
      rintro en w5 ⟨rfl, rfl⟩
      go_wp2_with (refine wpList_store_row rfl 72 (.tmp 4) (.tmp 47) rfl (w.heap.size + 1) #[.slice (some ⟨b, 0, none⟩) (m + 1) c, .int .i64 s.is, .int .i64 ((s.em : Int) + 1), .int .i64 s.nw] rfl rfl 72 _ f1.out (by kernel_rfl) rfl (by simp [Value.oneCell']) ?_)
      refine bodyPost_ret (results_cell_row rfl _ _ (w.heap.size + 1) 72 #[.slice (some ⟨b, 0, none⟩) (m + 1) c, .int .i64 s.is, .int .i64 ((s.em : Int) + 1), .int .i64 s.nw] (0, 0) _ rfl (setRow_heap _ _ _ _ _ _ f1.out) Try.underlying72 rfl (by kernel_rfl)) rfl ⟨_, rfl, ?_, below_setRow hH4.out (by omega) _⟩
      rw [e.out]
      exact RS.row (RS.box (by have := hs2; simp [World.setCell]; omega) hc HM.out hcl4.out (by simp) (by simp) (by simp)) f1.out (by decide)
    · as_aux_lemma =>
      have e := hide (show embedS s 15 = { s with stk := ⟨nextS s.top.lv true, 13, false⟩ :: s.stk } by rw [embed_yes (x := 15) hc1.out, push_yes (left := (15 == 15 || 15 == 18)) hc1.out]; rfl)
      go_enter Try.func39, Try.ntmps39
      go_wp2_with fail
      refine htop.out.mono ?_
      rintro en w2 ⟨rfl, hb2⟩
      have v0 := (hb2.block w.heap.size (by simp; omega)).trans (heap_at_old (.cells #[.slice none 0 0, .int .i64 0, .int .i64 0, .int .i64 0] 72) (heap_at_new w _ (.cells #[.slice (some ⟨b, 0, none⟩) (m + 1) c, .int .i64 s.is, .int .i64 s.em, .int .i64 s.nw] 72) rfl))
      have v1 := (hb2.block (w.heap.size + 1) (by simp)).trans (heap_at_new (w.alloc (.cells #[.slice (some ⟨b, 0, none⟩) (m + 1) c, .int .i64 s.is, .int .i64 s.em, .int .i64 s.nw] 72)) (w.heap.size + 1) (.cells #[.slice none 0 0, .int .i64 0, .int .i64 0, .int .i64 0] 72) (by simp))
      have hs2 := hb2.size
      simp only [World.size_alloc] at hs2
      obtain ⟨p0, p1, p2, p3, p4⟩ := f72 v0
      have hB3 := hB2.trans (hb2.mono hB2.size)
      unfold entV
      rw [show (mapE s.top).lv = s.top.lv from rfl]
      have hRS := ((h.below hB2).below hb2).below ((Below.refl w2.heap.size w2).alloc (Nat.le_refl _) (.cells #[.int .u8 (nextS s.top.lv true), .int .u8 255, .bool false] 69))
      have hpush := hide (refpush_any hRS hf (by omega) ⟨nextS s.top.lv true, 13, false⟩)
      have hB4 := hB3.alloc (by omega) (.cells #[.int .u8 (nextS s.top.lv true), .int .u8 255, .bool false] 69)
      have f1 := heap_at_old (.cells #[.int .u8 (nextS s.top.lv true), .int .u8 255, .bool false] 69) v1
      have hsz4 : w.heap.size + 1 + 1 ≤ (w2.alloc (.cells #[.int .u8 (nextS s.top.lv true), .int .u8 255, .bool false] 69)).heap.size := by simp; omega
      have hs5 : w.heap.size < w2.heap.size := by omega
      have F1 := hide f1
      have H4 := hide hB4
      clear v0 v1 f1 htop hB2 hcell h hB3 hB4 hRS
      rw [show entV (mapE ⟨nextS s.top.lv true, 13, false⟩) = .agg #[.int .u8 (nextS s.top.lv true), .int .u8 255, .bool false] from rfl] at hpush
      have hnx := hide (refnext_any s.top.lv true w2 (top_rng hf))
      have h5 := hide hf
      generalize (mapE s.top).ov = y1 at *
      generalize (mapE s.top).iso = y2 at *
      generalize nextS s.top.lv true = nx at *
      generalize s.top.lv = y0 at *
      go_wp2_with fail
      refine hnx.out.mono ?_
      rintro en w5 ⟨rfl, rfl⟩
      go_wp2_with fail
      refine hpush.out.mono ?_
      rintro en w6 ⟨v6, rfl, hR6, hb6⟩
      obtain ⟨b6, c6, hv6, hb66, hc6, _⟩ := id hR6
      rw [show ({ s with stk := ⟨nx, 13, false⟩ :: s.stk } : PS).stk.length = m + 1 + 1 by simp only [List.length_cons, HM.out]] at hv6 hc6
      subst hv6
      have F6 := hide ((hb6.block (w.heap.size + 1) (by omega)).trans F1.out)
      have H6 := hide (H4.out.trans (hb6.mono (by omega)))
      clear F1
      go_wp2_with (refine wpList_store_row rfl 72 (.tmp 4) (.tmp 39) rfl (w.heap.size + 1) #[.slice (some ⟨b6, 0, none⟩) (m + 1 + 1) c6, .int .i64 s.is, .int .i64 s.em, .int .i64 s.nw] rfl rfl 72 _ F6.out (by kernel_rfl) rfl (by simp [Value.oneCell']) ?_)
      refine bodyPost_ret (results_cell_row rfl _ _ (w.heap.size + 1) 72 #[.slice (some ⟨b6, 0, none⟩) (m + 1 + 1) c6, .int .i64 s.is, .int .i64 s.em, .int .i64 s.nw] (0, 0) _ rfl (setRow_heap _ _ _ _ _ _ F6.out) Try.underlying72 rfl (by kernel_rfl)) rfl ⟨_, rfl, ?_, below_setRow H6.out (by omega) _⟩
      rw [e.out]
      exact hR6.row F6.out (by decide)
  · have hrng := next_rng (left := false) (top_rng hf)
    rcases hcase false with ⟨hc1, ⟨t1, t2, t4⟩ | ⟨t1, t2, t4⟩ | ⟨t1, t2, t4⟩ | ⟨t1, t2, t3, t4⟩⟩ | ⟨hc1, t1, t2, t3⟩
    all_goals clear hcase
    · as_aux_lemma =>
      have e := hide (embed_no0 (s := s) (x := 17) hc1.out t4.out)
      go_enter Try.func39, Try.ntmps39
      go_wp2_with fail
      refine htop.out.mono ?_
      rintro en w2 ⟨rfl, hb2⟩
      have v0 := (hb2.block w.heap.size (by simp; omega)).trans (heap_at_old (.cells #[.slice none 0 0, .int .i64 0, .int .i64 0, .int .i64 0] 72) (heap_at_new w _ (.cells #[.slice (some ⟨b, 0, none⟩) (m + 1) c, .int .i64 s.is, .int .i64 s.em, .int .i64 s.nw] 72) rfl))
      have v1 := (hb2.block (w.heap.size + 1) (by simp)).trans (heap_at_new (w.alloc (.cells #[.slice (some ⟨b, 0, none⟩) (m + 1) c, .int .i64 s.is, .int .i64 s.em, .int .i64 s.nw] 72)) (w.heap.size + 1) (.cells #[.slice none 0 0, .int .i64 0, .int .i64 0, .int .i64 0] 72) (by simp))
      have hs2 := hb2.size
      simp only [World.size_alloc] at hs2
      obtain ⟨p0, p1, p2, p3, p4⟩ := f72 v0
      have hB3 := hB2.trans (hb2.mono hB2.size)
      unfold entV
      rw [show (mapE s.top).lv = s.top.lv from rfl]
      have f1 := hide ((Below.heap_setCell w2 ⟨w.heap.size, 2, none⟩ (.int .i64 ((s.em : Int) + 1)) (w.heap.size + 1) (by show w.heap.size + 1 ≠ w.heap.size; omega)).trans v1)
      have hB4 := Below.setCell hB3 (p := ⟨w.heap.size, 2, none⟩) (Nat.le_refl _) (.int .i64 ((s.em : Int) + 1))
      have hcl4 := hide (cells_below hcell hB4)
      have hH4 := hide hB4
      clear v0 v1 htop hB2 hcell h hB3 hB4
      have hnx := hide (refnext_any s.top.lv false w2 (top_rng hf))
      have h5 := hide hf
      generalize (mapE s.top).ov = y1 at *
      generalize (mapE s.top).iso = y2 at *
      generalize nextS s.top.lv false = nx at *
      generalize s.top.lv = y0 at *
      go_wp2_with fail
      refine hnx.out.mono ?_
      rintro en w5 ⟨rfl, rfl⟩
      go_wp2_with (refine wpList_store_row rfl 72 (.tmp 4) (.tmp 47) rfl (w.heap.size + 1) #[.slice (some ⟨b, 0, none⟩) (m + 1) c, .int .i64 s.is, .int .i64 ((s.em : Int) + 1), .int .i64 s.nw] rfl rfl 72 _ f1.out (by kernel_rfl) rfl (by simp [Value.oneCell']) ?_)
      refine bodyPost_ret (results_cell_row rfl _ _ (w.heap.size + 1) 72 #[.slice (some ⟨b, 0, none⟩) (m + 1) c, .int .i64 s.is, .int .i64 ((s.em : Int) + 1), .int .i64 s.nw] (0, 0) _ rfl (setRow_heap _ _ _ _ _ _ f1.out) Try.underlying72 rfl (by kernel_rfl)) rfl ⟨_, rfl, ?_, below_setRow hH4.out (by omega) _⟩
      rw [e.out]
      exact RS.row (RS.box (by have := hs2; simp [World.setCell]; omega) hc HM.out hcl4.out (by simp) (by simp) (by simp)) f1.out (by decide)
    · as_aux_lemma =>
      have e := hide (embed_no1 (s := s) (x := 17) hc1.out t4.out)
      go_enter Try.func39, Try.ntmps39
      go_wp2_with fail
      refine htop.out.mono ?_
      rintro en w2 ⟨rfl, hb2⟩
      have v0 := (hb2.block w.heap.size (by simp; omega)).trans (heap_at_old (.cells #[.slice none 0 0, .int .i64 0, .int .i64 0, .int .i64 0] 72) (heap_at_new w _ (.cells #[.slice (some ⟨b, 0, none⟩) (m + 1) c, .int .i64 s.is, .int .i64 s.em, .int .i64 s.nw] 72) rfl))
      have v1 := (hb2.block (w.heap.size + 1) (by simp)).trans (heap_at_new (w.alloc (.cells #[.slice (some ⟨b, 0, none⟩) (m + 1) c, .int .i64 s.is, .int .i64 s.em, .int .i64 s.nw] 72)) (w.heap.size + 1) (.cells #[.slice none 0 0, .int .i64 0, .int .i64 0, .int .i64 0] 72) (by simp))
      have hs2 := hb2.size
      simp only [World.size_alloc] at hs2
      obtain ⟨p0, p1, p2, p3, p4⟩ := f72 v0
      have hB3 := hB2.trans (hb2.mono hB2.size)
      unfold entV
      rw [show (mapE s.top).lv = s.top.lv from rfl]
      have f1 := hide v1
      have hB4 := hB3
      have hcl4 := hide (cells_below hcell hB4)
      have hH4 := hide hB4
      clear v0 v1 htop hB2 hcell h hB3 hB4
      have hnx := hide (refnext_any s.top.lv false w2 (top_rng hf))
      have h5 := hide hf
      generalize (mapE s.top).ov = y1 at *
      generalize (mapE s.top).iso = y2 at *
      generalize nextS s.top.lv false = nx at *
      generalize s.top.lv = y0 at *
      go_wp2_with fail
      refine hnx.out.mono ?_
      rintro en w5 ⟨rfl, rfl⟩
      go_wp2_with (refine wpList_store_row rfl 72 (.tmp 4) (.tmp 47) rfl (w.heap.size + 1) #[.slice (some ⟨b, 0, none⟩) (m + 1) c, .int .i64 s.is, .int .i64 s.em, .int .i64 s.nw] rfl rfl 72 _ f1.out (by kernel_rfl) rfl (by simp [Value.oneCell']) ?_)
      refine bodyPost_ret (results_cell_row rfl _ _ (w.heap.size + 1) 72 #[.slice (some ⟨b, 0, none⟩) (m + 1) c, .int .i64 s.is, .int .i64 s.em, .int .i64 s.nw] (0, 0) _ rfl (setRow_heap _ _ _ _ _ _ f1.out) Try.underlying72 rfl (by kernel_rfl)) rfl ⟨_, rfl, ?_, below_setRow hH4.out (by omega) _⟩
      rw [e.out]
      exact RS.row (RS.box (by have := hs2; omega) hc HM.out hcl4.out rfl rfl rfl) f1.out (by decide)
    · as_aux_lemma =>
      have e := hide (embed_no1 (s := s) (x := 17) hc1.out t4.out)
      go_enter Try.func39, Try.ntmps39
      go_wp2_with fail
      refine htop.out.mono ?_
      rintro en w2 ⟨rfl, hb2⟩
      have v0 := (hb2.block w.heap.size (by simp; omega)).trans (heap_at_old (.cells #[.slice none 0 0, .int .i64 0, .int .i64 0, .int .i64 0] 72) (heap_at_new w _ (.cells #[.slice (some ⟨b, 0, none⟩) (m + 1) c, .int .i64 s.is, .int .i64 s.em, .int .i64 s.nw] 72) rfl))
      have v1 := (hb2.block (w.heap.size + 1) (by simp)).trans (heap_at_new (w.alloc (.cells #[.slice (some ⟨b, 0, none⟩) (m + 1) c, .int .i64 s.is, .int .i64 s.em, .int .i64 s.nw] 72)) (w.heap.size + 1) (.cells #[.slice none 0 0, .int .i64 0, .int .i64 0, .int .i64 0] 72) (by simp))
      have hs2 := hb2.size
      simp only [World.size_alloc] at hs2
      obtain ⟨p0, p1, p2, p3, p4⟩ := f72 v0
      have hB3 := hB2.trans (hb2.mono hB2.size)
      unfold entV
      rw [show (mapE s.top).lv = s.top.lv from rfl]
      have f1 := hide v1
      have hB4 := hB3
      have hcl4 := hide (cells_below hcell hB4)
      have hH4 := hide hB4
      clear v0 v1 htop hB2 hcell h hB3 hB4
      have hnx := hide (refnext_any s.top.lv false w2 (top_rng hf))
      have h5 := hide hf
      generalize (mapE s.top).ov = y1 at *
      generalize (mapE s.top).iso = y2 at *
      generalize nextS s.top.lv false = nx at *
      generalize s.top.lv = y0 at *
      go_wp2_with fail
      refine hnx.out.mono ?_
      rintro en w5 ⟨rfl, rfl⟩
      go_wp2_with (refine wpList_store_row rfl 72 (.tmp 4) (.tmp 47) rfl (w.heap.size + 1) #[.slice (some ⟨b, 0, none⟩) (m + 1) c, .int .i64 s.is, .int .i64 s.em, .int .i64 s.nw] rfl rfl 72 _ f1.out (by kernel_rfl) rfl (by simp [Value.oneCell']) ?_)
      refine bodyPost_ret (results_cell_row rfl _ _ (w.heap.size + 1) 72 #[.slice (some ⟨b, 0, none⟩) (m + 1) c, .int .i64 s.is, .int .i64 s.em, .int .i64 s.nw] (0, 0) _ rfl (setRow_heap _ _ _ _ _ _ f1.out) Try.underlying72 rfl (by kernel_rfl)) rfl ⟨_, rfl, ?_, below_setRow hH4.out (by omega) _⟩
      rw [e.out]
      exact RS.row (RS.box (by have := hs2; omega) hc HM.out hcl4.out rfl rfl rfl) f1.out (by decide)
    · as_aux_lemma =>
      have e := hide (embed_no0 (s := s) (x := 17) hc1.out t4.out)
      go_enter Try.func39, Try.ntmps39
      go_wp2_with fail
      refine htop.out.mono ?_
      rintro en w2 ⟨rfl, hb2⟩
      have v0 := (hb2.block w.heap.size (by simp; omega)).trans (heap_at_old (.cells #[.slice none 0 0, .int .i64 0, .int .i64 0, .int .i64 0] 72) (heap_at_new w _ (.cells #[.slice (some ⟨b, 0, none⟩) (m + 1) c, .int .i64 s.is, .int .i64 s.em, .int .i64 s.nw] 72) rfl))
      have v1 := (hb2.block (w.heap.size + 1) (by simp)).trans (heap_at_new (w.alloc (.cells #[.slice (some ⟨b, 0, none⟩) (m + 1) c, .int .i64 s.is, .int .i64 s.em, .int .i64 s.nw] 72)) (w.heap.size + 1) (.cells #[.slice none 0 0, .int .i64 0, .int .i64 0, .int .i64 0] 72) (by simp))
      have hs2 := hb2.size
      simp only [World.size_alloc] at hs2
      obtain ⟨p0, p1, p2, p3, p4⟩ := f72 v0
      have hB3 := hB2.trans (hb2.mono hB2.size)
      unfold entV
      rw [show (mapE s.top).lv = s.top.lv from rfl]
      have f1 := hide ((Below.heap_setCell w2 ⟨w.heap.size, 2, none⟩ (.int .i64 ((s.em : Int) + 1)) (w.heap.size + 1) (by show w.heap.size + 1 ≠ w.heap.size; omega)).trans v1)
      have hB4 := Below.setCell hB3 (p := ⟨w.heap.size, 2, none⟩) (Nat.le_refl _) (.int .i64 ((s.em : Int) + 1))
      have hcl4 := hide (cells_below hcell hB4)
      have hH4 := hide hB4
      clear v0 v1 htop hB2 hcell h hB3 hB4
      have hnx := hide (refnext_any s.top.lv false w2 (top_rng hf))
      have h5 := hide hf
      generalize (mapE s.top).ov = y1 at *
      generalize (mapE s.top).iso = y2 at *
      generalize nextS s.top.lv false = nx at *
      generalize s.top.lv = y0 at *
      go_wp2_with fail
      refine hnx.out.mono ?_
      rintro en w5 ⟨rfl, rfl⟩
      go_wp2_with (refine wpList_store_row rfl 72 (.tmp 4) (.tmp 47) rfl (w.heap.size + 1) #[.slice (some ⟨b, 0, none⟩) (m + 1) c, .int .i64 s.is, .int .i64 ((s.em : Int) + 1), .int .i64 s.nw] rfl rfl 72 _ f1.out (by kernel_rfl) rfl (by simp [Value.oneCell']) ?_)
      refine bodyPost_ret (results_cell_row rfl _ _ (w.heap.size + 1) 72 #[.slice (some ⟨b, 0, none⟩) (m + 1) c, .int .i64 s.is, .int .i64 ((s.em : Int) + 1), .int .i64 s.nw] (0, 0) _ rfl (setRow_heap _ _ _ _ _ _ f1.out) Try.underlying72 rfl (by kernel_rfl)) rfl ⟨_, rfl, ?_, below_setRow hH4.out (by omega) _⟩
      rw [e.out]
      exact RS.row (RS.box (by have := hs2; simp [World.setCell]; omega) hc HM.out hcl4.out (by simp) (by simp) (by simp)) f1.out (by decide)
    · as_aux_lemma =>
      have e := hide (show embedS s 17 = { s with stk := ⟨nextS s.top.lv false, 0, false⟩ :: s.stk } by rw [embed_yes (x := 17) hc1.out, push_yes (left := (17 == 15 || 17 == 18)) hc1.out]; rfl)
      go_enter Try.func39, Try.ntmps39
      go_wp2_with fail
      refine htop.out.mono ?_
      rintro en w2 ⟨rfl, hb2⟩
      have v0 := (hb2.block w.heap.size (by simp; omega)).trans (heap_at_old (.cells #[.slice none 0 0, .int .i64 0, .int .i64 0, .int .i64 0] 72) (heap_at_new w _ (.cells #[.slice (some ⟨b, 0, none⟩) (m + 1) c, .int .i64 s.is, .int .i64 s.em, .int .i64 s.nw] 72) rfl))
      have v1 := (hb2.block (w.heap.size + 1) (by simp)).trans (heap_at_new (w.alloc (.cells #[.slice (some ⟨b, 0, none⟩) (m + 1) c, .int .i64 s.is, .int .i64 s.em, .int .i64 s.nw] 72)) (w.heap.size + 1) (.cells #[.slice none 0 0, .int .i64 0, .int .i64 0, .int .i64 0] 72) (by simp))
      have hs2 := hb2.size
      simp only [World.size_alloc] at hs2
      obtain ⟨p0, p1, p2, p3, p4⟩ := f72 v0
      have hB3 := hB2.trans (hb2.mono hB2.size)
      unfold entV
      rw [show (mapE s.top).lv = s.top.lv from rfl]
      have hRS := ((h.below hB2).below hb2).below ((Below.refl w2.heap.size w2).alloc (Nat.le_refl _) (.cells #[.int .u8 (nextS s.top.lv false), .int .u8 0, .bool false] 69))
      have hpush := hide (refpush_any hRS hf (by omega) ⟨nextS s.top.lv false, 0, false⟩)
      have hB4 := hB3.alloc (by omega) (.cells #[.int .u8 (nextS s.top.lv false), .int .u8 0, .bool false] 69)
      have f1 := heap_at_old (.cells #[.int .u8 (nextS s.top.lv false), .int .u8 0, .bool false] 69) v1
      have hsz4 : w.heap.size + 1 + 1 ≤ (w2.alloc (.cells #[.int .u8 (nextS s.top.lv false), .int .u8 0, .bool false] 69)).heap.size := by simp; omega
      have hs5 : w.heap.size < w2.heap.size := by omega
      have F1 := hide f1
      have H4 := hide hB4
      clear v0 v1 f1 htop hB2 hcell h hB3 hB4 hRS
      rw [show entV (mapE ⟨nextS s.top.lv false, 0, false⟩) = .agg #[.int .u8 (nextS s.top.lv false), .int .u8 0, .bool false] from rfl] at hpush
      have hnx := hide (refnext_any s.top.lv false w2 (top_rng hf))
      have h5 := hide hf
      generalize (mapE s.top).ov = y1 at *
      generalize (mapE s.top).iso = y2 at *
      generalize nextS s.top.lv false = nx at *
      generalize s.top.lv = y0 at *
      go_wp2_with fail
      refine hnx.out.mono ?_
      rintro en w5 ⟨rfl, rfl⟩
      go_wp2_with fail
      refine hpush.out.mono ?_
      rintro en w6 ⟨v6, rfl, hR6, hb6⟩
      obtain ⟨b6, c6, hv6, hb66, hc6, _⟩ := id hR6
      rw [show ({ s with stk := ⟨nx, 0, false⟩ :: s.stk } : PS).stk.length = m + 1 + 1 by simp only [List.length_cons, HM.out]] at hv6 hc6
      subst hv6
      have F6 := hide ((hb6.block (w.heap.size + 1) (by omega)).trans F1.out)
      have H6 := hide (H4.out.trans (hb6.mono (by omega)))
      clear F1
      go_wp2_with (refine wpList_store_row rfl 72 (.tmp 4) (.tmp 39) rfl (w.heap.size + 1) #[.slice (some ⟨b6, 0, none⟩) (m + 1 + 1) c6, .int .i64 s.is, .int .i64 s.em, .int .i64 s.nw] rfl rfl 72 _ F6.out (by kernel_rfl) rfl (by simp [Value.oneCell']) ?_)
      refine bodyPost_ret (results_cell_row rfl _ _ (w.heap.size + 1) 72 #[.slice (some ⟨b6, 0, none⟩) (m + 1 + 1) c6, .int .i64 s.is, .int .i64 s.em, .int .i64 s.nw] (0, 0) _ rfl (setRow_heap _ _ _ _ _ _ F6.out) Try.underlying72 rfl (by kernel_rfl)) rfl ⟨_, rfl, ?_, below_setRow H6.out (by omega) _⟩
      rw [e.out]
      exact hR6.row F6.out (by decide)
  · have hrng := next_rng (left := true) (top_rng hf)
    rcases hcase true with ⟨hc1, ⟨t1, t2, t4⟩ | ⟨t1, t2, t4⟩ | ⟨t1, t2, t4⟩ | ⟨t1, t2, t3, t4⟩⟩ | ⟨hc1, t1, t2, t3⟩
    all_goals clear hcase
    · as_aux_lemma =>
      have e := hide (embed_no0 (s := s) (x := 18) hc1.out t4.out)
      go_enter Try.func39, Try.ntmps39
      go_wp2_with fail
      refine htop.out.mono ?_
      rintro en w2 ⟨rfl, hb2⟩
      have v0 := (hb2.block w.heap.size (by simp; omega)).trans (heap_at_old (.cells #[.slice none 0 0, .int .i64 0, .int .i64 0, .int .i64 0] 72) (heap_at_new w _ (.cells #[.slice (some ⟨b, 0, none⟩) (m + 1) c, .int .i64 s.is, .int .i64 s.em, .int .i64 s.nw] 72) rfl))
      have v1 := (hb2.block (w.heap.size + 1) (by simp)).trans (heap_at_new (w.alloc (.cells #[.slice (some ⟨b, 0, none⟩) (m + 1) c, .int .i64 s.is, .int .i64 s.em, .int .i64 s.nw] 72)) (w.heap.size + 1) (.cells #[.slice none 0 0, .int .i64 0, .int .i64 0, .int .i64 0] 72) (by simp))
      have hs2 := hb2.size
      simp only [World.size_alloc] at hs2
      obtain ⟨p0, p1, p2, p3, p4⟩ := f72 v0
      have hB3 := hB2.trans (hb2.mono hB2.size)
      unfold entV
      rw [show (mapE s.top).lv = s.top.lv from rfl]
      have f1 := hide ((Below.heap_setCell w2 ⟨w.heap.size, 2, none⟩ (.int .i64 ((s.em : Int) + 1)) (w.heap.size + 1) (by show w.heap.size + 1 ≠ w.heap.size; omega)).trans v1)
      have hB4 := Below.setCell hB3 (p := ⟨w.heap.size, 2, none⟩) (Nat.le_refl _) (.int .i64 ((s.em : Int) + 1))
      have hcl4 := hide (cells_below hcell hB4)
      have hH4 := hide hB4
      clear v0 v1 htop hB2 hcell h hB3 hB4
      have hnx := hide (refnext_any s.top.lv true w2 (top_rng hf))
      have h5 := hide hf
      generalize (mapE s.top).ov = y1 at *
      generalize (mapE s.top).iso = y2 at *
      generalize nextS s.top.lv true = nx at *
      generalize s.top.lv = y0 at *
      go_wp2_with fail
      refine hnx.out.mono ?_
      rintro en w5 ⟨rfl, rfl⟩
      go_wp2_with (refine wpList_store_row rfl 72 (.tmp 4) (.tmp 47) rfl (w.heap.size + 1) #[.slice (some ⟨b, 0, none⟩) (m + 1) c, .int .i64 s.is, .int .i64 ((s.em : Int) + 1), .int .i64 s.nw] rfl rfl 72 _ f1.out (by kernel_rfl) rfl (by simp [Value.oneCell']) ?_)
      refine bodyPost_ret (results_cell_row rfl _ _ (w.heap.size + 1) 72 #[.slice (some ⟨b, 0, none⟩) (m + 1) c, .int .i64 s.is, .int .i64 ((s.em : Int) + 1), .int .i64 s.nw] (0, 0) _ rfl (setRow_heap _ _ _ _ _ _ f1.out) Try.underlying72 rfl (by kernel_rfl)) rfl ⟨_, rfl, ?_, below_setRow hH4.out (by omega) _⟩
      rw [e.out]
      exact RS.row (RS.box (by have := hs2; simp [World.setCell]; omega) hc HM.out hcl4.out (by simp) (by simp) (by simp)) f1.out (by decide)
    · as_aux_lemma =>
      have e := hide (embed_no1 (s := s) (x := 18) hc1.out t4.out)
      go_enter Try.func39, Try.ntmps39
      go_wp2_with fail
      refine htop.out.mono ?_
      rintro en w2 ⟨rfl, hb2⟩
      have v0 := (hb2.block w.heap.size (by simp; omega)).trans (heap_at_old (.cells #[.slice none 0 0, .int .i64 0, .int .i64 0, .int .i64 0] 72) (heap_at_new w _ (.cells #[.slice (some ⟨b, 0, none⟩) (m + 1) c, .int .i64 s.is, .int .i64 s.em, .int .i64 s.nw] 72) rfl))
      have v1 := (hb2.block (w.heap.size + 1) (by simp)).trans (heap_at_new (w.alloc (.cells #[.slice (some ⟨b, 0, none⟩) (m + 1) c, .int .i64 s.is, .int .i64 s.em, .int .i64 s.nw] 72)) (w.heap.size + 1) (.cells #[.slice none 0 0, .int .i64 0, .int .i64 0, .int .i64 0] 72) (by simp))
      have hs2 := hb2.size
      simp only [World.size_alloc] at hs2
      obtain ⟨p0, p1, p2, p3, p4⟩ := f72 v0
      have hB3 := hB2.trans (hb2.mono hB2.size)
      unfold entV
      rw [show (mapE s.top).lv = s.top.lv from rfl]
      have f1 := hide v1
      have hB4 := hB3
      have hcl4 := hide (cells_below hcell hB4)
      have hH4 := hide hB4
      clear v0 v1 htop hB2 hcell h hB3 hB4
      have hnx := hide (refnext_any s.top.lv true w2 (top_rng hf))
      have h5 := hide hf
      generalize (mapE s.top).ov = y1 at *
      generalize (mapE s.top).iso = y2 at *
      generalize nextS s.top.lv true = nx at *
      generalize s.top.lv = y0 at *
      go_wp2_with fail
      refine hnx.out.mono ?_
      rintro en w5 ⟨rfl, rfl⟩
      go_wp2_with (refine wpList_store_row rfl 72 (.tmp 4) (.tmp 47) rfl (w.heap.size + 1) #[.slice (some ⟨b, 0, none⟩) (m + 1) c, .int .i64 s.is, .int .i64 s.em, .int .i64 s.nw] rfl rfl 72 _ f1.out (by kernel_rfl) rfl (by simp [Value.oneCell']) ?_)
      refine bodyPost_ret (results_cell_row rfl _ _ (w.heap.size + 1) 72 #[.slice (some ⟨b, 0, none⟩) (m + 1) c, .int .i64 s.is, .int .i64 s.em, .int .i64 s.nw] (0, 0) _ rfl (setRow_heap _ _ _ _ _ _ f1.out) Try.underlying72 rfl (by kernel_rfl)) rfl ⟨_, rfl, ?_, below_setRow hH4.out (by omega) _⟩
      rw [e.out]
      exact RS.row (RS.box (by have := hs2; omega) hc HM.out hcl4.out rfl rfl rfl) f1.out (by decide)
    · as_aux_lemma =>
      have e := hide (embed_no1 (s := s) (x := 18) hc1.out t4.out)
      go_enter Try.func39, Try.ntmps39
      go_wp2_with fail
      refine htop.out.mono ?_
      rintro en w2 ⟨rfl, hb2⟩
      have v0 := (hb2.block w.heap.size (by simp; omega)).trans (heap_at_old (.cells #[.slice none 0 0, .int .i64 0, .int .i64 0, .int .i64 0] 72) (heap_at_new w _ (.cells #[.slice (some ⟨b, 0, none⟩) (m + 1) c, .int .i64 s.is, .int .i64 s.em, .int .i64 s.nw] 72) rfl))
      have v1 := (hb2.block (w.heap.size + 1) (by simp)).trans (heap_at_new (w.alloc (.cells #[.slice (some ⟨b, 0, none⟩) (m + 1) c, .int .i64 s.is, .int .i64 s.em, .int .i64 s.nw] 72)) (w.heap.size + 1) (.cells #[.slice none 0 0, .int .i64 0, .int .i64 0, .int .i64 0] 72) (by simp))
      have hs2 := hb2.size
      simp only [World.size_alloc] at hs2
      obtain ⟨p0, p1, p2, p3, p4⟩ := f72 v0
      have hB3 := hB2.trans (hb2.mono hB2.size)
      unfold entV
      rw [show (mapE s.top).lv = s.top.lv from rfl]
      have f1 := hide v1
      have hB4 := hB3
      have hcl4 := hide (cells_below hcell hB4)
      have hH4 := hide hB4
      clear v0 v1 htop hB2 hcell h hB3 hB4
      have hnx := hide (refnext_any s.top.lv true w2 (top_rng hf))
      have h5 := hide hf
      generalize (mapE s.top).ov = y1 at *
      generalize (mapE s.top).iso = y2 at *
      generalize nextS s.top.lv true = nx at *
      generalize s.top.lv = y0 at *
      go_wp2_with fail
      refine hnx.out.mono ?_
      rintro en w5 ⟨rfl, rfl⟩
      go_wp2_with (refine wpList_store_row rfl 72 (.tmp 4) (.tmp 47) rfl (w.heap.size + 1) #[.slice (some ⟨b, 0, none⟩) (m + 1) c, .int .i64 s.is, .int .i64 s.em, .int .i64 s.nw] rfl rfl 72 _ f1.out (by kernel_rfl) rfl (by simp [Value.oneCell']) ?_)
      refine bodyPost_ret (results_cell_row rfl _ _ (w.heap.size + 1) 72 #[.slice (some ⟨b, 0, none⟩) (m + 1) c, .int .i64 s.is, .int .i64 s.em, .int .i64 s.nw] (0, 0) _ rfl (setRow_heap _ _ _ _ _ _ f1.out) Try.underlying72 rfl (by kernel_rfl)) rfl ⟨_, rfl, ?_, below_setRow hH4.out (by omega) _⟩
      rw [e.out]
      exact RS.row (RS.box (by have := hs2; omega) hc HM.out hcl4.out rfl rfl rfl) f1.out (by decide)
    · as_aux_lemma =>
      have e := hide (embed_no0 (s := s) (x := 18) hc1.out t4.out)
      go_enter Try.func39, Try.ntmps39
      go_wp2_with fail
      refine htop.out.mono ?_
      rintro en w2 ⟨rfl, hb2⟩
      have v0 := (hb2.block w.heap.size (by simp; omega)).trans (heap_at_old (.cells #[.slice none 0 0, .int .i64 0, .int .i64 0, .int .i64 0] 72) (heap_at_new w _ (.cells #[.slice (some ⟨b, 0, none⟩) (m + 1) c, .int .i64 s.is, .int .i64 s.em, .int .i64 s.nw] 72) rfl))
      have v1 := (hb2.block (w.heap.size + 1) (by simp)).trans (heap_at_new (w.alloc (.cells #[.slice (some ⟨b, 0, none⟩) (m + 1) c, .int .i64 s.is, .int .i64 s.em, .int .i64 s.nw] 72)) (w.heap.size + 1) (.cells #[.slice none 0 0, .int .i64 0, .int .i64 0, .int .i64 0] 72) (by simp))
      have hs2 := hb2.size
      simp only [World.size_alloc] at hs2
      obtain ⟨p0, p1, p2, p3, p4⟩ := f72 v0
      have hB3 := hB2.trans (hb2.mono hB2.size)
      unfold entV
      rw [show (mapE s.top).lv = s.top.lv from rfl]
      have f1 := hide ((Below.heap_setCell w2 ⟨w.heap.size, 2, none⟩ (.int .i64 ((s.em : Int) + 1)) (w.heap.size + 1) (by show w.heap.size + 1 ≠ w.heap.size; omega)).trans v1)
      have hB4 := Below.setCell hB3 (p := ⟨w.heap.size, 2, none⟩) (Nat.le_refl _) (.int .i64 ((s.em : Int) + 1))
      have hcl4 := hide (cells_below hcell hB4)
      have hH4 := hide hB4
      clear v0 v1 htop hB2 hcell h hB3 hB4
      have hnx := hide (refnext_any s.top.lv true w2 (top_rng hf))
      have h5 := hide hf
      generalize (mapE s.top).ov = y1 at *
      generalize (mapE s.top).iso = y2 at *
      generalize nextS s.top.lv true = nx at *
      generalize s.top.lv = y0 at *
      go_wp2_with fail
      refine hnx.out.mono ?_
      rintro en w5 ⟨rfl, rfl⟩
      go_wp2_with (refine wpList_store_row rfl 72 (.tmp 4) (.tmp 47) rfl (w.heap.size + 1) #[.slice (some ⟨b, 0, none⟩) (m + 1) c, .int .i64 s.is, .int .i64 ((s.em : Int) + 1), .int .i64 s.nw] rfl rfl 72 _ f1.out (by kernel_rfl) rfl (by simp [Value.oneCell']) ?_)
      refine bodyPost_ret (results_cell_row rfl _ _ (w.heap.size + 1) 72 #[.slice (some ⟨b, 0, none⟩) (m + 1) c, .int .i64 s.is, .int .i64 ((s.em : Int) + 1), .int .i64 s.nw] (0, 0) _ rfl (setRow_heap _ _ _ _ _ _ f1.out) Try.underlying72 rfl (by kernel_rfl)) rfl ⟨_, rfl, ?_, below_setRow hH4.out (by omega) _⟩
      rw [e.out]
      exact RS.row (RS.box (by have := hs2; simp [World.setCell]; omega) hc HM.out hcl4.out (by simp) (by simp) (by simp)) f1.out (by decide)
    · as_aux_lemma =>
      have e := hide (show embedS s 18 = { s with stk := ⟨nextS s.top.lv true, 1, false⟩ :: s.stk } by rw [embed_yes (x := 18) hc1.out, push_yes (left := (18 == 15 || 18 == 18)) hc1.out]; rfl)
      go_enter Try.func39, Try.ntmps39
      go_wp2_with fail
      refine htop.out.mono ?_
      rintro en w2 ⟨rfl, hb2⟩
      have v0 := (hb2.block w.heap.size (by simp; omega)).trans (heap_at_old (.cells #[.slice none 0 0, .int .i64 0, .int .i64 0, .int .i64 0] 72) (heap_at_new w _ (.cells #[.slice (some ⟨b, 0, none⟩) (m + 1) c, .int .i64 s.is, .int .i64 s.em, .int .i64 s.nw] 72) rfl))
      have v1 := (hb2.block (w.heap.size + 1) (by simp)).trans (heap_at_new (w.alloc (.cells #[.slice (some ⟨b, 0, none⟩) (m + 1) c, .int .i64 s.is, .int .i64 s.em, .int .i64 s.nw] 72)) (w.heap.size + 1) (.cells #[.slice none 0 0, .int .i64 0, .int .i64 0, .int .i64 0] 72) (by simp))
      have hs2 := hb2.size
      simp only [World.size_alloc] at hs2
      obtain ⟨p0, p1, p2, p3, p4⟩ := f72 v0
      have hB3 := hB2.trans (hb2.mono hB2.size)
      unfold entV
      rw [show (mapE s.top).lv = s.top.lv from rfl]
      have hRS := ((h.below hB2).below hb2).below ((Below.refl w2.heap.size w2).alloc (Nat.le_refl _) (.cells #[.int .u8 (nextS s.top.lv true), .int .u8 1, .bool false] 69))
      have hpush := hide (refpush_any hRS hf (by omega) ⟨nextS s.top.lv true, 1, false⟩)
      have hB4 := hB3.alloc (by omega) (.cells #[.int .u8 (nextS s.top.lv true), .int .u8 1, .bool false] 69)
      have f1 := heap_at_old (.cells #[.int .u8 (nextS s.top.lv true), .int .u8 1, .bool false] 69) v1
      have hsz4 : w.heap.size + 1 + 1 ≤ (w2.alloc (.cells #[.int .u8 (nextS s.top.lv true), .int .u8 1, .bool false] 69)).heap.size := by simp; omega
      have hs5 : w.heap.size < w2.heap.size := by omega
      have F1 := hide f1
      have H4 := hide hB4
      clear v0 v1 f1 htop hB2 hcell h hB3 hB4 hRS
      rw [show entV (mapE ⟨nextS s.top.lv true, 1, false⟩) = .agg #[.int .u8 (nextS s.top.lv true), .int .u8 1, .bool false] from rfl] at hpush
      have hnx := hide (refnext_any s.top.lv true w2 (top_rng hf))
      have h5 := hide hf
      generalize (mapE s.top).ov = y1 at *
      generalize (mapE s.top).iso = y2 at *
      generalize nextS s.top.lv true = nx at *
      generalize s.top.lv = y0 at *
      go_wp2_with fail
      refine hnx.out.mono ?_
      rintro en w5 ⟨rfl, rfl⟩
      go_wp2_with fail
      refine hpush.out.mono ?_
      rintro en w6 ⟨v6, rfl, hR6, hb6⟩
      obtain ⟨b6, c6, hv6, hb66, hc6, _⟩ := id hR6
      rw [show ({ s with stk := ⟨nx, 1, false⟩ :: s.stk } : PS).stk.length = m + 1 + 1 by simp only [List.length_cons, HM.out]] at hv6 hc6
      subst hv6
      have F6 := hide ((hb6.block (w.heap.size + 1) (by omega)).trans F1.out)
      have H6 := hide (H4.out.trans (hb6.mono (by omega)))
      clear F1
      go_wp2_with (refine wpList_store_row rfl 72 (.tmp 4) (.tmp 39) rfl (w.heap.size + 1) #[.slice (some ⟨b6, 0, none⟩) (m + 1 + 1) c6, .int .i64 s.is, .int .i64 s.em, .int .i64 s.nw] rfl rfl 72 _ F6.out (by kernel_rfl) rfl (by simp [Value.oneCell']) ?_)
      refine bodyPost_ret (results_cell_row rfl _ _ (w.heap.size + 1) 72 #[.slice (some ⟨b6, 0, none⟩) (m + 1 + 1) c6, .int .i64 s.is, .int .i64 s.em, .int .i64 s.nw] (0, 0) _ rfl (setRow_heap _ _ _ _ _ _ F6.out) Try.underlying72 rfl (by kernel_rfl)) rfl ⟨_, rfl, ?_, below_setRow H6.out (by omega) _⟩
      rw [e.out]
      exact hR6.row F6.out (by decide)
end Go.Proofs.Ytaojjneajiobnaa

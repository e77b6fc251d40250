/-
  level.Explicit at a level above one.
-/
import Derived.Test.YtaojjneajiobnaaExpW
namespace Go.Proofs.Ytaojjneajiobnaa
open Go.RowKit

set_option maxRecDepth 100000 in
set_option maxHeartbeats 8000000 in
theorem exp_min (A : Option Addr) (n c : Nat) (l : List Int) (b0 : Int) (w : World) (hr : Rd .i32 w A n l) (hn : n ≤ 100000) (hb0 : 1 < b0) :
    Calls Try.prog 14 #[.slice A n c, .int .u8 b0] w (ExpRet n (levelsS (l.map cls) 1) (classesS (l.map cls) 1) w) := by
  have hln := hide hr.len
  have hcl := hide (show (l.map cls).length = n by rw [List.length_map, hr.len])
  have hml := hide (show (matchS (l.map cls)).length = n by unfold matchS; rw [mSt_len, List.length_map, hr.len])
  have hb1 : (0 : Int) ≤ 1 := by decide
  have hb2 : (1 : Int) ≤ 1 := by decide
  have hmk := run_mk elt8 n (by omega)
  go_enter Try.func14, Try.ntmps14
  go_wp2_with fail
  refine (classes_any A n c l w hr (by omega)).mono ?_
  rintro e w1 ⟨A1, c1, rfl, hownC, hbel1⟩
  rw [hcl.out] at hownC ⊢
  go_wp2_with fail
  refine (match_any A1 n c1 (l.map cls) _ (hownC.rd.alloc _) (by omega)).mono ?_
  rintro e w2 ⟨A2, c2, rfl, hownM, hbel2⟩
  rw [hml.out] at hownM ⊢
  go_wp2_with fail
  refine (deeds_any _).mono ?_
  rintro e w3 ⟨rfl, hmap, hbel3⟩
  have hsz2 := hbel2.size
  have hsz3 := hbel3.size
  -- the state as it lies
  have hsta : StA w1.heap.size w3 w2.heap.size (some w1.heap.size) (start 1) (.slice A1 n c1) (.slice A2 n c2) := by
    have h1 : (w1.alloc (.cells #[.int .u8 1, .int .u8 13, .bool false] 58)).ownsRow w1.heap.size 58 3 (.slice (some ⟨w1.heap.size, 0, none⟩) 1 1) 1 (entC [⟨1, 13, false⟩]) :=
      ⟨rfl, .inr ⟨w1.heap.size, 1, #[.int .u8 1, .int .u8 13, .bool false], rfl, Nat.le_refl _, heap_alloc_new w1 _, Nat.le_refl _, by decide, rfl, rfl⟩⟩
    have h2 := h1.kept (row := none) ⟨hbel2.os, hbel2.tape, hbel2.output, hbel2.size, fun i hi _ => hbel2.block i hi⟩ (by simp [Value.ownBlock])
    have h3 : Sta w1.heap.size (w2.alloc (.cells #[.slice (some ⟨w1.heap.size, 0, none⟩) 1 1, .int .i64 0, .int .i64 0, .int .i64 0, .slice A1 n c1, .slice A2 n c2] 61)) w2.heap.size (some ⟨w1.heap.size, 0, none⟩) 1 1 [⟨1, 13, false⟩] 0 0 0 (.slice A1 n c1) (.slice A2 n c2) :=
      ⟨heap_alloc_new w2 _, h2.alloc _⟩
    exact ⟨_, 1, rfl, h3.below hbel3⟩
  have hH := hide hsta
  have hM3 := hide ((hownM.alloc _).below hbel3)
  have hb13 := hide ((show Below w1.heap.size w1 w3 from (((((Below.refl _ _).alloc (Nat.le_refl _) _).trans (hbel2.mono (by simp))).alloc (by have := hbel2.size; simp at this; omega) _).trans (hbel3.mono (by have := hbel2.size; simp at this; simp; omega)))))
  have hMap := hide hmap
  clear hsta hmap
  have hL1 := own_mk w1.heap.size 5 .u8 n w3 w3.heap.size rfl (by have := hb13.out.size; omega) (by omega)
  have hL2 := own_mk w1.heap.size 5 .u8 n (w3.alloc (.cells (madeCells #[.int .u8 0] n) 5)) (w3.heap.size + 1) (by simp) (by have := hb13.out.size; omega) (by omega)
  have hXX : ∀ gL gO, (gL = w3.heap.size ∧ gO = w3.heap.size + 1) ∨ (gL = w3.heap.size + 1 ∧ gO = w3.heap.size) →
      XInv w1 w2.heap.size gL gO (w2.heap.size + 1) A2 n c2 (l.map cls) 1 (.slice A1 n c1) 0 (some w1.heap.size) ((w3.alloc (.cells (madeCells #[.int .u8 0] n) 5)).alloc (.cells (madeCells #[.int .u8 0] n) 5)).drew := by
    intro gL gO hg
    have hlo := hb13.out.size
    have hwle : w1.heap.size ≤ w2.heap.size := by have := hsz2; simp at this; omega
    have hst1 : StA w1.heap.size ((w3.alloc (.cells (madeCells #[.int .u8 0] n) 5)).alloc (.cells (madeCells #[.int .u8 0] n) 5)).drew w2.heap.size (some w1.heap.size) (start 1) (.slice A1 n c1) (.slice A2 n c2) := by
      refine hH.out.below ?_
      exact (((Below.refl _ _).alloc (Nat.le_refl _) _).alloc (by simp) _).drew
    have hM1 := ((hM3.out.alloc (.cells (madeCells #[.int .u8 0] n) 5)).alloc (.cells (madeCells #[.int .u8 0] n) 5)).drew.more (B' := w1.heap.size) (by simp)
    have hbl : Below w1.heap.size w1 ((w3.alloc (.cells (madeCells #[.int .u8 0] n) 5)).alloc (.cells (madeCells #[.int .u8 0] n) 5)).drew := ((hb13.out.alloc hlo _).alloc (by simp; omega) _).drew
    have hmp : ((w3.alloc (.cells (madeCells #[.int .u8 0] n) 5)).alloc (.cells (madeCells #[.int .u8 0] n) 5)).drew.ownsMap Try.prog 5 RF (w2.heap.size + 1) 11 deedD := by
      have h0 := hMap.out
      rw [show (w2.alloc (Obj.cells #[.slice (some ⟨w1.heap.size, 0, none⟩) 1 1, .int .i64 0, .int .i64 0, .int .i64 0, .slice A1 n c1, .slice A2 n c2] 61)).heap.size = w2.heap.size + 1 by simp] at h0
      obtain ⟨es, clock, hb, hr⟩ := h0
      exact ⟨es, clock, heap_at_old _ (heap_at_old _ hb), hr⟩
    rcases hg with ⟨rfl, rfl⟩ | ⟨rfl, rfl⟩
    · exact ⟨hst1, (hL1.alloc _).drew, hL2.drew, hM1, hmp, hbl, by omega, hwle⟩
    · exact ⟨hst1, hL2.drew, (hL1.alloc _).drew, hM1, hmp, hbl, by omega, hwle⟩
  have hX1 := hide (hXX _ _ (.inl ⟨rfl, rfl⟩))
  have hX2 := hide (hXX _ _ (.inr ⟨rfl, rfl⟩))
  have hC1 := hide ((hownC.below (hb13.out)))
  clear hXX hL1 hL2 hownM hH hM3 hMap
  go_wp2_with fail
  go_region
  all_goals (go_wp2_with fail)
  all_goals clear hmk
  focus
    have hX := hide hX1.out; clear hX1 hX2
    generalize ((w3.alloc (.cells (madeCells #[.int .u8 0] n) 5)).alloc (.cells (madeCells #[.int .u8 0] n) 5)).drew = w4 at *
    generalize hgO : w3.heap.size + 1 = gO at *
    generalize hgL : w3.heap.size = gL at *
  rotate_left
  focus
    have hX := hide hX2.out; clear hX1 hX2
    generalize ((w3.alloc (.cells (madeCells #[.int .u8 0] n) 5)).alloc (.cells (madeCells #[.int .u8 0] n) 5)).drew = w4 at *
    generalize hgL : w3.heap.size + 1 = gL at *
    generalize hgO : w3.heap.size = gO at *
  rotate_left
  all_goals clear hgL hgO hsz2 hsz3 hbel3 hbel2
  all_goals generalize w2.heap.size = gs at *
  all_goals (
    go_loopw [36] (fun i wr => ∃ (k : Nat) (r : Option Nat), k ≤ n ∧ i = .int .i64 ((k : Nat) : Int) ∧ XInv w1 gs gL gO (gs + 1) A2 n c2 (l.map cls) 1 (.slice A1 n c1) k r wr) (fun i _ => n - (intOf i).toNat)
    case atStart => exact ⟨0, _, Nat.zero_le _, rfl, hX.out⟩
    case round =>
      obtain ⟨k, r, hk, rfl, hx⟩ := hrel
      obtain ⟨wo, rfl⟩ : ∃ wo : World, wo = wr := ⟨_, rfl⟩
      have hCw := hownC.below hx.bel
      by_cases hkn : k < n
      · obtain ⟨b, off, x, rfl, hbw, hz, hck⟩ := hCw.rd.at_ hkn
        have hxr : 0 ≤ x ∧ x ≤ 22 := by
          have hlk : k < l.length := by rw [hln.out]; exact hkn
          have hzz := hz.out
          simp only [List.getElem?_map, List.getElem?_eq_getElem hlk, Option.map_some, Option.some.injEq] at hzz
          subst hzz
          exact cls_range _
        obtain ⟨xa, xb⟩ := hxr
        have hX' := hide hx
        have hcall := hide (deed_call hx ⟨by decide, by decide⟩ hn hkn hz.out hCw ⟨xa, xb⟩)
        obtain ⟨⟨s', v1, v2⟩, hp⟩ : ∃ p, stepS (fsiAt (l.map cls) k) (expSt (l.map cls) 1 k).1 x = p := ⟨_, rfl⟩
        rw [hp] at hcall
        simp only at hcall
        have heg := deed_enters x ⟨xa, xb⟩
        have hp' := hide hp
        have hne := hide hx.ne
        have hmap := hx.map
        clear hx hX hp
        have hq1 : (k : Int) < (n : Int) := by omega
        have hq2 : (0 : Int) ≤ (k : Int) := by omega
        by_cases hd : deedF x = 0
        · have hlk := look0 hmap x ⟨xa, xb⟩ hd
          have hdg : deedG x = 36 := by unfold deedG; rw [if_pos hd]
          have hd' := hide hd
          rw [hdg] at hcall heg
          clear hd hdg hmap
          go_wp2_with fail
          refine hcall.out.mono ?_
          rintro e w5 ⟨rfl, hst⟩
          obtain ⟨⟨zL, hcL, hfL⟩, ⟨zO, hcO, hfO⟩⟩ := hX'.out.cells5 hkn hst
          obtain ⟨hcO', hfO'⟩ := set_far w5 (p := ⟨gL, k, none⟩) (q := ⟨gO, k, none⟩) (fun e => hne.out e.symm) (.int .u8 v1)
          rw [hcO] at hcO'
          rw [hfO] at hfO'
          have hS := hide hst
          clear hst
          go_wp2_with fail
          go_roundw
          case rel =>
            obtain ⟨r', hx5⟩ := hX'.out.next hkn hz.out hS.out hp'.out
            exact ⟨k + 1, r', by omega, by go_num, hx5⟩
          case measure => simp [intOf]; omega
        · have hlk := look1 hmap x ⟨xa, xb⟩ hd
          have hd' := hide hd
          clear hd hmap
          generalize deedG x = fn at *
          go_wp2_with fail
          refine hcall.out.mono ?_
          rintro e w5 ⟨rfl, hst⟩
          obtain ⟨⟨zL, hcL, hfL⟩, ⟨zO, hcO, hfO⟩⟩ := hX'.out.cells5 hkn hst
          obtain ⟨hcO', hfO'⟩ := set_far w5 (p := ⟨gL, k, none⟩) (q := ⟨gO, k, none⟩) (fun e => hne.out e.symm) (.int .u8 v1)
          rw [hcO] at hcO'
          rw [hfO] at hfO'
          have hS := hide hst
          clear hst
          go_wp2_with fail
          go_roundw
          case rel =>
            obtain ⟨r', hx5⟩ := hX'.out.next hkn hz.out hS.out hp'.out
            exact ⟨k + 1, r', by omega, by go_num, hx5⟩
          case measure => simp [intOf]; omega
      · obtain rfl : k = n := by omega
        clear hkn hX
        have hX' := hide hx
        clear hx
        go_wp2_with fail
        go_ret2
        have hx := hX'.out
        have e1 : (expSt (l.map cls) 1 k).2.1 ++ List.replicate (k - k) 0 = levelsS (l.map cls) 1 := by
          unfold levelsS; rw [hcl.out, Nat.sub_self]; simp
        have e2 : (expSt (l.map cls) 1 k).2.2 ++ List.replicate (k - k) 0 = classesS (l.map cls) 1 := by
          unfold classesS; rw [hcl.out, Nat.sub_self]; simp
        have hL := hx.L
        have hO := hx.O
        rw [e1] at hL
        rw [e2] at hO
        exact ⟨gL, k, gO, k, rfl, hL.more hbel1.size, hO.more hbel1.size, hx.ne, hbel1.trans (hx.bel.mono hbel1.size)⟩)
end Go.Proofs.Ytaojjneajiobnaa

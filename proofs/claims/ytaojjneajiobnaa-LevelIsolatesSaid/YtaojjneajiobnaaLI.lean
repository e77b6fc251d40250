/-
  The walk of LevelIsolates.
-/
import Derived.Test.YtaojjneajiobnaaLIc
namespace Go.Proofs.Ytaojjneajiobnaa
open Go.RowKit

theorem runB_len : ∀ (l : List Int) (s : PS), (runB s l).length = l.length
  | [], _ => rfl
  | x :: l, s => by simp [runB, runB_len l]
theorem isoL_len (A B : List Int) (o base : Int) : (isoL A B o base).length = A.length + 2 + B.length := by
  unfold isoL
  simp [runP_len, runB_len]
  omega
theorem isoL_u8 {A B : List Int} {o base : Int} (hA : ∀ x ∈ A, x ≠ 21) (ho : o = 19 ∨ o = 20) (hb : 0 ≤ base ∧ base ≤ 1) (uA : U8 A) (uB : U8 B) :
    U8 ((isoL A B o base).map Prod.fst) ∧ U8 ((isoL A B o base).map Prod.snd) := by
  obtain ⟨h1, h2⟩ := iso_levels (X := []) (B := B) (base := base) hA (fun x hx => by cases hx) ho
  have hu : U8 (isoR A [] B o 22) := by
    unfold isoR
    refine uA.app (U8.cons (by omega) (U8.app U8.nil (U8.cons (by omega) uB)))
  have l1 := levels_u8 hb hu
  have l2 := classes_u8 hb hu
  rw [← h1, ← h2]
  exact ⟨U8.app (fun x hx => l1 x (List.mem_of_mem_take hx)) (fun x hx => l1 x (List.mem_of_mem_drop hx)), U8.app (fun x hx => l2 x (List.mem_of_mem_take hx)) (fun x hx => l2 x (List.mem_of_mem_drop hx))⟩
theorem not21 {l : List Int} {k : Nat} {z : Int} (hz : l[k]? = some z) (h : ∀ x ∈ (l.take k).map cls, x ≠ 21) (hc : cls z ≠ 21) : ∀ x ∈ (l.take (k + 1)).map cls, x ≠ 21 := by
  obtain ⟨hk, rfl⟩ := List.getElem?_eq_some_iff.1 hz
  intro x hx
  rw [List.take_succ_eq_append_getElem hk, List.map_append] at hx
  rcases List.mem_append.1 hx with hx | hx
  · exact h x hx
  · have : x = cls l[k] := by simpa using hx
    rw [this]; exact hc

set_option maxRecDepth 100000 in
set_option maxHeartbeats 8000000 in
theorem lawIso_any (A B X Y : Option Addr) (nA cA nB cB nX cX nY cY : Nat) (lA lB lX lY : List Int) (left rtl : Bool) (w : World)
    (rA : Rd .i32 w A nA lA) (rB : Rd .i32 w B nB lB) (rX : Rd .i32 w X nX lX) (rY : Rd .i32 w Y nY lY) :
    Calls Try.prog 7 #[.slice A nA cA, .slice B nB cB, .slice X nX cX, .slice Y nY cY, .bool left, .bool rtl] w fun e w' => e = .returned (.bool true) ∧ Below w.heap.size w w' := by
  by_cases hA : 100 < nA
  · have tA : decide (100 < (nA : Int)) = true := by simp; omega
    go_enter Try.func7, Try.ntmps7
    go_wp2_with fail
    refine (awake_l _).mono ?_
    rintro e w1 ⟨rfl, hb1⟩
    go_wp2_with fail
    go_ret
    exact ⟨rfl, (((Below.refl _ _).alloc (Nat.le_refl _) _).alloc (by simp) _).trans (hb1.mono (by simp; omega))⟩
  have tA : decide (100 < (nA : Int)) = false := by simp; omega
  by_cases hB : 100 < nB
  · have tB : decide (100 < (nB : Int)) = true := by simp; omega
    go_enter Try.func7, Try.ntmps7
    go_wp2_with fail
    refine (awake_l _).mono ?_
    rintro e w1 ⟨rfl, hb1⟩
    go_wp2_with fail
    go_ret
    exact ⟨rfl, (((Below.refl _ _).alloc (Nat.le_refl _) _).alloc (by simp) _).trans (hb1.mono (by simp; omega))⟩
  have tB : decide (100 < (nB : Int)) = false := by simp; omega
  by_cases hX : 60 < nX
  · have tX : decide (60 < (nX : Int)) = true := by simp; omega
    go_enter Try.func7, Try.ntmps7
    go_wp2_with fail
    refine (awake_l _).mono ?_
    rintro e w1 ⟨rfl, hb1⟩
    go_wp2_with fail
    go_ret
    exact ⟨rfl, (((Below.refl _ _).alloc (Nat.le_refl _) _).alloc (by simp) _).trans (hb1.mono (by simp; omega))⟩
  have tX : decide (60 < (nX : Int)) = false := by simp; omega
  by_cases hY : 60 < nY
  · have tY : decide (60 < (nY : Int)) = true := by simp; omega
    go_enter Try.func7, Try.ntmps7
    go_wp2_with fail
    refine (awake_l _).mono ?_
    rintro e w1 ⟨rfl, hb1⟩
    go_wp2_with fail
    go_ret
    exact ⟨rfl, (((Below.refl _ _).alloc (Nat.le_refl _) _).alloc (by simp) _).trans (hb1.mono (by simp; omega))⟩
  have tY : decide (60 < (nY : Int)) = false := by simp; omega
  have hfl := fld1
  have eg : ∀ args w, (callFunc 25 args).run Try.prog w = .ok (.enter 25 args) w := enters_of Try.func25 (by kernel_rfl) rfl
  have hb01 : 0 ≤ bit rtl ∧ bit rtl ≤ 1 := by cases rtl <;> decide
  have hlA := hide rA.len
  have hlB := hide rB.len
  obtain ⟨o, hoo⟩ : ∃ o : Int, o = if left then 8295 else 8294 := ⟨_, rfl⟩
  have hoc := hide (show cls o = 19 ∨ cls o = 20 by
    subst hoo
    cases left
    · exact .inl (by decide +kernel)
    · exact .inr (by decide +kernel))
  go_enter Try.func7, Try.ntmps7
  go_wp2_with fail
  refine (flat_any X nX cX lX _ ((rX.alloc _).alloc _) (by omega)).mono ?_
  rintro e w1 ⟨A1, c1, rfl, hX1, hb1⟩
  have vA1 := ((Var.new w 23 (.slice A nA cA)).alloc (.cells #[.slice B nB cB] 23)).below hb1 (by simp <;> omega)
  have vB1 := hide (((Var.at_new (w.alloc (.cells #[.slice A nA cA] 23)) (w.heap.size + 1) 23 (.slice B nB cB) (by simp))).below hb1 (by simp <;> omega))
  have hbw1 := hide ((((Below.refl w.heap.size w).alloc (Nat.le_refl _) (.cells #[.slice A nA cA] 23)).alloc (by simp) (.cells #[.slice B nB cB] 23)).trans (hb1.mono (by simp; omega)))
  have vA1' := hide vA1
  clear vA1 hb1
  go_wp2_with fail
  refine (flat_any Y nY cY lY _ (rY.below hbw1.out) (by omega)).mono ?_
  rintro e w2 ⟨A2, c2, rfl, hY2, hb2⟩
  have vA2 := hide (vA1'.out.below hb2 (by have := vA1'.out.lt; omega))
  have vB2 := hide (vB1.out.below hb2 (by have := vB1.out.lt; omega))
  have hX2 := hide (hX1.below hb2)
  have hbw2 := hide (hbw1.out.trans (hb2.mono hbw1.out.size))
  clear vA1' vB1 hbw1 hX1 hb2
  go_wp2_with fail
  refine (par_any none 0 0 [] false rtl _ (Rd.nil _ _ _) (by omega)).mono ?_
  rw [show parS [] false rtl = bit rtl from rfl]
  rintro e w3 ⟨rfl, hb3⟩
  have vA3 := hide (vA2.out.below hb3 vA2.out.lt)
  have vB3 := hide (vB2.out.below hb3 vB2.out.lt)
  have hX3 := hide (hX2.out.below hb3)
  have hY3 := hide (hY2.below hb3)
  have hbw3 := hide (hbw2.out.trans (hb3.mono hbw2.out.size))
  clear vA2 vB2 hbw2 hX2 hY2 hb3
  generalize bit rtl = bb at *
  have k1 := vA3.out.cell
  have k2 := vA3.out.lt
  have k3 := vB3.out.cell
  have k4 := vB3.out.lt
  cases left
  all_goals
    simp only [if_true, if_false, Bool.false_eq_true] at hoo
    go_wp2_with fail
  · subst hoo
    have vA4 := hide ((vA3.out.alloc (.cells #[.int .u8 bb] 5)).alloc (.cells #[.int .i32 8294] 21))
    have vB4 := hide ((vB3.out.alloc (.cells #[.int .u8 bb] 5)).alloc (.cells #[.int .i32 8294] 21))
    have vb4 := hide ((Var.new w3 5 (.int .u8 bb)).alloc (.cells #[.int .i32 8294] 21))
    have vO4 := hide (Var.at_new (w3.alloc (.cells #[.int .u8 bb] 5)) (w3.heap.size + 1) 21 (.int .i32 8294) (by simp))
    have hX4 := hide ((hX3.out.alloc (.cells #[.int .u8 bb] 5)).alloc (.cells #[.int .i32 8294] 21)).rd
    have hY4 := hide ((hY3.out.alloc (.cells #[.int .u8 bb] 5)).alloc (.cells #[.int .i32 8294] 21)).rd
    have hbw4 := hide ((hbw3.out.alloc hbw3.out.size (.cells #[.int .u8 bb] 5)).alloc (by have := hbw3.out.size; simp; omega) (.cells #[.int .i32 8294] 21))
    have rA4 := hide (rA.below hbw4.out)
    have rB4 := hide (rB.below hbw4.out)
    clear vA3 vB3 hX3 hY3 hbw3 k1 k2 k3 k4
    generalize (w3.alloc (.cells #[.int .u8 bb] 5)).alloc (.cells #[.int .i32 8294] 21) = w4 at *
    generalize hg1 : w3.heap.size + 1 = gO at *
    generalize hg2 : w3.heap.size = gb at *
    generalize hg3 : w.heap.size + 1 = gB at *
    clear hg1 hg2 hg3
    go_loopw [51] (fun i wr => ∃ k : Nat, k ≤ nA ∧ i = .int .i64 ((k : Nat) : Int) ∧ Below w4.heap.size w4 wr ∧ Hid (∀ x ∈ (lA.take k).map cls, x ≠ 21)) (fun i _ => nA - (intOf i).toNat)
    case atStart => exact ⟨0, Nat.zero_le _, rfl, Below.refl _ _, hide (fun x hx => by simp at hx)⟩
    case round =>
      obtain ⟨k, hk, rfl, hbel, h21⟩ := hrel
      obtain ⟨wo, rfl⟩ : ∃ wo : World, wo = wr := ⟨_, rfl⟩
      by_cases hkn : k < nA
      · obtain ⟨b, off, z, rfl, hbw, hz, hck⟩ := (rA4.out.below hbel).at_ hkn
        obtain ⟨p0, p2, p3, p4, p5, p6, hps⟩ := props_of z
        have hof := hide (of_any z wo)
        rw [hps] at hof
        clear hps
        by_cases hc : cls z = 21
        · rw [hc] at hof
          go_wp2_with fail
          refine hof.out.mono ?_
          rintro e w5 ⟨rfl, hb5⟩
          go_wp2_with fail
          refine (awake_l _).mono ?_
          rintro e w6 ⟨rfl, hb6⟩
          go_wp2_with fail
          go_ret
          have h5 := hbw4.out.trans (hbel.mono hbw4.out.size)
          have h6 := h5.trans (hb5.mono h5.size)
          exact ⟨rfl, h6.trans (hb6.mono h6.size)⟩
        · have t21 : (cls z == 21) = false := by simpa using hc
          have h21' := hide (not21 hz.out h21.out hc)
          generalize cls z = p1 at *
          go_wp2_with fail
          refine hof.out.mono ?_
          rintro e w5 ⟨rfl, hb5⟩
          go_wp2_with fail
          go_roundw
          case rel => exact ⟨k + 1, by omega, by go_num, hbel.trans (hb5.mono hbel.size), h21'⟩
          case measure => simp [intOf]; omega
      · obtain rfl : k = nA := by omega
        clear hkn
        have htk : lA.take k = lA := List.take_of_length_le (by rw [hlA.out]; exact Nat.le_refl _)
        rw [htk] at h21
        obtain ⟨M, hM⟩ : ∃ M, M = k + 2 + nB := ⟨_, rfl⟩
        have hMM := hide hM
        have hu := hide (isoL_u8 (B := lB.map cls) (base := bb) h21.out hoc.out hb01 (map_cls_u8 _) (map_cls_u8 _))
        have hl := hide (isoL_len (lA.map cls) (lB.map cls) (cls 8294) bb)
        have hl1 := hide (show ((isoL (lA.map cls) (lB.map cls) (cls 8294) bb).map Prod.fst).length = M by rw [List.length_map, hl.out, List.length_map, List.length_map, hlA.out, hlB.out, hM])
        have hl2 := hide (show ((isoL (lA.map cls) (lB.map cls) (cls 8294) bb).map Prod.snd).length = M by rw [List.length_map, hl.out, List.length_map, List.length_map, hlA.out, hlB.out, hM])
        have hfX := hide (show (flatS lX).length ≤ 60 by have := flat_len lX; rw [rX.len] at this; omega)
        have hfY := hide (show (flatS lY).length ≤ 60 by have := flat_len lY; rw [rY.len] at this; omega)
        have hcX := hide (row25_any w.heap.size gO gB gb A B A1 k cA nB cB (flatS lX).length c1 lA lB (flatS lX) 8294 bb wo (vA4.out.below hbel vA4.out.lt) (vO4.out.below hbel vO4.out.lt) (vB4.out.below hbel vB4.out.lt) (vb4.out.below hbel vb4.out.lt)
          (rA4.out.below hbel) (rB4.out.below hbel) (hX4.out.below hbel) (by omega) (by omega) hfX.out hb01 h21.out flat_cls hoc.out)
        have hcY := hide (fun wp (hb : Below wo.heap.size wo wp) => row25_any w.heap.size gO gB gb A B A2 k cA nB cB (flatS lY).length c2 lA lB (flatS lY) 8294 bb wp ((vA4.out.below hbel vA4.out.lt).below hb (vA4.out.below hbel vA4.out.lt).lt) ((vO4.out.below hbel vO4.out.lt).below hb (vO4.out.below hbel vO4.out.lt).lt) ((vB4.out.below hbel vB4.out.lt).below hb (vB4.out.below hbel vB4.out.lt).lt) ((vb4.out.below hbel vb4.out.lt).below hb (vb4.out.below hbel vb4.out.lt).lt)
          ((rA4.out.below hbel).below hb) ((rB4.out.below hbel).below hb) ((hY4.out.below hbel).below hb) (by omega) (by omega) hfY.out hb01 h21.out flat_cls hoc.out)
        have vA5 := hide (vA4.out.below hbel vA4.out.lt)
        have vB5 := hide (vB4.out.below hbel vB4.out.lt)
        have hbw5 := hide (hbw4.out.trans (hbel.mono hbw4.out.size))
        clear hM htk hl
        generalize (isoL (lA.map cls) (lB.map cls) (cls 8294) bb).map Prod.fst = L1 at *
        generalize (isoL (lA.map cls) (lB.map cls) (cls 8294) bb).map Prod.snd = L2 at *
        generalize (flatS lX).length = fX at *
        generalize (flatS lY).length = fY at *
        go_wp2_with fail
        refine hcX.out.mono ?_
        rintro e w6 ⟨B1, d1, B2, d2, rfl, hr1, hr2, hb6⟩
        rw [hl1.out] at hr1 ⊢
        rw [hl2.out] at hr2 ⊢
        go_wp2_with fail
        refine (hcY.out w6 hb6).mono ?_
        rintro e w7 ⟨B3, d3, B4, d4, rfl, hr3, hr4, hb7⟩
        rw [hl1.out] at hr3 ⊢
        rw [hl2.out] at hr4 ⊢
        have vA7 := hide ((vA5.out.below hb6 vA5.out.lt).below hb7 (vA5.out.below hb6 vA5.out.lt).lt)
        have vB7 := hide ((vB5.out.below hb6 vB5.out.lt).below hb7 (vB5.out.below hb6 vB5.out.lt).lt)
        have cA7 := vA7.out.cell
        have cB7 := vB7.out.cell
        have hr1' := hide (hr1.below hb7).rd
        have hr2' := hide (hr2.below hb7).rd
        have hr3' := hide hr3.rd
        have hr4' := hide hr4.rd
        have hbw6 := hbw5.out.trans (hb6.mono hbw5.out.size)
        have hbw7 := hbw6.trans (hb7.mono hbw6.size)
        have tM : ((M : Int) == (k : Int) + 2 + (nB : Int)) = true := by have := hMM.out; simp; omega
        clear hcX hcY hb6 hb7 hr1 hr2 hr3 hr4
        go_wp2_with fail
        refine (same_any _ _ _ _ _ _ L1 L1 w7 hr1'.out hr3'.out hu.out.1 hu.out.1).mono ?_
        rintro e w8 ⟨rfl, rfl⟩
        rw [sameB_self]
        go_wp2_with fail
        refine (same_any _ _ _ _ _ _ L2 L2 _ hr2'.out hr4'.out hu.out.2 hu.out.2).mono ?_
        rintro e w8 ⟨rfl, rfl⟩
        rw [sameB_self]
        go_wp2_with fail
        refine (awake_l _).mono ?_
        rintro e w9 ⟨rfl, hb9⟩
        go_wp2_with fail
        go_ret
        exact ⟨rfl, hbw7.trans (hb9.mono hbw7.size)⟩
  · subst hoo
    have vA4 := hide ((vA3.out.alloc (.cells #[.int .u8 bb] 5)).alloc (.cells #[.int .i32 8295] 21))
    have vB4 := hide ((vB3.out.alloc (.cells #[.int .u8 bb] 5)).alloc (.cells #[.int .i32 8295] 21))
    have vb4 := hide ((Var.new w3 5 (.int .u8 bb)).alloc (.cells #[.int .i32 8295] 21))
    have vO4 := hide (Var.at_new (w3.alloc (.cells #[.int .u8 bb] 5)) (w3.heap.size + 1) 21 (.int .i32 8295) (by simp))
    have hX4 := hide ((hX3.out.alloc (.cells #[.int .u8 bb] 5)).alloc (.cells #[.int .i32 8295] 21)).rd
    have hY4 := hide ((hY3.out.alloc (.cells #[.int .u8 bb] 5)).alloc (.cells #[.int .i32 8295] 21)).rd
    have hbw4 := hide ((hbw3.out.alloc hbw3.out.size (.cells #[.int .u8 bb] 5)).alloc (by have := hbw3.out.size; simp; omega) (.cells #[.int .i32 8295] 21))
    have rA4 := hide (rA.below hbw4.out)
    have rB4 := hide (rB.below hbw4.out)
    clear vA3 vB3 hX3 hY3 hbw3 k1 k2 k3 k4
    generalize (w3.alloc (.cells #[.int .u8 bb] 5)).alloc (.cells #[.int .i32 8295] 21) = w4 at *
    generalize hg1 : w3.heap.size + 1 = gO at *
    generalize hg2 : w3.heap.size = gb at *
    generalize hg3 : w.heap.size + 1 = gB at *
    clear hg1 hg2 hg3
    go_loopw [51] (fun i wr => ∃ k : Nat, k ≤ nA ∧ i = .int .i64 ((k : Nat) : Int) ∧ Below w4.heap.size w4 wr ∧ Hid (∀ x ∈ (lA.take k).map cls, x ≠ 21)) (fun i _ => nA - (intOf i).toNat)
    case atStart => exact ⟨0, Nat.zero_le _, rfl, Below.refl _ _, hide (fun x hx => by simp at hx)⟩
    case round =>
      obtain ⟨k, hk, rfl, hbel, h21⟩ := hrel
      obtain ⟨wo, rfl⟩ : ∃ wo : World, wo = wr := ⟨_, rfl⟩
      by_cases hkn : k < nA
      · obtain ⟨b, off, z, rfl, hbw, hz, hck⟩ := (rA4.out.below hbel).at_ hkn
        obtain ⟨p0, p2, p3, p4, p5, p6, hps⟩ := props_of z
        have hof := hide (of_any z wo)
        rw [hps] at hof
        clear hps
        by_cases hc : cls z = 21
        · rw [hc] at hof
          go_wp2_with fail
          refine hof.out.mono ?_
          rintro e w5 ⟨rfl, hb5⟩
          go_wp2_with fail
          refine (awake_l _).mono ?_
          rintro e w6 ⟨rfl, hb6⟩
          go_wp2_with fail
          go_ret
          have h5 := hbw4.out.trans (hbel.mono hbw4.out.size)
          have h6 := h5.trans (hb5.mono h5.size)
          exact ⟨rfl, h6.trans (hb6.mono h6.size)⟩
        · have t21 : (cls z == 21) = false := by simpa using hc
          have h21' := hide (not21 hz.out h21.out hc)
          generalize cls z = p1 at *
          go_wp2_with fail
          refine hof.out.mono ?_
          rintro e w5 ⟨rfl, hb5⟩
          go_wp2_with fail
          go_roundw
          case rel => exact ⟨k + 1, by omega, by go_num, hbel.trans (hb5.mono hbel.size), h21'⟩
          case measure => simp [intOf]; omega
      · obtain rfl : k = nA := by omega
        clear hkn
        have htk : lA.take k = lA := List.take_of_length_le (by rw [hlA.out]; exact Nat.le_refl _)
        rw [htk] at h21
        obtain ⟨M, hM⟩ : ∃ M, M = k + 2 + nB := ⟨_, rfl⟩
        have hMM := hide hM
        have hu := hide (isoL_u8 (B := lB.map cls) (base := bb) h21.out hoc.out hb01 (map_cls_u8 _) (map_cls_u8 _))
        have hl := hide (isoL_len (lA.map cls) (lB.map cls) (cls 8295) bb)
        have hl1 := hide (show ((isoL (lA.map cls) (lB.map cls) (cls 8295) bb).map Prod.fst).length = M by rw [List.length_map, hl.out, List.length_map, List.length_map, hlA.out, hlB.out, hM])
        have hl2 := hide (show ((isoL (lA.map cls) (lB.map cls) (cls 8295) bb).map Prod.snd).length = M by rw [List.length_map, hl.out, List.length_map, List.length_map, hlA.out, hlB.out, hM])
        have hfX := hide (show (flatS lX).length ≤ 60 by have := flat_len lX; rw [rX.len] at this; omega)
        have hfY := hide (show (flatS lY).length ≤ 60 by have := flat_len lY; rw [rY.len] at this; omega)
        have hcX := hide (row25_any w.heap.size gO gB gb A B A1 k cA nB cB (flatS lX).length c1 lA lB (flatS lX) 8295 bb wo (vA4.out.below hbel vA4.out.lt) (vO4.out.below hbel vO4.out.lt) (vB4.out.below hbel vB4.out.lt) (vb4.out.below hbel vb4.out.lt)
          (rA4.out.below hbel) (rB4.out.below hbel) (hX4.out.below hbel) (by omega) (by omega) hfX.out hb01 h21.out flat_cls hoc.out)
        have hcY := hide (fun wp (hb : Below wo.heap.size wo wp) => row25_any w.heap.size gO gB gb A B A2 k cA nB cB (flatS lY).length c2 lA lB (flatS lY) 8295 bb wp ((vA4.out.below hbel vA4.out.lt).below hb (vA4.out.below hbel vA4.out.lt).lt) ((vO4.out.below hbel vO4.out.lt).below hb (vO4.out.below hbel vO4.out.lt).lt) ((vB4.out.below hbel vB4.out.lt).below hb (vB4.out.below hbel vB4.out.lt).lt) ((vb4.out.below hbel vb4.out.lt).below hb (vb4.out.below hbel vb4.out.lt).lt)
          ((rA4.out.below hbel).below hb) ((rB4.out.below hbel).below hb) ((hY4.out.below hbel).below hb) (by omega) (by omega) hfY.out hb01 h21.out flat_cls hoc.out)
        have vA5 := hide (vA4.out.below hbel vA4.out.lt)
        have vB5 := hide (vB4.out.below hbel vB4.out.lt)
        have hbw5 := hide (hbw4.out.trans (hbel.mono hbw4.out.size))
        clear hM htk hl
        generalize (isoL (lA.map cls) (lB.map cls) (cls 8295) bb).map Prod.fst = L1 at *
        generalize (isoL (lA.map cls) (lB.map cls) (cls 8295) bb).map Prod.snd = L2 at *
        generalize (flatS lX).length = fX at *
        generalize (flatS lY).length = fY at *
        go_wp2_with fail
        refine hcX.out.mono ?_
        rintro e w6 ⟨B1, d1, B2, d2, rfl, hr1, hr2, hb6⟩
        rw [hl1.out] at hr1 ⊢
        rw [hl2.out] at hr2 ⊢
        go_wp2_with fail
        refine (hcY.out w6 hb6).mono ?_
        rintro e w7 ⟨B3, d3, B4, d4, rfl, hr3, hr4, hb7⟩
        rw [hl1.out] at hr3 ⊢
        rw [hl2.out] at hr4 ⊢
        have vA7 := hide ((vA5.out.below hb6 vA5.out.lt).below hb7 (vA5.out.below hb6 vA5.out.lt).lt)
        have vB7 := hide ((vB5.out.below hb6 vB5.out.lt).below hb7 (vB5.out.below hb6 vB5.out.lt).lt)
        have cA7 := vA7.out.cell
        have cB7 := vB7.out.cell
        have hr1' := hide (hr1.below hb7).rd
        have hr2' := hide (hr2.below hb7).rd
        have hr3' := hide hr3.rd
        have hr4' := hide hr4.rd
        have hbw6 := hbw5.out.trans (hb6.mono hbw5.out.size)
        have hbw7 := hbw6.trans (hb7.mono hbw6.size)
        have tM : ((M : Int) == (k : Int) + 2 + (nB : Int)) = true := by have := hMM.out; simp; omega
        clear hcX hcY hb6 hb7 hr1 hr2 hr3 hr4
        go_wp2_with fail
        refine (same_any _ _ _ _ _ _ L1 L1 w7 hr1'.out hr3'.out hu.out.1 hu.out.1).mono ?_
        rintro e w8 ⟨rfl, rfl⟩
        rw [sameB_self]
        go_wp2_with fail
        refine (same_any _ _ _ _ _ _ L2 L2 _ hr2'.out hr4'.out hu.out.2 hu.out.2).mono ?_
        rintro e w8 ⟨rfl, rfl⟩
        rw [sameB_self]
        go_wp2_with fail
        refine (awake_l _).mono ?_
        rintro e w9 ⟨rfl, hb9⟩
        go_wp2_with fail
        go_ret
        exact ⟨rfl, hbw7.trans (hb9.mono hbw7.size)⟩
end Go.Proofs.Ytaojjneajiobnaa

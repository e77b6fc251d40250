/-
  The reference of layer 2: walks of prop and Of; of layer 19: Classes.
-/
import Derived.Test.YtaojjneajiobnaaRfA
namespace Go.Proofs.Ytaojjneajiobnaa
open Go.RowKit

set_option maxRecDepth 100000 in
set_option maxHeartbeats 4000000 in
theorem refprop_any (x0 x1 x2 x3 x4 x5 x6 x7 x8 : Int) (w : World) (h2 : 0 ≤ x2 ∧ x2 ≤ 255) (h3 : 0 ≤ x3 ∧ x3 ≤ 255) (h4 : 0 ≤ x4 ∧ x4 ≤ 255) (h5 : 0 ≤ x5 ∧ x5 ≤ 255) (h6 : 0 ≤ x6 ∧ x6 ≤ 255) (h7 : 0 ≤ x7 ∧ x7 ≤ 255) (h8 : 0 ≤ x8 ∧ x8 ≤ 255) :
    Calls Try.prog 80 #[.agg #[.int .i64 x0, .int .i64 x1, .int .i64 x2, .int .i64 x3, .int .i64 x4, .int .i64 x5, .int .i64 x6, .int .i64 x7, .int .i64 x8]] w (OfRet [x2, x3, x4, x5, x6, x7, x8] w) := by
  have e2 : IntKind.u8.wrap x2 = x2 := IntWalk.u8_in _ (by omega)
  have e3 : IntKind.u8.wrap x3 = x3 := IntWalk.u8_in _ (by omega)
  have e4 : IntKind.u8.wrap x4 = x4 := IntWalk.u8_in _ (by omega)
  have e5 : IntKind.u8.wrap x5 = x5 := IntWalk.u8_in _ (by omega)
  have e6 : IntKind.u8.wrap x6 = x6 := IntWalk.u8_in _ (by omega)
  have e7 : IntKind.u8.wrap x7 = x7 := IntWalk.u8_in _ (by omega)
  have e8 : IntKind.u8.wrap x8 = x8 := IntWalk.u8_in _ (by omega)
  go_enter Try.func80, Try.ntmps80
  go_wp2_with fail
  refine bodyPost_ret (results_cell_row rfl _ _ (w.heap.size + 1) 36 #[.int .u8 x2, .int .u8 x3, .int .u8 x4, .int .u8 x5, .int .u8 x6, .int .u8 x7, .int .u8 x8] (0, 0) _ rfl (heap_at_new _ _ _ (by simp)) Try.underlying36 rfl (by kernel_rfl)) rfl ⟨rfl, ((Below.refl _ _).alloc (Nat.le_refl _) _).alloc (by simp) _⟩

set_option maxRecDepth 100000 in
set_option maxHeartbeats 4000000 in
theorem refof_any (r : Int) (w : World) (hr32 : -2147483648 ≤ r ∧ r ≤ 2147483647) : Calls Try.prog 67 #[.int .i32 r] w (OfRet (propS r) w) := by
  obtain ⟨h9, hs, hlen⟩ := tab_ok r
  obtain ⟨hap, hbd⟩ := tab_apart r
  have hw64 : IntKind.i64.wrap r = r := IntWalk.i64_in _ (by omega)
  have hw65 : wrap64 r = r := IntWalk.wrap64_in _ (by omega)
  have hrows := hide (refrows_any r)
  have hP0 : propS r = propT (tabOf r) r := rfl
  generalize tabOf r = t at *
  generalize propS r = ps at *
  have hP := hide hP0
  clear hP0 hs
  go_enter Try.func67, Try.ntmps67
  go_wp2_with fail
  refine (hrows.out _).mono ?_
  rintro e w2 ⟨rfl, rfl⟩
  have v3 := heap_at_new (w.alloc (.cells #[.int .u8 0, .int .u8 0, .int .u8 0, .int .u8 0, .int .u8 0, .int .u8 0, .int .u8 0] 36)) _ (.cells (tabI t) 112) rfl
  go_wp2_with fail
  have v4 := heap_at_old (.cells (tabI t) 112) (heap_at_new w _ (.cells #[.int .u8 0, .int .u8 0, .int .u8 0, .int .u8 0, .int .u8 0, .int .u8 0, .int .u8 0] 36) rfl)
  have hbel := hide ((((Below.refl _ w).alloc (Nat.le_refl _) (.cells #[.int .u8 0, .int .u8 0, .int .u8 0, .int .u8 0, .int .u8 0, .int .u8 0, .int .u8 0] 36)).alloc (by simp) (.cells (tabI t) 112)))
  simp only [World.size_alloc] at v3
  generalize (w.alloc (.cells #[.int .u8 0, .int .u8 0, .int .u8 0, .int .u8 0, .int .u8 0, .int .u8 0, .int .u8 0] 36)).alloc (.cells (tabI t) 112) = w4 at *
  have H3 := hide v3
  have H4 := hide v4
  clear v3 v4 hrows
  obtain ⟨n, hn⟩ : ∃ n, t.length = n := ⟨_, rfl⟩
  rw [hn] at hlen ⊢
  have hN := hide hn
  clear hn
  go_loop [4] (fun i => ∃ k : Nat, k ≤ n ∧ i = .int .i64 ((k : Nat) : Int) ∧ Hid (∀ j, j < k → ¬ (rowAt t j 0 ≤ r ∧ r ≤ rowAt t j 1))) (fun i => n - (intOf i).toNat)
  case atStart => exact ⟨0, Nat.zero_le _, rfl, hide (fun j hj => by omega)⟩
  case round =>
    obtain ⟨k, hk, rfl, hno⟩ := hrel
    by_cases hkn : k < n
    · have hkt : k < t.length := by rw [hN.out]; exact hkn
      have q1 : (k : Int) < (n : Int) := by omega
      have q2 : (0 : Int) ≤ (k : Int) := by omega
      have c0 : w4.cell? ⟨w.heap.size + 1, k * 9, none⟩ = some (.int .i64 (rowAt t k 0)) := cellI h9 H3.out hkt (show 0 < 9 by omega)
      have c1 := cellI h9 H3.out hkt (show 1 < 9 by omega)
      by_cases h0 : rowAt t k 0 ≤ r
      · have d0 : decide (rowAt t k 0 ≤ r) = true := by simpa using h0
        by_cases h1 : r ≤ rowAt t k 1
        · have d1 : decide (r ≤ rowAt t k 1) = true := by simpa using h1
          have hps := hide (hP.out.trans (lin_some h9 hap hkt h0 h1))
          have b2 := hbd k 2 hkt (by omega) (by omega)
          have b3 := hbd k 3 hkt (by omega) (by omega)
          have b4 := hbd k 4 hkt (by omega) (by omega)
          have b5 := hbd k 5 hkt (by omega) (by omega)
          have b6 := hbd k 6 hkt (by omega) (by omega)
          have b7 := hbd k 7 hkt (by omega) (by omega)
          have b8 := hbd k 8 hkt (by omega) (by omega)
          have k2 := hide (fun (j : Nat) (v : Value) (hv : [Value.int .i64 (rowAt t k 0), .int .i64 (rowAt t k 1), .int .i64 (rowAt t k 2), .int .i64 (rowAt t k 3), .int .i64 (rowAt t k 4), .int .i64 (rowAt t k 5), .int .i64 (rowAt t k 6), .int .i64 (rowAt t k 7), .int .i64 (rowAt t k 8)][j]? = some v) => (show w4.cell? ((⟨w.heap.size + 1, k * 9, none⟩ : Addr).add j) = some v by
            rw [addr_add]
            have hj : j < 9 := by have := (List.getElem?_eq_some_iff.1 hv).1; simpa using this
            rw [cellI h9 H3.out hkt hj, ← hv]
            match j, hj with
            | 0, _ | 1, _ | 2, _ | 3, _ | 4, _ | 5, _ | 6, _ | 7, _ | 8, _ => rfl))
          have hcall := hide (refprop_any (rowAt t k 0) (rowAt t k 1) (rowAt t k 2) (rowAt t k 3) (rowAt t k 4) (rowAt t k 5) (rowAt t k 6) (rowAt t k 7) (rowAt t k 8) w4 b2 b3 b4 b5 b6 b7 b8)
          clear hno h9 hap hbd hP h0 h1 b2 b3 b4 b5 b6 b7 b8
          generalize rowAt t k 0 = x0 at *
          generalize rowAt t k 1 = x1 at *
          generalize rowAt t k 2 = x2 at *
          generalize rowAt t k 3 = x3 at *
          generalize rowAt t k 4 = x4 at *
          generalize rowAt t k 5 = x5 at *
          generalize rowAt t k 6 = x6 at *
          generalize rowAt t k 7 = x7 at *
          generalize rowAt t k 8 = x8 at *
          go_wp2_with (refine wpList_load_at rfl 112 (.tmp 33) rfl ⟨w.heap.size + 1, k * 9, none⟩ rfl [.int .i64 x0, .int .i64 x1, .int .i64 x2, .int .i64 x3, .int .i64 x4, .int .i64 x5, .int .i64 x6, .int .i64 x7, .int .i64 x8] _ k2.out Try.underlying112 rfl (by kernel_rfl) ?_)
          refine hcall.out.mono ?_
          rintro e w5 ⟨rfl, hb5⟩
          have v5 : w5.heap[w.heap.size]? = some (.cells #[.int .u8 0, .int .u8 0, .int .u8 0, .int .u8 0, .int .u8 0, .int .u8 0, .int .u8 0] 36 (0, 0)) := (hb5.block _ (lt_of_block H4.out)).trans H4.out
          go_wp2_with (refine wpList_store_row rfl 36 (.tmp 2) (.tmp 35) rfl w.heap.size ([x2, x3, x4, x5, x6, x7, x8].map (.int .u8)).toArray rfl rfl 36 _ v5 (by kernel_rfl) rfl (all_ints _ _) ?_)
          refine bodyPost_ret (results_cell_row rfl _ _ w.heap.size 36 ([x2, x3, x4, x5, x6, x7, x8].map (.int .u8)).toArray (0, 0) _ rfl (setRow_heap _ _ _ _ _ _ v5) Try.underlying36 rfl (by kernel_rfl)) rfl ⟨by rw [hps.out], below_setRow (hbel.out.trans (hb5.mono hbel.out.size)) (Nat.le_refl _) _⟩
        · have d1 : decide (r ≤ rowAt t k 1) = false := by simpa using h1
          have hno' := hide (fun j (hj : j < k + 1) (h : rowAt t j 0 ≤ r ∧ r ≤ rowAt t j 1) => by
            rcases Nat.lt_or_ge j k with h2 | h2
            · exact hno.out j h2 h
            · obtain rfl : j = k := by omega
              exact h1 h.2)
          clear h0 h1
          go_wp2_with fail
          go_round
          case rel => exact ⟨k + 1, by omega, by go_num, hno'⟩
          case measure => simp [intOf]; omega
      · have d0 : decide (rowAt t k 0 ≤ r) = false := by simpa using h0
        have hno' := hide (fun j (hj : j < k + 1) (h : rowAt t j 0 ≤ r ∧ r ≤ rowAt t j 1) => by
          rcases Nat.lt_or_ge j k with h2 | h2
          · exact hno.out j h2 h
          · obtain rfl : j = k := by omega
            exact h0 h.1)
        clear h0
        go_wp2_with fail
        go_round
        case rel => exact ⟨k + 1, by omega, by go_num, hno'⟩
        case measure => simp [intOf]; omega
    · obtain rfl : k = n := by omega
      clear hkn
      have hps := hide (hP.out.trans (lin_none h9 (fun i hi => hno.out i (by rw [← hN.out]; exact hi))))
      have v5 := H4.out
      go_wp2_with (refine wpList_store_row rfl 36 (.tmp 2) (.tmp 36) rfl w.heap.size (dflt.map (.int .u8)).toArray rfl rfl 36 _ v5 (by kernel_rfl) rfl (all_ints _ _) ?_)
      refine bodyPost_ret (results_cell_row rfl _ _ w.heap.size 36 (dflt.map (.int .u8)).toArray (0, 0) _ rfl (setRow_heap _ _ _ _ _ _ v5) Try.underlying36 rfl (by kernel_rfl)) rfl ⟨by rw [hps.out], below_setRow hbel.out (Nat.le_refl _) _⟩

/-- every number is a code point's kind -/
def I32 (zs : List Int) : Prop := ∀ z, z ∈ zs → -2147483648 ≤ z ∧ z ≤ 2147483647
set_option maxRecDepth 100000 in
set_option maxHeartbeats 4000000 in
theorem refclasses_any (A : Option Addr) (n c : Nat) (l : List Int) (w : World) (hr : Rd .i32 w A n l) (h32 : I32 l) (hn : n ≤ 1000000) :
    Calls Try.prog 37 #[.slice A n c] w (RetSl w.heap.size 5 .u8 (l.map cls) w) := by
  have hm := hr.max
  have hln := hide hr.len
  have hfl := fld1
  go_enter Try.func37, Try.ntmps37
  go_wp2_with fail
  go_loopw [3, 4] (fun o i wr => ∃ k A1 c1, k ≤ n ∧ i = .int .i64 ((k : Nat) : Int) ∧ o = .slice A1 k c1 ∧ Own w.heap.size 5 .u8 wr A1 k c1 ((l.take k).map cls) ∧ Below w.heap.size w wr) (fun _ i _ => n - (intOf i).toNat)
  case atStart => exact ⟨0, none, 0, Nat.zero_le _, rfl, rfl, Own.none_ _ _ _ _, Below.refl _ _⟩
  case round =>
    obtain ⟨k, A1, c1, hk, rfl, rfl, hown, hbel⟩ := hrel
    obtain ⟨wo, rfl⟩ : ∃ wo : World, wo = wr := ⟨_, rfl⟩
    have hsz := hbel.size
    by_cases hkn : k < n
    · obtain ⟨b, off, z, rfl, hbw, hz, hck⟩ := (hr.below hbel).at_ hkn
      obtain ⟨p0, p2, p3, p4, p5, p6, hps⟩ := props_of z
      have hst := hide (map_take_step cls hz.out)
      have hof := hide (refof_any z wo (h32 z (List.mem_of_getElem? hz.out)))
      rw [hps] at hof
      clear hps
      generalize cls z = p1 at *
      have q1 : (k : Int) < (n : Int) := by omega
      have q2 : (0 : Int) ≤ (k : Int) := by omega
      go_wp2_with fail
      refine hof.out.mono ?_
      rintro e w2 ⟨rfl, hb2⟩
      have hown2 := hown.below hb2
      have hb2' := hbel.trans (hb2.mono hsz)
      have hsz2 := hb2'.size
      clear hof hb2 hown
      go_wp2_with (at_builtin; refine wpList_app elt8 rfl (.tmp 11) (.tmp 18) rfl rfl rfl (hown2.alloc _) (own_one _ _ _ _ _ _ rfl (Nat.le_refl _)).rd (by omega) (by simp <;> omega) ?_; intro A3 c3 w3 hown3 hgr3 _)
      have hb3 := hide ((hb2'.alloc hsz2 (.cells #[.int .u8 p1] 5)).grown hgr3 (by simp <;> omega) (fun g hg => (hown2.lt g hg).1))
      clear hgr3
      rw [hst.out] at hown3
      go_wp2_with fail
      go_roundw
      case rel => exact ⟨k + 1, A3, c3, by omega, by go_num, rfl, hown3, hb3.out⟩
      case measure => simp [intOf]; omega
    · obtain rfl : k = n := by omega
      clear hkn
      go_wp2_with fail
      go_ret
      have e : l.take k = l := List.take_of_length_le (by rw [hln.out]; exact Nat.le_refl _)
      rw [e] at hown
      have e2 : (l.map cls).length = k := by rw [List.length_map, hln.out]
      exact ⟨A1, c1, by rw [e2]; rfl, by rw [e2]; exact hown, hbel⟩
end Go.Proofs.Ytaojjneajiobnaa

/-
  The walk of RunsSides.
-/
import Derived.Test.YtaojjneajiobnaaRSc
import Derived.Deep.DeepCutAuto
namespace Go.Proofs.Ytaojjneajiobnaa
open Go.RowKit

theorem edge_any (n base : Int) (gB : Nat) (w : World) (hc : w.cell? ⟨gB, 0, none⟩ = some (.int .u8 base)) (hb : 0 ≤ base ∧ base ≤ 1) (hn : 0 ≤ n ∧ n ≤ 200) :
    Calls Try.prog 32 #[.int .i64 n, .pointer (some ⟨gB, 0, none⟩)] w fun e w' => e = .returned (.int .u8 (sideS n base)) ∧ Below w.heap.size w w' := by
  have hs := hide (show sideS n base = (max n base) % 2 from rfl)
  have hs0 : 0 ≤ (max n base) % 2 ∧ (max n base) % 2 ≤ 1 := by omega
  by_cases h : n < base
  · go_enter Try.func32, Try.ntmps32
    go_wp2_with fail
    go_ret
    exact ⟨ret_int (by rw [hs.out, Int.max_eq_right (by omega)]), Below.refl _ _⟩
  · go_enter Try.func32, Try.ntmps32
    go_wp2_with fail
    go_ret
    exact ⟨ret_int (by rw [hs.out, Int.max_eq_left (by omega)]), Below.refl _ _⟩
theorem nestR_len (a : List Bool) : (nestR a).length = 2 * a.length + 1 := by unfold nestR; simp; omega
set_option maxRecDepth 100000 in
set_option maxHeartbeats 8000000 in
theorem lawRSides_any (A A' : Option Addr) (n n' c c' : Nat) (xs ys : List Bool) (rtl : Bool) (w : World) (hr : RdB w A n xs) (hr' : RdB w A' n' ys) (hc : n ≤ c) (hc' : n' ≤ c') :
    Calls Try.prog 12 #[.slice A n c, .slice A' n' c', .bool rtl] w fun e w' => e = .returned (.bool true) ∧ Below w.heap.size w w' := by
  have hP := hide (par_any none 0 0 [] false rtl w (Rd.nil _ _ _) (by decide))
  rw [show parS [] false rtl = bit rtl from rfl] at hP
  have hb01 : 0 ≤ bit rtl ∧ bit rtl ≤ 1 := by cases rtl <;> decide
  have hm := hr.2.1
  have hm' := hr'.2.1
  go_enter Try.func12, Try.ntmps12
  go_wp2_with fail
  refine hP.out.mono ?_
  rintro e w1 ⟨rfl, hb1⟩
  generalize bit rtl = base at *
  have hs1 := hb1.size
  have hb1 := hide hb1
  clear hP
  have hh := hide hm
  have hq : (n : Int) ≤ (c : Int) := by omega
  have hq' : (n' : Int) ≤ (c' : Int) := by omega
  go_upto_region 2 with fail
  go_cut [0, 1] from 2 to 3 (fun s0 s1 wx => s0 = .slice A (min n 9) c ∧ s1 = .slice A' (min n' 9) c' ∧ wx = (w1.alloc (.cells #[.int .u8 base] 5)).drew)
  case first =>
    by_cases g1 : 9 < n <;> by_cases g2 : 9 < n'
    all_goals
      go_region
      all_goals go_wp2_with fail
      all_goals go_meet
      all_goals first
        | exact ⟨by rw [Nat.min_eq_right (by omega)], by rw [Nat.min_eq_right (by omega)], rfl⟩
        | exact ⟨by rw [Nat.min_eq_left (by omega)], by rw [Nat.min_eq_right (by omega)], rfl⟩
        | exact ⟨by rw [Nat.min_eq_right (by omega)], by rw [Nat.min_eq_left (by omega)], rfl⟩
        | exact ⟨by rw [Nat.min_eq_left (by omega)], by rw [Nat.min_eq_left (by omega)], rfl⟩
  obtain ⟨rfl, rfl, rfl⟩ := hcut
  replace hr := hr.take (Nat.min_le_left n 9)
  replace hr' := hr'.take (Nat.min_le_left n' 9)
  have hn9 := Nat.min_le_right n 9
  have hn9' := Nat.min_le_right n' 9
  generalize xs.take (min n 9) = a at *
  generalize ys.take (min n' 9) = b at *
  generalize min n 9 = m at *
  generalize min n' 9 = m' at *
  have hv1 := (Var.new w1 5 (.int .u8 base)).drew
  have hb2 := hide ((hb1.out.alloc hb1.out.size (.cells #[.int .u8 base] 5)).drew)
  have hgs : Hid (w.heap.size ≤ w1.heap.size) := hide hb1.out.size
  clear hb1 hq hq' hc hc' hm hm' hh hs1
  generalize w1.heap.size = gB at *
  generalize (w1.alloc (.cells #[.int .u8 base] 5)).drew = w2 at *
  have hv1 := hide hv1
  have hla := hide hr.1
  have hlb := hide hr'.1
  have hsd := hide (seqs_side hb01 (a := a) (b := b) (by have := hla.out; omega) (by have := hlb.out; omega))
  have hcl := hide (show (nestR a ++ nestR b).map cls = sideC a b by rw [List.map_append, nest_cls, nest_cls]; rfl)
  have hna := hide (nestR_len a)
  have hnb := hide (nestR_len b)
  have bda := hide (nestL_bd a base)
  have bdb := hide (nestL_bd b base)
  go_wp2_with fail
  have hni0 : Hid (NI w gB w2.heap.size base none 0 0 [] (w2.alloc (.cells #[.slice none 0 0] 23))) := hide ⟨hb2.out.alloc hb2.out.size _, hv1.out.alloc _, Var.new w2 _ _, Own.none_ _ _ _ _, hb2.out.size⟩
  clear hv1 hb2
  generalize w2.heap.size = gl at *
  generalize w2.alloc (.cells #[.slice none 0 0] 23) = w3 at *
  refine (nest_any w3 hni0.out A m c a hr (by omega) (by omega) hb01).mono ?_
  rintro e w4 ⟨rfl, A4, n4, c4, hni4⟩
  have hn4 := hide hni4.2.2.2.1.len
  rw [List.nil_append] at hni4 hn4
  have hni4 := hide hni4
  have q4 : n4 ≤ 19 := by have := hn4.out; have := hna.out; have := hla.out; omega
  go_wp2_with fail
  refine (nest_any w4 hni4.out A' m' c' b hr' (by omega) (by omega) hb01).mono ?_
  rintro e w5 ⟨rfl, A5, n5, c5, hni5⟩
  have hn5 := hide hni5.2.2.2.1.len
  have q5 : n5 ≤ 38 := by have := hn5.out; rw [List.length_append] at this; have := hna.out; have := hla.out; have := hnb.out; have := hlb.out; omega
  obtain ⟨hbl5, hvB, hvl, hown5, hgl⟩ := hni5
  have hbl5 := hide hbl5
  have hcl5 := hvl.cell
  have hcB5 := hvB.cell
  have hltB := hvB.lt
  have hS := hide (seqs_any A5 n5 c5 (nestR a ++ nestR b) base w5 hown5.rd (by omega) hb01)
  rw [hcl.out] at hS
  clear hvl hvB hown5
  go_wp2_with fail
  refine hS.out.mono ?_
  rintro e w6 ⟨A6, c6, g1, c7, xs, rfl, hq, hx, hL, hb6⟩
  have hxl := hide (congrArg List.length hx)
  rw [List.length_map] at hxl
  have hcB6 : w6.cell? ⟨gB, 0, none⟩ = some (.int .u8 base) := (hb6.cell (p := ⟨gB, 0, none⟩) hltB).trans hcB5
  have hs56 := hb6.size
  have hb6 := hide (hbl5.out.trans (hb6.mono hbl5.out.size))
  have bda := bda.out
  have bdb := bdb.out
  have hla := hla.out
  have hlb := hlb.out
  clear hcl5 hcB5 hL hni0 hni4 hS hcl hna hnb hn4 hn5 hbl5 hr hr'
  generalize hga : nestL base a = la at *
  generalize hgb : nestL base b = lb at *
  by_cases hab : la = lb
  · obtain ⟨st, en, hE⟩ := hsd.out.1 hab
    have hR := hq.runs (by rw [hxl.out, hE]; simp)
    rw [hx, hE] at hR
    have hx1 : xs.length = 1 := by rw [hxl.out, hE]; rfl
    rw [hx1] at hR ⊢
    obtain ⟨b1, rfl, hlt1, hc1⟩ := hR.2.2 (by decide)
    obtain ⟨Ai, ci, k1, _, k2, k3, k4⟩ := hc1 0 _ rfl
    clear hc1 hR hq hx hxl hE hsd
    go_wp2_with fail
    refine (awake_r w6).mono ?_
    rintro e w7 ⟨rfl, hb7⟩
    go_wp2_with fail
    go_ret
    exact ⟨rfl, hb6.out.trans (hb7.mono hb6.out.size)⟩
  · have hE := hsd.out.2 hab
    have hR := hq.runs (by rw [hxl.out, hE]; simp)
    rw [hx, hE] at hR
    have hx1 : xs.length = 2 := by rw [hxl.out, hE]; rfl
    rw [hx1] at hR ⊢
    obtain ⟨b1, rfl, hlt1, hc1⟩ := hR.2.2 (by decide)
    obtain ⟨Ai, ci, k1, _, k2, k3, k4⟩ := hc1 0 _ rfl
    obtain ⟨Bi, di, j1, _, j2, j3, j4⟩ := hc1 1 _ rfl
    have hbt := hide (show sideS la lb = (max la lb) % 2 from rfl)
    have hcm : Hid (sideS lb la = sideS la lb) := hide (by unfold sideS; rw [Int.max_comm])
    simp only [Nat.reduceMul, Nat.reduceAdd] at k1 k2 k3 k4 j1 j2 j3 j4
    rw [hcm.out] at j3
    clear hcm
    have he1 := hide (fun y : BW w6 => edge_any la base gB y.world ((y.below.cell (p := ⟨gB, 0, none⟩) (by have := hb6; exact Nat.lt_of_lt_of_le hltB hs56)).trans hcB6) hb01 (by omega))
    have he2 := hide (fun y : BW w6 => edge_any lb base gB y.world ((y.below.cell (p := ⟨gB, 0, none⟩) (by have := hb6; exact Nat.lt_of_lt_of_le hltB hs56)).trans hcB6) hb01 (by omega))
    have hx2 : ∀ (y : BW w6) (o : Nat), y.world.cell? ⟨b1, o, none⟩ = w6.cell? ⟨b1, o, none⟩ := fun y o => y.below.cell (p := ⟨b1, o, none⟩) hlt1
    have hw := hide (fun y : BW w6 => awake_r y.world)
    have hab' : ((la : Int) == lb) = false := by simpa using hab
    clear hc1 hR hq hx hxl hE hsd hab
    generalize sideS la base = ea at *
    generalize sideS lb base = eb at *
    by_cases hlt : la < lb
    · have hbt2 : Hid (sideS la lb = lb % 2) := hide (by rw [hbt.out, Int.max_eq_right (by omega)])
      have hbd : 0 ≤ lb % 2 ∧ lb % 2 ≤ 1 := by omega
      rw [hbt2.out] at k4 j3
      clear hbt hbt2
      go_wp2_with fail
      refine wp_region_below (by kernel_rfl) (by kernel_rfl) ?_
      repeat (go_big_quiet_step (first | (go_at_call 32; first | exact Calls.below_of (he1.out _) | exact Calls.below_of (he2.out _)) | (go_at_call 26; exact Calls.below_of (hw.out _))))
      refine wpQuiet_nil ?_
      rintro _ ⟨y, rfl⟩
      go_wp2_with fail
      go_ret
      exact ⟨rfl, hb6.out.trans (y.below.mono hb6.out.size)⟩
    · have hbt2 : Hid (sideS la lb = la % 2) := hide (by rw [hbt.out, Int.max_eq_left (by omega)])
      have hbd : 0 ≤ la % 2 ∧ la % 2 ≤ 1 := by omega
      rw [hbt2.out] at k4 j3
      clear hbt hbt2
      go_wp2_with fail
      refine wp_region_below (by kernel_rfl) (by kernel_rfl) ?_
      repeat (go_big_quiet_step (first | (go_at_call 32; first | exact Calls.below_of (he1.out _) | exact Calls.below_of (he2.out _)) | (go_at_call 26; exact Calls.below_of (hw.out _))))
      refine wpQuiet_nil ?_
      rintro _ ⟨y, rfl⟩
      go_wp2_with fail
      go_ret
      exact ⟨rfl, hb6.out.trans (y.below.mono hb6.out.size)⟩
end Go.Proofs.Ytaojjneajiobnaa

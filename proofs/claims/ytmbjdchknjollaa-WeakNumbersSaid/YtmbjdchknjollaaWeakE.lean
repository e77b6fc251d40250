/-
  The walk of weak.Weak.
-/
import Derived.Test.YtmbjdchknjollaaWeakD
import Derived.Test.YtmbjdchknjollaaPlainB
namespace Go.Proofs.Ytmbjdchknjollaa
open Go.RowKit

theorem ixf0 (f0 f1 f2 f3 f4 f5 : Value) (w : World) : (Instr.index 46 (.agg #[f0, f1, f2, f3, f4, f5]) (.int .i64 0)).run Try.prog w = .ok f0 w := by kernel_rfl
theorem ixf1 (f0 f1 f2 f3 f4 f5 : Value) (w : World) : (Instr.index 46 (.agg #[f0, f1, f2, f3, f4, f5]) (.int .i64 1)).run Try.prog w = .ok f1 w := by kernel_rfl
theorem ixf2 (f0 f1 f2 f3 f4 f5 : Value) (w : World) : (Instr.index 46 (.agg #[f0, f1, f2, f3, f4, f5]) (.int .i64 2)).run Try.prog w = .ok f2 w := by kernel_rfl
theorem ixf3 (f0 f1 f2 f3 f4 f5 : Value) (w : World) : (Instr.index 46 (.agg #[f0, f1, f2, f3, f4, f5]) (.int .i64 3)).run Try.prog w = .ok f3 w := by kernel_rfl
theorem ixf4 (f0 f1 f2 f3 f4 f5 : Value) (w : World) : (Instr.index 46 (.agg #[f0, f1, f2, f3, f4, f5]) (.int .i64 4)).run Try.prog w = .ok f4 w := by kernel_rfl
theorem ixf5 (f0 f1 f2 f3 f4 f5 : Value) (w : World) : (Instr.index 46 (.agg #[f0, f1, f2, f3, f4, f5]) (.int .i64 5)).run Try.prog w = .ok f5 w := by kernel_rfl

/-- the row behind k rules -/
def stage (s : Int) (l : List Int) : Nat → List Int
  | 0 => l
  | 1 => marksS s l
  | 2 => arabS s (marksS s l)
  | 3 => sgN (arabS s (marksS s l)) (l.length - 2)
  | 4 => endsS (sgN (arabS s (marksS s l)) (l.length - 2))
  | 5 => restS (endsS (sgN (arabS s (marksS s l)) (l.length - 2)))
  | _ => numS 0 0 s (restS (endsS (sgN (arabS s (marksS s l)) (l.length - 2))))
def weakP (l : List Int) (start : Int) : List Int := stage (min start 1) l 6

set_option maxRecDepth 100000 in
set_option maxHeartbeats 4000000 in
theorem weak_any (A : Option Addr) (n c : Nat) (l : List Int) (start : Int) (w : World) (hr : Rd .u8 w A n l) (hn : n ≤ 1000000) :
    Calls Try.prog 25 #[.slice A n c, .int .u8 start] w (RetSl w.heap.size 5 .u8 (weakP l start) w) := by
  have hm := hr.max
  have hown0 : Own w.heap.size 5 .u8 (w.alloc (.cells #[] 5)) (some ⟨w.heap.size, 0, none⟩) 0 0 [] := own_empty _ _ _ _ _ rfl (Nat.le_refl _)
  go_enter Try.func25, Try.ntmps25
  go_wp2_with (at_builtin; refine wpList_app elt8 rfl (.tmp 8) (.tmp 9) rfl rfl rfl hown0 (hr.alloc _) (by omega) (by simp) ?_; intro A1 c1 w1 hown1 hgr1 _)
  all_goals
    simp only [Nat.zero_add, List.nil_append] at hown1
    have hb1 : Below w.heap.size w w1 := ((Below.refl _ _).alloc (Nat.le_refl _) _).grown hgr1 (by simp) (by simp [Value.ownBlock])
    clear hown0 hgr1
    have hlt := hide hown1.lt
    have hlen := hide hr.len
    have hS := hide (show min start 1 = _ by first | exact min1 (by assumption) | exact min2 (by assumption))
    have i0 := ixf0
    have i1 := ixf1
    have i2 := ixf2
    have i3 := ixf3
    have i4 := ixf4
    have i5 := ixf5
    have hsz1 := hb1.size
    go_loopw [27] (fun i wr => ∃ k : Nat, k ≤ 6 ∧ i = .int .i64 k ∧ Own w.heap.size 5 .u8 wr A1 n c1 (stage (min start 1) l k) ∧ Below w.heap.size w wr ∧ w1.heap.size < wr.heap.size ∧ Hid (wr.heap[w1.heap.size]? = some (.cells #[.slice A1 n c1, .int .u8 _] 45 (0, 0)))) (fun i _ => 6 - (intOf i).toNat)
    case atStart => exact ⟨0, Nat.zero_le _, rfl, hown1.alloc _, hb1.alloc hsz1 _, by simp, heap_alloc_new w1 _⟩
    case round =>
      obtain ⟨k, hk, rfl, hown, hbel, hszr, hbox⟩ := hrel
      rw [hS.out] at hown
      by_cases hkn : k < 6
      · obtain rfl | rfl | rfl | rfl | rfl | rfl : k = 0 ∨ k = 1 ∨ k = 2 ∨ k = 3 ∨ k = 4 ∨ k = 5 := by omega
        · clear hkn hk
          go_wp2_with fail
          refine (marks_any _ A1 n c1 _ _ _ hown).mono ?_
          rintro e w2 ⟨rfl, hown2, hgr2⟩
          have hb2 := hide (hbel.grown hgr2 hbel.size (fun g hg => (hlt.out g hg).1))
          have hx2 := hide ((hgr2.block _ hszr (fun h => by have := hlt.out _ h.symm; omega)).trans hbox.out)
          have hs2 := hgr2.size
          go_wp2_with fail
          go_roundw
          case rel => exact ⟨1, by omega, by go_num, by rw [hS.out]; exact hown2, hb2.out, by omega, hx2.out⟩
          case measure => simp [intOf]
        · clear hkn hk
          go_wp2_with fail
          refine (arabic_any _ A1 n c1 _ _ _ hown).mono ?_
          rintro e w2 ⟨rfl, hown2, hgr2⟩
          have hb2 := hide (hbel.grown hgr2 hbel.size (fun g hg => (hlt.out g hg).1))
          have hx2 := hide ((hgr2.block _ hszr (fun h => by have := hlt.out _ h.symm; omega)).trans hbox.out)
          have hs2 := hgr2.size
          go_wp2_with fail
          go_roundw
          case rel => exact ⟨2, by omega, by go_num, by rw [hS.out]; exact hown2, hb2.out, by omega, hx2.out⟩
          case measure => simp [intOf]
        · clear hkn hk
          go_wp2_with fail
          refine (signs_any _ A1 n c1 _ _ _ hown hn).mono ?_
          rintro e w2 ⟨rfl, hown2, hgr2⟩
          have hb2 := hide (hbel.grown hgr2 hbel.size (fun g hg => (hlt.out g hg).1))
          have hx2 := hide ((hgr2.block _ hszr (fun h => by have := hlt.out _ h.symm; omega)).trans hbox.out)
          have hs2 := hgr2.size
          go_wp2_with fail
          go_roundw
          case rel => exact ⟨3, by omega, by go_num, by rw [hS.out]; exact (show Own _ 5 .u8 _ A1 n c1 (sgN (arabS _ (marksS _ l)) (l.length - 2)) by rw [hlen.out]; exact hown2), hb2.out, by omega, hx2.out⟩
          case measure => simp [intOf]
        · clear hkn hk
          go_wp2_with fail
          refine (ends_any _ A1 n c1 _ _ _ hown hn).mono ?_
          rintro e w2 ⟨rfl, hown2, hgr2⟩
          have hb2 := hide (hbel.grown hgr2 hbel.size (fun g hg => (hlt.out g hg).1))
          have hx2 := hide ((hgr2.block _ hszr (fun h => by have := hlt.out _ h.symm; omega)).trans hbox.out)
          have hs2 := hgr2.size
          go_wp2_with fail
          go_roundw
          case rel => exact ⟨4, by omega, by go_num, by rw [hS.out]; exact hown2, hb2.out, by omega, hx2.out⟩
          case measure => simp [intOf]
        · clear hkn hk
          go_wp2_with fail
          refine (rest_any _ A1 n c1 _ _ _ hown).mono ?_
          rintro e w2 ⟨rfl, hown2, hgr2⟩
          have hb2 := hide (hbel.grown hgr2 hbel.size (fun g hg => (hlt.out g hg).1))
          have hx2 := hide ((hgr2.block _ hszr (fun h => by have := hlt.out _ h.symm; omega)).trans hbox.out)
          have hs2 := hgr2.size
          go_wp2_with fail
          go_roundw
          case rel => exact ⟨5, by omega, by go_num, by rw [hS.out]; exact hown2, hb2.out, by omega, hx2.out⟩
          case measure => simp [intOf]
        · clear hkn hk
          go_wp2_with fail
          refine (letters_any _ A1 n c1 _ _ _ hown).mono ?_
          rintro e w2 ⟨rfl, hown2, hgr2⟩
          have hb2 := hide (hbel.grown hgr2 hbel.size (fun g hg => (hlt.out g hg).1))
          have hx2 := hide ((hgr2.block _ hszr (fun h => by have := hlt.out _ h.symm; omega)).trans hbox.out)
          have hs2 := hgr2.size
          go_wp2_with fail
          go_roundw
          case rel => exact ⟨6, by omega, by go_num, by rw [hS.out]; exact hown2, hb2.out, by omega, hx2.out⟩
          case measure => simp [intOf]
      · obtain rfl : k = 6 := by omega
        clear hkn hk
        obtain ⟨hc0, hc1⟩ := box_cells hbox.out
        go_wp2_with fail
        go_ret
        have hln := hown.len
        have hwp : weakP l start = stage _ l 6 := congrArg (fun x => stage x l 6) hS.out
        rw [← hwp] at hown hln
        exact ⟨A1, c1, by rw [hln]; rfl, by rw [hln]; exact hown, hbel⟩
end Go.Proofs.Ytmbjdchknjollaa

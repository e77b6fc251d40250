/-
  The small functions of runs: Removed, side, at, runs.
-/
import Derived.Test.YtaojjneajiobnaaRunI
namespace Go.Proofs.Ytaojjneajiobnaa
open Go.RowKit

def sideS (a b : Int) : Int := (max a b) % 2
theorem bits_one : ∀ n : Fin 256, bits BinOp.and IntKind.u8 (n.val : Int) 1 = (n.val : Int) % 2 := by decide +kernel
theorem bits_low {a : Int} (h : 0 ≤ a ∧ a ≤ 255) : bits BinOp.and IntKind.u8 a 1 = a % 2 := by
  obtain ⟨n, rfl⟩ := Int.eq_ofNat_of_zero_le h.1
  exact bits_one ⟨n, by omega⟩
theorem side_bd (a b : Int) : 0 ≤ sideS a b ∧ sideS a b ≤ 1 := by unfold sideS; omega
set_option maxHeartbeats 1000000 in
theorem removed_any (x : Int) (w : World) : Calls Try.prog 30 #[.int .u8 x] w fun e w' => e = .returned (.bool (x == 9)) ∧ w = w' := by
  go_enter Try.func30, Try.ntmps30
  go_wp2
  go_ret
  exact ⟨rfl, rfl⟩
set_option maxHeartbeats 1000000 in
theorem side_any (a b : Int) (w : World) (ha : 0 ≤ a ∧ a ≤ 255) (hb : 0 ≤ b ∧ b ≤ 255) : Calls Try.prog 52 #[.int .u8 a, .int .u8 b] w fun e w' => e = .returned (.int .u8 (sideS a b)) ∧ w = w' := by
  go_enter Try.func52, Try.ntmps52
  go_wp2
  · go_ret
    exact ⟨ret_int (by rw [bits_low hb]; unfold sideS; rw [Int.max_eq_right (by omega)]), rfl⟩
  · go_ret
    exact ⟨ret_int (by rw [bits_low ha]; unfold sideS; rw [Int.max_eq_left (by omega)]), rfl⟩
theorem runs_any (v1 v2 : Value) (w : World) : Calls Try.prog 51 #[.agg #[v1, v2]] w fun e w' => e = .returned (.func (.func 76) #[] #[.pointer (some ⟨w.heap.size, 0, none⟩)]) ∧ w.alloc (.cells #[v1, v2] 88) = w' := by
  go_enter Try.func51, Try.ntmps51
  go_wp2
  go_ret
  exact ⟨rfl, rfl⟩
/-- the level of the n-th kept place; the paragraph's, if there is none -/
def atS (lv kp : List Int) (base n : Int) : Int := if n < 0 ∨ (kp.length : Int) ≤ n then base else lvAt lv kp n.toNat
set_option maxRecDepth 100000 in
set_option maxHeartbeats 4000000 in
theorem at_any (A1 A2 : Option Addr) (n1 N c1 c2 : Nat) (lv kp : List Int) (n base : Int) (w : World) (r1 : Rd .u8 w A1 n1 lv) (r2 : Rd .i64 w A2 N kp) (hkp : ∀ x ∈ kp, 0 ≤ x ∧ x < (n1 : Int)) (hn : -10 ≤ n ∧ n ≤ 2000000) :
    Calls Try.prog 53 #[.agg #[.slice A1 n1 c1, .slice A2 N c2], .int .i64 n, .int .u8 base] w fun e w' => e = .returned (.int .u8 (atS lv kp base n)) ∧ Below w.heap.size w w' := by
  have hln := hide r2.len
  by_cases h0 : n < 0
  · have t0 : decide (n < 0) = true := by simp; omega
    have hs := hide (show atS lv kp base n = base from if_pos (.inl h0))
    have r1 := hide r1
    have r2 := hide r2
    go_enter Try.func53, Try.ntmps53
    go_wp2
    go_ret
    exact ⟨(show Ending.returned (.int .u8 base) = _ from ret_int hs.out.symm), (Below.refl _ _).alloc (Nat.le_refl _) _⟩
  · have t0 : decide (n < 0) = false := by simp; omega
    obtain ⟨m, rfl⟩ := Int.eq_ofNat_of_zero_le (show 0 ≤ n by omega)
    by_cases h1 : N ≤ m
    · have t1 : decide (N ≤ m) = true := by simp; omega
      have hs := hide (show atS lv kp base m = base from if_pos (.inr (by rw [hln.out]; omega)))
      have r1 := hide r1
      have r2 := hide r2
      go_enter Try.func53, Try.ntmps53
      go_wp2
      go_ret
      exact ⟨(show Ending.returned (.int .u8 base) = _ from ret_int hs.out.symm), (Below.refl _ _).alloc (Nat.le_refl _) _⟩
    · have t1 : decide (N ≤ m) = false := by simp; omega
      obtain ⟨bb, off, x0, rfl, hb0, hx0, hcx0⟩ := r2.at_ (show m < N by omega)
      have hx0b := hkp x0 (List.mem_of_getElem? hx0.out)
      obtain ⟨y0, rfl⟩ : ∃ y : Nat, x0 = (y : Int) := ⟨x0.toNat, by omega⟩
      obtain ⟨b1, off1, u0, rfl, hb1, hu0, hcu0⟩ := r1.at_ (show y0 < n1 by omega)
      have hs := hide (show atS lv kp base m = u0 by
        unfold atS
        rw [if_neg (by rw [hln.out]; omega), Int.toNat_natCast]
        exact lvAt_of hx0.out hu0.out)
      have hnb : ¬ bb = w.heap.size := by omega
      have hnb1 : ¬ b1 = w.heap.size := by omega
      have q1 : (m : Int) < (N : Int) := by omega
      have q2 : (0 : Int) ≤ (m : Int) := by omega
      have q3 : (y0 : Int) < (n1 : Int) := by omega
      have q4 : (0 : Int) ≤ (y0 : Int) := by omega
      have hcx := World.cell?_alloc_lt w (.cells #[.slice (some ⟨b1, off1, none⟩) n1 c1, .slice (some ⟨bb, off, none⟩) N c2] 88) ⟨bb, off + m, none⟩ hb0
      have hcu := World.cell?_alloc_lt w (.cells #[.slice (some ⟨b1, off1, none⟩) n1 c1, .slice (some ⟨bb, off, none⟩) N c2] 88) ⟨b1, off1 + y0, none⟩ hb1
      rw [hcx0] at hcx
      rw [hcu0] at hcu
      clear r1 r2 hcx0 hcu0
      go_enter Try.func53, Try.ntmps53
      go_wp2_with fail
      go_quiet (fail)
      go_wp2_with fail
      go_ret
      exact ⟨(show Ending.returned (.int .u8 u0) = _ from ret_int hs.out.symm), hB_drewN ((Below.refl _ _).alloc (Nat.le_refl _) _) _⟩
end Go.Proofs.Ytaojjneajiobnaa

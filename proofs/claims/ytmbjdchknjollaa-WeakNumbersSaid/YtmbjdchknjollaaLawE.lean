/-
  The law WeakTells: its walk.
-/
import Derived.Test.YtmbjdchknjollaaWeakH
namespace Go.Proofs.Ytmbjdchknjollaa
open Go.RowKit

theorem sameB_self (l : List Int) : sameB l l = true := by simp [sameB]
set_option maxRecDepth 100000 in
set_option maxHeartbeats 4000000 in
theorem wtells_walk (A : Option Addr) (n c : Nat) (l : List Int) (start : Int) (w : World) (hr : Rd .u8 w A n l) (hu : U8 l) (hs : 0 ≤ start ∧ start ≤ 255) :
    Calls Try.prog 8 #[.slice A n c, .int .u8 start] w fun e w' => e = .returned (.bool true) ∧ Below w.heap.size w w' := by
  have hm := hr.max
  by_cases hn : n ≤ 300
  · have hu2 := weakP_u8 hs.1 hu
    have hyes := hide (sameB_self (weakP l start))
    go_enter Try.func8, Try.ntmps8
    go_wp2_with fail
    refine (weakref_any A n c l start w hr hs.1 (by omega)).mono ?_
    rintro e w1 ⟨A1, c1, rfl, hown1, hb1⟩
    go_wp2_with fail
    refine (is21_any start A A1 n _ c c1 l (weakP l start) w1 hs (hr.below hb1) hown1.rd (by omega) hu hu2).mono ?_
    rintro e w2 ⟨rfl, hb2⟩
    rw [hyes.out]
    replace hb2 := hb1.trans (hb2.mono hb1.size)
    go_wp2_with fail
    refine (awake_w _).mono ?_
    rintro e w3 ⟨rfl, hb3⟩
    replace hb3 := hb2.trans (hb3.mono hb2.size)
    go_wp2_with fail
    go_ret
    exact ⟨rfl, hb3⟩
  · go_enter Try.func8, Try.ntmps8
    go_wp2
    go_ret
    exact ⟨rfl, Below.refl _ _⟩
end Go.Proofs.Ytmbjdchknjollaa

/-
  The law PlainTells: its walk.
-/
import Derived.Test.YtmbjdchknjollaaAwakeP
import Derived.Test.YtmbjdchknjollaaPlainR
namespace Go.Proofs.Ytmbjdchknjollaa
open Go.RowKit

set_option maxRecDepth 100000 in
set_option maxHeartbeats 4000000 in
theorem tells_walk (A : Option Addr) (n c : Nat) (l : List Int) (level start fin cl : Int) (w : World) (hr : Rd .u8 w A n l) (hu : U8 l)
    (hl : 0 ≤ level ∧ level ≤ 255) (hs : 0 ≤ start ∧ start ≤ 255) (hf : 0 ≤ fin ∧ fin ≤ 255) :
    Calls Try.prog 3 #[.slice A n c, .int .u8 level, .int .u8 start, .int .u8 fin, .int .u8 cl] w fun e w' => e = .returned (.bool true) ∧ Below w.heap.size w w' := by
  have hm := hr.max
  have hn := hr.len
  by_cases h300 : 300 < n
  · clear hn
    go_enter Try.func3, Try.ntmps3
    go_wp2_with fail
    go_ret
    exact ⟨rfl, Below.refl _ _⟩
  · have hle : n ≤ 300 := by omega
    clear h300
    have heq := hide (ref9_eq (level := level) (l := l) hs.1 hf.1)
    have u1 := plainP_u8 (level := level) (start := start) hu hf.1
    rw [hn] at heq
    clear hn
    go_enter Try.func3, Try.ntmps3
    go_wp2_with fail
    refine (neu_any cl _).mono ?_
    rintro e w1 ⟨rfl, hb1⟩
    go_wp2_with fail
    refine (neu_ref cl _).mono ?_
    rintro e w' ⟨rfl, rfl⟩
    go_wp2_with fail
    refine (impl_any cl level hl _).mono ?_
    rintro e w2 ⟨rfl, hb2⟩
    go_wp2_with fail
    refine (impl_ref cl level hl _).mono ?_
    rintro e w' ⟨rfl, rfl⟩
    replace hb2 := hb1.trans (hb2.mono hb1.size)
    clear hb1
    go_wp2_with fail
    refine (plain_any _ n c l level start fin _ (hr.below hb2) (by omega) hl).mono ?_
    rintro e w3 ⟨A3, c3, rfl, hown3, hb3⟩
    replace hb3 := hb2.trans (hb3.mono hb2.size)
    clear hb2
    go_wp2_with fail
    refine (plain_ref _ n c l level start fin _ (hr.below hb3) (by omega) hl).mono ?_
    rintro e w4 ⟨A4, c4, rfl, hown4, hb4⟩
    have hown3' := hown3.below hb4
    replace hb4 := hb3.trans (hb4.mono hb3.size)
    clear hb3 hown3
    go_wp2_with fail
    refine (same_any _ _ _ _ _ _ _ _ _ hown3'.rd hown4.rd u1 (by rw [heq.out]; exact u1)).mono ?_
    rintro e w' ⟨rfl, rfl⟩
    have hsame : sameB (plainP l level start fin) (ref9 l level start fin n) = true := by rw [heq.out]; simp [sameB]
    go_wp2_with fail
    refine (awake_p _).mono ?_
    rintro e w5 ⟨rfl, hb5⟩
    go_wp2_with fail
    go_ret
    exact ⟨ret_bool (by first | rfl | simp), hb4.trans (hb5.mono hb4.size)⟩
end Go.Proofs.Ytmbjdchknjollaa

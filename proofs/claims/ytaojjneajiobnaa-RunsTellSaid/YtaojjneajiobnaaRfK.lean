/-
  The walk of LevelTells.
-/
import Derived.Test.YtaojjneajiobnaaExpV
import Derived.Test.YtaojjneajiobnaaRfJ
import Derived.Test.YtaojjneajiobnaaAwL
namespace Go.Proofs.Ytaojjneajiobnaa
open Go.RowKit

def minB (b : Int) : Int := if 1 < b then 1 else b
theorem minB_bd {b : Int} (h : 0 ≤ b) : 0 ≤ minB b ∧ minB b ≤ 1 := by unfold minB; split <;> omega
/-- level.Explicit, whatever the level -/
theorem exp_all (A : Option Addr) (n c : Nat) (l : List Int) (b0 : Int) (w : World) (hr : Rd .i32 w A n l) (hn : n ≤ 100000) (hb : 0 ≤ b0) :
    Calls Try.prog 14 #[.slice A n c, .int .u8 b0] w (ExpRet n (levelsS (l.map cls) (minB b0)) (classesS (l.map cls) (minB b0)) w) := by
  by_cases h : 1 < b0
  · have := exp_min A n c l b0 w hr hn h
    rwa [show minB b0 = 1 from if_pos h]
  · have := exp_any A n c l b0 w hr hn ⟨hb, by omega⟩
    rwa [show minB b0 = b0 from if_neg h]
theorem refexp_all (A : Option Addr) (n c : Nat) (l : List Int) (b0 : Int) (w : World) (hr : Rd .i32 w A n l) (h32 : I32 l) (hn : n ≤ 90000) (hb : 0 ≤ b0) :
    Calls Try.prog 15 #[.slice A n c, .int .u8 b0] w (RowsRet (levelsS (l.map cls) (minB b0)) (classesS (l.map cls) (minB b0)) w) :=
  refexp_one A n c l b0 (minB b0) w hr h32 hn (minB_bd hb) (hide rfl)

set_option maxRecDepth 100000 in
set_option maxHeartbeats 4000000 in
theorem lawTells_any (A0 A1 : Option Addr) (n0 n1 c0 c1 : Nat) (zc l : List Int) (auto rtl : Bool) (b0 : Int) (w : World) (r0 : Rd .u8 w A0 n0 zc) (r1 : Rd .i32 w A1 n1 l) (h32 : I32 l) (hb : 0 ≤ b0 ∧ b0 ≤ 255) :
    Calls Try.prog 3 #[.slice A0 n0 c0, .slice A1 n1 c1, .bool auto, .bool rtl, .int .u8 b0] w fun e w' => e = .returned (.bool true) ∧ Below w.heap.size w w' := by
  by_cases hbig : 300 < n0
  · have t0 : decide (300 < (n0 : Int)) = true := by simp; omega
    go_enter Try.func3, Try.ntmps3
    go_wp2_with fail
    refine (awake_l w).mono ?_
    rintro e w2 ⟨rfl, hb2⟩
    go_wp2_with fail
    go_ret
    exact ⟨rfl, hb2⟩
  · have t0 : decide (300 < (n0 : Int)) = false := by simp; omega
    by_cases hbig1 : 300 < n1
    · have t1 : decide (300 < (n1 : Int)) = true := by simp; omega
      go_enter Try.func3, Try.ntmps3
      go_wp2_with fail
      refine (awake_l w).mono ?_
      rintro e w2 ⟨rfl, hb2⟩
      go_wp2_with fail
      go_ret
      exact ⟨rfl, hb2⟩
    · have t1 : decide (300 < (n1 : Int)) = false := by simp; omega
      have hU : Hid (U8 (levelsS (l.map cls) (minB b0)) ∧ U8 (classesS (l.map cls) (minB b0))) := hide ⟨levels_u8 (minB_bd hb.1) (map_cls_u8 l), classes_u8 (minB_bd hb.1) (map_cls_u8 l)⟩
      have hlL := hide ((levels_len (l.map cls) (minB b0)).trans ((List.length_map _).trans r1.len))
      have hlC := hide ((classes_len (l.map cls) (minB b0)).trans ((List.length_map _).trans r1.len))
      have hE := hide (exp_all A1 n1 c1 l b0 w r1 (by omega) hb.1)
      have hF := hide (fun W hB => refexp_all A1 n1 c1 l b0 W (r1.below hB) h32 (by omega) hb.1)
      have hP := hide (fun W hB => par_any A1 n1 c1 l auto rtl W (r1.below hB) (by omega))
      have hQ := hide (fun W hB => refpar_any A1 n1 c1 l auto rtl W (r1.below hB) h32 (by omega))
      have hM := hide (fun W hB => match_any A0 n0 c0 zc W (r0.below hB) (by omega))
      have hN := hide (fun W hB => refmatch_any A0 n0 c0 zc W (r0.below hB) (by omega))
      have hml := hide ((match_len zc).trans r0.len)
      generalize levelsS (l.map cls) (minB b0) = L1 at *
      generalize classesS (l.map cls) (minB b0) = L2 at *
      generalize matchS zc = M at *
      generalize parS l auto rtl = pv at *
      have tp : (pv == pv) = true := by simp
      clear h32
      go_enter Try.func3, Try.ntmps3
      go_wp2_with fail
      refine hE.out.mono ?_
      rintro e w1 ⟨g1, c3, g2, c4, rfl, hL, hO, hne, hb1⟩
      have hL := hide hL
      have hO := hide hO
      have hsz1 := hb1.size
      go_wp2_with fail
      refine (hF.out _ hb1).mono ?_
      rintro e w2 ⟨A5, c5, A6, c6, rfl, hL', hO', hb2⟩
      rw [hlL.out] at hL' ⊢
      rw [hlC.out] at hO' ⊢
      have h1 := hide (hL.out.below hb2)
      have h2 := hide (hO.out.below hb2)
      have h3 := hide hL'
      have h4 := hide hO'
      clear hL hO hL' hO'
      replace hb2 := hb1.trans (hb2.mono hsz1)
      have hsz2 := hb2.size
      clear hb1
      go_wp2_with fail
      refine (hM.out _ hb2).mono ?_
      rintro e w3 ⟨A7, c7, rfl, hm1, hb3⟩
      rw [hml.out] at hm1 ⊢
      replace h1 := hide (h1.out.below hb3)
      replace h2 := hide (h2.out.below hb3)
      replace h3 := hide (h3.out.below hb3)
      replace h4 := hide (h4.out.below hb3)
      have hm1 := hide hm1
      replace hb3 := hb2.trans (hb3.mono hsz2)
      have hsz3 := hb3.size
      clear hb2
      go_wp2_with fail
      refine (hN.out _ hb3).mono ?_
      rintro e w4 ⟨A8, c8, rfl, hm2, hb4⟩
      rw [hml.out] at hm2 ⊢
      replace h1 := hide (h1.out.below hb4)
      replace h2 := hide (h2.out.below hb4)
      replace h3 := hide (h3.out.below hb4)
      replace h4 := hide (h4.out.below hb4)
      replace hm1 := hide (hm1.out.below hb4)
      have hm2 := hide hm2
      replace hb4 := hb3.trans (hb4.mono hsz3)
      have hsz4 := hb4.size
      clear hb3
      go_wp2_with fail
      refine (places_any _ _ _ _ _ _ M M _ hm1.out.rd hm2.out.rd (by omega)).mono ?_
      rintro e w5 ⟨rfl, hb5⟩
      rw [sameB_self]
      replace h1 := hide (h1.out.below hb5)
      replace h2 := hide (h2.out.below hb5)
      replace h3 := hide (h3.out.below hb5)
      replace h4 := hide (h4.out.below hb5)
      replace hb5 := hb4.trans (hb5.mono hsz4)
      have hsz5 := hb5.size
      clear hb4 hm1 hm2
      go_wp2_with fail
      refine (hP.out _ hb5).mono ?_
      rintro e w6 ⟨rfl, hb6⟩
      replace h1 := hide (h1.out.below hb6)
      replace h2 := hide (h2.out.below hb6)
      replace h3 := hide (h3.out.below hb6)
      replace h4 := hide (h4.out.below hb6)
      replace hb6 := hb5.trans (hb6.mono hsz5)
      have hsz6 := hb6.size
      clear hb5
      go_wp2_with fail
      refine (hQ.out _ hb6).mono ?_
      rintro e w7 ⟨rfl, hb7⟩
      replace h1 := hide (h1.out.below hb7)
      replace h2 := hide (h2.out.below hb7)
      replace h3 := hide (h3.out.below hb7)
      replace h4 := hide (h4.out.below hb7)
      replace hb7 := hb6.trans (hb7.mono hsz6)
      have hsz7 := hb7.size
      clear hb6
      go_wp2_with fail
      refine (same_any _ _ _ _ _ _ L1 L1 _ h1.out.rd h3.out.rd hU.out.1 hU.out.1).mono ?_
      rintro e w8 ⟨rfl, rfl⟩
      rw [sameB_self]
      go_wp2_with fail
      refine (same_any _ _ _ _ _ _ L2 L2 _ h2.out.rd h4.out.rd hU.out.2 hU.out.2).mono ?_
      rintro e w9 ⟨rfl, rfl⟩
      rw [sameB_self]
      go_wp2_with fail
      refine (awake_l _).mono ?_
      rintro e w10 ⟨rfl, hb8⟩
      go_wp2_with fail
      go_ret
      exact ⟨rfl, hb7.trans (hb8.mono hsz7)⟩
end Go.Proofs.Ytaojjneajiobnaa

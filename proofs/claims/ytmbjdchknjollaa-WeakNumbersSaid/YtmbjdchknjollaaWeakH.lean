/-
  The walk of the document's Weak.
-/
import Derived.Test.YtmbjdchknjollaaWeakG
import Derived.Test.YtmbjdchknjollaaAwakeW
namespace Go.Proofs.Ytmbjdchknjollaa
open Go.RowKit

set_option maxRecDepth 100000 in
set_option maxHeartbeats 8000000 in
theorem weakref_any (A : Option Addr) (n c : Nat) (l : List Int) (start : Int) (w : World) (hr : Rd .u8 w A n l) (hs : 0 ≤ start) (hn : n ≤ 1000000) :
    Calls Try.prog 23 #[.slice A n c, .int .u8 start] w (RetSl w.heap.size 5 .u8 (weakP l start) w) := by
  have hm := hr.max
  have hlen := hide hr.len
  have hown0 : Own w.heap.size 5 .u8 w none 0 0 [] := Own.none_ _ _ _ _
  obtain ⟨s, hS⟩ : ∃ s, Hid (min start 1 = s) := ⟨_, rfl⟩
  have hW6 : Hid (weakP l start = numS 0 0 s (scan restF () (endsS (sgN (arabS s (marksS s l)) (n - 2))))) := by
    show _ = _
    rw [← hS.out, ← hlen.out]; rfl
  have hcase : (start = 0 ∧ s = 0) ∨ ((start == 0) = false ∧ s = 1) := by
    have := hS.out
    simp only [beq_eq_false_iff_ne]; omega
  go_enter Try.func23, Try.ntmps23
  rcases hcase with ⟨rfl, rfl⟩ | ⟨h0, rfl⟩
  all_goals
    go_wp2_with (at_builtin; refine wpList_app elt8 rfl (.tmp 10) (.tmp 11) rfl rfl rfl hown0 hr (by omega) (by simp) ?_; intro A1 c1 w1 hown1 hgr1 _)
    simp only [Nat.zero_add, List.nil_append] at hown1
    have hb1 : Below w.heap.size w w1 := (Below.refl _ _).grown hgr1 (by simp) (by simp [Value.ownBlock])
    clear hown0 hgr1
    have hlt := hide hown1.lt
    try go_wp2_with fail
    refine (w1_any _ A1 n c1 _ _ _ hown1 (by omega)).mono ?_
    rintro e w2 ⟨rfl, hown2, hgr2⟩
    have hb2 := hb1.grown hgr2 hb1.size (fun g hg => (hlt.out g hg).1)
    clear hb1 hown1 hgr2
    go_wp2_with fail
    refine (w2_any _ A1 n c1 _ _ _ hown2).mono ?_
    rintro e w3 ⟨rfl, hown3, hgr3⟩
    have hb3 := hb2.grown hgr3 hb2.size (fun g hg => (hlt.out g hg).1)
    clear hb2 hown2 hgr3
    go_wp2_with fail
    have hl3 := hide hown3.len
    go_loopw [6] (fun i wr => ∃ k : Nat, k ≤ n ∧ i = .int .i64 k ∧ Own w.heap.size 5 .u8 wr A1 n c1 (inPl alF () (numS 2 6 _ (marksS _ l)) k) ∧ Below w.heap.size w wr) (fun i _ => n - (intOf i).toNat)
    case atStart => exact ⟨0, Nat.zero_le _, rfl, by rw [inPl_zero]; exact hown3, hb3⟩
    case round =>
      clear hb3 hown3
      obtain ⟨k, hk, rfl, hownr, hbr⟩ := hrel
      by_cases hkn : k < n
      · obtain ⟨g, z, rfl, _, hgl, hz, hck, hfk⟩ := hownr.at_ hkn
        have hz' := inPl_of alF hz.out
        have hin := hide (inPl_step alF () hz')
        have hsm := hide (fun h => inPl_same alF () hz' h)
        clear hz'
        by_cases h2 : (z == 2) = true
        · have e2 : z = 2 := eq_of_beq h2
          subst e2
          go_wp2
          go_roundw
          case rel => exact ⟨k + 1, by omega, by go_num, by rw [hin.out]; exact hownr.set_ k 1, Below.setCell hbr (p := ⟨g, k, none⟩) (hlt.out g rfl).1 _⟩
          case measure => simp [intOf]; omega
        · have h2' : (z == 2) = false := by simpa using h2
          clear h2
          have hmf := hide (alF_2 (u := ()) h2')
          go_wp2
          go_roundw
          case rel => exact ⟨k + 1, by omega, by go_num, by rw [hsm.out (by rw [show scanSt alF () _ = () from rfl, hmf.out])]; exact hownr, hbr⟩
          case measure => simp [intOf]; omega
      · obtain rfl : k = n := by omega
        clear hkn
        rw [inPl_all _ _ _ hl3.out] at hownr
        go_wp2_with fail
        refine (w4_any _ A1 k c1 _ _ hownr).mono ?_
        rintro e w4 ⟨rfl, hown4, hgr4⟩
        have hb4 := hbr.grown hgr4 hbr.size (fun g hg => (hlt.out g hg).1)
        clear hbr hownr hgr4
        go_wp2_with fail
        refine (w5_any _ A1 k c1 _ _ hown4).mono ?_
        rintro e w5 ⟨rfl, hown5, hgr5⟩
        have hb5 := hb4.grown hgr5 hb4.size (fun g hg => (hlt.out g hg).1)
        clear hb4 hown4 hgr5
        go_wp2_with fail
        have hl5 : Hid ((endsS (sgN (arabS _ (marksS _ l)) (k - 2))).length = k) := hide hown5.len
        go_loopw [7] (fun i wr => ∃ j : Nat, j ≤ k ∧ i = .int .i64 j ∧ Own w.heap.size 5 .u8 wr A1 k c1 (inPl restF () (endsS (sgN (arabS _ (marksS _ l)) (k - 2))) j) ∧ Below w.heap.size w wr) (fun i _ => k - (intOf i).toNat)
        case atStart => exact ⟨0, Nat.zero_le _, rfl, by rw [inPl_zero]; exact hown5, hb5⟩
        case round =>
          clear hb5 hown5
          obtain ⟨j, hj, rfl, hownj, hbj⟩ := hrel
          by_cases hjk : j < k
          · obtain ⟨g, z, rfl, _, hgl, hz, hck, hfk⟩ := hownj.at_ hjk
            have hz' := inPl_of restF hz.out
            have hin := hide (inPl_step restF () hz')
            have hsm := hide (fun h => inPl_same restF () hz' h)
            clear hz'
            rcases rest_cases z with hL | ⟨h4, h5, h7⟩
            · rcases hL with rfl | rfl | rfl
              all_goals
                go_wp2
                go_roundw
                case rel => exact ⟨j + 1, by omega, by go_num, by rw [hin.out, restF_1 (by omega)]; exact hownj.set_ j 13, Below.setCell hbj (p := ⟨g, j, none⟩) (hlt.out g rfl).1 _⟩
                case measure => simp [intOf]; omega
            · have hmf := hide (restF_2 (u := ()) h4 h5 h7)
              go_wp2
              go_roundw
              case rel => exact ⟨j + 1, by omega, by go_num, by rw [hsm.out (by rw [show scanSt restF () _ = () from rfl, hmf.out])]; exact hownj, hbj⟩
              case measure => simp [intOf]; omega
          · obtain rfl : j = k := by omega
            clear hjk
            rw [inPl_all _ _ _ hl5.out] at hownj
            go_wp2_with fail
            refine (w7_any _ A1 j c1 _ _ _ hownj).mono ?_
            rintro e w6 ⟨rfl, hown6, hgr6⟩
            have hb6 := hbj.grown hgr6 hbj.size (fun g hg => (hlt.out g hg).1)
            clear hbj hownj hgr6
            go_wp2_with fail
            go_ret
            rw [← hW6.out] at hown6
            have hl6 := hown6.len
            exact ⟨A1, c1, by rw [hl6]; rfl, by rw [hl6]; exact hown6, hb6⟩
end Go.Proofs.Ytmbjdchknjollaa

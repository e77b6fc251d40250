/-
  The law WeakCuts: its walk.
-/
import Derived.Test.YtmbjdchknjollaaWeakN
import Derived.Test.YtmbjdchknjollaaLawE
namespace Go.Proofs.Ytmbjdchknjollaa
open Go.RowKit

theorem own_one (B : Nat) (e : TypeId) (k : IntKind) (z : Int) (w : World) (g : Nat) (hg : g = w.heap.size) (hB : B ≤ g) : Own B e k (w.alloc (.cells #[.int k z] e)) (some ⟨g, 0, none⟩) 1 1 [z] := by
  subst hg
  exact ⟨⟨rfl, .inr ⟨w.heap.size, 1, #[.int k z], rfl, hB, heap_alloc_new w _, Nat.le_refl _, by decide, rfl, rfl⟩⟩, by omega⟩

set_option maxRecDepth 100000 in
set_option maxHeartbeats 8000000 in
theorem wcuts_walk (A A' : Option Addr) (n n' c c' : Nat) (a b : List Int) (letter start : Int) (w : World) (hr : Rd .u8 w A n a) (hu : U8 a) (hr' : Rd .u8 w A' n' b) (hu' : U8 b) (hl : 0 ≤ letter ∧ letter ≤ 255) (hs : 0 ≤ start ∧ start ≤ 255) :
    Calls Try.prog 10 #[.slice A n c, .slice A' n' c', .int .u8 letter, .int .u8 start] w fun e w' => e = .returned (.bool true) ∧ Below w.heap.size w w' := by
  have hl1 := hl.1
  have hl2 : 0 ≤ letter % 3 ∧ letter % 3 ≤ 2 := by omega
  have hs1 := hs.1
  by_cases hn : n ≤ 150
  · by_cases hn' : n' ≤ 150
    · have hown0 : Own w.heap.size 5 .u8 (w.alloc (.cells #[.int .u8 (letter % 3)] 5)) (some ⟨w.heap.size, 0, none⟩) 1 1 [letter % 3] := own_one _ _ _ _ _ _ rfl (Nat.le_refl _)
      have hX : Hd ([letter % 3] ++ b) := ⟨letter % 3, b, by unfold Let; omega, rfl⟩
      have hXl : ([letter % 3] ++ b).length = 1 + n' := by rw [List.length_append, hr'.len]; rfl
      have hl4 := hide (show (weakP (a ++ ([letter % 3] ++ b)) start).length = n + (1 + n') by rw [weakP_len, List.length_append, hXl, hr.len])
      have hl5 := hide (show (weakP a start).length = n by rw [weakP_len, hr.len])
      have hl6 := hide (show (weakP ([letter % 3] ++ b) start).length = 1 + n' by rw [weakP_len, hXl])
      have hcut := hide (weak_cut a hX start start)
      have hhead := hide (weak_head hX (1 - start % 2) start)
      have hyes1 := hide (sameB_self (weakP (a ++ ([letter % 3] ++ b)) start))
      have hyes2 := hide (sameB_self (weakP ([letter % 3] ++ b) start))
      have uX : U8 ([letter % 3] ++ b) := U8.cons (by omega) hu'
      have u1 := weakP_u8 hs.1 (U8.app hu uX)
      have u2 := weakP_u8 hs.1 uX
      have hs2 : 0 ≤ start % 2 ∧ start % 2 ≤ 1 := by omega
      clear hX hXl uX
      go_enter Try.func10, Try.ntmps10
      go_wp2_with (first
        | (at_builtin; refine wpList_app elt8 rfl (.tmp 23) (.tmp 24) rfl rfl rfl hown0 (hr'.alloc _) (by omega) (by simp) ?_; intro A1 c1 w1 hown1 hgr1 _; clear hown0; have hb1 : Below w.heap.size w w1 := ((Below.refl _ _).alloc (Nat.le_refl _) _).grown hgr1 (by simp) (by simp [Value.ownBlock]); clear hgr1; have hsz1 := hb1.size)
        | (at_builtin; refine wpList_app elt8 rfl (.tmp 26) (.tmp 27) rfl rfl rfl (own_empty w1.heap.size 5 .u8 w1 _ rfl (Nat.le_refl _)) ((hr.below hb1).alloc _) (by omega) (by simp) ?_; intro A2 c2 w2 hown2 hgr2 _; have hb2 : Below w1.heap.size w1 w2 := ((Below.refl _ _).alloc (Nat.le_refl _) _).grown hgr2 (by simp) (by simp [Value.ownBlock]); clear hgr2; have hsz2 := hb2.size; simp only [Nat.zero_add, List.nil_append] at hown2)
        | (at_builtin; refine wpList_app elt8 rfl (.tmp 28) (.tmp 29) rfl rfl rfl hown2 (hown1.rd.below hb2) (by omega) hsz2 ?_; intro A3 c3 w3 hown3 hgr3 _; have hb3 : Below w1.heap.size w1 w3 := hb2.grown hgr3 hsz2 (fun g hg => (hown2.lt g hg).1)))
      have hb3' := hb1.trans (hb3.mono hsz1)
      refine (weak_any A3 _ c3 (a ++ ([letter % 3] ++ b)) start w3 hown3.rd (by omega)).mono ?_
      rintro e w4 ⟨A4, c4, rfl, hown4, hb4⟩
      have hown14 := (hown1.below hb3).below hb4
      have hb4' := hb3'.trans (hb4.mono hb3'.size)
      rw [hl4.out] at hown4 ⊢
      clear hb3 hb4 hb2 hb1 hown2 hown3 hown1 hb3'
      go_wp2_with fail
      refine (weak_any A n c a start w4 (hr.below hb4') (by omega)).mono ?_
      rintro e w5 ⟨A5, c5, rfl, hown5, hb5⟩
      have hown15 := hown14.below hb5
      have hown45 := hown4.below hb5
      have hb5' := hb4'.trans (hb5.mono hb4'.size)
      rw [hl5.out] at hown5 ⊢
      clear hown14 hown4 hb5 hb4'
      go_wp2_with fail
      refine (weak_any A1 _ c1 ([letter % 3] ++ b) start w5 hown15.rd (by omega)).mono ?_
      rintro e w6 ⟨A6, c6, rfl, hown6, hb6⟩
      have hown16 := hown15.below hb6
      have hown46 := hown45.below hb6
      have hown56 := hown5.below hb6
      have hb6' := hb5'.trans (hb6.mono hb5'.size)
      rw [hl6.out] at hown6 ⊢
      clear hown15 hown45 hown5 hb6 hb5'
      go_wp2_with (first
        | (at_builtin; refine wpList_app elt8 rfl (.tmp 40) (.tmp 41) rfl rfl rfl (own_empty w6.heap.size 5 .u8 w6 _ rfl (Nat.le_refl _)) (hown56.rd.alloc _) (by omega) (by simp) ?_; intro A7 c7 w7 hown7 hgr7 _; have hb7 : Below w6.heap.size w6 w7 := ((Below.refl _ _).alloc (Nat.le_refl _) _).grown hgr7 (by simp) (by simp [Value.ownBlock]); clear hgr7; have hsz7 := hb7.size; simp only [Nat.zero_add, List.nil_append] at hown7)
        | (at_builtin; refine wpList_app elt8 rfl (.tmp 42) (.tmp 43) rfl rfl rfl hown7 (hown6.rd.below hb7) (by omega) hsz7 ?_; intro A8 c8 w8 hown8 hgr8 _; have hb8 : Below w6.heap.size w6 w8 := hb7.grown hgr8 hsz7 (fun g hg => (hown7.lt g hg).1)))
      rw [← hcut.out] at hown8
      have hr46 := hown46.rd.below hb8
      refine (same_any A4 A8 _ _ c4 c8 _ _ w8 hr46 hown8.rd u1 u1).mono ?_
      rintro e w' ⟨rfl, rfl⟩
      rw [hyes1.out]
      have hown18 := hown16.below hb8
      have hown68 := hown6.below hb8
      have hb8' := hb6'.trans (hb8.mono hb6'.size)
      clear hown7 hown8 hr46 hb8 hb7 hown16 hown46 hown56 hown6 hb6'
      go_wp2_with fail
      refine (weak_any A1 _ c1 ([letter % 3] ++ b) (1 - start % 2) w8 hown18.rd (by omega)).mono ?_
      rintro e w9 ⟨A9, c9, rfl, hown9, hb9⟩
      rw [hhead.out, hl6.out] at hown9
      rw [hhead.out, hl6.out]
      have hb9' := hb8'.trans (hb9.mono hb8'.size)
      have hown69 := hown68.below hb9
      go_wp2_with fail
      refine (same_any A9 A6 _ _ c9 c6 _ _ w9 hown9.rd hown69.rd u2 u2).mono ?_
      rintro e w' ⟨rfl, rfl⟩
      rw [hyes2.out]
      go_wp2_with fail
      refine (awake_w _).mono ?_
      rintro e w10 ⟨rfl, hb10⟩
      go_wp2_with fail
      go_ret
      exact ⟨rfl, hb9'.trans (hb10.mono hb9'.size)⟩
    · go_enter Try.func10, Try.ntmps10
      go_wp2_with fail
      refine (awake_w _).mono ?_
      rintro e w3 ⟨rfl, hb3⟩
      go_wp2_with fail
      go_ret
      exact ⟨rfl, hb3⟩
  · go_enter Try.func10, Try.ntmps10
    go_wp2_with fail
    refine (awake_w _).mono ?_
    rintro e w3 ⟨rfl, hb3⟩
    go_wp2_with fail
    go_ret
    exact ⟨rfl, hb3⟩
end Go.Proofs.Ytmbjdchknjollaa

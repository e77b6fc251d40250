/-
  The law WeakKinds: its walk.
-/
import Derived.Test.YtmbjdchknjollaaWeakM
import Derived.Test.YtmbjdchknjollaaLawE
namespace Go.Proofs.Ytmbjdchknjollaa
open Go.RowKit

theorem kind_cases {a b : Int} (h : Kind a b) : (a = 2 ∧ b = 1) ∨ (a = 3 ∧ b = 3) ∨ (a = 3 ∧ b = 6) ∨ (a = 3 ∧ b = 0) ∨ (a = 4 ∧ b = 13) ∨ (a = 4 ∧ b = 3) ∨ (a = 4 ∧ b = 0) ∨ (a = 5 ∧ b = 13) ∨ (a = 5 ∧ b = 3) ∨ (a = 5 ∧ b = 0) ∨
    (a = 7 ∧ b = 13) ∨ (a = 7 ∧ b = 3) ∨ (a = 7 ∧ b = 6) ∨ (a = 7 ∧ b = 0) ∨
    (a = 8 ∧ (8 == b) = false ∧ (b != 8) = true ∧ (b != 2) = true ∧ (b != 4) = true ∧ (b != 5) = true ∧ (b != 7) = true) ∨
    (b = a ∧ (a == 2) = false ∧ (a == 3) = false ∧ (a == 4) = false ∧ (a == 5) = false ∧ (a == 7) = false ∧ (a == 8) = false) := by
  simp only [beq_eq_false_iff_ne, bne_iff_ne]
  obtain ⟨hb, h⟩ := h
  by_cases h8 : a = 8
  · iterate 14 right
    left; omega
  obtain ⟨i2, i3, i4, i7, i0⟩ := h h8
  clear h
  by_cases h2 : a = 2
  · exact .inl ⟨h2, i2 h2⟩
  by_cases h3 : a = 3
  · rcases i3 h3 with e | e | e <;> simp [h3, e]
  by_cases h4 : a = 4
  · rcases i4 (.inl h4) with e | e | e <;> simp [h4, e]
  by_cases h5 : a = 5
  · rcases i4 (.inr h5) with e | e | e <;> simp [h5, e]
  by_cases h7 : a = 7
  · rcases i7 h7 with e | e | e | e <;> simp [h7, e]
  iterate 15 right
  exact ⟨i0 ⟨h2, h3, h4, h5, h7⟩, h2, h3, h4, h5, h7, h8⟩
theorem kind_at {l : List Int} {start : Int} {k : Nat} {a b : Int} (ha : l[k]? = some a) (hb : (weakP l start)[k]? = some b) : Kind a b := (weak_pl l start).2 k a b ha hb

set_option maxRecDepth 100000 in
set_option maxHeartbeats 8000000 in
theorem wkinds_walk (A : Option Addr) (n c : Nat) (l : List Int) (start : Int) (w : World) (hr : Rd .u8 w A n l) (hu : U8 l) (hs : 0 ≤ start ∧ start ≤ 255) :
    Calls Try.prog 9 #[.slice A n c, .int .u8 start] w fun e w' => e = .returned (.bool true) ∧ Below w.heap.size w w' := by
  have hm := hr.max
  by_cases hn : n ≤ 300
  · have hu2 := weakP_u8 hs.1 hu
    have hyes := hide (sameB_self l)
    have hyes2 := hide (sameB_self (weakP l start))
    have htw := hide (weak_twice l start)
    have hlen := hide ((weakP_len l start).trans hr.len)
    have hown0 : Own w.heap.size 5 .u8 (w.alloc (.cells #[] 5)) (some ⟨w.heap.size, 0, none⟩) 0 0 [] := own_empty _ _ _ _ _ rfl (Nat.le_refl _)
    have hkd := hide (fun k a b => @kind_at l start k a b)
    go_enter Try.func9, Try.ntmps9
    go_wp2_with (at_builtin; refine wpList_app elt8 rfl (.tmp 15) (.tmp 16) rfl rfl rfl hown0 (hr.alloc _) (by omega) (by simp) ?_; intro A1 c1 w1 hown1 hgr1 _)
    simp only [Nat.zero_add, List.nil_append] at hown1
    have hb1 : Below w.heap.size w w1 := ((Below.refl _ _).alloc (Nat.le_refl _) _).grown hgr1 (by simp) (by simp [Value.ownBlock])
    clear hown0 hgr1
    have hr1 := hr.below hb1
    refine (weak_any A n c l start w1 hr1 (by omega)).mono ?_
    rintro e w2 ⟨A2, c2, rfl, hown2, hb2⟩
    rw [hlen.out] at hown2 ⊢
    have hr2 := hr1.below hb2
    have hown12 := hown1.below hb2
    replace hb2 := hb1.trans (hb2.mono hb1.size)
    go_wp2_with fail
    refine (same_any A A1 n n c c1 l l w2 hr2 hown12.rd hu hu).mono ?_
    rintro e w' ⟨rfl, rfl⟩
    rw [hyes.out]
    go_wp2_with fail
    refine (weak_any A2 n c2 (weakP l start) start w2 hown2.rd (by omega)).mono ?_
    rintro e w3 ⟨A3, c3, rfl, hown3, hb3⟩
    rw [htw.out, hlen.out] at hown3
    rw [htw.out, hlen.out]
    have hr3 := hr2.below hb3
    have hown23 := hown2.below hb3
    replace hb3 := hb2.trans (hb3.mono hb2.size)
    go_wp2_with fail
    refine (same_any A3 A2 n n c3 c2 _ _ w3 hown3.rd hown23.rd hu2 hu2).mono ?_
    rintro e w' ⟨rfl, rfl⟩
    rw [hyes2.out]
    go_wp2_with fail
    clear hown2 hown12 hr2 hr1 hown3 hb2 hb1
    go_loop [42] (fun i => ∃ k : Nat, k ≤ n ∧ i = .int .i64 k) (fun i => n - (intOf i).toNat)
    case atStart => exact ⟨0, Nat.zero_le _, rfl⟩
    case round =>
      obtain ⟨k, hk, rfl⟩ := hrel
      by_cases hkn : k < n
      · obtain ⟨b1, o1, x, rfl, _, hx, hcx⟩ := hr3.at_ hkn
        obtain ⟨b2, o2, y, rfl, _, hy, hcy⟩ := hown23.rd.at_ hkn
        rcases kind_cases (hkd.out k x y hx.out hy.out) with ⟨rfl, rfl⟩ | ⟨rfl, rfl⟩ | ⟨rfl, rfl⟩ | ⟨rfl, rfl⟩ | ⟨rfl, rfl⟩ | ⟨rfl, rfl⟩ | ⟨rfl, rfl⟩ | ⟨rfl, rfl⟩ | ⟨rfl, rfl⟩ | ⟨rfl, rfl⟩ | ⟨rfl, rfl⟩ | ⟨rfl, rfl⟩ | ⟨rfl, rfl⟩ | ⟨rfl, rfl⟩ | ⟨rfl, e8, f8, f2, f4, f5, f7⟩ | ⟨rfl, e2, e3, e4, e5, e7, e8⟩
        all_goals
          go_wp2
          go_round
          case rel => exact ⟨k + 1, by omega, by go_num⟩
          case measure => simp [intOf]; omega
      · obtain rfl : k = n := by omega
        clear hkn
        go_wp2_with fail
        refine (awake_w _).mono ?_
        rintro e w4 ⟨rfl, hb4⟩
        go_wp2_with fail
        go_ret
        exact ⟨rfl, hb3.trans (hb4.mono hb3.size)⟩
  · go_enter Try.func9, Try.ntmps9
    go_wp2_with fail
    refine (awake_w _).mono ?_
    rintro e w3 ⟨rfl, hb3⟩
    go_wp2_with fail
    go_ret
    exact ⟨rfl, hb3⟩
end Go.Proofs.Ytmbjdchknjollaa

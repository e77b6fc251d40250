/-
  The laws PlainKinds and PlainLevels: their walks.
-/
import Derived.Test.YtmbjdchknjollaaAwakeP
namespace Go.Proofs.Ytmbjdchknjollaa
open Go.RowKit

def cntN : Nat → Int
  | 0 => 0
  | k + 1 => cntN k + (if neuS (k : Int) then 1 else 0)
theorem cntN_le : ∀ k : Nat, 0 ≤ cntN k ∧ cntN k ≤ k
  | 0 => by simp [cntN]
  | k + 1 => by
    have := cntN_le k
    unfold cntN
    split <;> omega
theorem cntN_yes {k : Nat} (h : neuS (k : Int) = true) : cntN (k + 1) = cntN k + 1 := by rw [cntN, if_pos h]
theorem cntN_no {k : Nat} (h : neuS (k : Int) = false) : cntN (k + 1) = cntN k := by rw [cntN, if_neg (by simp [h])]; omega

set_option maxRecDepth 100000 in
set_option maxHeartbeats 1000000 in
theorem kinds_walk (c : Int) (_hc : 0 ≤ c ∧ c ≤ 255) (w : World) : Calls Try.prog 7 #[.int .u8 c] w fun e w' => e = .returned (.bool true) ∧ Below w.heap.size w w' := by
  go_enter Try.func7, Try.ntmps7
  go_wp2
  go_loopw [3, 6] (fun m i wr => ∃ k : Nat, k ≤ 256 ∧ i = .int .i64 k ∧ m = .int .i64 (cntN k) ∧ Below w.heap.size w wr) (fun _ i _ => 256 - (intOf i).toNat)
  case atStart => exact ⟨0, Nat.zero_le _, rfl, rfl, Below.refl _ _⟩
  case round =>
    obtain ⟨k, hk, rfl, rfl, hb⟩ := hrel
    have hcl := cntN_le k
    by_cases hlt : k < 256
    · by_cases hz : neuS (k : Int) = true
      · have hc1 := hide (cntN_yes hz)
        go_wp2_with (go_at_call 13; refine (neu_any _ _).mono ?_; rintro e w2 ⟨rfl, hb2⟩)
        go_roundw
        case rel => exact ⟨k + 1, by omega, by go_num, by rw [hc1.out], hb.trans (hb2.mono hb.size)⟩
        case measure => simp [intOf]; omega
      · have hz' : neuS (k : Int) = false := by simpa using hz
        clear hz
        have hc1 := hide (cntN_no hz')
        go_wp2_with (go_at_call 13; refine (neu_any _ _).mono ?_; rintro e w2 ⟨rfl, hb2⟩)
        go_roundw
        case rel => exact ⟨k + 1, by omega, by go_num, by rw [hc1.out], hb.trans (hb2.mono hb.size)⟩
        case measure => simp [intOf]; omega
    · obtain rfl : k = 256 := by omega
      clear hlt hcl hk
      have h8 : cntN 256 = 8 := by decide +kernel
      have hcase : ((c == 10) = true ∧ neuS c = true) ∨ ((c == 10) = false ∧ (c == 11) = true ∧ neuS c = true) ∨ ((c == 10) = false ∧ (c == 11) = false ∧ (c == 12) = true ∧ neuS c = true) ∨
          ((c == 10) = false ∧ (c == 11) = false ∧ (c == 12) = false ∧ (c == 13) = true ∧ neuS c = true) ∨
          ((c == 10) = false ∧ (c == 11) = false ∧ (c == 12) = false ∧ (c == 13) = false ∧ 19 ≤ c ∧ c ≤ 22 ∧ neuS c = true) ∨
          ((c == 10) = false ∧ (c == 11) = false ∧ (c == 12) = false ∧ (c == 13) = false ∧ 19 ≤ c ∧ 22 < c ∧ neuS c = false) ∨
          ((c == 10) = false ∧ (c == 11) = false ∧ (c == 12) = false ∧ (c == 13) = false ∧ c < 19 ∧ neuS c = false) := by
        simp only [beq_iff_eq, beq_eq_false_iff_ne, neuS, Bool.or_eq_true, Bool.and_eq_true, decide_eq_true_eq, Bool.or_eq_false_iff, Bool.and_eq_false_iff, decide_eq_false_iff_not]
        omega
      rcases hcase with ⟨h1, hz⟩ | ⟨h1, h2, hz⟩ | ⟨h1, h2, h3, hz⟩ | ⟨h1, h2, h3, h4, hz⟩ | ⟨h1, h2, h3, h4, h5, h6, hz⟩ | ⟨h1, h2, h3, h4, h5, h6, hz⟩ | ⟨h1, h2, h3, h4, h5, hz⟩
      all_goals
        go_wp2_with (go_at_call 13; refine (neu_any c _).mono ?_; rintro e w2 ⟨rfl, hb2⟩)
        refine (awake_p _).mono ?_
        rintro e w3 ⟨rfl, hb3⟩
        go_wp2
        go_ret
        exact ⟨ret_bool (by first | rfl | (simp; omega)), (hb.trans (hb2.mono hb.size)).trans (hb3.mono (hb.trans (hb2.mono hb.size)).size)⟩

theorem impl8_0 {m : Int} (h : 0 ≤ m) (h' : m ≤ 126) : (m % 2 = 0 → impl8 0 m = m) ∧ (m % 2 = 1 → impl8 0 m = m + 1) := by simp only [impl8, implS]; constructor <;> intro <;> simp <;> omega
theorem impl8_1 {m : Int} (h : 0 ≤ m) (h' : m ≤ 126) : (m % 2 = 0 → impl8 1 m = m + 1) ∧ (m % 2 = 1 → impl8 1 m = m) := by simp only [impl8, implS]; constructor <;> intro <;> simp <;> omega
theorem impl8_3 {m : Int} (h : 0 ≤ m) (h' : m ≤ 126) : (m % 2 = 0 → impl8 3 m = m + 2) ∧ (m % 2 = 1 → impl8 3 m = m + 1) := by simp only [impl8, implS]; constructor <;> intro <;> simp <;> omega
theorem impl8_6 {m : Int} (h : 0 ≤ m) (h' : m ≤ 126) : (m % 2 = 0 → impl8 6 m = m + 2) ∧ (m % 2 = 1 → impl8 6 m = m + 1) := by simp only [impl8, implS]; constructor <;> intro <;> simp <;> omega
theorem impl8_n {c m : Int} (h : 0 ≤ m) (h' : m ≤ 126) (h0 : (c == 0) = false) (h1 : (c == 1) = false) (h3 : (c == 3) = false) (h6 : (c == 6) = false) : impl8 c m = m := by
  simp at h0 h1 h3 h6
  simp [impl8, implS, h0, h1, h3, h6]
  omega

set_option maxRecDepth 100000 in
set_option maxHeartbeats 2000000 in
theorem levels_walk (c l : Int) (hl : 0 ≤ l ∧ l ≤ 255) (w : World) : Calls Try.prog 6 #[.int .u8 c, .int .u8 l] w fun e w' => e = .returned (.bool true) ∧ Below w.heap.size w w' := by
  have hl0 := hl.1
  clear hl
  have hm0 : 0 ≤ l % 127 := by omega
  have hm1 : l % 127 ≤ 126 := by omega
  have i0 := hide (impl8_0 hm0 hm1)
  have i1 := hide (impl8_1 hm0 hm1)
  have i3 := hide (impl8_3 hm0 hm1)
  have i6 := hide (impl8_6 hm0 hm1)
  have hcase : (c = 0 ∨ c = 1 ∨ c = 3 ∨ c = 6) ∨ ((c == 0) = false ∧ (c == 1) = false ∧ (c == 3) = false ∧ (c == 6) = false) := by
    simp only [beq_eq_false_iff_ne]; omega
  have hpar : l % 127 % 2 = 0 ∨ l % 127 % 2 = 1 := by omega
  go_enter Try.func6, Try.ntmps6
  go_wp2_with fail
  refine (impl_any _ _ (by omega) _).mono ?_
  rintro e w1 ⟨rfl, hb1⟩
  generalize l % 127 = m at *
  clear hl0
  rcases hpar with hp | hp
  case' inl =>
    have e0 := i0.out.1 hp
    have e1 := i1.out.1 hp
    have e3 := i3.out.1 hp
    have e6 := i6.out.1 hp
    have p1 : (m + 1) % 2 = 1 := by omega
    have p2 : (m + 2) % 2 = 0 := by omega
  case' inr =>
    have e0 := i0.out.2 hp
    have e1 := i1.out.2 hp
    have e3 := i3.out.2 hp
    have e6 := i6.out.2 hp
    have p1 : (m + 1) % 2 = 0 := by omega
    have p2 : (m + 2) % 2 = 1 := by omega
  all_goals
    clear i0 i1 i3 i6
    rcases hcase with (rfl | rfl | rfl | rfl) | ⟨n0, n1, n3, n6⟩
    all_goals try have en := impl8_n hm0 hm1 n0 n1 n3 n6
    all_goals
      go_wp2_with fail
      refine (impl_any 3 m (by omega) _).mono ?_
      rintro e w2 ⟨rfl, hb2⟩
      replace hb1 := hb1.trans (hb2.mono hb1.size)
      clear hb2
      go_wp2_with fail
      refine (impl_any 6 m (by omega) _).mono ?_
      rintro e w3 ⟨rfl, hb3⟩
      replace hb1 := hb1.trans (hb3.mono hb1.size)
      clear hb3
      go_wp2_with fail
      refine (impl_any 3 m (by omega) _).mono ?_
      rintro e w4 ⟨rfl, hb4⟩
      replace hb1 := hb1.trans (hb4.mono hb1.size)
      clear hb4
      go_wp2_with fail
      refine (impl_any 0 m (by omega) _).mono ?_
      rintro e w5 ⟨rfl, hb5⟩
      replace hb1 := hb1.trans (hb5.mono hb1.size)
      clear hb5
      go_wp2_with fail
      refine (impl_any 1 m (by omega) _).mono ?_
      rintro e w6 ⟨rfl, hb6⟩
      replace hb1 := hb1.trans (hb6.mono hb1.size)
      clear hb6
      go_wp2_with fail
      refine (impl_any 3 m (by omega) _).mono ?_
      rintro e w7 ⟨rfl, hb7⟩
      replace hb1 := hb1.trans (hb7.mono hb1.size)
      clear hb7
      go_wp2_with fail
      refine (impl_any 0 m (by omega) _).mono ?_
      rintro e w8 ⟨rfl, hb8⟩
      replace hb1 := hb1.trans (hb8.mono hb1.size)
      clear hb8
      go_wp2_with fail
      refine (awake_p _).mono ?_
      rintro e w9 ⟨rfl, hb9⟩
      replace hb1 := hb1.trans (hb9.mono hb1.size)
      clear hb9
      go_wp2_with fail
      go_ret
      exact ⟨ret_bool (by first | rfl | (simp; done) | (simp; omega)), hb1⟩
end Go.Proofs.Ytmbjdchknjollaa

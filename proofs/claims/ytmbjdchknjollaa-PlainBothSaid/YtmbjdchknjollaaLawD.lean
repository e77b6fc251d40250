/-
  The law PlainBoth: its walk.
-/
import Derived.Test.YtmbjdchknjollaaAwakeP
import Derived.Test.YtmbjdchknjollaaPlainR
namespace Go.Proofs.Ytmbjdchknjollaa
open Go.RowKit

/-- the last k places of a row, turned about -/
theorem turn_step {l : List Int} {m : Nat} {z : Int} (hz : l[m]? = some z) : (l.drop (m + 1)).reverse ++ [z] = (l.drop m).reverse := by
  obtain ⟨hm, rfl⟩ := List.getElem?_eq_some_iff.1 hz
  rw [List.drop_eq_getElem_cons hm, List.reverse_cons]

set_option maxRecDepth 100000 in
set_option maxHeartbeats 4000000 in
theorem turn_any (A : Option Addr) (n c : Nat) (l : List Int) (w : World) (hr : Rd .u8 w A n l) (hn : n ≤ 1000000) :
    Calls Try.prog 21 #[.slice A n c] w (RetSl w.heap.size 5 .u8 l.reverse w) := by
  have hm := hr.max
  have hln := hide hr.len
  go_enter Try.func21, Try.ntmps21
  go_wp2
  go_loopw [3, 4] (fun o i wr => ∃ m k A1 c1, m + k = n ∧ i = .int .i64 ((m : Nat) - 1 : Int) ∧ o = .slice A1 k c1 ∧ Own w.heap.size 5 .u8 wr A1 k c1 (l.drop m).reverse ∧ Below w.heap.size w wr) (fun _ i _ => (intOf i + 1).toNat)
  case atStart => exact ⟨n, 0, none, 0, rfl, rfl, rfl, by rw [List.drop_of_length_le (by rw [hln.out]; exact Nat.le_refl _)]; exact Own.none_ _ _ _ _, Below.refl _ _⟩
  case round =>
    obtain ⟨m, k, A1, c1, hmk, rfl, rfl, hown, hbel⟩ := hrel
    obtain ⟨wo, rfl⟩ : ∃ wo : World, wo = wr := ⟨_, rfl⟩
    have hsz := hbel.size
    have hmk1 : m + k ≤ n := Nat.le_of_eq hmk
    have hMK := hide hmk
    clear hmk
    rcases Nat.eq_zero_or_pos m with rfl | hm0
    · have hk : k = n := by have := hMK.out; omega
      subst hk
      go_wp2
      go_ret
      have e : l.reverse.length = k := by rw [List.length_reverse]; exact hln.out
      exact ⟨A1, c1, by rw [e]; rfl, by rw [e]; exact hown, hbel⟩
    · obtain ⟨j, rfl⟩ : ∃ j, m = j + 1 := ⟨m - 1, by omega⟩
      have hlt : j < n := by omega
      obtain ⟨b, off, z, rfl, _, hz, hck⟩ := (hr.below hbel).at_ hlt
      have hst := hide (turn_step hz.out)
      go_wp2_with (at_builtin; refine wpList_app elt8 rfl (.tmp 12) (.tmp 17) rfl rfl rfl (hown.alloc _) (rd_one _ _ _ _) (by omega) (by simp <;> omega) ?_; intro A2 c2 w2 hown2 hgr2 _)
      have hb2 := hide (below_of_grown hgr2 (B := w.heap.size) (by simp <;> omega) (fun g hg => (hown.lt g hg).1))
      clear hgr2
      rw [hst.out] at hown2
      go_wp2
      go_roundw
      case rel => exact ⟨j, k + 1, A2, c2, by have := hMK.out; omega, by go_num, rfl, hown2, (hbel.alloc hsz _).trans hb2.out⟩
      case measure => simp [intOf]

def V4 : List Int := [0, 1, 3, 6]
theorem v4_strong {j : Nat} {a : Int} (h : V4[j]? = some a) : a = 0 ∨ a = 1 ∨ a = 3 ∨ a = 6 := by
  have := List.mem_of_getElem? h
  simpa [V4] using this
theorem want_u8 {a b level : Int} (ha : strong4 a) : 0 ≤ wantS a b level ∧ wantS a b level ≤ 255 := by
  unfold wantS
  split
  · rcases ha with rfl | rfl | rfl | rfl <;> decide
  · omega
theorem strong_u8 {a : Int} (ha : strong4 a) : 0 ≤ a ∧ a ≤ 255 := by rcases ha with rfl | rfl | rfl | rfl <;> decide
theorem u8_four {a b c d : Int} (ha : 0 ≤ a ∧ a ≤ 255) (hb : 0 ≤ b ∧ b ≤ 255) (hc : 0 ≤ c ∧ c ≤ 255) (hd : 0 ≤ d ∧ d ≤ 255) : U8 [a, b, c, d] := U8.cons ha (U8.cons hb (U8.cons hc (U8.cons hd U8.nil)))

theorem same4 (level a b v : Int) (w1 : World) {B : Nat} {A : Option Addr} {c : Nat} (ha : strong4 a) (hb : strong4 b) (hv : v = wantS a b level) (h : Own B 5 .u8 w1 A 4 c [a, wantS a b level, wantS a b level, b]) :
    Calls Try.prog 17 #[.slice A 4 c, .slice (some ⟨w1.heap.size, 0, none⟩) 4 4] (w1.alloc (.cells #[.int .u8 a, .int .u8 v, .int .u8 v, .int .u8 b] 5)) fun e w' => e = .returned (.bool true) ∧ (w1.alloc (.cells #[.int .u8 a, .int .u8 v, .int .u8 v, .int .u8 b] 5)) = w' := by
  subst hv
  have u := u8_four (strong_u8 ha) (want_u8 (b := b) (level := level) ha) (want_u8 (b := b) (level := level) ha) (strong_u8 hb)
  refine (same_any A _ 4 4 c 4 _ [a, wantS a b level, wantS a b level, b] _ (h.alloc _).rd ((Lit8.new w1 _ [a, wantS a b level, wantS a b level, b] rfl rfl).rd rfl (by omega)) u u).mono ?_
  rintro e w' ⟨rfl, rfl⟩
  exact ⟨by simp [sameB], rfl⟩
theorem same1 (level a b v : Int) (w1 : World) (g : Nat) {B : Nat} {A : Option Addr} {c : Nat} (ha : strong4 a) (hv : v = wantS a b level) (hg : g = w1.heap.size) (h : Own B 5 .u8 w1 A 1 c [wantS a b level]) :
    Calls Try.prog 17 #[.slice A 1 c, .slice (some ⟨g, 0, none⟩) 1 1] (w1.alloc (.cells #[.int .u8 v] 5)) fun e w' => e = .returned (.bool true) ∧ (w1.alloc (.cells #[.int .u8 v] 5)) = w' := by
  subst hv
  have u := U8.cons (want_u8 (b := b) (level := level) ha) U8.nil
  refine (same_any A _ 1 1 c 1 _ [wantS a b level] _ (h.alloc _).rd ((Lit8.new w1 g [wantS a b level] hg rfl).rd rfl (by omega)) u u).mono ?_
  rintro e w' ⟨rfl, rfl⟩
  exact ⟨by simp [sameB], rfl⟩

set_option maxRecDepth 100000 in
set_option maxHeartbeats 8000000 in
theorem both_walk (A : Option Addr) (n c : Nat) (l : List Int) (level start fin : Int) (w : World) (hr : Rd .u8 w A n l) (hu : U8 l)
    (hl : 0 ≤ level ∧ level ≤ 255) (hs : 0 ≤ start ∧ start ≤ 255) (hf : 0 ≤ fin ∧ fin ≤ 255) :
    Calls Try.prog 5 #[.slice A n c, .int .u8 level, .int .u8 start, .int .u8 fin] w fun e w' => e = .returned (.bool true) ∧ Below w.heap.size w w' := by
  have hm := hr.max
  have hl0 := hl.1
  by_cases h300 : 300 < n
  · go_enter Try.func5, Try.ntmps5
    go_wp2_with fail
    refine (awake_p _).mono ?_
    rintro e w5 ⟨rfl, hb5⟩
    go_wp2_with fail
    go_ret
    exact ⟨rfl, hb5⟩
  · have hle : n ≤ 300 := by omega
    clear h300
    have hlr := hide hr.len
    have ht := hide (plainP_turn l level start fin)
    have u1 := hide (plainP_u8 (level := level) (start := start) hu hf.1)
    have u2 := hide (plainP_u8 (level := level) (start := fin) (l := l.reverse) (fun x hx => hu x (List.mem_reverse.1 hx)) hs.1)
    have hpl := hide (plainP_len l.reverse level fin start)
    go_enter Try.func5, Try.ntmps5
    go_wp2_with fail
    refine (plain_any _ n c l level start fin _ hr (by omega) hl).mono ?_
    rintro e w1 ⟨A1, c1, rfl, hown1, hb1⟩
    go_wp2_with fail
    refine (turn_any _ n c l _ (hr.below hb1) (by omega)).mono ?_
    rintro e w2 ⟨A2, c2, rfl, hown2, hb2⟩
    have hlen2 : l.reverse.length = n := by rw [List.length_reverse]; exact hlr.out
    rw [hlen2] at hown2 ⊢
    clear hlen2
    have hown1' := hown1.below hb2
    replace hb2 := hb1.trans (hb2.mono hb1.size)
    clear hb1 hown1
    go_wp2_with fail
    refine (plain_any _ n c2 l.reverse level fin start _ hown2.rd (by omega) hl).mono ?_
    rintro e w3 ⟨A3, c3, rfl, hown3, hb3⟩
    have hown1'' := hown1'.below hb3
    replace hb3 := hb2.trans (hb3.mono hb2.size)
    have hlen3 : (plainP l.reverse level fin start).length = n := by rw [hpl.out, List.length_reverse]; exact hlr.out
    rw [hlen3] at hown3 ⊢
    clear hlen3 hb2 hown2 hown1'
    go_wp2_with fail
    refine (turn_any _ n c3 (plainP l.reverse level fin start) _ hown3.rd (by omega)).mono ?_
    rintro e w4 ⟨A4, c4, rfl, hown4, hb4⟩
    have hlen4 : (plainP l.reverse level fin start).reverse.length = n := by rw [List.length_reverse, hpl.out, List.length_reverse]; exact hlr.out
    rw [hlen4] at hown4 ⊢
    clear hlen4
    have hown1''' := hown1''.below hb4
    replace hb4 := hb3.trans (hb4.mono hb3.size)
    clear hb3 hown1'' hown3
    go_wp2_with fail
    refine (same_any _ _ _ _ _ _ _ _ _ hown4.rd hown1'''.rd (fun x hx => u2.out x (List.mem_reverse.1 hx)) u1.out).mono ?_
    rintro e w' ⟨rfl, rfl⟩
    have hsame : sameB (plainP l.reverse level fin start).reverse (plainP l level start fin) = true := by rw [ht.out]; simp [sameB]
    clear hown1''' hown4
    go_wp2_with fail
    clear hsame hr u1 u2
    have hlit : Lit8 (w4.alloc (.cells #[.int .u8 0, .int .u8 1, .int .u8 3, .int .u8 6] 5)) w4.heap.size V4 := Lit8.new _ _ _ rfl rfl
    have hb5 : Below w.heap.size w (w4.alloc (.cells #[.int .u8 0, .int .u8 1, .int .u8 3, .int .u8 6] 5)) := hb4.alloc hb4.size _
    generalize w4.alloc (.cells #[.int .u8 0, .int .u8 1, .int .u8 3, .int .u8 6] 5) = w5 at *
    have hr5 := hlit.rd (n := 4) rfl (by omega)
    clear hlit hb4
    go_loopw [41] (fun i wr => ∃ k : Nat, k ≤ 4 ∧ i = .int .i64 k ∧ Below w5.heap.size w5 wr) (fun i _ => 4 - (intOf i).toNat)
    case atStart => exact ⟨0, Nat.zero_le _, rfl, Below.refl _ _⟩
    case round =>
      obtain ⟨k, hk, rfl, hbr⟩ := hrel
      obtain ⟨wo, rfl⟩ : ∃ wo : World, wo = wr := ⟨_, rfl⟩
      by_cases hkn : k < 4
      · obtain ⟨a, ha, hca⟩ := (hr5.below hbr).cell hkn
        rw [Nat.zero_add] at hca
        have hsa := v4_strong ha.out
        clear ha
        have hd : decide ((k : Int) < 4) = true := by simp; omega
        go_wp2_with fail
        have hlit : Lit8 (wo.alloc (.cells #[.int .u8 0, .int .u8 1, .int .u8 3, .int .u8 6] 5)) wo.heap.size V4 := Lit8.new _ _ _ rfl rfl
        have hbo : Below w5.heap.size w5 (wo.alloc (.cells #[.int .u8 0, .int .u8 1, .int .u8 3, .int .u8 6] 5)) := hbr.alloc hbr.size _
        generalize wo.alloc (.cells #[.int .u8 0, .int .u8 1, .int .u8 3, .int .u8 6] 5) = w6 at *
        have hr6 := hlit.rd (n := 4) rfl (by omega)
        clear hlit hbr hca
        go_loopw [47] (fun i wr => ∃ j : Nat, j ≤ 4 ∧ i = .int .i64 j ∧ Below w6.heap.size w6 wr) (fun i _ => 4 - (intOf i).toNat)
        case atStart => exact ⟨0, Nat.zero_le _, rfl, Below.refl _ _⟩
        case round =>
          obtain ⟨j, hj, rfl, hbi⟩ := hrel
          obtain ⟨wp, rfl⟩ : ∃ wp : World, wp = wr := ⟨_, rfl⟩
          by_cases hjn : j < 4
          · obtain ⟨b, hb, hcb⟩ := (hr6.below hbi).cell hjn
            rw [Nat.zero_add] at hcb
            have hsb := v4_strong hb.out
            clear hb
            have hbw := hbi.size
            have hno : Hid (∀ (a b : Int) (w1 : World), strong4 a → strong4 b → Calls Try.prog 18 #[.slice (some ⟨w1.heap.size, 0, none⟩) 4 4, .int .u8 level, .int .u8 start, .int .u8 fin] (w1.alloc (.cells #[.int .u8 a, .int .u8 13, .int .u8 12, .int .u8 b] 5))
                (RetSl (w1.alloc (.cells #[.int .u8 a, .int .u8 13, .int .u8 12, .int .u8 b] 5)).heap.size 5 .u8 [a, wantS a b level, wantS a b level, b] (w1.alloc (.cells #[.int .u8 a, .int .u8 13, .int .u8 12, .int .u8 b] 5)))) := by
              refine hide fun a b w1 ha hb => ?_
              have := plain_any (some ⟨w1.heap.size, 0, none⟩) 4 4 [a, 13, 12, b] level start fin _ ((Lit8.new w1 _ [a, 13, 12, b] rfl rfl).rd rfl (by omega)) (by omega) hl
              rwa [plain_four level start fin ha hb] at this
            have hon : Hid (∀ (a b : Int) (w1 : World), strong4 a → strong4 b → Calls Try.prog 18 #[.slice (some ⟨w1.heap.size, 0, none⟩) 1 1, .int .u8 level, .int .u8 a, .int .u8 b] (w1.alloc (.cells #[.int .u8 13] 5))
                (RetSl (w1.alloc (.cells #[.int .u8 13] 5)).heap.size 5 .u8 [wantS a b level] (w1.alloc (.cells #[.int .u8 13] 5)))) := by
              refine hide fun a b w1 ha hb => ?_
              have := plain_any (some ⟨w1.heap.size, 0, none⟩) 1 1 [13] level a b _ ((Lit8.new w1 _ [13] rfl rfl).rd rfl (by omega)) (by omega) hl
              rwa [plain_one level ha hb] at this
            rcases hsa with rfl | rfl | rfl | rfl <;> rcases hsb with rfl | rfl | rfl | rfl
            all_goals
              go_wp2_with fail
              refine (hno.out _ _ _ (by unfold strong4; omega) (by unfold strong4; omega)).mono ?_
              rintro e w7 ⟨A7, c7, rfl, hown7, hb7⟩
              replace hb7 : Below w6.heap.size w6 w7 := (hbi.alloc hbw _).trans (hb7.mono (by simp <;> omega))
              go_wp2_with fail
              refine (hon.out _ _ _ (by unfold strong4; omega) (by unfold strong4; omega)).mono ?_
              rintro e w8 ⟨A8, c8, rfl, hown8, hb8⟩
              have hown7' := (hown7.alloc _).below hb8
              have hsz7 := hb7.size
              replace hb8 : Below w6.heap.size w6 w8 := (hb7.alloc hsz7 _).trans (hb8.mono (by simp <;> omega))
              have hsz8 := hb8.size
              clear hb7 hown7
              go_wp2_with fail
              refine (same4 level _ _ _ _ (by unfold strong4; omega) (by unfold strong4; omega) ?_ hown7').mono ?_
              · simp [wantS, mn0, mn3, mn6]
              rintro e w9 ⟨rfl, rfl⟩
              go_wp2_with fail
              refine (same1 level _ _ _ _ _ (by unfold strong4; omega) ?_ ?_ (hown8.alloc _)).mono ?_
              · simp [wantS, mn0, mn3, mn6]
              · simp
              rintro e w9 ⟨rfl, rfl⟩
              go_wp2_with fail
              go_roundw
              case rel => exact ⟨j + 1, by omega, by go_num, (hb8.alloc hsz8 _).alloc (by simp <;> omega) _⟩
              case measure => simp [intOf]; omega
          · obtain rfl : j = 4 := by omega
            clear hjn
            go_wp2_with fail
            go_roundw
            case rel => exact ⟨k + 1, by omega, by go_num, hbo.trans (hbi.mono hbo.size)⟩
            case measure => simp [intOf]; omega
      · obtain rfl : k = 4 := by omega
        clear hkn
        go_wp2_with fail
        refine (awake_p _).mono ?_
        rintro e w9 ⟨rfl, hb9⟩
        go_wp2_with fail
        go_ret
        have hb6 := hb5.trans (hbr.mono hb5.size)
        exact ⟨rfl, hb6.trans (hb9.mono hb6.size)⟩
end Go.Proofs.Ytmbjdchknjollaa

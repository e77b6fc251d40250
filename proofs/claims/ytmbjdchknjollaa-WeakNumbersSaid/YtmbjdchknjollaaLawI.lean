/-
  The law WeakNumbers: its walk, a row that is longer.
-/
import Derived.Test.YtmbjdchknjollaaLawH
namespace Go.Proofs.Ytmbjdchknjollaa
open Go.RowKit

set_option maxRecDepth 100000 in
set_option maxHeartbeats 8000000 in
theorem wnum_walk2_0 (A : Option Addr) (n cap : Nat) (zs : List Int) (letter : Int) (w : World) (hr : Rd .u8 w A n zs) (hu : U8 zs) (hcap : n ≤ cap) (hl : 0 ≤ letter ∧ letter ≤ 255)
    (hm : ¬ n ≤ 100) (h3 : letter % 3 = 0) :
    Calls Try.prog 11 #[.int .u8 letter, .slice A n cap] w fun e w' => e = .returned (.bool true) ∧ Below w.heap.size w w' := by
  have hl1 := hl.1
  have hl3 : 0 ≤ letter % 3 ∧ letter % 3 ≤ 2 := by omega
  have hmm := hr.max
  have hmn : 100 ≤ n := by omega
  have hm100 : 100 ≤ 100 := by omega
  have hr' := rd_take hr hmn
  have hu' : U8 (zs.take 100) := fun z hz => hu z (List.mem_of_mem_take hz)
  generalize zs.take 100 = ps at hr' hu'
  have hown0 : Own w.heap.size 5 .u8 (w.alloc (.cells #[.int .u8 (letter % 3)] 5)) (some ⟨w.heap.size, 0, none⟩) 1 1 [letter % 3] := own_one _ _ _ _ _ _ rfl (Nat.le_refl _)
  have hall := hide (show ps.take 100 = ps by rw [List.take_of_length_le (Nat.le_of_eq hr'.len)])
  have hlen : (weakP (letter % 3 :: ps.map pk) 1).length = 1 + 100 := by rw [weakP_len, List.length_cons, List.length_map, hr'.len, Nat.add_comm]
  have hLn := hide hlen
  have hP : ∀ x ∈ ps.map pk, x = 3 ∨ x = 4 ∨ x = 5 ∨ x = 7 := fun x hx => by obtain ⟨z, _, rfl⟩ := List.mem_map.1 hx; exact pk_in z
  have hN := hide (fun i x y => @numbers_at (letter % 3) (by unfold Let; omega) (ps.map pk) hP i x y)
  have hP2 := hide hP
  clear hr hu hlen hP
  have hU := hide hu'
  clear hu'
  have G3 := hide h3
  clear h3
  go_enter Try.func11, Try.ntmps11
  go_wp2
  go_loopw [5, 23] (fun v i wr => ∃ k : Nat, k ≤ 100 ∧ i = .int .i64 k ∧ NumRow w.heap.size ps (letter % 3) wr v k ∧ Below w.heap.size w wr) (fun _ i _ => 100 - (intOf i).toNat)
  case atStart => exact ⟨0, Nat.zero_le _, rfl, ⟨_, _, rfl, hown0⟩, (Below.refl _ _).alloc (Nat.le_refl _) _⟩
  case round =>
    obtain ⟨k, hk, rfl, ⟨A1, c1, rfl, hown⟩, hbel⟩ := hrel
    obtain ⟨wo, rfl⟩ : ∃ wo : World, wo = wr := ⟨_, rfl⟩
    have hszo := hbel.size
    by_cases hkm : k < 100
    · obtain ⟨b, off, z, rfl, hbw, hz, hck⟩ := (hr'.below hbel).at_ hkm
      have hzb := (hU.out).at_ hz.out
      have hz0 := hzb.1
      rcases pk_cases (z := z) with ⟨h5, hp⟩ | ⟨h5, hp⟩ | ⟨h5, hp⟩ | ⟨h5, hp⟩ | ⟨h5, hp⟩
      all_goals
        go_wp2_with (at_builtin; refine wpList_app elt8 rfl (.tmp 27) (.tmp 33) rfl rfl rfl ((hown.alloc _).alloc _) (own_one _ _ _ _ _ _ (by simp) (Nat.le_refl _)).rd (by omega) (by simp <;> omega) ?_; intro A2 c2 w2 hown2 hgr2 _)
        have hb2 := hide (below_of_grown hgr2 (B := w.heap.size) (by simp <;> omega) (fun g hg => (hown.lt g hg).1))
        clear hgr2
        rw [take_map_step hz.out hp.out] at hown2
        go_wp2
        go_roundw
        case rel => exact ⟨k + 1, by omega, by go_num, ⟨_, _, by rw [Nat.add_assoc], by rw [← Nat.add_assoc]; exact hown2⟩, ((hbel.alloc hszo _).alloc (by simp <;> omega) _).trans hb2.out⟩
        case measure => simp [intOf]; omega
    · obtain rfl : k = 100 := by omega
      rw [hall.out] at hown
      clear hkm
      go_wp2_with fail
      refine (weak_any A1 _ c1 (letter % 3 :: ps.map pk) 1 wo hown.rd (by omega)).mono ?_
      rintro e w2 ⟨A2, c2, rfl, hown2, hb2⟩
      rw [hLn.out] at hown2 ⊢
      have hown12 := hown.below hb2
      replace hb2 := hbel.trans (hb2.mono hbel.size)
      clear hown hbel
      have h3 := G3.out
      all_goals
        go_wp2_with fail
        go_loopw [50] (fun i wr => ∃ q : Nat, q ≤ 1 + 100 ∧ i = .int .i64 q ∧ wr = w2.alloc (.cells #[.int .u8 0, .int .u8 3, .int .u8 6] 5)) (fun i _ => 1 + 100 - (intOf i).toNat)
        case atStart => exact ⟨0, Nat.zero_le _, rfl, rfl⟩
        case round =>
          obtain ⟨i, hi, rfl, rfl⟩ := hrel
          first | have hq2 := lt2_0 h3 | have hq2 := lt2_1 h3 | have hq2 := lt2_2 h3
          obtain ⟨hq2, hq2'⟩ := hq2
          have H3 := hide h3
          clear h3
          by_cases hin : i < 1 + 100
          · obtain ⟨g1, x, rfl, _, hg1, hx, hcx, _⟩ := (hown12.alloc (.cells #[.int .u8 0, .int .u8 3, .int .u8 6] 5)).at_ hin
            obtain ⟨g2, y, rfl, _, hg2, hy, hcy, _⟩ := (hown2.alloc (.cells #[.int .u8 0, .int .u8 3, .int .u8 6] 5)).at_ hin
            cases i with
            | zero =>
              have hx0 : x = letter % 3 := by have := hx.out; simp at this; omega
              rw [H3.out] at hx0
              subst hx0
              go_wp2
              go_roundw
              case rel => exact ⟨1, by omega, by go_num, by trivial⟩
              case measure => simp [intOf]
            | succ j =>
              obtain ⟨n1, n2, n3⟩ := hN.out (j + 1) x y (by omega) hx.out hy.out
              have hxi := row_in hx.out
              have hj0 : (((j : Nat) : Int) + 1 == 0) = false := by simp; omega
              have hj1 : ((j + 1 : Nat) : Int) = (j : Int) + 1 := by omega
              first | have hc := numOf_0 H3.out | have hc := numOf_1 H3.out | have hc := numOf_2 H3.out
              by_cases hlast : j + 1 + 1 < 1 + 100
              · obtain ⟨g1', a, hga, _, _, ha, hca, _⟩ := (hown12.alloc (.cells #[.int .u8 0, .int .u8 3, .int .u8 6] 5)).at_ (show j < 1 + 100 by omega)
                obtain rfl : g1 = g1' := by injection hga with h; injection h
                clear hga
                obtain ⟨g1', b, hgb, _, _, hb, hcb, _⟩ := (hown12.alloc (.cells #[.int .u8 0, .int .u8 3, .int .u8 6] 5)).at_ hlast
                obtain rfl : g1 = g1' := by injection hgb with h; injection h
                clear hgb
                have n4 := n3 a b ha.out hb.out
                clear n3
                rcases ab_cases a b with ⟨rfl, rfl⟩ | ⟨rfl, hb3⟩ | ha3
                · have hcs := hide (in_yes hxi hc n1 n2 n4)
                  clear n1 n2 n4 hxi hc
                  rcases hcs.out with ⟨rfl, rfl⟩ | ⟨rfl, h2, rfl⟩ | ⟨rfl, h2⟩ | ⟨rfl, rfl⟩ | ⟨rfl, h2, rfl⟩ | ⟨rfl, h2, hyn⟩
                  all_goals first
                    | exact absurd (h2.symm.trans H3.out) (by decide)
                    | exact absurd H3.out h2
                    | (try clear h2
                       go_wp2
                       go_roundw
                       case rel => exact ⟨j + 1 + 1, by omega, by go_num, by trivial⟩
                       case measure => simp [intOf]; omega)
                · have hcs := hide (in_no hxi hc n1 n2 n4 (.inl hb3))
                  clear n1 n2 n4 hxi hc
                  rcases hcs.out with ⟨rfl, rfl⟩ | ⟨rfl, h2, rfl⟩ | ⟨rfl, h2⟩ | ⟨rfl, hyn⟩ | ⟨rfl, hyn⟩
                  all_goals first
                    | exact absurd (h2.symm.trans H3.out) (by decide)
                    | exact absurd H3.out h2
                    | (try clear h2
                       go_wp2
                       go_roundw
                       case rel => exact ⟨j + 1 + 1, by omega, by go_num, by trivial⟩
                       case measure => simp [intOf]; omega)
                · have hcs := hide (in_no hxi hc n1 n2 n4 (.inr ha3))
                  clear n1 n2 n4 hxi hc
                  rcases hcs.out with ⟨rfl, rfl⟩ | ⟨rfl, h2, rfl⟩ | ⟨rfl, h2⟩ | ⟨rfl, hyn⟩ | ⟨rfl, hyn⟩
                  all_goals first
                    | exact absurd (h2.symm.trans H3.out) (by decide)
                    | exact absurd H3.out h2
                    | (try clear h2
                       go_wp2
                       go_roundw
                       case rel => exact ⟨j + 1 + 1, by omega, by go_num, by trivial⟩
                       case measure => simp [intOf]; omega)
              · have hcs := hide (in_end hxi hc n1 n2)
                clear n1 n2 n3 hxi hc
                rcases hcs.out with ⟨rfl, rfl⟩ | ⟨rfl, h2, rfl⟩ | ⟨rfl, h2⟩ | rfl | rfl
                all_goals first
                  | exact absurd (h2.symm.trans H3.out) (by decide)
                    | exact absurd H3.out h2
                  | (try clear h2
                     go_wp2
                     go_roundw
                     case rel => exact ⟨j + 1 + 1, by omega, by go_num, by trivial⟩
                     case measure => simp [intOf]; omega)
          · obtain rfl : i = 1 + 100 := by omega
            clear hin
            go_wp2_with fail
            refine (awake_w _).mono ?_
            rintro e w4 ⟨rfl, hb4⟩
            go_wp2_with fail
            go_ret
            exact ⟨rfl, (hb2.alloc hb2.size _).trans (hb4.mono (by simp; have := hb2.size; omega))⟩

set_option maxRecDepth 100000 in
set_option maxHeartbeats 8000000 in
theorem wnum_walk2_1 (A : Option Addr) (n cap : Nat) (zs : List Int) (letter : Int) (w : World) (hr : Rd .u8 w A n zs) (hu : U8 zs) (hcap : n ≤ cap) (hl : 0 ≤ letter ∧ letter ≤ 255)
    (hm : ¬ n ≤ 100) (h3 : letter % 3 = 1) :
    Calls Try.prog 11 #[.int .u8 letter, .slice A n cap] w fun e w' => e = .returned (.bool true) ∧ Below w.heap.size w w' := by
  have hl1 := hl.1
  have hl3 : 0 ≤ letter % 3 ∧ letter % 3 ≤ 2 := by omega
  have hmm := hr.max
  have hmn : 100 ≤ n := by omega
  have hm100 : 100 ≤ 100 := by omega
  have hr' := rd_take hr hmn
  have hu' : U8 (zs.take 100) := fun z hz => hu z (List.mem_of_mem_take hz)
  generalize zs.take 100 = ps at hr' hu'
  have hown0 : Own w.heap.size 5 .u8 (w.alloc (.cells #[.int .u8 (letter % 3)] 5)) (some ⟨w.heap.size, 0, none⟩) 1 1 [letter % 3] := own_one _ _ _ _ _ _ rfl (Nat.le_refl _)
  have hall := hide (show ps.take 100 = ps by rw [List.take_of_length_le (Nat.le_of_eq hr'.len)])
  have hlen : (weakP (letter % 3 :: ps.map pk) 1).length = 1 + 100 := by rw [weakP_len, List.length_cons, List.length_map, hr'.len, Nat.add_comm]
  have hLn := hide hlen
  have hP : ∀ x ∈ ps.map pk, x = 3 ∨ x = 4 ∨ x = 5 ∨ x = 7 := fun x hx => by obtain ⟨z, _, rfl⟩ := List.mem_map.1 hx; exact pk_in z
  have hN := hide (fun i x y => @numbers_at (letter % 3) (by unfold Let; omega) (ps.map pk) hP i x y)
  have hP2 := hide hP
  clear hr hu hlen hP
  have hU := hide hu'
  clear hu'
  have G3 := hide h3
  clear h3
  go_enter Try.func11, Try.ntmps11
  go_wp2
  go_loopw [5, 23] (fun v i wr => ∃ k : Nat, k ≤ 100 ∧ i = .int .i64 k ∧ NumRow w.heap.size ps (letter % 3) wr v k ∧ Below w.heap.size w wr) (fun _ i _ => 100 - (intOf i).toNat)
  case atStart => exact ⟨0, Nat.zero_le _, rfl, ⟨_, _, rfl, hown0⟩, (Below.refl _ _).alloc (Nat.le_refl _) _⟩
  case round =>
    obtain ⟨k, hk, rfl, ⟨A1, c1, rfl, hown⟩, hbel⟩ := hrel
    obtain ⟨wo, rfl⟩ : ∃ wo : World, wo = wr := ⟨_, rfl⟩
    have hszo := hbel.size
    by_cases hkm : k < 100
    · obtain ⟨b, off, z, rfl, hbw, hz, hck⟩ := (hr'.below hbel).at_ hkm
      have hzb := (hU.out).at_ hz.out
      have hz0 := hzb.1
      rcases pk_cases (z := z) with ⟨h5, hp⟩ | ⟨h5, hp⟩ | ⟨h5, hp⟩ | ⟨h5, hp⟩ | ⟨h5, hp⟩
      all_goals
        go_wp2_with (at_builtin; refine wpList_app elt8 rfl (.tmp 27) (.tmp 33) rfl rfl rfl ((hown.alloc _).alloc _) (own_one _ _ _ _ _ _ (by simp) (Nat.le_refl _)).rd (by omega) (by simp <;> omega) ?_; intro A2 c2 w2 hown2 hgr2 _)
        have hb2 := hide (below_of_grown hgr2 (B := w.heap.size) (by simp <;> omega) (fun g hg => (hown.lt g hg).1))
        clear hgr2
        rw [take_map_step hz.out hp.out] at hown2
        go_wp2
        go_roundw
        case rel => exact ⟨k + 1, by omega, by go_num, ⟨_, _, by rw [Nat.add_assoc], by rw [← Nat.add_assoc]; exact hown2⟩, ((hbel.alloc hszo _).alloc (by simp <;> omega) _).trans hb2.out⟩
        case measure => simp [intOf]; omega
    · obtain rfl : k = 100 := by omega
      rw [hall.out] at hown
      clear hkm
      go_wp2_with fail
      refine (weak_any A1 _ c1 (letter % 3 :: ps.map pk) 1 wo hown.rd (by omega)).mono ?_
      rintro e w2 ⟨A2, c2, rfl, hown2, hb2⟩
      rw [hLn.out] at hown2 ⊢
      have hown12 := hown.below hb2
      replace hb2 := hbel.trans (hb2.mono hbel.size)
      clear hown hbel
      have h3 := G3.out
      all_goals
        go_wp2_with fail
        go_loopw [50] (fun i wr => ∃ q : Nat, q ≤ 1 + 100 ∧ i = .int .i64 q ∧ wr = w2.alloc (.cells #[.int .u8 0, .int .u8 3, .int .u8 6] 5)) (fun i _ => 1 + 100 - (intOf i).toNat)
        case atStart => exact ⟨0, Nat.zero_le _, rfl, rfl⟩
        case round =>
          obtain ⟨i, hi, rfl, rfl⟩ := hrel
          first | have hq2 := lt2_0 h3 | have hq2 := lt2_1 h3 | have hq2 := lt2_2 h3
          obtain ⟨hq2, hq2'⟩ := hq2
          have H3 := hide h3
          clear h3
          by_cases hin : i < 1 + 100
          · obtain ⟨g1, x, rfl, _, hg1, hx, hcx, _⟩ := (hown12.alloc (.cells #[.int .u8 0, .int .u8 3, .int .u8 6] 5)).at_ hin
            obtain ⟨g2, y, rfl, _, hg2, hy, hcy, _⟩ := (hown2.alloc (.cells #[.int .u8 0, .int .u8 3, .int .u8 6] 5)).at_ hin
            cases i with
            | zero =>
              have hx0 : x = letter % 3 := by have := hx.out; simp at this; omega
              rw [H3.out] at hx0
              subst hx0
              go_wp2
              go_roundw
              case rel => exact ⟨1, by omega, by go_num, by trivial⟩
              case measure => simp [intOf]
            | succ j =>
              obtain ⟨n1, n2, n3⟩ := hN.out (j + 1) x y (by omega) hx.out hy.out
              have hxi := row_in hx.out
              have hj0 : (((j : Nat) : Int) + 1 == 0) = false := by simp; omega
              have hj1 : ((j + 1 : Nat) : Int) = (j : Int) + 1 := by omega
              first | have hc := numOf_0 H3.out | have hc := numOf_1 H3.out | have hc := numOf_2 H3.out
              by_cases hlast : j + 1 + 1 < 1 + 100
              · obtain ⟨g1', a, hga, _, _, ha, hca, _⟩ := (hown12.alloc (.cells #[.int .u8 0, .int .u8 3, .int .u8 6] 5)).at_ (show j < 1 + 100 by omega)
                obtain rfl : g1 = g1' := by injection hga with h; injection h
                clear hga
                obtain ⟨g1', b, hgb, _, _, hb, hcb, _⟩ := (hown12.alloc (.cells #[.int .u8 0, .int .u8 3, .int .u8 6] 5)).at_ hlast
                obtain rfl : g1 = g1' := by injection hgb with h; injection h
                clear hgb
                have n4 := n3 a b ha.out hb.out
                clear n3
                rcases ab_cases a b with ⟨rfl, rfl⟩ | ⟨rfl, hb3⟩ | ha3
                · have hcs := hide (in_yes hxi hc n1 n2 n4)
                  clear n1 n2 n4 hxi hc
                  rcases hcs.out with ⟨rfl, rfl⟩ | ⟨rfl, h2, rfl⟩ | ⟨rfl, h2⟩ | ⟨rfl, rfl⟩ | ⟨rfl, h2, rfl⟩ | ⟨rfl, h2, hyn⟩
                  all_goals first
                    | exact absurd (h2.symm.trans H3.out) (by decide)
                    | exact absurd H3.out h2
                    | (try clear h2
                       go_wp2
                       go_roundw
                       case rel => exact ⟨j + 1 + 1, by omega, by go_num, by trivial⟩
                       case measure => simp [intOf]; omega)
                · have hcs := hide (in_no hxi hc n1 n2 n4 (.inl hb3))
                  clear n1 n2 n4 hxi hc
                  rcases hcs.out with ⟨rfl, rfl⟩ | ⟨rfl, h2, rfl⟩ | ⟨rfl, h2⟩ | ⟨rfl, hyn⟩ | ⟨rfl, hyn⟩
                  all_goals first
                    | exact absurd (h2.symm.trans H3.out) (by decide)
                    | exact absurd H3.out h2
                    | (try clear h2
                       go_wp2
                       go_roundw
                       case rel => exact ⟨j + 1 + 1, by omega, by go_num, by trivial⟩
                       case measure => simp [intOf]; omega)
                · have hcs := hide (in_no hxi hc n1 n2 n4 (.inr ha3))
                  clear n1 n2 n4 hxi hc
                  rcases hcs.out with ⟨rfl, rfl⟩ | ⟨rfl, h2, rfl⟩ | ⟨rfl, h2⟩ | ⟨rfl, hyn⟩ | ⟨rfl, hyn⟩
                  all_goals first
                    | exact absurd (h2.symm.trans H3.out) (by decide)
                    | exact absurd H3.out h2
                    | (try clear h2
                       go_wp2
                       go_roundw
                       case rel => exact ⟨j + 1 + 1, by omega, by go_num, by trivial⟩
                       case measure => simp [intOf]; omega)
              · have hcs := hide (in_end hxi hc n1 n2)
                clear n1 n2 n3 hxi hc
                rcases hcs.out with ⟨rfl, rfl⟩ | ⟨rfl, h2, rfl⟩ | ⟨rfl, h2⟩ | rfl | rfl
                all_goals first
                  | exact absurd (h2.symm.trans H3.out) (by decide)
                    | exact absurd H3.out h2
                  | (try clear h2
                     go_wp2
                     go_roundw
                     case rel => exact ⟨j + 1 + 1, by omega, by go_num, by trivial⟩
                     case measure => simp [intOf]; omega)
          · obtain rfl : i = 1 + 100 := by omega
            clear hin
            go_wp2_with fail
            refine (awake_w _).mono ?_
            rintro e w4 ⟨rfl, hb4⟩
            go_wp2_with fail
            go_ret
            exact ⟨rfl, (hb2.alloc hb2.size _).trans (hb4.mono (by simp; have := hb2.size; omega))⟩

set_option maxRecDepth 100000 in
set_option maxHeartbeats 8000000 in
theorem wnum_walk2_2 (A : Option Addr) (n cap : Nat) (zs : List Int) (letter : Int) (w : World) (hr : Rd .u8 w A n zs) (hu : U8 zs) (hcap : n ≤ cap) (hl : 0 ≤ letter ∧ letter ≤ 255)
    (hm : ¬ n ≤ 100) (h3 : letter % 3 = 2) :
    Calls Try.prog 11 #[.int .u8 letter, .slice A n cap] w fun e w' => e = .returned (.bool true) ∧ Below w.heap.size w w' := by
  have hl1 := hl.1
  have hl3 : 0 ≤ letter % 3 ∧ letter % 3 ≤ 2 := by omega
  have hmm := hr.max
  have hmn : 100 ≤ n := by omega
  have hm100 : 100 ≤ 100 := by omega
  have hr' := rd_take hr hmn
  have hu' : U8 (zs.take 100) := fun z hz => hu z (List.mem_of_mem_take hz)
  generalize zs.take 100 = ps at hr' hu'
  have hown0 : Own w.heap.size 5 .u8 (w.alloc (.cells #[.int .u8 (letter % 3)] 5)) (some ⟨w.heap.size, 0, none⟩) 1 1 [letter % 3] := own_one _ _ _ _ _ _ rfl (Nat.le_refl _)
  have hall := hide (show ps.take 100 = ps by rw [List.take_of_length_le (Nat.le_of_eq hr'.len)])
  have hlen : (weakP (letter % 3 :: ps.map pk) 1).length = 1 + 100 := by rw [weakP_len, List.length_cons, List.length_map, hr'.len, Nat.add_comm]
  have hLn := hide hlen
  have hP : ∀ x ∈ ps.map pk, x = 3 ∨ x = 4 ∨ x = 5 ∨ x = 7 := fun x hx => by obtain ⟨z, _, rfl⟩ := List.mem_map.1 hx; exact pk_in z
  have hN := hide (fun i x y => @numbers_at (letter % 3) (by unfold Let; omega) (ps.map pk) hP i x y)
  have hP2 := hide hP
  clear hr hu hlen hP
  have hU := hide hu'
  clear hu'
  have G3 := hide h3
  clear h3
  go_enter Try.func11, Try.ntmps11
  go_wp2
  go_loopw [5, 23] (fun v i wr => ∃ k : Nat, k ≤ 100 ∧ i = .int .i64 k ∧ NumRow w.heap.size ps (letter % 3) wr v k ∧ Below w.heap.size w wr) (fun _ i _ => 100 - (intOf i).toNat)
  case atStart => exact ⟨0, Nat.zero_le _, rfl, ⟨_, _, rfl, hown0⟩, (Below.refl _ _).alloc (Nat.le_refl _) _⟩
  case round =>
    obtain ⟨k, hk, rfl, ⟨A1, c1, rfl, hown⟩, hbel⟩ := hrel
    obtain ⟨wo, rfl⟩ : ∃ wo : World, wo = wr := ⟨_, rfl⟩
    have hszo := hbel.size
    by_cases hkm : k < 100
    · obtain ⟨b, off, z, rfl, hbw, hz, hck⟩ := (hr'.below hbel).at_ hkm
      have hzb := (hU.out).at_ hz.out
      have hz0 := hzb.1
      rcases pk_cases (z := z) with ⟨h5, hp⟩ | ⟨h5, hp⟩ | ⟨h5, hp⟩ | ⟨h5, hp⟩ | ⟨h5, hp⟩
      all_goals
        go_wp2_with (at_builtin; refine wpList_app elt8 rfl (.tmp 27) (.tmp 33) rfl rfl rfl ((hown.alloc _).alloc _) (own_one _ _ _ _ _ _ (by simp) (Nat.le_refl _)).rd (by omega) (by simp <;> omega) ?_; intro A2 c2 w2 hown2 hgr2 _)
        have hb2 := hide (below_of_grown hgr2 (B := w.heap.size) (by simp <;> omega) (fun g hg => (hown.lt g hg).1))
        clear hgr2
        rw [take_map_step hz.out hp.out] at hown2
        go_wp2
        go_roundw
        case rel => exact ⟨k + 1, by omega, by go_num, ⟨_, _, by rw [Nat.add_assoc], by rw [← Nat.add_assoc]; exact hown2⟩, ((hbel.alloc hszo _).alloc (by simp <;> omega) _).trans hb2.out⟩
        case measure => simp [intOf]; omega
    · obtain rfl : k = 100 := by omega
      rw [hall.out] at hown
      clear hkm
      go_wp2_with fail
      refine (weak_any A1 _ c1 (letter % 3 :: ps.map pk) 1 wo hown.rd (by omega)).mono ?_
      rintro e w2 ⟨A2, c2, rfl, hown2, hb2⟩
      rw [hLn.out] at hown2 ⊢
      have hown12 := hown.below hb2
      replace hb2 := hbel.trans (hb2.mono hbel.size)
      clear hown hbel
      have h3 := G3.out
      all_goals
        go_wp2_with fail
        go_loopw [50] (fun i wr => ∃ q : Nat, q ≤ 1 + 100 ∧ i = .int .i64 q ∧ wr = w2.alloc (.cells #[.int .u8 0, .int .u8 3, .int .u8 6] 5)) (fun i _ => 1 + 100 - (intOf i).toNat)
        case atStart => exact ⟨0, Nat.zero_le _, rfl, rfl⟩
        case round =>
          obtain ⟨i, hi, rfl, rfl⟩ := hrel
          first | have hq2 := lt2_0 h3 | have hq2 := lt2_1 h3 | have hq2 := lt2_2 h3
          obtain ⟨hq2, hq2'⟩ := hq2
          have H3 := hide h3
          clear h3
          by_cases hin : i < 1 + 100
          · obtain ⟨g1, x, rfl, _, hg1, hx, hcx, _⟩ := (hown12.alloc (.cells #[.int .u8 0, .int .u8 3, .int .u8 6] 5)).at_ hin
            obtain ⟨g2, y, rfl, _, hg2, hy, hcy, _⟩ := (hown2.alloc (.cells #[.int .u8 0, .int .u8 3, .int .u8 6] 5)).at_ hin
            cases i with
            | zero =>
              have hx0 : x = letter % 3 := by have := hx.out; simp at this; omega
              rw [H3.out] at hx0
              subst hx0
              go_wp2
              go_roundw
              case rel => exact ⟨1, by omega, by go_num, by trivial⟩
              case measure => simp [intOf]
            | succ j =>
              obtain ⟨n1, n2, n3⟩ := hN.out (j + 1) x y (by omega) hx.out hy.out
              have hxi := row_in hx.out
              have hj0 : (((j : Nat) : Int) + 1 == 0) = false := by simp; omega
              have hj1 : ((j + 1 : Nat) : Int) = (j : Int) + 1 := by omega
              first | have hc := numOf_0 H3.out | have hc := numOf_1 H3.out | have hc := numOf_2 H3.out
              by_cases hlast : j + 1 + 1 < 1 + 100
              · obtain ⟨g1', a, hga, _, _, ha, hca, _⟩ := (hown12.alloc (.cells #[.int .u8 0, .int .u8 3, .int .u8 6] 5)).at_ (show j < 1 + 100 by omega)
                obtain rfl : g1 = g1' := by injection hga with h; injection h
                clear hga
                obtain ⟨g1', b, hgb, _, _, hb, hcb, _⟩ := (hown12.alloc (.cells #[.int .u8 0, .int .u8 3, .int .u8 6] 5)).at_ hlast
                obtain rfl : g1 = g1' := by injection hgb with h; injection h
                clear hgb
                have n4 := n3 a b ha.out hb.out
                clear n3
                rcases ab_cases a b with ⟨rfl, rfl⟩ | ⟨rfl, hb3⟩ | ha3
                · have hcs := hide (in_yes hxi hc n1 n2 n4)
                  clear n1 n2 n4 hxi hc
                  rcases hcs.out with ⟨rfl, rfl⟩ | ⟨rfl, h2, rfl⟩ | ⟨rfl, h2⟩ | ⟨rfl, rfl⟩ | ⟨rfl, h2, rfl⟩ | ⟨rfl, h2, hyn⟩
                  all_goals first
                    | exact absurd (h2.symm.trans H3.out) (by decide)
                    | exact absurd H3.out h2
                    | (try clear h2
                       go_wp2
                       go_roundw
                       case rel => exact ⟨j + 1 + 1, by omega, by go_num, by trivial⟩
                       case measure => simp [intOf]; omega)
                · have hcs := hide (in_no hxi hc n1 n2 n4 (.inl hb3))
                  clear n1 n2 n4 hxi hc
                  rcases hcs.out with ⟨rfl, rfl⟩ | ⟨rfl, h2, rfl⟩ | ⟨rfl, h2⟩ | ⟨rfl, hyn⟩ | ⟨rfl, hyn⟩
                  all_goals first
                    | exact absurd (h2.symm.trans H3.out) (by decide)
                    | exact absurd H3.out h2
                    | (try clear h2
                       go_wp2
                       go_roundw
                       case rel => exact ⟨j + 1 + 1, by omega, by go_num, by trivial⟩
                       case measure => simp [intOf]; omega)
                · have hcs := hide (in_no hxi hc n1 n2 n4 (.inr ha3))
                  clear n1 n2 n4 hxi hc
                  rcases hcs.out with ⟨rfl, rfl⟩ | ⟨rfl, h2, rfl⟩ | ⟨rfl, h2⟩ | ⟨rfl, hyn⟩ | ⟨rfl, hyn⟩
                  all_goals first
                    | exact absurd (h2.symm.trans H3.out) (by decide)
                    | exact absurd H3.out h2
                    | (try clear h2
                       go_wp2
                       go_roundw
                       case rel => exact ⟨j + 1 + 1, by omega, by go_num, by trivial⟩
                       case measure => simp [intOf]; omega)
              · have hcs := hide (in_end hxi hc n1 n2)
                clear n1 n2 n3 hxi hc
                rcases hcs.out with ⟨rfl, rfl⟩ | ⟨rfl, h2, rfl⟩ | ⟨rfl, h2⟩ | rfl | rfl
                all_goals first
                  | exact absurd (h2.symm.trans H3.out) (by decide)
                    | exact absurd H3.out h2
                  | (try clear h2
                     go_wp2
                     go_roundw
                     case rel => exact ⟨j + 1 + 1, by omega, by go_num, by trivial⟩
                     case measure => simp [intOf]; omega)
          · obtain rfl : i = 1 + 100 := by omega
            clear hin
            go_wp2_with fail
            refine (awake_w _).mono ?_
            rintro e w4 ⟨rfl, hb4⟩
            go_wp2_with fail
            go_ret
            exact ⟨rfl, (hb2.alloc hb2.size _).trans (hb4.mono (by simp; have := hb2.size; omega))⟩

theorem wnum_walk2 (A : Option Addr) (n cap : Nat) (zs : List Int) (letter : Int) (w : World) (hr : Rd .u8 w A n zs) (hu : U8 zs) (hcap : n ≤ cap) (hl : 0 ≤ letter ∧ letter ≤ 255) (hm : ¬ n ≤ 100) :
    Calls Try.prog 11 #[.int .u8 letter, .slice A n cap] w fun e w' => e = .returned (.bool true) ∧ Below w.heap.size w w' := by
  have h3 : letter % 3 = 0 ∨ letter % 3 = 1 ∨ letter % 3 = 2 := by omega
  rcases h3 with h3 | h3 | h3
  · exact wnum_walk2_0 A n cap zs letter w hr hu hcap hl hm h3
  · exact wnum_walk2_1 A n cap zs letter w hr hu hcap hl hm h3
  · exact wnum_walk2_2 A n cap zs letter w hr hu hcap hl hm h3

theorem wnum_walk (A : Option Addr) (n cap : Nat) (zs : List Int) (letter : Int) (w : World) (hr : Rd .u8 w A n zs) (hu : U8 zs) (hcap : n ≤ cap) (hl : 0 ≤ letter ∧ letter ≤ 255) :
    Calls Try.prog 11 #[.int .u8 letter, .slice A n cap] w fun e w' => e = .returned (.bool true) ∧ Below w.heap.size w w' := by
  by_cases h : n ≤ 100
  · exact wnum_walk1 A n cap zs letter w hr hu hcap hl h
  · exact wnum_walk2 A n cap zs letter w hr hu hcap hl h
end Go.Proofs.Ytmbjdchknjollaa

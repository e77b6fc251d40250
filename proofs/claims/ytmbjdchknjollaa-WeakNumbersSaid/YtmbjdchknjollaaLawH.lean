/-
  The law WeakNumbers: its walk, a row of a hundred or less.
-/
import Derived.Test.YtmbjdchknjollaaLawG
namespace Go.Proofs.Ytmbjdchknjollaa
open Go.RowKit

/-- the class that a number picks -/
def pk (z : Int) : Int := if z % 5 = 0 ∨ z % 5 = 1 then 3 else if z % 5 = 2 then 4 else if z % 5 = 3 then 5 else 7
theorem pk_in (z : Int) : pk z = 3 ∨ pk z = 4 ∨ pk z = 5 ∨ pk z = 7 := by
  unfold pk; split
  · omega
  · split
    · omega
    · split <;> omega
theorem pk_cases {z : Int} : (z % 5 = 0 ∧ Hid (pk z = 3)) ∨ (z % 5 = 1 ∧ Hid (pk z = 3)) ∨ (z % 5 = 2 ∧ Hid (pk z = 4)) ∨ (z % 5 = 3 ∧ Hid (pk z = 5)) ∨ (z % 5 = 4 ∧ Hid (pk z = 7)) := by
  have h : z % 5 = 0 ∨ z % 5 = 1 ∨ z % 5 = 2 ∨ z % 5 = 3 ∨ z % 5 = 4 := by omega
  unfold Hid pk
  rcases h with h | h | h | h | h <;> simp [h]
theorem take_map_step {zs : List Int} {k : Nat} {z v : Int} (hz : zs[k]? = some z) (hp : pk z = v) {c : Int} : (c :: (zs.take k).map pk) ++ [v] = c :: (zs.take (k + 1)).map pk := by
  subst hp
  obtain ⟨hk, rfl⟩ := List.getElem?_eq_some_iff.1 hz
  rw [List.take_succ_eq_append_getElem hk, List.map_append]
  rfl
theorem rd_take {k : IntKind} {w : World} {A : Option Addr} {n m : Nat} {zs : List Int} (h : Rd k w A n zs) (hm : m ≤ n) : Rd k w A m (zs.take m) := by
  refine ⟨by rw [List.length_take, h.len]; omega, by have := h.max; omega, fun h0 => ?_⟩
  obtain ⟨b, off, hA, hb, hc⟩ := h.2.2 (by omega)
  refine ⟨b, off, hA, hb, fun j hj => ?_⟩
  rw [hc j (by omega)]
  simp [List.getD, hj]

/-- the loop that makes the row -/
def NumRow (B : Nat) (ps : List Int) (c : Int) (w : World) (v : Value) (k : Nat) : Prop := ∃ A1 c1, v = .slice A1 (1 + k) c1 ∧ Own B 5 .u8 w A1 (1 + k) c1 (c :: (ps.take k).map pk)

theorem u8_row {ps : List Int} {c : Int} (hc : 0 ≤ c ∧ c ≤ 2) : U8 (c :: ps.map pk) := U8.cons (by omega) fun x hx => by
  obtain ⟨z, _, rfl⟩ := List.mem_map.1 hx
  have := pk_in z
  omega

theorem ab_cases (a b : Int) : (a = 3 ∧ b = 3) ∨ (a = 3 ∧ (b == 3) = false) ∨ (a == 3) = false := by
  simp only [beq_eq_false_iff_ne]; omega
theorem in_yes {c num x y : Int} (hx : x = 3 ∨ x = 4 ∨ x = 5 ∨ x = 7) (hc : numOf c = num) (n1 : x = 3 → y = numOf c) (n2 : x = 5 → c = 2 → y = 13) (n4 : (x = 7 → (y = numOf c ↔ (3 : Int) = 3 ∧ (3 : Int) = 3)) ∧ (x = 4 → (y = numOf c ↔ (3 : Int) = 3 ∧ (3 : Int) = 3 ∧ c ≠ 2))) :
    (x = 3 ∧ y = num) ∨ (x = 5 ∧ c = 2 ∧ y = 13) ∨ (x = 5 ∧ c ≠ 2) ∨ (x = 7 ∧ y = num) ∨ (x = 4 ∧ c ≠ 2 ∧ y = num) ∨ (x = 4 ∧ c = 2 ∧ (y == num) = false) := by
  subst hc
  simp only [beq_eq_false_iff_ne]
  rcases hx with rfl | rfl | rfl | rfl
  · exact .inl ⟨rfl, n1 rfl⟩
  · by_cases h2 : c = 2
    · exact .inr (.inr (.inr (.inr (.inr ⟨rfl, h2, fun h => absurd h2 ((n4.2 rfl).1 h).2.2⟩))))
    · exact .inr (.inr (.inr (.inr (.inl ⟨rfl, h2, (n4.2 rfl).2 ⟨rfl, rfl, h2⟩⟩))))
  · by_cases h2 : c = 2
    · exact .inr (.inl ⟨rfl, h2, n2 rfl h2⟩)
    · exact .inr (.inr (.inl ⟨rfl, h2⟩))
  · exact .inr (.inr (.inr (.inl ⟨rfl, (n4.1 rfl).2 ⟨rfl, rfl⟩⟩)))
theorem in_no {c num x y a b : Int} (hx : x = 3 ∨ x = 4 ∨ x = 5 ∨ x = 7) (hc : numOf c = num) (n1 : x = 3 → y = numOf c) (n2 : x = 5 → c = 2 → y = 13) (n4 : (x = 7 → (y = numOf c ↔ a = 3 ∧ b = 3)) ∧ (x = 4 → (y = numOf c ↔ a = 3 ∧ b = 3 ∧ c ≠ 2))) (hab : (b == 3) = false ∨ (a == 3) = false) :
    (x = 3 ∧ y = num) ∨ (x = 5 ∧ c = 2 ∧ y = 13) ∨ (x = 5 ∧ c ≠ 2) ∨ (x = 7 ∧ (y == num) = false) ∨ (x = 4 ∧ (y == num) = false) := by
  subst hc
  simp only [beq_eq_false_iff_ne] at *
  rcases hx with rfl | rfl | rfl | rfl
  · exact .inl ⟨rfl, n1 rfl⟩
  · exact .inr (.inr (.inr (.inr ⟨rfl, fun h => by have := (n4.2 rfl).1 h; omega⟩)))
  · by_cases h2 : c = 2
    · exact .inr (.inl ⟨rfl, h2, n2 rfl h2⟩)
    · exact .inr (.inr (.inl ⟨rfl, h2⟩))
  · exact .inr (.inr (.inr (.inl ⟨rfl, fun h => by have := (n4.1 rfl).1 h; omega⟩)))
theorem in_end {c num x y : Int} (hx : x = 3 ∨ x = 4 ∨ x = 5 ∨ x = 7) (hc : numOf c = num) (n1 : x = 3 → y = numOf c) (n2 : x = 5 → c = 2 → y = 13) :
    (x = 3 ∧ y = num) ∨ (x = 5 ∧ c = 2 ∧ y = 13) ∨ (x = 5 ∧ c ≠ 2) ∨ x = 7 ∨ x = 4 := by
  subst hc
  omega
theorem numOf_0 {c : Int} (h : c = 0) : numOf c = 0 := by subst h; rfl
theorem numOf_1 {c : Int} (h : c = 1) : numOf c = 3 := by subst h; rfl
theorem numOf_2 {c : Int} (h : c = 2) : numOf c = 6 := by subst h; rfl
theorem lt2_0 {x : Int} (h : x = 0) : (x == 2) = false ∧ (x != 2) = true := by subst h; exact ⟨rfl, rfl⟩
theorem lt2_1 {x : Int} (h : x = 1) : (x == 2) = false ∧ (x != 2) = true := by subst h; exact ⟨rfl, rfl⟩
theorem lt2_2 {x : Int} (h : x = 2) : (x == 2) = true ∧ (x != 2) = false := by subst h; exact ⟨rfl, rfl⟩
theorem row_in {ps : List Int} {c : Int} {j : Nat} {x : Int} (h : (c :: ps.map pk)[j + 1]? = some x) : x = 3 ∨ x = 4 ∨ x = 5 ∨ x = 7 := by
  rw [List.getElem?_cons_succ] at h
  obtain ⟨z, _, rfl⟩ := List.mem_map.1 (List.mem_of_getElem? h)
  exact pk_in z

set_option maxRecDepth 100000 in
set_option maxHeartbeats 8000000 in
theorem wnum_walk1_0 (A : Option Addr) (n cap : Nat) (zs : List Int) (letter : Int) (w : World) (hr : Rd .u8 w A n zs) (hu : U8 zs) (hcap : n ≤ cap) (hl : 0 ≤ letter ∧ letter ≤ 255)
    (hm : n ≤ 100) (h3 : letter % 3 = 0) :
    Calls Try.prog 11 #[.int .u8 letter, .slice A n cap] w fun e w' => e = .returned (.bool true) ∧ Below w.heap.size w w' := by
  have hl1 := hl.1
  have hl3 : 0 ≤ letter % 3 ∧ letter % 3 ≤ 2 := by omega
  have hmm := hr.max
  have hmn : n ≤ n := by omega
  have hm100 : n ≤ 100 := by omega
  have hr' := rd_take hr hmn
  have hu' : U8 (zs.take n) := fun z hz => hu z (List.mem_of_mem_take hz)
  generalize zs.take n = ps at hr' hu'
  have hown0 : Own w.heap.size 5 .u8 (w.alloc (.cells #[.int .u8 (letter % 3)] 5)) (some ⟨w.heap.size, 0, none⟩) 1 1 [letter % 3] := own_one _ _ _ _ _ _ rfl (Nat.le_refl _)
  have hall := hide (show ps.take n = ps by rw [List.take_of_length_le (Nat.le_of_eq hr'.len)])
  have hlen : (weakP (letter % 3 :: ps.map pk) 1).length = 1 + n := by rw [weakP_len, List.length_cons, List.length_map, hr'.len, Nat.add_comm]
  have hLn := hide hlen
  have hP : ∀ x ∈ ps.map pk, x = 3 ∨ x = 4 ∨ x = 5 ∨ x = 7 := fun x hx => by obtain ⟨z, _, rfl⟩ := List.mem_map.1 hx; exact pk_in z
  have hN := hide (fun i x y => @numbers_at (letter % 3) (by unfold Let; omega) (ps.map pk) hP i x y)
  have hP2 := hide hP
  clear hr hu hlen hP
  have hU := hide hu'
  clear hu'
  have G3 := hide h3
  clear h3
  go_enter Try.func11, Try.ntmps11
  go_wp2
  go_loopw [5, 23] (fun v i wr => ∃ k : Nat, k ≤ n ∧ i = .int .i64 k ∧ NumRow w.heap.size ps (letter % 3) wr v k ∧ Below w.heap.size w wr) (fun _ i _ => n - (intOf i).toNat)
  case atStart => exact ⟨0, Nat.zero_le _, rfl, ⟨_, _, rfl, hown0⟩, (Below.refl _ _).alloc (Nat.le_refl _) _⟩
  case round =>
    obtain ⟨k, hk, rfl, ⟨A1, c1, rfl, hown⟩, hbel⟩ := hrel
    obtain ⟨wo, rfl⟩ : ∃ wo : World, wo = wr := ⟨_, rfl⟩
    have hszo := hbel.size
    by_cases hkm : k < n
    · obtain ⟨b, off, z, rfl, hbw, hz, hck⟩ := (hr'.below hbel).at_ hkm
      have hzb := (hU.out).at_ hz.out
      have hz0 := hzb.1
      rcases pk_cases (z := z) with ⟨h5, hp⟩ | ⟨h5, hp⟩ | ⟨h5, hp⟩ | ⟨h5, hp⟩ | ⟨h5, hp⟩
      all_goals
        go_wp2_with (at_builtin; refine wpList_app elt8 rfl (.tmp 27) (.tmp 33) rfl rfl rfl ((hown.alloc _).alloc _) (own_one _ _ _ _ _ _ (by simp) (Nat.le_refl _)).rd (by omega) (by simp <;> omega) ?_; intro A2 c2 w2 hown2 hgr2 _)
        have hb2 := hide (below_of_grown hgr2 (B := w.heap.size) (by simp <;> omega) (fun g hg => (hown.lt g hg).1))
        clear hgr2
        rw [take_map_step hz.out hp.out] at hown2
        go_wp2
        go_roundw
        case rel => exact ⟨k + 1, by omega, by go_num, ⟨_, _, by rw [Nat.add_assoc], by rw [← Nat.add_assoc]; exact hown2⟩, ((hbel.alloc hszo _).alloc (by simp <;> omega) _).trans hb2.out⟩
        case measure => simp [intOf]; omega
    · obtain rfl : k = n := by omega
      rw [hall.out] at hown
      clear hkm
      go_wp2_with fail
      refine (weak_any A1 _ c1 (letter % 3 :: ps.map pk) 1 wo hown.rd (by omega)).mono ?_
      rintro e w2 ⟨A2, c2, rfl, hown2, hb2⟩
      rw [hLn.out] at hown2 ⊢
      have hown12 := hown.below hb2
      replace hb2 := hbel.trans (hb2.mono hbel.size)
      clear hown hbel
      have h3 := G3.out
      all_goals
        go_wp2_with fail
        go_loopw [50] (fun i wr => ∃ q : Nat, q ≤ 1 + k ∧ i = .int .i64 q ∧ wr = w2.alloc (.cells #[.int .u8 0, .int .u8 3, .int .u8 6] 5)) (fun i _ => 1 + k - (intOf i).toNat)
        case atStart => exact ⟨0, Nat.zero_le _, rfl, rfl⟩
        case round =>
          obtain ⟨i, hi, rfl, rfl⟩ := hrel
          first | have hq2 := lt2_0 h3 | have hq2 := lt2_1 h3 | have hq2 := lt2_2 h3
          obtain ⟨hq2, hq2'⟩ := hq2
          have H3 := hide h3
          clear h3
          by_cases hin : i < 1 + k
          · obtain ⟨g1, x, rfl, _, hg1, hx, hcx, _⟩ := (hown12.alloc (.cells #[.int .u8 0, .int .u8 3, .int .u8 6] 5)).at_ hin
            obtain ⟨g2, y, rfl, _, hg2, hy, hcy, _⟩ := (hown2.alloc (.cells #[.int .u8 0, .int .u8 3, .int .u8 6] 5)).at_ hin
            cases i with
            | zero =>
              have hx0 : x = letter % 3 := by have := hx.out; simp at this; omega
              rw [H3.out] at hx0
              subst hx0
              go_wp2
              go_roundw
              case rel => exact ⟨1, by omega, by go_num, by trivial⟩
              case measure => simp [intOf]
            | succ j =>
              obtain ⟨n1, n2, n3⟩ := hN.out (j + 1) x y (by omega) hx.out hy.out
              have hxi := row_in hx.out
              have hj0 : (((j : Nat) : Int) + 1 == 0) = false := by simp; omega
              have hj1 : ((j + 1 : Nat) : Int) = (j : Int) + 1 := by omega
              first | have hc := numOf_0 H3.out | have hc := numOf_1 H3.out | have hc := numOf_2 H3.out
              by_cases hlast : j + 1 + 1 < 1 + k
              · obtain ⟨g1', a, hga, _, _, ha, hca, _⟩ := (hown12.alloc (.cells #[.int .u8 0, .int .u8 3, .int .u8 6] 5)).at_ (show j < 1 + k by omega)
                obtain rfl : g1 = g1' := by injection hga with h; injection h
                clear hga
                obtain ⟨g1', b, hgb, _, _, hb, hcb, _⟩ := (hown12.alloc (.cells #[.int .u8 0, .int .u8 3, .int .u8 6] 5)).at_ hlast
                obtain rfl : g1 = g1' := by injection hgb with h; injection h
                clear hgb
                have n4 := n3 a b ha.out hb.out
                clear n3
                rcases ab_cases a b with ⟨rfl, rfl⟩ | ⟨rfl, hb3⟩ | ha3
                · have hcs := hide (in_yes hxi hc n1 n2 n4)
                  clear n1 n2 n4 hxi hc
                  rcases hcs.out with ⟨rfl, rfl⟩ | ⟨rfl, h2, rfl⟩ | ⟨rfl, h2⟩ | ⟨rfl, rfl⟩ | ⟨rfl, h2, rfl⟩ | ⟨rfl, h2, hyn⟩
                  all_goals first
                    | exact absurd (h2.symm.trans H3.out) (by decide)
                    | exact absurd H3.out h2
                    | (try clear h2
                       go_wp2
                       go_roundw
                       case rel => exact ⟨j + 1 + 1, by omega, by go_num, by trivial⟩
                       case measure => simp [intOf]; omega)
                · have hcs := hide (in_no hxi hc n1 n2 n4 (.inl hb3))
                  clear n1 n2 n4 hxi hc
                  rcases hcs.out with ⟨rfl, rfl⟩ | ⟨rfl, h2, rfl⟩ | ⟨rfl, h2⟩ | ⟨rfl, hyn⟩ | ⟨rfl, hyn⟩
                  all_goals first
                    | exact absurd (h2.symm.trans H3.out) (by decide)
                    | exact absurd H3.out h2
                    | (try clear h2
                       go_wp2
                       go_roundw
                       case rel => exact ⟨j + 1 + 1, by omega, by go_num, by trivial⟩
                       case measure => simp [intOf]; omega)
                · have hcs := hide (in_no hxi hc n1 n2 n4 (.inr ha3))
                  clear n1 n2 n4 hxi hc
                  rcases hcs.out with ⟨rfl, rfl⟩ | ⟨rfl, h2, rfl⟩ | ⟨rfl, h2⟩ | ⟨rfl, hyn⟩ | ⟨rfl, hyn⟩
                  all_goals first
                    | exact absurd (h2.symm.trans H3.out) (by decide)
                    | exact absurd H3.out h2
                    | (try clear h2
                       go_wp2
                       go_roundw
                       case rel => exact ⟨j + 1 + 1, by omega, by go_num, by trivial⟩
                       case measure => simp [intOf]; omega)
              · have hcs := hide (in_end hxi hc n1 n2)
                clear n1 n2 n3 hxi hc
                rcases hcs.out with ⟨rfl, rfl⟩ | ⟨rfl, h2, rfl⟩ | ⟨rfl, h2⟩ | rfl | rfl
                all_goals first
                  | exact absurd (h2.symm.trans H3.out) (by decide)
                    | exact absurd H3.out h2
                  | (try clear h2
                     go_wp2
                     go_roundw
                     case rel => exact ⟨j + 1 + 1, by omega, by go_num, by trivial⟩
                     case measure => simp [intOf]; omega)
          · obtain rfl : i = 1 + k := by omega
            clear hin
            go_wp2_with fail
            refine (awake_w _).mono ?_
            rintro e w4 ⟨rfl, hb4⟩
            go_wp2_with fail
            go_ret
            exact ⟨rfl, (hb2.alloc hb2.size _).trans (hb4.mono (by simp; have := hb2.size; omega))⟩

set_option maxRecDepth 100000 in
set_option maxHeartbeats 8000000 in
theorem wnum_walk1_1 (A : Option Addr) (n cap : Nat) (zs : List Int) (letter : Int) (w : World) (hr : Rd .u8 w A n zs) (hu : U8 zs) (hcap : n ≤ cap) (hl : 0 ≤ letter ∧ letter ≤ 255)
    (hm : n ≤ 100) (h3 : letter % 3 = 1) :
    Calls Try.prog 11 #[.int .u8 letter, .slice A n cap] w fun e w' => e = .returned (.bool true) ∧ Below w.heap.size w w' := by
  have hl1 := hl.1
  have hl3 : 0 ≤ letter % 3 ∧ letter % 3 ≤ 2 := by omega
  have hmm := hr.max
  have hmn : n ≤ n := by omega
  have hm100 : n ≤ 100 := by omega
  have hr' := rd_take hr hmn
  have hu' : U8 (zs.take n) := fun z hz => hu z (List.mem_of_mem_take hz)
  generalize zs.take n = ps at hr' hu'
  have hown0 : Own w.heap.size 5 .u8 (w.alloc (.cells #[.int .u8 (letter % 3)] 5)) (some ⟨w.heap.size, 0, none⟩) 1 1 [letter % 3] := own_one _ _ _ _ _ _ rfl (Nat.le_refl _)
  have hall := hide (show ps.take n = ps by rw [List.take_of_length_le (Nat.le_of_eq hr'.len)])
  have hlen : (weakP (letter % 3 :: ps.map pk) 1).length = 1 + n := by rw [weakP_len, List.length_cons, List.length_map, hr'.len, Nat.add_comm]
  have hLn := hide hlen
  have hP : ∀ x ∈ ps.map pk, x = 3 ∨ x = 4 ∨ x = 5 ∨ x = 7 := fun x hx => by obtain ⟨z, _, rfl⟩ := List.mem_map.1 hx; exact pk_in z
  have hN := hide (fun i x y => @numbers_at (letter % 3) (by unfold Let; omega) (ps.map pk) hP i x y)
  have hP2 := hide hP
  clear hr hu hlen hP
  have hU := hide hu'
  clear hu'
  have G3 := hide h3
  clear h3
  go_enter Try.func11, Try.ntmps11
  go_wp2
  go_loopw [5, 23] (fun v i wr => ∃ k : Nat, k ≤ n ∧ i = .int .i64 k ∧ NumRow w.heap.size ps (letter % 3) wr v k ∧ Below w.heap.size w wr) (fun _ i _ => n - (intOf i).toNat)
  case atStart => exact ⟨0, Nat.zero_le _, rfl, ⟨_, _, rfl, hown0⟩, (Below.refl _ _).alloc (Nat.le_refl _) _⟩
  case round =>
    obtain ⟨k, hk, rfl, ⟨A1, c1, rfl, hown⟩, hbel⟩ := hrel
    obtain ⟨wo, rfl⟩ : ∃ wo : World, wo = wr := ⟨_, rfl⟩
    have hszo := hbel.size
    by_cases hkm : k < n
    · obtain ⟨b, off, z, rfl, hbw, hz, hck⟩ := (hr'.below hbel).at_ hkm
      have hzb := (hU.out).at_ hz.out
      have hz0 := hzb.1
      rcases pk_cases (z := z) with ⟨h5, hp⟩ | ⟨h5, hp⟩ | ⟨h5, hp⟩ | ⟨h5, hp⟩ | ⟨h5, hp⟩
      all_goals
        go_wp2_with (at_builtin; refine wpList_app elt8 rfl (.tmp 27) (.tmp 33) rfl rfl rfl ((hown.alloc _).alloc _) (own_one _ _ _ _ _ _ (by simp) (Nat.le_refl _)).rd (by omega) (by simp <;> omega) ?_; intro A2 c2 w2 hown2 hgr2 _)
        have hb2 := hide (below_of_grown hgr2 (B := w.heap.size) (by simp <;> omega) (fun g hg => (hown.lt g hg).1))
        clear hgr2
        rw [take_map_step hz.out hp.out] at hown2
        go_wp2
        go_roundw
        case rel => exact ⟨k + 1, by omega, by go_num, ⟨_, _, by rw [Nat.add_assoc], by rw [← Nat.add_assoc]; exact hown2⟩, ((hbel.alloc hszo _).alloc (by simp <;> omega) _).trans hb2.out⟩
        case measure => simp [intOf]; omega
    · obtain rfl : k = n := by omega
      rw [hall.out] at hown
      clear hkm
      go_wp2_with fail
      refine (weak_any A1 _ c1 (letter % 3 :: ps.map pk) 1 wo hown.rd (by omega)).mono ?_
      rintro e w2 ⟨A2, c2, rfl, hown2, hb2⟩
      rw [hLn.out] at hown2 ⊢
      have hown12 := hown.below hb2
      replace hb2 := hbel.trans (hb2.mono hbel.size)
      clear hown hbel
      have h3 := G3.out
      all_goals
        go_wp2_with fail
        go_loopw [50] (fun i wr => ∃ q : Nat, q ≤ 1 + k ∧ i = .int .i64 q ∧ wr = w2.alloc (.cells #[.int .u8 0, .int .u8 3, .int .u8 6] 5)) (fun i _ => 1 + k - (intOf i).toNat)
        case atStart => exact ⟨0, Nat.zero_le _, rfl, rfl⟩
        case round =>
          obtain ⟨i, hi, rfl, rfl⟩ := hrel
          first | have hq2 := lt2_0 h3 | have hq2 := lt2_1 h3 | have hq2 := lt2_2 h3
          obtain ⟨hq2, hq2'⟩ := hq2
          have H3 := hide h3
          clear h3
          by_cases hin : i < 1 + k
          · obtain ⟨g1, x, rfl, _, hg1, hx, hcx, _⟩ := (hown12.alloc (.cells #[.int .u8 0, .int .u8 3, .int .u8 6] 5)).at_ hin
            obtain ⟨g2, y, rfl, _, hg2, hy, hcy, _⟩ := (hown2.alloc (.cells #[.int .u8 0, .int .u8 3, .int .u8 6] 5)).at_ hin
            cases i with
            | zero =>
              have hx0 : x = letter % 3 := by have := hx.out; simp at this; omega
              rw [H3.out] at hx0
              subst hx0
              go_wp2
              go_roundw
              case rel => exact ⟨1, by omega, by go_num, by trivial⟩
              case measure => simp [intOf]
            | succ j =>
              obtain ⟨n1, n2, n3⟩ := hN.out (j + 1) x y (by omega) hx.out hy.out
              have hxi := row_in hx.out
              have hj0 : (((j : Nat) : Int) + 1 == 0) = false := by simp; omega
              have hj1 : ((j + 1 : Nat) : Int) = (j : Int) + 1 := by omega
              first | have hc := numOf_0 H3.out | have hc := numOf_1 H3.out | have hc := numOf_2 H3.out
              by_cases hlast : j + 1 + 1 < 1 + k
              · obtain ⟨g1', a, hga, _, _, ha, hca, _⟩ := (hown12.alloc (.cells #[.int .u8 0, .int .u8 3, .int .u8 6] 5)).at_ (show j < 1 + k by omega)
                obtain rfl : g1 = g1' := by injection hga with h; injection h
                clear hga
                obtain ⟨g1', b, hgb, _, _, hb, hcb, _⟩ := (hown12.alloc (.cells #[.int .u8 0, .int .u8 3, .int .u8 6] 5)).at_ hlast
                obtain rfl : g1 = g1' := by injection hgb with h; injection h
                clear hgb
                have n4 := n3 a b ha.out hb.out
                clear n3
                rcases ab_cases a b with ⟨rfl, rfl⟩ | ⟨rfl, hb3⟩ | ha3
                · have hcs := hide (in_yes hxi hc n1 n2 n4)
                  clear n1 n2 n4 hxi hc
                  rcases hcs.out with ⟨rfl, rfl⟩ | ⟨rfl, h2, rfl⟩ | ⟨rfl, h2⟩ | ⟨rfl, rfl⟩ | ⟨rfl, h2, rfl⟩ | ⟨rfl, h2, hyn⟩
                  all_goals first
                    | exact absurd (h2.symm.trans H3.out) (by decide)
                    | exact absurd H3.out h2
                    | (try clear h2
                       go_wp2
                       go_roundw
                       case rel => exact ⟨j + 1 + 1, by omega, by go_num, by trivial⟩
                       case measure => simp [intOf]; omega)
                · have hcs := hide (in_no hxi hc n1 n2 n4 (.inl hb3))
                  clear n1 n2 n4 hxi hc
                  rcases hcs.out with ⟨rfl, rfl⟩ | ⟨rfl, h2, rfl⟩ | ⟨rfl, h2⟩ | ⟨rfl, hyn⟩ | ⟨rfl, hyn⟩
                  all_goals first
                    | exact absurd (h2.symm.trans H3.out) (by decide)
                    | exact absurd H3.out h2
                    | (try clear h2
                       go_wp2
                       go_roundw
                       case rel => exact ⟨j + 1 + 1, by omega, by go_num, by trivial⟩
                       case measure => simp [intOf]; omega)
                · have hcs := hide (in_no hxi hc n1 n2 n4 (.inr ha3))
                  clear n1 n2 n4 hxi hc
                  rcases hcs.out with ⟨rfl, rfl⟩ | ⟨rfl, h2, rfl⟩ | ⟨rfl, h2⟩ | ⟨rfl, hyn⟩ | ⟨rfl, hyn⟩
                  all_goals first
                    | exact absurd (h2.symm.trans H3.out) (by decide)
                    | exact absurd H3.out h2
                    | (try clear h2
                       go_wp2
                       go_roundw
                       case rel => exact ⟨j + 1 + 1, by omega, by go_num, by trivial⟩
                       case measure => simp [intOf]; omega)
              · have hcs := hide (in_end hxi hc n1 n2)
                clear n1 n2 n3 hxi hc
                rcases hcs.out with ⟨rfl, rfl⟩ | ⟨rfl, h2, rfl⟩ | ⟨rfl, h2⟩ | rfl | rfl
                all_goals first
                  | exact absurd (h2.symm.trans H3.out) (by decide)
                    | exact absurd H3.out h2
                  | (try clear h2
                     go_wp2
                     go_roundw
                     case rel => exact ⟨j + 1 + 1, by omega, by go_num, by trivial⟩
                     case measure => simp [intOf]; omega)
          · obtain rfl : i = 1 + k := by omega
            clear hin
            go_wp2_with fail
            refine (awake_w _).mono ?_
            rintro e w4 ⟨rfl, hb4⟩
            go_wp2_with fail
            go_ret
            exact ⟨rfl, (hb2.alloc hb2.size _).trans (hb4.mono (by simp; have := hb2.size; omega))⟩

set_option maxRecDepth 100000 in
set_option maxHeartbeats 8000000 in
theorem wnum_walk1_2 (A : Option Addr) (n cap : Nat) (zs : List Int) (letter : Int) (w : World) (hr : Rd .u8 w A n zs) (hu : U8 zs) (hcap : n ≤ cap) (hl : 0 ≤ letter ∧ letter ≤ 255)
    (hm : n ≤ 100) (h3 : letter % 3 = 2) :
    Calls Try.prog 11 #[.int .u8 letter, .slice A n cap] w fun e w' => e = .returned (.bool true) ∧ Below w.heap.size w w' := by
  have hl1 := hl.1
  have hl3 : 0 ≤ letter % 3 ∧ letter % 3 ≤ 2 := by omega
  have hmm := hr.max
  have hmn : n ≤ n := by omega
  have hm100 : n ≤ 100 := by omega
  have hr' := rd_take hr hmn
  have hu' : U8 (zs.take n) := fun z hz => hu z (List.mem_of_mem_take hz)
  generalize zs.take n = ps at hr' hu'
  have hown0 : Own w.heap.size 5 .u8 (w.alloc (.cells #[.int .u8 (letter % 3)] 5)) (some ⟨w.heap.size, 0, none⟩) 1 1 [letter % 3] := own_one _ _ _ _ _ _ rfl (Nat.le_refl _)
  have hall := hide (show ps.take n = ps by rw [List.take_of_length_le (Nat.le_of_eq hr'.len)])
  have hlen : (weakP (letter % 3 :: ps.map pk) 1).length = 1 + n := by rw [weakP_len, List.length_cons, List.length_map, hr'.len, Nat.add_comm]
  have hLn := hide hlen
  have hP : ∀ x ∈ ps.map pk, x = 3 ∨ x = 4 ∨ x = 5 ∨ x = 7 := fun x hx => by obtain ⟨z, _, rfl⟩ := List.mem_map.1 hx; exact pk_in z
  have hN := hide (fun i x y => @numbers_at (letter % 3) (by unfold Let; omega) (ps.map pk) hP i x y)
  have hP2 := hide hP
  clear hr hu hlen hP
  have hU := hide hu'
  clear hu'
  have G3 := hide h3
  clear h3
  go_enter Try.func11, Try.ntmps11
  go_wp2
  go_loopw [5, 23] (fun v i wr => ∃ k : Nat, k ≤ n ∧ i = .int .i64 k ∧ NumRow w.heap.size ps (letter % 3) wr v k ∧ Below w.heap.size w wr) (fun _ i _ => n - (intOf i).toNat)
  case atStart => exact ⟨0, Nat.zero_le _, rfl, ⟨_, _, rfl, hown0⟩, (Below.refl _ _).alloc (Nat.le_refl _) _⟩
  case round =>
    obtain ⟨k, hk, rfl, ⟨A1, c1, rfl, hown⟩, hbel⟩ := hrel
    obtain ⟨wo, rfl⟩ : ∃ wo : World, wo = wr := ⟨_, rfl⟩
    have hszo := hbel.size
    by_cases hkm : k < n
    · obtain ⟨b, off, z, rfl, hbw, hz, hck⟩ := (hr'.below hbel).at_ hkm
      have hzb := (hU.out).at_ hz.out
      have hz0 := hzb.1
      rcases pk_cases (z := z) with ⟨h5, hp⟩ | ⟨h5, hp⟩ | ⟨h5, hp⟩ | ⟨h5, hp⟩ | ⟨h5, hp⟩
      all_goals
        go_wp2_with (at_builtin; refine wpList_app elt8 rfl (.tmp 27) (.tmp 33) rfl rfl rfl ((hown.alloc _).alloc _) (own_one _ _ _ _ _ _ (by simp) (Nat.le_refl _)).rd (by omega) (by simp <;> omega) ?_; intro A2 c2 w2 hown2 hgr2 _)
        have hb2 := hide (below_of_grown hgr2 (B := w.heap.size) (by simp <;> omega) (fun g hg => (hown.lt g hg).1))
        clear hgr2
        rw [take_map_step hz.out hp.out] at hown2
        go_wp2
        go_roundw
        case rel => exact ⟨k + 1, by omega, by go_num, ⟨_, _, by rw [Nat.add_assoc], by rw [← Nat.add_assoc]; exact hown2⟩, ((hbel.alloc hszo _).alloc (by simp <;> omega) _).trans hb2.out⟩
        case measure => simp [intOf]; omega
    · obtain rfl : k = n := by omega
      rw [hall.out] at hown
      clear hkm
      go_wp2_with fail
      refine (weak_any A1 _ c1 (letter % 3 :: ps.map pk) 1 wo hown.rd (by omega)).mono ?_
      rintro e w2 ⟨A2, c2, rfl, hown2, hb2⟩
      rw [hLn.out] at hown2 ⊢
      have hown12 := hown.below hb2
      replace hb2 := hbel.trans (hb2.mono hbel.size)
      clear hown hbel
      have h3 := G3.out
      all_goals
        go_wp2_with fail
        go_loopw [50] (fun i wr => ∃ q : Nat, q ≤ 1 + k ∧ i = .int .i64 q ∧ wr = w2.alloc (.cells #[.int .u8 0, .int .u8 3, .int .u8 6] 5)) (fun i _ => 1 + k - (intOf i).toNat)
        case atStart => exact ⟨0, Nat.zero_le _, rfl, rfl⟩
        case round =>
          obtain ⟨i, hi, rfl, rfl⟩ := hrel
          first | have hq2 := lt2_0 h3 | have hq2 := lt2_1 h3 | have hq2 := lt2_2 h3
          obtain ⟨hq2, hq2'⟩ := hq2
          have H3 := hide h3
          clear h3
          by_cases hin : i < 1 + k
          · obtain ⟨g1, x, rfl, _, hg1, hx, hcx, _⟩ := (hown12.alloc (.cells #[.int .u8 0, .int .u8 3, .int .u8 6] 5)).at_ hin
            obtain ⟨g2, y, rfl, _, hg2, hy, hcy, _⟩ := (hown2.alloc (.cells #[.int .u8 0, .int .u8 3, .int .u8 6] 5)).at_ hin
            cases i with
            | zero =>
              have hx0 : x = letter % 3 := by have := hx.out; simp at this; omega
              rw [H3.out] at hx0
              subst hx0
              go_wp2
              go_roundw
              case rel => exact ⟨1, by omega, by go_num, by trivial⟩
              case measure => simp [intOf]
            | succ j =>
              obtain ⟨n1, n2, n3⟩ := hN.out (j + 1) x y (by omega) hx.out hy.out
              have hxi := row_in hx.out
              have hj0 : (((j : Nat) : Int) + 1 == 0) = false := by simp; omega
              have hj1 : ((j + 1 : Nat) : Int) = (j : Int) + 1 := by omega
              first | have hc := numOf_0 H3.out | have hc := numOf_1 H3.out | have hc := numOf_2 H3.out
              by_cases hlast : j + 1 + 1 < 1 + k
              · obtain ⟨g1', a, hga, _, _, ha, hca, _⟩ := (hown12.alloc (.cells #[.int .u8 0, .int .u8 3, .int .u8 6] 5)).at_ (show j < 1 + k by omega)
                obtain rfl : g1 = g1' := by injection hga with h; injection h
                clear hga
                obtain ⟨g1', b, hgb, _, _, hb, hcb, _⟩ := (hown12.alloc (.cells #[.int .u8 0, .int .u8 3, .int .u8 6] 5)).at_ hlast
                obtain rfl : g1 = g1' := by injection hgb with h; injection h
                clear hgb
                have n4 := n3 a b ha.out hb.out
                clear n3
                rcases ab_cases a b with ⟨rfl, rfl⟩ | ⟨rfl, hb3⟩ | ha3
                · have hcs := hide (in_yes hxi hc n1 n2 n4)
                  clear n1 n2 n4 hxi hc
                  rcases hcs.out with ⟨rfl, rfl⟩ | ⟨rfl, h2, rfl⟩ | ⟨rfl, h2⟩ | ⟨rfl, rfl⟩ | ⟨rfl, h2, rfl⟩ | ⟨rfl, h2, hyn⟩
                  all_goals first
                    | exact absurd (h2.symm.trans H3.out) (by decide)
                    | exact absurd H3.out h2
                    | (try clear h2
                       go_wp2
                       go_roundw
                       case rel => exact ⟨j + 1 + 1, by omega, by go_num, by trivial⟩
                       case measure => simp [intOf]; omega)
                · have hcs := hide (in_no hxi hc n1 n2 n4 (.inl hb3))
                  clear n1 n2 n4 hxi hc
                  rcases hcs.out with ⟨rfl, rfl⟩ | ⟨rfl, h2, rfl⟩ | ⟨rfl, h2⟩ | ⟨rfl, hyn⟩ | ⟨rfl, hyn⟩
                  all_goals first
                    | exact absurd (h2.symm.trans H3.out) (by decide)
                    | exact absurd H3.out h2
                    | (try clear h2
                       go_wp2
                       go_roundw
                       case rel => exact ⟨j + 1 + 1, by omega, by go_num, by trivial⟩
                       case measure => simp [intOf]; omega)
                · have hcs := hide (in_no hxi hc n1 n2 n4 (.inr ha3))
                  clear n1 n2 n4 hxi hc
                  rcases hcs.out with ⟨rfl, rfl⟩ | ⟨rfl, h2, rfl⟩ | ⟨rfl, h2⟩ | ⟨rfl, hyn⟩ | ⟨rfl, hyn⟩
                  all_goals first
                    | exact absurd (h2.symm.trans H3.out) (by decide)
                    | exact absurd H3.out h2
                    | (try clear h2
                       go_wp2
                       go_roundw
                       case rel => exact ⟨j + 1 + 1, by omega, by go_num, by trivial⟩
                       case measure => simp [intOf]; omega)
              · have hcs := hide (in_end hxi hc n1 n2)
                clear n1 n2 n3 hxi hc
                rcases hcs.out with ⟨rfl, rfl⟩ | ⟨rfl, h2, rfl⟩ | ⟨rfl, h2⟩ | rfl | rfl
                all_goals first
                  | exact absurd (h2.symm.trans H3.out) (by decide)
                    | exact absurd H3.out h2
                  | (try clear h2
                     go_wp2
                     go_roundw
                     case rel => exact ⟨j + 1 + 1, by omega, by go_num, by trivial⟩
                     case measure => simp [intOf]; omega)
          · obtain rfl : i = 1 + k := by omega
            clear hin
            go_wp2_with fail
            refine (awake_w _).mono ?_
            rintro e w4 ⟨rfl, hb4⟩
            go_wp2_with fail
            go_ret
            exact ⟨rfl, (hb2.alloc hb2.size _).trans (hb4.mono (by simp; have := hb2.size; omega))⟩

theorem wnum_walk1 (A : Option Addr) (n cap : Nat) (zs : List Int) (letter : Int) (w : World) (hr : Rd .u8 w A n zs) (hu : U8 zs) (hcap : n ≤ cap) (hl : 0 ≤ letter ∧ letter ≤ 255) (hm : n ≤ 100) :
    Calls Try.prog 11 #[.int .u8 letter, .slice A n cap] w fun e w' => e = .returned (.bool true) ∧ Below w.heap.size w w' := by
  have h3 : letter % 3 = 0 ∨ letter % 3 = 1 ∨ letter % 3 = 2 := by omega
  rcases h3 with h3 | h3 | h3
  · exact wnum_walk1_0 A n cap zs letter w hr hu hcap hl hm h3
  · exact wnum_walk1_1 A n cap zs letter w hr hu hcap hl hm h3
  · exact wnum_walk1_2 A n cap zs letter w hr hu hcap hl hm h3
end Go.Proofs.Ytmbjdchknjollaa

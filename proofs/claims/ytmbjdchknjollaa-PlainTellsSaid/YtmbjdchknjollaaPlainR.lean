/-
  The walk of the document's Plain.
-/
import Derived.Test.YtmbjdchknjollaaPlainMath
namespace Go.Proofs.Ytmbjdchknjollaa
open Go.RowKit

theorem drop_step (s : Int) {l : List Int} {k : Nat} {z : Int} (hz : l[k]? = some z) : side9 s (l.drop k) = if neuS z then side9 s (l.drop (k + 1)) else way9 z := by
  obtain ⟨hk, rfl⟩ := List.getElem?_eq_some_iff.1 hz
  rw [List.drop_eq_getElem_cons hk]; rfl
theorem take_step (s : Int) {l : List Int} {k : Nat} {z : Int} (hz : l[k]? = some z) : side9 s (l.take (k + 1)).reverse = if neuS z then side9 s (l.take k).reverse else way9 z := by
  obtain ⟨hk, rfl⟩ := List.getElem?_eq_some_iff.1 hz
  rw [List.take_succ_eq_append_getElem hk, List.reverse_append]; rfl

theorem rd_one (w : World) (e : TypeId) (k : IntKind) (z : Int) : Rd k (w.alloc (.cells #[.int k z] e)) (some ⟨w.heap.size, 0, none⟩) 1 [z] :=
  Rd.of_block (heap_alloc_new w _) rfl (by decide) fun j hj => by
    obtain rfl : j = 0 := by omega
    rfl
theorem ref9_push {B : Nat} {w2 : World} {l : List Int} {level start fin v : Int} {k c2 : Nat} {A2 : Option Addr} (hown : Own B 5 .u8 w2 A2 (k + 1) c2 (ref9 l level start fin k ++ [v])) (hv : at9 l level start fin k = v) :
    Own B 5 .u8 w2 A2 (k + 1) c2 (ref9 l level start fin (k + 1)) := by rw [ref9, hv]; exact hown
theorem at9_not {l : List Int} {level start fin z : Int} {k : Nat} (hz : l[k]? = some z) (h : neuS z = false) : at9 l level start fin k = z := by
  unfold at9
  simp only [List.getD, hz, Option.getD_some]
  rw [if_neg (by rw [h]; simp)]
theorem at9_yes {l : List Int} {level start fin z x y : Int} {k : Nat} (hz : l[k]? = some z) (h : neuS z = true) (hx : side9 start (l.take k).reverse = x) (hy : side9 fin (l.drop (k + 1)) = y) :
    at9 l level start fin k = pick9 x y level := by
  unfold at9
  simp only [List.getD, hz, Option.getD_some]
  rw [if_pos h, hx, hy]
theorem pick9_1 {x y level : Int} (h1 : (x == y) = true) (h2 : (x != 9) = true) : pick9 x y level = x := by
  unfold pick9; rw [if_pos]; simp at h1 h2; exact ⟨h1, h2⟩
theorem pick9_2 {x y level : Int} (h1 : (x == y) = true) (h2 : (x != 9) = false) : pick9 x y level = level % 2 := by
  unfold pick9; rw [if_neg]; simp at h1 h2; omega
theorem pick9_3 {x y level : Int} (h1 : (x == y) = false) : pick9 x y level = level % 2 := by
  unfold pick9; rw [if_neg]; simp at h1; omega
theorem side9_n1 {s : Int} (h : (s == 0) = true) : side9 s [] = 0 := by simp at h; simp [side9, h]
theorem side9_n2 {s : Int} (h : (s == 0) = false) : side9 s [] = 1 := by simp at h; simp [side9, h]

theorem pick_cases {x y level v : Int} (h : v = pick9 x y level) :
    ((x == y) = true ∧ (x != 9) = true ∧ (y != 9) = true ∧ Hid (v = x ∧ v = y)) ∨ ((x == y) = true ∧ (x != 9) = false ∧ (y != 9) = false ∧ Hid (v = level % 2)) ∨ ((x == y) = false ∧ Hid (v = level % 2)) := by
  by_cases h1 : x = y
  · by_cases h2 : x = 9
    · exact .inr (.inl ⟨by simpa using h1, by simpa using h2, by simp; omega, hide (by rw [h, pick9, if_neg (by omega)])⟩)
    · have : v = x := by rw [h, pick9, if_pos ⟨h1, h2⟩]
      exact .inl ⟨by simpa using h1, by simpa using h2, by simp; omega, hide ⟨this, this.trans h1⟩⟩
  · exact .inr (.inr ⟨by simpa using h1, hide (by rw [h, pick9, if_neg (by omega)])⟩)
/-- a step back over neutral places, and its ends -/
theorem back_cases (start : Int) {w : World} {l : List Int} {b off n k m : Nat} (hr : Rd .u8 w (some ⟨b, off, none⟩) n l) (hs : Hid (side9 start (l.take k).reverse = side9 start (l.take m).reverse)) (hm : m ≤ n) :
    (m = 0 ∧ (start == 0) = true ∧ Hid (side9 start (l.take k).reverse = 0)) ∨ (m = 0 ∧ (start == 0) = false ∧ Hid (side9 start (l.take k).reverse = 1)) ∨
    (∃ m' z, m = m' + 1 ∧ Hid (l[m']? = some z) ∧ w.cell? ⟨b, off + m', none⟩ = some (.int .u8 z) ∧ neuS z = false ∧ Hid (side9 start (l.take k).reverse = way9 z)) ∨
    (∃ m' z, m = m' + 1 ∧ Hid (l[m']? = some z) ∧ w.cell? ⟨b, off + m', none⟩ = some (.int .u8 z) ∧ neuS z = true ∧ Hid (side9 start (l.take k).reverse = side9 start (l.take m').reverse)) := by
  rcases Nat.eq_zero_or_pos m with rfl | hm0
  · by_cases hst : (start == 0) = true
    · exact .inl ⟨rfl, hst, hide (hs.out.trans (side9_n1 hst))⟩
    · have hst' : (start == 0) = false := by simpa using hst
      exact .inr (.inl ⟨rfl, hst', hide (hs.out.trans (side9_n2 hst'))⟩)
  · obtain ⟨m', rfl⟩ : ∃ m', m = m' + 1 := ⟨m - 1, by omega⟩
    obtain ⟨z, hz, hc⟩ := hr.cell (show m' < n by omega)
    have ht := take_step start hz.out
    by_cases hn : neuS z = true
    · exact .inr (.inr (.inr ⟨m', z, rfl, hz, hc, hn, hide (hs.out.trans (by rw [ht, if_pos hn]))⟩))
    · exact .inr (.inr (.inl ⟨m', z, rfl, hz, hc, by simpa using hn, hide (hs.out.trans (by rw [ht, if_neg hn]))⟩))
theorem fore_cases (fin : Int) {w : World} {l : List Int} {b off n k m : Nat} (hr : Rd .u8 w (some ⟨b, off, none⟩) n l) (hs : Hid (side9 fin (l.drop k) = side9 fin (l.drop m))) (hm : m ≤ n) :
    (m = n ∧ (fin == 0) = true ∧ Hid (side9 fin (l.drop k) = 0)) ∨ (m = n ∧ (fin == 0) = false ∧ Hid (side9 fin (l.drop k) = 1)) ∨
    (∃ z, m < n ∧ Hid (l[m]? = some z) ∧ w.cell? ⟨b, off + m, none⟩ = some (.int .u8 z) ∧ neuS z = false ∧ Hid (side9 fin (l.drop k) = way9 z)) ∨
    (∃ z, m < n ∧ Hid (l[m]? = some z) ∧ w.cell? ⟨b, off + m, none⟩ = some (.int .u8 z) ∧ neuS z = true ∧ Hid (side9 fin (l.drop k) = side9 fin (l.drop (m + 1)))) := by
  rcases Nat.lt_or_eq_of_le hm with hlt | rfl
  · obtain ⟨z, hz, hc⟩ := hr.cell hlt
    have ht := drop_step fin hz.out
    by_cases hn : neuS z = true
    · exact .inr (.inr (.inr ⟨z, hlt, hz, hc, hn, hide (hs.out.trans (by rw [ht, if_pos hn]))⟩))
    · exact .inr (.inr (.inl ⟨z, hlt, hz, hc, by simpa using hn, hide (hs.out.trans (by rw [ht, if_neg hn]))⟩))
  · have he : l.drop m = [] := List.drop_of_length_le (by rw [hr.len]; exact Nat.le_refl _)
    by_cases hst : (fin == 0) = true
    · exact .inl ⟨rfl, hst, hide (hs.out.trans (by rw [he, side9_n1 hst]))⟩
    · have hst' : (fin == 0) = false := by simpa using hst
      exact .inr (.inl ⟨rfl, hst', hide (hs.out.trans (by rw [he, side9_n2 hst']))⟩)

set_option maxRecDepth 100000 in
set_option maxHeartbeats 8000000 in
theorem plain_ref (A : Option Addr) (n c : Nat) (l : List Int) (level start fin : Int) (w : World) (hr : Rd .u8 w A n l) (hn : n ≤ 1000000)
    (hl : 0 ≤ level ∧ level ≤ 255) :
    Calls Try.prog 19 #[.slice A n c, .int .u8 level, .int .u8 start, .int .u8 fin] w (RetSl w.heap.size 5 .u8 (ref9 l level start fin n) w) := by
  have hm := hr.max
  have hl0 := hl.1
  go_enter Try.func19, Try.ntmps19
  go_wp2
  go_loopw [9, 10] (fun o i wr => ∃ k A1 c1, k ≤ n ∧ i = .int .i64 (k : Nat) ∧ o = .slice A1 k c1 ∧ Own w.heap.size 5 .u8 wr A1 k c1 (ref9 l level start fin k) ∧ Below w.heap.size w wr) (fun _ i _ => n - (intOf i).toNat)
  case atStart => exact ⟨0, none, 0, Nat.zero_le _, rfl, rfl, Own.none_ _ _ _ _, Below.refl _ _⟩
  case round =>
    obtain ⟨k, A1, c1, hk, rfl, rfl, hown, hbel⟩ := hrel
    obtain ⟨wo, rfl⟩ : ∃ wo : World, wo = wr := ⟨_, rfl⟩
    by_cases hkn : k < n
    · obtain ⟨b, off, z, hA, hbw, hz, hck⟩ := hr.at_ hkn
      subst hA
      have hck' := (hbel.cell (p := ⟨b, off + k, none⟩) hbw).trans hck
      have hsz := hbel.size
      clear hck
      by_cases hneu : neuS z = true
      · have hrw := hr.below hbel
        go_wp2_with (go_at_call 14; refine (neu_ref _ _).mono ?_; rintro e w' ⟨rfl, rfl⟩)
        clear hck'
        go_loop [11] (fun i => ∃ m : Nat, m ≤ k ∧ i = .int .i64 ((m : Int) - 1) ∧ Hid (side9 start (l.take k).reverse = side9 start (l.take m).reverse)) (fun i => (intOf i + 1).toNat)
        case atStart => exact ⟨k, Nat.le_refl _, rfl, hide rfl⟩
        case round =>
          obtain ⟨m, hmk, rfl, hs⟩ := hrel
          have hcase := back_cases start hrw hs (show m ≤ n by omega)
          rcases hcase with ⟨rfl, hst, hX⟩ | ⟨rfl, hst, hX⟩ | ⟨m', z', rfl, hz', hc', hn', hX⟩ | ⟨m', z', rfl, hz', hc', hn', hX⟩
          case inr.inr.inr =>
            go_wp2_with (go_at_call 14; refine (neu_ref _ _).mono ?_; rintro e w' ⟨rfl, rfl⟩)
            go_round
            case rel => exact ⟨m', by omega, by go_num, hX⟩
            case measure => simp [intOf]
          all_goals
            go_wp2_with (go_at_call 14; refine (neu_ref _ _).mono ?_; rintro e w' ⟨rfl, rfl⟩)
            go_loop [12] (fun i => ∃ m2 : Nat, k < m2 ∧ m2 ≤ n ∧ i = .int .i64 m2 ∧ Hid (side9 fin (l.drop (k + 1)) = side9 fin (l.drop m2))) (fun i => n - (intOf i).toNat)
            case atStart => exact ⟨k + 1, by omega, by omega, by go_num, hide rfl⟩
            case round =>
              obtain ⟨m2, hkm, hm2, rfl, ht⟩ := hrel
              have hcase2 := fore_cases fin hrw ht hm2
              rcases hcase2 with ⟨rfl, hft, hY⟩ | ⟨rfl, hft, hY⟩ | ⟨z2, hlt2, hz2, hc2, hn2, hY⟩ | ⟨z2, hlt2, hz2, hc2, hn2, hY⟩
              case inr.inr.inr =>
                go_wp2_with (go_at_call 14; refine (neu_ref _ _).mono ?_; rintro e w' ⟨rfl, rfl⟩)
                go_round
                case rel => exact ⟨m2 + 1, by omega, by omega, by go_num, hY⟩
                case measure => simp [intOf]; omega
              all_goals
                have hat0 := at9_yes (level := level) hz.out hneu hX.out hY.out
                rcases pick_cases hat0 with ⟨h1, h2, h3, hat⟩ | ⟨h1, h2, h3, hat⟩ | ⟨h1, hat⟩
                all_goals first
                  | (exfalso; simp at h1; done)
                  | (exfalso; simp at h2; done)
                  | (exfalso; simp at h3; done)
                  | (go_wp2_with (first | (go_at_call 14; refine (neu_ref _ _).mono ?_; rintro e w' ⟨rfl, rfl⟩) | (go_at_call 29; refine (way9_any _ _).mono ?_; rintro e w' ⟨rfl, rfl⟩) | (at_builtin; refine wpList_app elt8 rfl (.tmp 89) (.tmp 91) rfl rfl rfl (hown.alloc _) (rd_one _ _ _ _) (by omega) (by simp; omega) ?_; intro A2 c2 w2 hown2 hgr2 _) | (at_builtin; refine wpList_app elt8 rfl (.tmp 93) (.tmp 96) rfl rfl rfl (hown.alloc _) (rd_one _ _ _ _) (by omega) (by simp; omega) ?_; intro A2 c2 w2 hown2 hgr2 _))
                     all_goals
                       have hb2 := hide (below_of_grown hgr2 (B := w.heap.size) (by simp <;> omega) (fun g hg => (hown.lt g hg).1))
                       clear hgr2
                       have hown3 := hide (ref9_push hown2 (by first | exact hat.out | exact hat.out.1 | exact hat.out.2))
                       clear hown2
                       go_wp2
                       go_roundw
                       case rel => exact ⟨k + 1, A2, c2, by omega, by go_num, rfl, hown3.out, (hbel.alloc hsz _).trans hb2.out⟩
                       case measure => simp [intOf]; omega)
      · have hneu' : neuS z = false := by simpa using hneu
        clear hneu
        have hat := hide (at9_not (level := level) (start := start) (fin := fin) hz.out hneu')
        go_wp2_with (first | (go_at_call 14; refine (neu_ref _ _).mono ?_; rintro e w' ⟨rfl, rfl⟩) | (at_builtin; refine wpList_app elt8 rfl (.tmp 27) (.tmp 32) rfl rfl rfl (hown.alloc _) (rd_one _ _ _ _) (by omega) (by simp; omega) ?_; intro A2 c2 w2 hown2 hgr2 _))
        have hb2 := hide (below_of_grown hgr2 (B := w.heap.size) (by simp <;> omega) (fun g hg => (hown.lt g hg).1))
        clear hgr2
        have hown3 := hide (ref9_push hown2 hat.out)
        clear hown2
        go_wp2
        go_roundw
        case rel => exact ⟨k + 1, A2, c2, by omega, by go_num, rfl, hown3.out, (hbel.alloc hsz _).trans hb2.out⟩
        case measure => simp [intOf]; omega
    · obtain rfl : k = n := by omega
      clear hkn
      go_wp2
      go_ret
      have e := ref9_len l level start fin k
      exact ⟨A1, c1, by rw [e]; rfl, by rw [e]; exact hown, hbel⟩
end Go.Proofs.Ytmbjdchknjollaa

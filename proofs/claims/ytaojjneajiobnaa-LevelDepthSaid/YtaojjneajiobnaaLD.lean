/-
  The walk of LevelDepth.
-/
import Derived.Test.YtaojjneajiobnaaLDm
namespace Go.Proofs.Ytaojjneajiobnaa
open Go.RowKit

theorem close_drop {K : List Int} {j : Nat} {z : Int} (hz : K[j]? = some z) : (K.drop j).reverse.map closeR = (K.drop (j + 1)).reverse.map closeR ++ [closeR z] := by
  rw [drop_at hz]; simp
theorem close_a4 {z : Int} (h : z % 6 < 4) : closeR z = 8236 := by unfold closeR; rw [if_pos h]
theorem close_b4 {z : Int} (h : ¬ z % 6 < 4) : closeR z = 8297 := by unfold closeR; rw [if_neg h]
/-- the next level, by parities -/
theorem next_par (a z : Int) : (((a + 1) % 2 == 1) = true ∧ (z % 2 == 1) = true ∧ Hid (nextS a (oddK z) = a + 1)) ∨ (((a + 1) % 2 == 1) = false ∧ (z % 2 == 1) = false ∧ Hid (nextS a (oddK z) = a + 1)) ∨
    (((a + 1) % 2 == 1) = true ∧ (z % 2 == 1) = false ∧ Hid (nextS a (oddK z) = a + 1 + 1)) ∨ (((a + 1) % 2 == 1) = false ∧ (z % 2 == 1) = true ∧ Hid (nextS a (oddK z) = a + 1 + 1)) := by
  have e1 : ((a + 1) % 2 == 1) = decide ((a + 1) % 2 = 1) := rfl
  have e2 : (z % 2 == 1) = oddK z := by
    unfold oddK
    rw [show z % 6 % 2 = z % 2 by omega]; rfl
  rw [e1, e2]
  unfold nextS Hid
  cases oddK z <;> cases decide ((a + 1) % 2 = 1) <;> simp
/-- what LevelDepth keeps is the state's -/
def KeepD (s : PS) (a : Int) (f : Bool) : Prop := a = s.top.lv ∧ f = decide (0 < s.is + s.em)
theorem keep_full {s : PS} {a : Int} (h : KeepD s a true) (z : Int) : KeepD (stepN s (openC z)) a true := by
  obtain ⟨h1, h2⟩ := h
  have h3 : 0 < s.is + s.em := by simpa using h2.symm
  obtain ⟨k1, k2⟩ := (keep_step s z).1 (.inr h3)
  exact ⟨by rw [k1, h1], by rw [decide_eq_true k2]⟩
theorem keep_over {s : PS} {a : Int} (h : KeepD s a false) {z v : Int} (hv : nextS a (oddK z) = v) (h5 : 125 < v) : KeepD (stepN s (openC z)) a true := by
  obtain ⟨h1, h2⟩ := h
  obtain ⟨k1, k2⟩ := (keep_step s z).1 (.inl (by rw [← h1, hv]; exact h5))
  exact ⟨by rw [k1, h1], by rw [decide_eq_true k2]⟩
theorem keep_on {s : PS} {a : Int} (h : KeepD s a false) {z v : Int} (hv : nextS a (oddK z) = v) (h5 : ¬ 125 < v) : KeepD (stepN s (openC z)) v false := by
  obtain ⟨h1, h2⟩ := h
  have h3 : ¬ 0 < s.is + s.em := by simpa using h2.symm
  obtain ⟨k1, k2⟩ := (keep_step s z).2 (by rw [← h1, hv]; rintro (h | h); exact h5 h; exact h3 h)
  exact ⟨by rw [k1, ← h1, hv], by rw [decide_eq_false]; omega⟩
theorem opn_take (bb : Int) {K : List Int} {k : Nat} {z : Int} (hz : K[k]? = some z) : opnS bb (K.take (k + 1)) = stepN (opnS bb (K.take k)) (openC z) := by
  obtain ⟨hk, rfl⟩ := List.getElem?_eq_some_iff.1 hz
  rw [List.take_succ_eq_append_getElem hk, opn_step]
theorem open_cell {w : World} {g : Nat} {z : Int} (h : LitK .i32 21 w g [8234, 8235, 8237, 8238, 8294, 8295]) (_hz : 0 ≤ z ∧ z ≤ 255) : w.cell? ⟨g, (z % 6).toNat, none⟩ = some (.int .i32 (openR z)) := by
  have hr := h.rd (n := 6) rfl (by decide)
  rcases kind_cases z with e | e | e | e | e | e <;> (unfold openR; rw [e]; first
    | exact (by obtain ⟨_, _, h3⟩ := hr; obtain ⟨b, off, hA, _, hc⟩ := h3 (by decide); cases hA; exact hc 0 (by decide))
    | exact (by obtain ⟨_, _, h3⟩ := hr; obtain ⟨b, off, hA, _, hc⟩ := h3 (by decide); cases hA; exact hc 1 (by decide))
    | exact (by obtain ⟨_, _, h3⟩ := hr; obtain ⟨b, off, hA, _, hc⟩ := h3 (by decide); cases hA; exact hc 2 (by decide))
    | exact (by obtain ⟨_, _, h3⟩ := hr; obtain ⟨b, off, hA, _, hc⟩ := h3 (by decide); cases hA; exact hc 3 (by decide))
    | exact (by obtain ⟨_, _, h3⟩ := hr; obtain ⟨b, off, hA, _, hc⟩ := h3 (by decide); cases hA; exact hc 4 (by decide))
    | exact (by obtain ⟨_, _, h3⟩ := hr; obtain ⟨b, off, hA, _, hc⟩ := h3 (by decide); cases hA; exact hc 5 (by decide)))

set_option maxRecDepth 100000 in
set_option maxHeartbeats 8000000 in
theorem lawDepth_any (A : Option Addr) (n c : Nat) (l : List Int) (rtl : Bool) (w : World) (hr : Rd .u8 w A n l) (hu : U8 l) (hnc : n ≤ c) :
    Calls Try.prog 8 #[.slice A n c, .bool rtl] w fun e w' => e = .returned (.bool true) ∧ Below w.heap.size w w' := by
  have hm := hr.max
  obtain ⟨m, hm1⟩ : ∃ m : Nat, min (n : Int) 200 = (m : Int) := ⟨min n 200, by omega⟩
  have hmn : m ≤ n := by omega
  have hm200 : m ≤ 200 := by omega
  have q1 : (0 : Int) ≤ (m : Int) := by omega
  have q2 : (m : Int) ≤ (c : Int) := by omega
  have hr' := rd_to hr hmn
  have hu' : U8 (l.take m) := fun x hx => hu x (List.mem_of_mem_take hx)
  clear hr hu hm
  generalize l.take m = K at *
  have hb01 : 0 ≤ bit rtl ∧ bit rtl ≤ 1 := by cases rtl <;> decide
  go_enter Try.func8, Try.ntmps8
  go_wp2_with fail
  focus
    have e1 : (200 : Nat) = m := by omega
    have e2 : (200 : Int) = (m : Int) := by omega
    rw [e1, e2]
    clear e1 e2 h hm1
  rotate_left
  focus
    obtain rfl : m = n := by omega
    clear h hm1
  rotate_left
  all_goals
    have hlen := hide hr'.len
    have q3 : (m : Int) ≤ 200 := by omega
    refine (par_any none 0 0 [] false rtl w (Rd.nil _ _ _) (by omega)).mono ?_
    rw [show parS [] false rtl = bit rtl from rfl]
    rintro e w1 ⟨rfl, hb1⟩
    have hr1 := hr'.below hb1
    have hbt := hide (show bit rtl = (start (bit rtl)).top.lv from rfl)
    generalize bit rtl = bb at *
    obtain ⟨hbb0, hbb1⟩ := hide hb01
    go_wp2_with fail
    have hlit := hide (LitK.new .i32 21 w1 w1.heap.size [8234, 8235, 8237, 8238, 8294, 8295] (cs := #[.int .i32 8234, .int .i32 8235, .int .i32 8237, .int .i32 8238, .int .i32 8294, .int .i32 8295]) rfl rfl)
    have hb2 := hide (hb1.alloc hb1.size (.cells #[.int .i32 8234, .int .i32 8235, .int .i32 8237, .int .i32 8238, .int .i32 8294, .int .i32 8295] 21))
    have hr2 := hide (hr1.alloc (.cells #[.int .i32 8234, .int .i32 8235, .int .i32 8237, .int .i32 8238, .int .i32 8294, .int .i32 8295] 21))
    clear hr1 hb1 hr'
    generalize hg : w1.heap.size = g at *
    generalize w1.alloc (.cells #[.int .i32 8234, .int .i32 8235, .int .i32 8237, .int .i32 8238, .int .i32 8294, .int .i32 8295] 21) = w2 at *
    clear hg
    go_loopw [7, 8, 9, 29] (fun o av fv i wr => ∃ (k : Nat) (A1 : Option Addr) (c1 : Nat) (a : Int) (f : Bool), k ≤ m ∧ i = .int .i64 ((k : Nat) : Int) ∧ o = .slice A1 k c1 ∧ av = .int .i64 a ∧ fv = .bool f ∧ Own w2.heap.size 21 .i32 wr A1 k c1 ((K.take k).map openR) ∧
      Hid (KeepD (opnS bb (K.take k)) a f) ∧ Below w2.heap.size w2 wr) (fun _ _ _ i _ => m - (intOf i).toNat)
    case atStart => exact ⟨0, none, 0, bb, false, Nat.zero_le _, rfl, rfl, rfl, rfl, Own.none_ _ _ _ _, hide ⟨rfl, rfl⟩, Below.refl _ _⟩
    case round =>
      obtain ⟨k, A1, c1, a, f, hk, rfl, rfl, rfl, rfl, hown, haf, hbel⟩ := hrel
      obtain ⟨wo, rfl⟩ : ∃ wo : World, wo = wr := ⟨_, rfl⟩
      have hsz := hbel.size
      by_cases hkn : k < m
      · obtain ⟨b, off, z, rfl, hbw, hz, hck⟩ := (hr2.out.below hbel).at_ hkn
        have hzu := hu' z (List.mem_of_getElem? hz.out)
        obtain ⟨fuel, ff⟩ := opn_fit hb01 (K.take k)
        have ht := (top_u8 ff)
        rw [← haf.out.1] at ht
        obtain ⟨ht0, ht1⟩ := ht
        have hst := hide (opn_take bb hz.out)
        have hsr := hide (map_take_step openR hz.out)
        have q4 : (k : Int) < (m : Int) := by omega
        have hcell := open_cell ((LitK.below hlit.out hbel)) hzu
        generalize openR z = rr at *
        cases f with
        | true =>
          rcases next_par a z with ⟨e1, e2, e3⟩ | ⟨e1, e2, e3⟩ | ⟨e1, e2, e3⟩ | ⟨e1, e2, e3⟩
          all_goals
            go_wp2_with (at_builtin; refine wpList_app elt32 rfl (.tmp 33) (.tmp 39) rfl rfl rfl (hown.alloc _) (own_one _ _ _ _ _ _ rfl (Nat.le_refl _)).rd (by omega) (by simp <;> omega) ?_; intro A3 c3 w3 hown3 hgr3 _)
            have hb3 := hide ((hbel.alloc hsz (.cells #[.int .i32 rr] 21)).grown hgr3 (by simp <;> omega) (fun g hg => (hown.lt g hg).1))
            clear hgr3
            rw [hsr.out] at hown3
            go_wp2_with fail
            go_roundw
            case rel => exact ⟨k + 1, A3, c3, a, true, by omega, by go_num, rfl, by first | rfl | go_num, rfl, hown3, by rw [hst.out]; exact hide (keep_full haf.out z), hb3.out⟩
            case measure => simp [intOf]; omega
        | false =>
          rcases next_par a z with ⟨e1, e2, e3⟩ | ⟨e1, e2, e3⟩ | ⟨e1, e2, e3⟩ | ⟨e1, e2, e3⟩
          · by_cases h5 : 125 < a + 1
            · have e5 : decide (125 < a + 1) = true := by simp; omega
              go_wp2_with (at_builtin; refine wpList_app elt32 rfl (.tmp 33) (.tmp 39) rfl rfl rfl (hown.alloc _) (own_one _ _ _ _ _ _ rfl (Nat.le_refl _)).rd (by omega) (by simp <;> omega) ?_; intro A3 c3 w3 hown3 hgr3 _)
              have hb3 := hide ((hbel.alloc hsz (.cells #[.int .i32 rr] 21)).grown hgr3 (by simp <;> omega) (fun g hg => (hown.lt g hg).1))
              clear hgr3
              rw [hsr.out] at hown3
              go_wp2_with fail
              go_roundw
              case rel => exact ⟨k + 1, A3, c3, a, true, by omega, by go_num, rfl, by first | rfl | go_num, rfl, hown3, by rw [hst.out]; exact hide (keep_over haf.out e3.out h5), hb3.out⟩
              case measure => simp [intOf]; omega
            · have e5 : decide (125 < a + 1) = false := by simp; omega
              go_wp2_with (at_builtin; refine wpList_app elt32 rfl (.tmp 33) (.tmp 39) rfl rfl rfl (hown.alloc _) (own_one _ _ _ _ _ _ rfl (Nat.le_refl _)).rd (by omega) (by simp <;> omega) ?_; intro A3 c3 w3 hown3 hgr3 _)
              have hb3 := hide ((hbel.alloc hsz (.cells #[.int .i32 rr] 21)).grown hgr3 (by simp <;> omega) (fun g hg => (hown.lt g hg).1))
              clear hgr3
              rw [hsr.out] at hown3
              go_wp2_with fail
              go_roundw
              case rel => exact ⟨k + 1, A3, c3, a + 1, false, by omega, by go_num, rfl, by first | rfl | go_num, rfl, hown3, by rw [hst.out]; exact hide (keep_on haf.out e3.out h5), hb3.out⟩
              case measure => simp [intOf]; omega
          · by_cases h5 : 125 < a + 1
            · have e5 : decide (125 < a + 1) = true := by simp; omega
              go_wp2_with (at_builtin; refine wpList_app elt32 rfl (.tmp 33) (.tmp 39) rfl rfl rfl (hown.alloc _) (own_one _ _ _ _ _ _ rfl (Nat.le_refl _)).rd (by omega) (by simp <;> omega) ?_; intro A3 c3 w3 hown3 hgr3 _)
              have hb3 := hide ((hbel.alloc hsz (.cells #[.int .i32 rr] 21)).grown hgr3 (by simp <;> omega) (fun g hg => (hown.lt g hg).1))
              clear hgr3
              rw [hsr.out] at hown3
              go_wp2_with fail
              go_roundw
              case rel => exact ⟨k + 1, A3, c3, a, true, by omega, by go_num, rfl, by first | rfl | go_num, rfl, hown3, by rw [hst.out]; exact hide (keep_over haf.out e3.out h5), hb3.out⟩
              case measure => simp [intOf]; omega
            · have e5 : decide (125 < a + 1) = false := by simp; omega
              go_wp2_with (at_builtin; refine wpList_app elt32 rfl (.tmp 33) (.tmp 39) rfl rfl rfl (hown.alloc _) (own_one _ _ _ _ _ _ rfl (Nat.le_refl _)).rd (by omega) (by simp <;> omega) ?_; intro A3 c3 w3 hown3 hgr3 _)
              have hb3 := hide ((hbel.alloc hsz (.cells #[.int .i32 rr] 21)).grown hgr3 (by simp <;> omega) (fun g hg => (hown.lt g hg).1))
              clear hgr3
              rw [hsr.out] at hown3
              go_wp2_with fail
              go_roundw
              case rel => exact ⟨k + 1, A3, c3, a + 1, false, by omega, by go_num, rfl, by first | rfl | go_num, rfl, hown3, by rw [hst.out]; exact hide (keep_on haf.out e3.out h5), hb3.out⟩
              case measure => simp [intOf]; omega
          · by_cases h5 : 125 < a + 1 + 1
            · have e5 : decide (125 < a + 1 + 1) = true := by simp; omega
              go_wp2_with (at_builtin; refine wpList_app elt32 rfl (.tmp 33) (.tmp 39) rfl rfl rfl (hown.alloc _) (own_one _ _ _ _ _ _ rfl (Nat.le_refl _)).rd (by omega) (by simp <;> omega) ?_; intro A3 c3 w3 hown3 hgr3 _)
              have hb3 := hide ((hbel.alloc hsz (.cells #[.int .i32 rr] 21)).grown hgr3 (by simp <;> omega) (fun g hg => (hown.lt g hg).1))
              clear hgr3
              rw [hsr.out] at hown3
              go_wp2_with fail
              go_roundw
              case rel => exact ⟨k + 1, A3, c3, a, true, by omega, by go_num, rfl, by first | rfl | go_num, rfl, hown3, by rw [hst.out]; exact hide (keep_over haf.out e3.out h5), hb3.out⟩
              case measure => simp [intOf]; omega
            · have e5 : decide (125 < a + 1 + 1) = false := by simp; omega
              go_wp2_with (at_builtin; refine wpList_app elt32 rfl (.tmp 33) (.tmp 39) rfl rfl rfl (hown.alloc _) (own_one _ _ _ _ _ _ rfl (Nat.le_refl _)).rd (by omega) (by simp <;> omega) ?_; intro A3 c3 w3 hown3 hgr3 _)
              have hb3 := hide ((hbel.alloc hsz (.cells #[.int .i32 rr] 21)).grown hgr3 (by simp <;> omega) (fun g hg => (hown.lt g hg).1))
              clear hgr3
              rw [hsr.out] at hown3
              go_wp2_with fail
              go_roundw
              case rel => exact ⟨k + 1, A3, c3, a + 1 + 1, false, by omega, by go_num, rfl, by first | rfl | go_num, rfl, hown3, by rw [hst.out]; exact hide (keep_on haf.out e3.out h5), hb3.out⟩
              case measure => simp [intOf]; omega
          · by_cases h5 : 125 < a + 1 + 1
            · have e5 : decide (125 < a + 1 + 1) = true := by simp; omega
              go_wp2_with (at_builtin; refine wpList_app elt32 rfl (.tmp 33) (.tmp 39) rfl rfl rfl (hown.alloc _) (own_one _ _ _ _ _ _ rfl (Nat.le_refl _)).rd (by omega) (by simp <;> omega) ?_; intro A3 c3 w3 hown3 hgr3 _)
              have hb3 := hide ((hbel.alloc hsz (.cells #[.int .i32 rr] 21)).grown hgr3 (by simp <;> omega) (fun g hg => (hown.lt g hg).1))
              clear hgr3
              rw [hsr.out] at hown3
              go_wp2_with fail
              go_roundw
              case rel => exact ⟨k + 1, A3, c3, a, true, by omega, by go_num, rfl, by first | rfl | go_num, rfl, hown3, by rw [hst.out]; exact hide (keep_over haf.out e3.out h5), hb3.out⟩
              case measure => simp [intOf]; omega
            · have e5 : decide (125 < a + 1 + 1) = false := by simp; omega
              go_wp2_with (at_builtin; refine wpList_app elt32 rfl (.tmp 33) (.tmp 39) rfl rfl rfl (hown.alloc _) (own_one _ _ _ _ _ _ rfl (Nat.le_refl _)).rd (by omega) (by simp <;> omega) ?_; intro A3 c3 w3 hown3 hgr3 _)
              have hb3 := hide ((hbel.alloc hsz (.cells #[.int .i32 rr] 21)).grown hgr3 (by simp <;> omega) (fun g hg => (hown.lt g hg).1))
              clear hgr3
              rw [hsr.out] at hown3
              go_wp2_with fail
              go_roundw
              case rel => exact ⟨k + 1, A3, c3, a + 1 + 1, false, by omega, by go_num, rfl, by first | rfl | go_num, rfl, hown3, by rw [hst.out]; exact hide (keep_on haf.out e3.out h5), hb3.out⟩
              case measure => simp [intOf]; omega
      · obtain rfl : k = m := by omega
        clear hkn hk
        rw [List.take_of_length_le (by rw [hlen.out]; exact Nat.le_refl _)] at hown haf
        have hat := hide haf.out.1
        clear haf
        obtain ⟨fuel, ff⟩ := opn_fit hb01 K
        have ht := (top_u8 ff)
        rw [← hat.out] at ht
        obtain ⟨ht0, ht1⟩ := ht
        have q5 : (0 : Int) ≤ (k : Int) := by omega
        go_wp2_with (at_builtin; refine wpList_app elt32 rfl (.tmp 64) (.tmp 65) rfl rfl rfl (hown.alloc _) (own_one _ _ _ _ _ _ rfl (Nat.le_refl _)).rd (by omega) (by simp <;> omega) ?_; intro A3 c3 w3 hown3 hgr3 _)
        have hb3 := hide ((hbel.alloc hsz (.cells #[.int .i32 97] 21)).grown hgr3 (by simp <;> omega) (fun g hg => (hown.lt g hg).1))
        clear hgr3 hown hbel hsz
        go_wp2_with fail
        go_loopw [7, 14] (fun o i wr => ∃ (j q : Nat) (A1 : Option Addr) (c1 : Nat) (iv : Int), j + q = k ∧ i = .int .i64 iv ∧ iv + 1 = j ∧ o = .slice A1 (k + 1 + q) c1 ∧ Own w2.heap.size 21 .i32 wr A1 (k + 1 + q) c1 (K.map openR ++ [97] ++ (K.drop j).reverse.map closeR) ∧
          Below w2.heap.size w2 wr) (fun _ i _ => (intOf i + 1).toNat)
        case atStart => exact ⟨k, 0, A3, c3, (k : Int) - 1, rfl, by go_num, by omega, rfl, by rw [List.drop_eq_nil_of_le (by rw [hlen.out]; exact Nat.le_refl _)]; simpa using hown3, hb3.out⟩
        case round =>
          obtain ⟨j, q, A1, c1, iv, hjq, rfl, hiv, rfl, hown, hbel⟩ := hrel
          obtain ⟨wo, rfl⟩ : ∃ wo : World, wo = wr := ⟨_, rfl⟩
          have hsz := hbel.size
          clear hown3 hb3
          cases j with
          | succ j =>
            obtain rfl : iv = (j : Int) := by omega
            obtain ⟨b, off, z, rfl, hbw, hz, hck⟩ := (hr2.out.below hbel).at_ (show j < k by omega)
            have hzu := hu' z (List.mem_of_getElem? hz.out)
            have hcd := close_drop hz.out
            have q6 : (0 : Int) ≤ (j : Int) := by omega
            have q7 : (j : Int) < (k : Int) := by omega
            by_cases h4 : z % 6 < 4
            · have e4 : decide (z % 6 < 4) = true := by simp; omega
              rw [close_a4 h4] at hcd
              replace hcd : K.map openR ++ [97] ++ (K.drop (j + 1)).reverse.map closeR ++ [8236] = K.map openR ++ [97] ++ (K.drop j).reverse.map closeR := by rw [hcd]; simp
              go_wp2_with (at_builtin; refine wpList_app elt32 rfl (.tmp 80) (.tmp 81) rfl rfl rfl (hown.alloc _) (own_one _ _ _ _ _ _ rfl (Nat.le_refl _)).rd (by omega) (by simp <;> omega) ?_; intro A3 c3 w3 hown3 hgr3 _)
              have hb3 := hide ((hbel.alloc hsz (.cells #[.int .i32 8236] 21)).grown hgr3 (by simp <;> omega) (fun g hg => (hown.lt g hg).1))
              clear hgr3
              rw [hcd] at hown3
              go_wp2_with fail
              go_roundw
              case rel => exact ⟨j, q + 1, A3, c3, (j : Int) - 1, by omega, by go_num, by omega, rfl, hown3, hb3.out⟩
              case measure => (simp [intOf] <;> omega)
            · have e4 : decide (z % 6 < 4) = false := by simp; omega
              rw [close_b4 h4] at hcd
              replace hcd : K.map openR ++ [97] ++ (K.drop (j + 1)).reverse.map closeR ++ [8297] = K.map openR ++ [97] ++ (K.drop j).reverse.map closeR := by rw [hcd]; simp
              go_wp2_with (at_builtin; refine wpList_app elt32 rfl (.tmp 83) (.tmp 84) rfl rfl rfl (hown.alloc _) (own_one _ _ _ _ _ _ rfl (Nat.le_refl _)).rd (by omega) (by simp <;> omega) ?_; intro A3 c3 w3 hown3 hgr3 _)
              have hb3 := hide ((hbel.alloc hsz (.cells #[.int .i32 8297] 21)).grown hgr3 (by simp <;> omega) (fun g hg => (hown.lt g hg).1))
              clear hgr3
              rw [hcd] at hown3
              go_wp2_with fail
              go_roundw
              case rel => exact ⟨j, q + 1, A3, c3, (j : Int) - 1, by omega, by go_num, by omega, rfl, hown3, hb3.out⟩
              case measure => (simp [intOf] <;> omega)
          | zero =>
            obtain rfl : iv = -1 := by omega
            obtain rfl : q = k := by omega
            rw [List.drop_zero] at hown
            obtain ⟨N, hN⟩ : ∃ N, N = q + 1 + q := ⟨_, rfl⟩
            have hKl := hide hlen.out
            have hdl := hide (depth_len K)
            rw [← hN] at hown ⊢
            have hNN := hide hN
            have hN1 : N ≤ 401 := by omega
            have hqN : q ≤ N := by omega
            clear hN
            have q8 : (0 : Int) ≤ (N : Int) := by omega
            go_wp2_with (at_builtin; refine wpList_app elt32 rfl (.tmp 86) (.tmp 87) rfl rfl rfl (hown.alloc _) (own_one _ _ _ _ _ _ rfl (Nat.le_refl _)).rd (by omega) (by simp <;> omega) ?_; intro A5 c5 w5 hown5 hgr5 _)
            have hb5 := hide ((hbel.alloc hsz (.cells #[.int .i32 98] 21)).grown hgr5 (by simp <;> omega) (fun g hg => (hown.lt g hg).1))
            clear hgr5 hown
            have hrow : K.map openR ++ [97] ++ K.reverse.map closeR ++ [98] = depthR K := rfl
            rw [hrow] at hown5
            have hb6 := hb2.out.trans (hb5.out.mono hb2.out.size)
            have hsz6 := hb6.size
            go_wp2_with fail
            refine (exp_any A5 (N + 1) c5 (depthR K) bb _ hown5.rd (by omega) hb01).mono ?_
            rintro e w7 ⟨g1, c7, g2, c8, rfl, hL, hO, hne, hb7⟩
            rw [depth_cls] at hL
            have hbl7 := hb6.trans (hb7.mono hsz6)
            clear hO hb7 hown5
            have k1 : w7.cell? ⟨g1, q, none⟩ = some (.int .u8 a) := by
              obtain ⟨z, hz, hc⟩ := hL.rd.cell (j := q) (by omega)
              have h1 := hz.out
              have h2 := depth_inner bb K
              rw [hlen.out, h1] at h2
              injection h2 with h2
              rw [Nat.zero_add] at hc
              rw [hc, h2, ← hat.out]
            have k2 : w7.cell? ⟨g1, N, none⟩ = some (.int .u8 bb) := by
              obtain ⟨z, hz, hc⟩ := hL.rd.cell (j := N) (by omega)
              have h1 := hz.out
              have h2 := depth_last hb01 K
              rw [show 2 * K.length + 1 = N by rw [hlen.out]; have := hNN.out; omega, h1] at h2
              injection h2 with h2
              rw [Nat.zero_add] at hc
              rw [hc, h2]
            have q9 : (q : Int) < (N : Int) + 1 := by omega
            have r1 : IntKind.i64.wrap ((N : Int) + 1 - 1) = (N : Int) := by rw [show (N : Int) + 1 - 1 = N by omega]; exact IntWalk.i64_in _ (by omega)
            have r2 : (N : Int) < (N : Int) + 1 := by omega
            have r3 : (a == a) = true := by simp
            have r4 : (bb == bb) = true := by simp
            have r5 : IntKind.i64.wrap a = a := IntWalk.i64_in _ (by omega)
            clear hL
            go_wp2_with fail
            refine (awake_l w7).mono ?_
            rintro e w8 ⟨rfl, hb8⟩
            go_wp2_with fail
            go_ret
            exact ⟨rfl, hbl7.trans (hb8.mono hbl7.size)⟩
end Go.Proofs.Ytaojjneajiobnaa

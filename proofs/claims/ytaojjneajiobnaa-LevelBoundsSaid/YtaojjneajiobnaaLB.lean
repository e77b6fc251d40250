/-
  The walk of LevelBounds.
-/
import Derived.Test.YtaojjneajiobnaaLBm
namespace Go.Proofs.Ytaojjneajiobnaa
open Go.RowKit

/-- what the last test of LevelBounds asks of a place's class, in the form of the walk -/
theorem cls_cases {x v : Int} (h : ClsIs x v) :
    (v = 9 ∧ x = 9) ∨ (v = 9 ∧ (x == 9) = false ∧ decide (14 ≤ x) = true ∧ decide (x ≤ 18) = true ∧ (x == 10) = false) ∨ (x = 10 ∧ v = 10) ∨
    ((x == 9) = false ∧ ((decide (14 ≤ x) = false) ∨ (decide (14 ≤ x) = true ∧ decide (x ≤ 18) = false)) ∧ (x == 10) = false ∧ ((v = x) ∨ (v = 0 ∧ (0 != x) = true) ∨ (v = 1 ∧ (1 != x) = true))) := by
  simp only [beq_eq_false_iff_ne, decide_eq_true_eq, decide_eq_false_iff_not, bne_iff_ne]
  rcases h with ⟨h1, h2⟩ | ⟨h1, h2⟩ | ⟨h1, h2, h3, h4⟩
  · by_cases h9 : x = 9
    · exact .inl ⟨h2, h9⟩
    · exact .inr (.inl ⟨h2, h9, by omega, by omega, by omega⟩)
  · exact .inr (.inr (.inl ⟨h1, h2⟩))
  · refine .inr (.inr (.inr ⟨h1, by omega, h3, ?_⟩))
    by_cases hv : v = x
    · exact .inl hv
    · rcases h4 with h4 | h4 | h4
      · exact absurd h4 hv
      · exact .inr (.inl ⟨h4, by omega⟩)
      · exact .inr (.inr ⟨h4, by omega⟩)

set_option maxRecDepth 100000 in
set_option maxHeartbeats 8000000 in
theorem lawBounds_any (A : Option Addr) (n c : Nat) (l : List Int) (rtl : Bool) (w : World) (hr : Rd .i32 w A n l) :
    Calls Try.prog 5 #[.slice A n c, .bool rtl] w fun e w' => e = .returned (.bool true) ∧ Below w.heap.size w w' := by
  have hm := hr.max
  have hln := hide hr.len
  by_cases hbig : 300 < n
  · have hb : decide (300 < (n : Int)) = true := by simp; omega
    go_enter Try.func5, Try.ntmps5
    go_wp2_with fail
    refine (awake_l w).mono ?_
    rintro e w1 ⟨rfl, hb1⟩
    go_wp2_with fail
    go_ret
    exact ⟨rfl, hb1⟩
  · have hb : decide (300 < (n : Int)) = false := by simp; omega
    have hfl := fld1
    have hcl := hide (show (l.map cls).length = n by rw [List.length_map, hr.len])
    have hb01 : 0 ≤ bit rtl ∧ bit rtl ≤ 1 := by cases rtl <;> decide
    have hbb : (bit rtl == 1) = rtl := by cases rtl <;> rfl
    have hb2 : (rtl != rtl) = false := by cases rtl <;> rfl
    have tn : ((n : Int) != (n : Int)) = false := by simp
    have hlb := hide (levels_bd (cl := l.map cls) hb01 (map_cls_u8 l))
    have hat := hide (fun i x lv v => bd_at (cl := l.map cls) hb01 (i := i) (x := x) (lv := lv) (v := v))
    have hmt := hide (fun i c k => bd_match (cl := l.map cls) (bit rtl) (i := i) (c := c) (k := k))
    have hll := hide ((levels_len (l.map cls) (bit rtl)).trans hcl.out)
    have hcln := hide ((classes_len (l.map cls) (bit rtl)).trans hcl.out)
    have hml := hide ((match_len (l.map cls)).trans hcl.out)
    go_enter Try.func5, Try.ntmps5
    go_wp2_with fail
    refine (par_any A n c l false rtl w hr (by omega)).mono ?_
    rw [show parS l false rtl = bit rtl from rfl]
    rintro e w1 ⟨rfl, hb1⟩
    have hr1 := hr.below hb1
    go_wp2_with fail
    refine (exp_any A n c l (bit rtl) _ hr1 (by omega) hb01).mono ?_
    rintro e w3 ⟨g1, c3, g2, c4, rfl, hL, hO, hne, hb3⟩
    have hbl3 := hb1.trans (hb3.mono hb1.size)
    have hsz3 := hbl3.size
    have hr3 := hr1.below hb3
    clear hb3 hr1 hb1
    have hL' := hide hL
    have hO' := hide hO
    clear hL hO
    generalize levelsS (l.map cls) (bit rtl) = L at *
    generalize classesS (l.map cls) (bit rtl) = C at *
    generalize bit rtl = bb at *
    go_wp2_with fail
    go_loopw [8, 48] (fun o i wr => ∃ k A1 c1, k ≤ n ∧ i = .int .i64 ((k : Nat) : Int) ∧ o = .slice A1 k c1 ∧ Own w3.heap.size 5 .u8 wr A1 k c1 ((l.take k).map cls) ∧ Below w3.heap.size w3 wr) (fun _ i _ => n - (intOf i).toNat)
    case atStart => exact ⟨0, none, 0, Nat.zero_le _, rfl, rfl, Own.none_ _ _ _ _, Below.refl _ _⟩
    case round =>
      obtain ⟨k, A1, c1, hk, rfl, rfl, hown, hbel⟩ := hrel
      obtain ⟨wo, rfl⟩ : ∃ wo : World, wo = wr := ⟨_, rfl⟩
      have hsz := hbel.size
      by_cases hkn : k < n
      · obtain ⟨b, off, z, rfl, hbw, hz, hck⟩ := (hr3.below hbel).at_ hkn
        obtain ⟨p0, p2, p3, p4, p5, p6, hps⟩ := props_of z
        have hst := hide (map_take_step cls hz.out)
        have hof := hide (of_any z wo)
        rw [hps] at hof
        clear hps
        generalize cls z = p1 at *
        go_wp2_with fail
        refine hof.out.mono ?_
        rintro e w2 ⟨rfl, hb2'⟩
        have hown2 := hown.below hb2'
        have hb2' := hbel.trans (hb2'.mono hsz)
        have hsz2 := hb2'.size
        clear hof hown
        go_wp2_with (at_builtin; refine wpList_app elt8 rfl (.tmp 52) (.tmp 56) rfl rfl rfl (hown2.alloc _) (own_one _ _ _ _ _ _ rfl (Nat.le_refl _)).rd (by omega) (by simp <;> omega) ?_; intro A3 c3 w3 hown3 hgr3 _)
        have hb3 := hide ((hb2'.alloc hsz2 (.cells #[.int .u8 p1] 5)).grown hgr3 (by simp <;> omega) (fun g hg => (hown2.lt g hg).1))
        clear hgr3
        rw [hst.out] at hown3
        go_wp2_with fail
        go_roundw
        case rel => exact ⟨k + 1, A3, c3, by omega, by go_num, rfl, hown3, hb3.out⟩
        case measure => simp [intOf]; omega
      · obtain rfl : k = n := by omega
        clear hkn
        have htk : l.take k = l := List.take_of_length_le (by rw [hln.out]; exact Nat.le_refl _)
        rw [htk] at hown
        clear htk
        go_wp2_with fail
        refine (match_any A1 k c1 (l.map cls) _ hown.rd (by omega)).mono ?_
        rintro e w4 ⟨A2, c2, rfl, hM, hb4⟩
        rw [hml.out] at hM ⊢
        have hown4 := hide (hown.below hb4)
        have hL4 := hide ((hL'.out.below hbel).below hb4)
        have hO4 := hide ((hO'.out.below hbel).below hb4)
        have hM' := hide hM
        have hbl4 := hbl3.trans ((hbel.trans (hb4.mono hsz)).mono hsz3)
        have hsz4 := hbl4.size
        clear hM hown hL' hO' hb4
        go_wp2_with fail
        go_loopw [68] (fun i wr => ∃ j : Nat, j ≤ k ∧ i = .int .i64 ((j : Nat) : Int) ∧ Below w4.heap.size w4 wr) (fun i _ => k - (intOf i).toNat)
        case atStart => exact ⟨0, Nat.zero_le _, rfl, Below.refl _ _⟩
        case round =>
          obtain ⟨j, hj, rfl, hbel5⟩ := hrel
          obtain ⟨w5, rfl⟩ : ∃ wo : World, wo = wr := ⟨_, rfl⟩
          by_cases hjm : j < k
          · obtain ⟨b, off, x, rfl, hbw, hzx, hcx⟩ := (hown4.out.below hbel5).rd.at_ hjm
            obtain ⟨lv, hzl, hcl'⟩ := (hL4.out.below hbel5).rd.cell hjm
            obtain ⟨v, hzv, hcv⟩ := (hO4.out.below hbel5).rd.cell hjm
            obtain ⟨b2, off2, mk, rfl, hbw2, hzm, hcm⟩ := (hM'.out.below hbel5).rd.at_ hjm
            rw [Nat.zero_add] at hcl' hcv
            obtain ⟨hlo, hcls⟩ := hat.out j x lv v hzx.out hzl.out hzv.out
            have hhi := (hlb.out lv (List.mem_of_getElem? hzl.out)).2
            have q1 : (j : Int) < (k : Int) := by omega
            have q2 : (0 : Int) ≤ (j : Int) := by omega
            have d1 : decide (125 < lv) = false := by simp; omega
            have d2 : decide (lv < bb) = false := by simp; omega
            have hmm : decide (0 ≤ mk) = false ∨ (decide (0 ≤ mk) = true ∧ decide (mk < (k : Int)) = false) ∨ (decide (0 ≤ mk) = true ∧ decide (mk < (k : Int)) = true ∧ 0 ≤ mk ∧ mk < (k : Int) ∧ ∃ e : Nat, Hid (mk = e) ∧ (w5.cell? ⟨g1, e, none⟩ = some (.int .u8 lv))) := by
              by_cases h1 : 0 ≤ mk
              · by_cases h2 : mk < (k : Int)
                · refine .inr (.inr ⟨by simpa using h1, by simpa using h2, h1, h2, ?_⟩)
                  obtain ⟨e, he, he2, he3⟩ := hmt.out j x mk hzx.out hzm.out h1 (by rw [hcl.out]; exact h2)
                  refine ⟨e, he, ?_⟩
                  obtain ⟨lv', hzl', hc'⟩ := (hL4.out.below hbel5).rd.cell (j := e) (by rw [← hcl.out]; exact he2)
                  rw [Nat.zero_add] at hc'
                  rw [hc']
                  have h3 := hzl'.out
                  rw [he3, hzl.out] at h3
                  injection h3 with h3
                  rw [h3]
                · exact .inr (.inl ⟨by simpa using h1, by simp; omega⟩)
              · exact .inl (by simp; omega)
            have hcc := hide (cls_cases hcls)
            clear hcls hlo hhi hzx hzl hzv hzm
            rcases hmm with h1 | ⟨h1, h2⟩ | ⟨h1, h2, h3, h4, e, he, hce⟩
            · go_wp2_with fail
              go_quiet (fail)
              rcases hcc.out with ⟨rfl, rfl⟩ | ⟨rfl, e1, e2, e3, e4⟩ | ⟨rfl, rfl⟩ | ⟨e1, e2 | ⟨e2, e3⟩, e4, rfl | ⟨rfl, e5⟩ | ⟨rfl, e5⟩⟩
              all_goals clear hcc
              · as_aux_lemma =>
                go_wp2_with fail
                go_roundw
                case rel => exact ⟨j + 1, by omega, by go_num, hB_drewN hbel5 _⟩
                case measure => simp [intOf]; omega
              · as_aux_lemma =>
                go_wp2_with fail
                go_roundw
                case rel => exact ⟨j + 1, by omega, by go_num, hB_drewN hbel5 _⟩
                case measure => simp [intOf]; omega
              · as_aux_lemma =>
                go_wp2_with fail
                go_roundw
                case rel => exact ⟨j + 1, by omega, by go_num, hB_drewN hbel5 _⟩
                case measure => simp [intOf]; omega
              · as_aux_lemma =>
                have e6 : (v != v) = false := by simp
                go_wp2_with fail
                go_roundw
                case rel => exact ⟨j + 1, by omega, by go_num, hB_drewN hbel5 _⟩
                case measure => simp [intOf]; omega
              · as_aux_lemma =>
                go_wp2_with fail
                go_roundw
                case rel => exact ⟨j + 1, by omega, by go_num, hB_drewN hbel5 _⟩
                case measure => simp [intOf]; omega
              · as_aux_lemma =>
                go_wp2_with fail
                go_roundw
                case rel => exact ⟨j + 1, by omega, by go_num, hB_drewN hbel5 _⟩
                case measure => simp [intOf]; omega
              · as_aux_lemma =>
                have e6 : (v != v) = false := by simp
                go_wp2_with fail
                go_roundw
                case rel => exact ⟨j + 1, by omega, by go_num, hB_drewN hbel5 _⟩
                case measure => simp [intOf]; omega
              · as_aux_lemma =>
                go_wp2_with fail
                go_roundw
                case rel => exact ⟨j + 1, by omega, by go_num, hB_drewN hbel5 _⟩
                case measure => simp [intOf]; omega
              · as_aux_lemma =>
                go_wp2_with fail
                go_roundw
                case rel => exact ⟨j + 1, by omega, by go_num, hB_drewN hbel5 _⟩
                case measure => simp [intOf]; omega
            · go_wp2_with fail
              go_quiet (fail)
              rcases hcc.out with ⟨rfl, rfl⟩ | ⟨rfl, e1, e2, e3, e4⟩ | ⟨rfl, rfl⟩ | ⟨e1, e2 | ⟨e2, e3⟩, e4, rfl | ⟨rfl, e5⟩ | ⟨rfl, e5⟩⟩
              all_goals clear hcc
              · as_aux_lemma =>
                go_wp2_with fail
                go_roundw
                case rel => exact ⟨j + 1, by omega, by go_num, hB_drewN hbel5 _⟩
                case measure => simp [intOf]; omega
              · as_aux_lemma =>
                go_wp2_with fail
                go_roundw
                case rel => exact ⟨j + 1, by omega, by go_num, hB_drewN hbel5 _⟩
                case measure => simp [intOf]; omega
              · as_aux_lemma =>
                go_wp2_with fail
                go_roundw
                case rel => exact ⟨j + 1, by omega, by go_num, hB_drewN hbel5 _⟩
                case measure => simp [intOf]; omega
              · as_aux_lemma =>
                have e6 : (v != v) = false := by simp
                go_wp2_with fail
                go_roundw
                case rel => exact ⟨j + 1, by omega, by go_num, hB_drewN hbel5 _⟩
                case measure => simp [intOf]; omega
              · as_aux_lemma =>
                go_wp2_with fail
                go_roundw
                case rel => exact ⟨j + 1, by omega, by go_num, hB_drewN hbel5 _⟩
                case measure => simp [intOf]; omega
              · as_aux_lemma =>
                go_wp2_with fail
                go_roundw
                case rel => exact ⟨j + 1, by omega, by go_num, hB_drewN hbel5 _⟩
                case measure => simp [intOf]; omega
              · as_aux_lemma =>
                have e6 : (v != v) = false := by simp
                go_wp2_with fail
                go_roundw
                case rel => exact ⟨j + 1, by omega, by go_num, hB_drewN hbel5 _⟩
                case measure => simp [intOf]; omega
              · as_aux_lemma =>
                go_wp2_with fail
                go_roundw
                case rel => exact ⟨j + 1, by omega, by go_num, hB_drewN hbel5 _⟩
                case measure => simp [intOf]; omega
              · as_aux_lemma =>
                go_wp2_with fail
                go_roundw
                case rel => exact ⟨j + 1, by omega, by go_num, hB_drewN hbel5 _⟩
                case measure => simp [intOf]; omega
            · obtain rfl := he.out
              have h6 : (lv != lv) = false := by simp
              clear he
              go_wp2_with fail
              go_quiet (fail)
              rcases hcc.out with ⟨rfl, rfl⟩ | ⟨rfl, e1, e2, e3, e4⟩ | ⟨rfl, rfl⟩ | ⟨e1, e2 | ⟨e2, e3⟩, e4, rfl | ⟨rfl, e5⟩ | ⟨rfl, e5⟩⟩
              all_goals clear hcc
              · as_aux_lemma =>
                go_wp2_with fail
                go_roundw
                case rel => exact ⟨j + 1, by omega, by go_num, hB_drewN hbel5 _⟩
                case measure => simp [intOf]; omega
              · as_aux_lemma =>
                go_wp2_with fail
                go_roundw
                case rel => exact ⟨j + 1, by omega, by go_num, hB_drewN hbel5 _⟩
                case measure => simp [intOf]; omega
              · as_aux_lemma =>
                go_wp2_with fail
                go_roundw
                case rel => exact ⟨j + 1, by omega, by go_num, hB_drewN hbel5 _⟩
                case measure => simp [intOf]; omega
              · as_aux_lemma =>
                have e6 : (v != v) = false := by simp
                go_wp2_with fail
                go_roundw
                case rel => exact ⟨j + 1, by omega, by go_num, hB_drewN hbel5 _⟩
                case measure => simp [intOf]; omega
              · as_aux_lemma =>
                go_wp2_with fail
                go_roundw
                case rel => exact ⟨j + 1, by omega, by go_num, hB_drewN hbel5 _⟩
                case measure => simp [intOf]; omega
              · as_aux_lemma =>
                go_wp2_with fail
                go_roundw
                case rel => exact ⟨j + 1, by omega, by go_num, hB_drewN hbel5 _⟩
                case measure => simp [intOf]; omega
              · as_aux_lemma =>
                have e6 : (v != v) = false := by simp
                go_wp2_with fail
                go_roundw
                case rel => exact ⟨j + 1, by omega, by go_num, hB_drewN hbel5 _⟩
                case measure => simp [intOf]; omega
              · as_aux_lemma =>
                go_wp2_with fail
                go_roundw
                case rel => exact ⟨j + 1, by omega, by go_num, hB_drewN hbel5 _⟩
                case measure => simp [intOf]; omega
              · as_aux_lemma =>
                go_wp2_with fail
                go_roundw
                case rel => exact ⟨j + 1, by omega, by go_num, hB_drewN hbel5 _⟩
                case measure => simp [intOf]; omega
          · obtain rfl : j = k := by omega
            clear hjm
            go_wp2_with fail
            refine (awake_l w5).mono ?_
            rintro e w6 ⟨rfl, hb6⟩
            go_wp2_with fail
            go_ret
            have h4 := hbl4.trans (hbel5.mono hsz4)
            exact ⟨rfl, h4.trans (hb6.mono h4.size)⟩
end Go.Proofs.Ytaojjneajiobnaa

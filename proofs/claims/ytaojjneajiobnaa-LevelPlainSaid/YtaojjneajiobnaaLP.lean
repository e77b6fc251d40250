/-
  The walk of LevelPlain.
-/
import Derived.Test.YtaojjneajiobnaaLPm
namespace Go.Proofs.Ytaojjneajiobnaa
open Go.RowKit

/-- the first strong one of a row, as LevelPlain keeps it -/
def tellS (l : List Int) (want told : Int) : Prop := want = bit (strongS 0 (l.map cls)).1 ∧ told = bit (strongS 0 (l.map cls)).2
theorem tell_bit {l : List Int} {want told : Int} (h : tellS l want told) : told = 0 ∨ told = 1 := by
  obtain ⟨_, rfl⟩ := h
  cases (strongS 0 (l.map cls)).2
  · exact .inl rfl
  · exact .inr rfl
theorem bit_one {b : Bool} (h : bit b = 1) : b = true := by cases b; exact absurd h (by decide); rfl
theorem bit_zero {b : Bool} (h : bit b = 0) : b = false := by cases b; rfl; exact absurd h (by decide)
theorem tell_app (l : List Int) (z : Int) (hl : ∀ x ∈ l.map cls, x < 14) : strongS 0 ((l ++ [z]).map cls) = if (strongS 0 (l.map cls)).2 then strongS 0 (l.map cls) else strongS 0 [cls z] := by
  rw [List.map_append]; exact strong_app _ hl
theorem tell_stay {l : List Int} {z want : Int} (h : tellS l want 1) (hl : ∀ x ∈ l.map cls, x < 14) : tellS (l ++ [z]) want 1 := by
  unfold tellS at *
  rw [tell_app l z hl, if_pos (bit_one h.2.symm)]; exact h
theorem tell_new {l : List Int} {z want : Int} (h : tellS l want 0) (hl : ∀ x ∈ l.map cls, x < 14) : want = 0 ∧ ∀ p, strongS 0 [cls z] = p → tellS (l ++ [z]) (bit p.1) (bit p.2) := by
  unfold tellS at *
  have h2 := bit_zero h.2.symm
  refine ⟨?_, fun p hp => ?_⟩
  · rw [h.1, strong_not _ h2]; rfl
  · rw [tell_app l z hl, h2, if_neg (by decide), hp]; exact ⟨rfl, rfl⟩
theorem tell_cases {x : Int} (h : x < 14) : x = 0 ∨ x = 1 ∨ x = 2 ∨ ((x == 0) = false ∧ (x == 1) = false ∧ (x == 2) = false ∧ Hid (strongS 0 [x] = (false, false))) := by
  simp only [beq_eq_false_iff_ne]
  by_cases h0 : x = 0
  · exact .inl h0
  · by_cases h1 : x = 1
    · exact .inr (.inl h1)
    · by_cases h2 : x = 2
      · exact .inr (.inr (.inl h2))
      · exact .inr (.inr (.inr ⟨h0, h1, h2, by unfold Hid; rw [strong_one h, if_neg h0, if_neg (by omega)]⟩))
set_option maxRecDepth 100000 in
set_option maxHeartbeats 8000000 in
theorem lawPlain_any (A : Option Addr) (n c : Nat) (l : List Int) (base : Bool) (w : World) (hr : Rd .i32 w A n l) :
    Calls Try.prog 6 #[.slice A n c, .bool base] w fun e w' => e = .returned (.bool true) ∧ Below w.heap.size w w' := by
  have hm := hr.max
  have hln := hide hr.len
  by_cases hbig : 300 < n
  · have hb : decide (300 < (n : Int)) = true := by simp; omega
    go_enter Try.func6, Try.ntmps6
    go_wp2_with fail
    refine (awake_l w).mono ?_
    rintro e w1 ⟨rfl, hb1⟩
    go_wp2_with fail
    go_ret
    exact ⟨rfl, hb1⟩
  · have hb : decide (300 < (n : Int)) = false := by simp; omega
    have hfl := fld1
    go_enter Try.func6, Try.ntmps6
    go_wp2_with fail
    go_loopw [5, 6, 7, 22] (fun o wt td i wr => ∃ (k m c1 : Nat) (A1 : Option Addr) (wn tl : Int), k ≤ n ∧ i = .int .i64 ((k : Nat) : Int) ∧ wt = .int .u8 wn ∧ td = .int .i64 tl ∧ o = .slice A1 m c1 ∧ m ≤ k ∧ Own w.heap.size 21 .i32 wr A1 m c1 (bareS (l.take k)) ∧
      Hid (tellS (bareS (l.take k)) wn tl) ∧ Below w.heap.size w wr) (fun _ _ _ i _ => n - (intOf i).toNat)
    case atStart => exact ⟨0, 0, 0, none, 0, 0, Nat.zero_le _, rfl, rfl, rfl, rfl, Nat.le_refl _, Own.none_ _ _ _ _, hide ⟨rfl, rfl⟩, Below.refl _ _⟩
    case round =>
      obtain ⟨k, m, c1, A1, wn, tl, hk, rfl, rfl, rfl, rfl, hmk, hown, htell, hbel⟩ := hrel
      obtain ⟨wo, rfl⟩ : ∃ wo : World, wo = wr := ⟨_, rfl⟩
      have hsz := hbel.size
      by_cases hkn : k < n
      · obtain ⟨b, off, z, rfl, hbw, hz, hck⟩ := (hr.below hbel).at_ hkn
        obtain ⟨p0, p2, p3, p4, p5, p6, hps⟩ := props_of z
        have hst := hide (bare_take hz.out)
        have hof := hide (of_any z wo)
        have hx := hide (cls_range z)
        rw [hps] at hof
        clear hps
        generalize hcz : cls z = p1 at *
        have hcz' := hide hcz
        clear hcz
        by_cases hp14 : 14 ≤ p1
        · have t1 : decide (14 ≤ p1) = true := by simp; omega
          have hst' := hide (hst.out.trans (if_neg (by omega)))
          clear hst hp14
          go_wp2_with fail
          refine hof.out.mono ?_
          rintro e w2 ⟨rfl, hb2⟩
          go_wp2_with fail
          go_roundw
          case rel => exact ⟨k + 1, m, c1, A1, wn, tl, by omega, by go_num, rfl, rfl, rfl, by omega, by rw [hst'.out]; exact hown.below hb2, by rw [hst'.out]; exact htell, hbel.trans (hb2.mono hsz)⟩
          case measure => simp [intOf]; omega
        · have t1 : decide (14 ≤ p1) = false := by simp; omega
          have hst' := hide (hst.out.trans (if_pos (by omega)))
          have hbc := hide (bare_cls (l := l.take k))
          have hp13 : p1 < 14 := by omega
          clear hst hp14
          have hml := hide hown.len
          rcases tell_bit htell.out with rfl | rfl
          · have hnew := hide (tell_new (z := z) htell.out hbc.out)
            obtain ⟨rfl, hnw⟩ := hnew.out
            rw [hcz'.out] at hnw
            have hnw' := hide hnw
            clear hnw hnew
            rcases tell_cases hp13 with rfl | rfl | rfl | ⟨e0, e1, e2, e3⟩
            · go_wp2_with fail
              refine hof.out.mono ?_
              rintro e w2 ⟨rfl, hb2⟩
              have hown2 := hown.below hb2
              have hb2' := hbel.trans (hb2.mono hsz)
              have hsz2 := hb2'.size
              go_wp2_with (at_builtin; refine wpList_app elt32 rfl (.tmp 31) (.tmp 33) rfl rfl rfl (hown2.alloc _) (own_one _ _ _ _ _ _ rfl (Nat.le_refl _)).rd (by omega) (by simp <;> omega) ?_; intro A3 c3 w3 hown3 hgr3 _)
              have hb3 := hide ((hb2'.alloc hsz2 (.cells #[.int .i32 z] 21)).grown hgr3 (by simp <;> omega) (fun g hg => (hown2.lt g hg).1))
              clear hgr3
              go_wp2_with fail
              go_roundw
              case rel => exact ⟨k + 1, m + 1, c3, A3, 0, 1, by omega, by go_num, rfl, rfl, rfl, by omega, by rw [hst'.out]; exact hown3, by rw [hst'.out]; exact hide (hnw'.out _ strong_0), hb3.out⟩
              case measure => simp [intOf]; omega
            · go_wp2_with fail
              refine hof.out.mono ?_
              rintro e w2 ⟨rfl, hb2⟩
              have hown2 := hown.below hb2
              have hb2' := hbel.trans (hb2.mono hsz)
              have hsz2 := hb2'.size
              go_wp2_with (at_builtin; refine wpList_app elt32 rfl (.tmp 31) (.tmp 33) rfl rfl rfl (hown2.alloc _) (own_one _ _ _ _ _ _ rfl (Nat.le_refl _)).rd (by omega) (by simp <;> omega) ?_; intro A3 c3 w3 hown3 hgr3 _)
              have hb3 := hide ((hb2'.alloc hsz2 (.cells #[.int .i32 z] 21)).grown hgr3 (by simp <;> omega) (fun g hg => (hown2.lt g hg).1))
              clear hgr3
              go_wp2_with fail
              go_roundw
              case rel => exact ⟨k + 1, m + 1, c3, A3, 1, 1, by omega, by go_num, rfl, rfl, rfl, by omega, by rw [hst'.out]; exact hown3, by rw [hst'.out]; exact hide (hnw'.out _ strong_1), hb3.out⟩
              case measure => simp [intOf]; omega
            · go_wp2_with fail
              refine hof.out.mono ?_
              rintro e w2 ⟨rfl, hb2⟩
              have hown2 := hown.below hb2
              have hb2' := hbel.trans (hb2.mono hsz)
              have hsz2 := hb2'.size
              go_wp2_with (at_builtin; refine wpList_app elt32 rfl (.tmp 31) (.tmp 33) rfl rfl rfl (hown2.alloc _) (own_one _ _ _ _ _ _ rfl (Nat.le_refl _)).rd (by omega) (by simp <;> omega) ?_; intro A3 c3 w3 hown3 hgr3 _)
              have hb3 := hide ((hb2'.alloc hsz2 (.cells #[.int .i32 z] 21)).grown hgr3 (by simp <;> omega) (fun g hg => (hown2.lt g hg).1))
              clear hgr3
              go_wp2_with fail
              go_roundw
              case rel => exact ⟨k + 1, m + 1, c3, A3, 1, 1, by omega, by go_num, rfl, rfl, rfl, by omega, by rw [hst'.out]; exact hown3, by rw [hst'.out]; exact hide (hnw'.out _ strong_2), hb3.out⟩
              case measure => simp [intOf]; omega
            · go_wp2_with fail
              refine hof.out.mono ?_
              rintro e w2 ⟨rfl, hb2⟩
              have hown2 := hown.below hb2
              have hb2' := hbel.trans (hb2.mono hsz)
              have hsz2 := hb2'.size
              go_wp2_with (at_builtin; refine wpList_app elt32 rfl (.tmp 31) (.tmp 33) rfl rfl rfl (hown2.alloc _) (own_one _ _ _ _ _ _ rfl (Nat.le_refl _)).rd (by omega) (by simp <;> omega) ?_; intro A3 c3 w3 hown3 hgr3 _)
              have hb3 := hide ((hb2'.alloc hsz2 (.cells #[.int .i32 z] 21)).grown hgr3 (by simp <;> omega) (fun g hg => (hown2.lt g hg).1))
              clear hgr3
              go_wp2_with fail
              go_roundw
              case rel => exact ⟨k + 1, m + 1, c3, A3, 0, 0, by omega, by go_num, rfl, rfl, rfl, by omega, by rw [hst'.out]; exact hown3, by rw [hst'.out]; exact hide (hnw'.out _ e3.out), hb3.out⟩
              case measure => simp [intOf]; omega
          · have hstay := hide (tell_stay (z := z) htell.out hbc.out)
            go_wp2_with fail
            refine hof.out.mono ?_
            rintro e w2 ⟨rfl, hb2⟩
            have hown2 := hown.below hb2
            have hb2' := hbel.trans (hb2.mono hsz)
            have hsz2 := hb2'.size
            go_wp2_with (at_builtin; refine wpList_app elt32 rfl (.tmp 31) (.tmp 33) rfl rfl rfl (hown2.alloc _) (own_one _ _ _ _ _ _ rfl (Nat.le_refl _)).rd (by omega) (by simp <;> omega) ?_; intro A3 c3 w3 hown3 hgr3 _)
            have hb3 := hide ((hb2'.alloc hsz2 (.cells #[.int .i32 z] 21)).grown hgr3 (by simp <;> omega) (fun g hg => (hown2.lt g hg).1))
            clear hgr3
            go_wp2_with fail
            go_roundw
            case rel => exact ⟨k + 1, m + 1, c3, A3, wn, 1, by omega, by go_num, rfl, rfl, rfl, by omega, by rw [hst'.out]; exact hown3, by rw [hst'.out]; exact hstay, hb3.out⟩
            case measure => simp [intOf]; omega
      · obtain rfl : k = n := by omega
        have htk : l.take k = l := List.take_of_length_le (by rw [hln.out]; exact Nat.le_refl _)
        rw [htk] at hown htell
        clear htk hkn
        have hwn := hide (show parS (bareS l) true base = wn from htell.out.1.symm)
        have hml := hide hown.len
        generalize hB : bareS l = B at *
        have hbc := hide (show ∀ x ∈ B.map cls, x < 14 by rw [← hB]; exact bare_cls)
        clear hB htell
        have hlv := hide (levels_bare (bit base) hbc.out)
        have hcv := hide (classes_bare (bit base) hbc.out)
        have hb01 : 0 ≤ bit base ∧ bit base ≤ 1 := by cases base <;> decide
        have tw : (wn != wn) = false := by simp
        have tm : ((m : Int) != (m : Int)) = false := by simp
        go_wp2_with fail
        refine (par_any A1 m c1 B true base _ hown.rd (by omega)).mono ?_
        rw [hwn.out]
        rintro e w1 ⟨rfl, hb1⟩
        have hown1 := hown.below hb1
        have hbl1 := hbel.trans (hb1.mono hsz)
        have hsz1 := hbl1.size
        clear hwn hb1 hown
        go_wp2_with fail
        refine (par_any A1 m c1 B false base _ hown1.rd (by omega)).mono ?_
        rw [show parS B false base = bit base from rfl]
        rintro e w2 ⟨rfl, hb2⟩
        have hown2 := hown1.below hb2
        have hbl2 := hbl1.trans (hb2.mono hsz1)
        have hsz2 := hbl2.size
        clear hb2 hown1
        go_wp2_with fail
        refine (exp_any A1 m c1 B (bit base) _ hown2.rd (by omega) hb01).mono ?_
        rintro e w3 ⟨g1, c3, g2, c4, rfl, hL, hO, hne, hb3⟩
        rw [hlv.out] at hL
        rw [hcv.out] at hO
        have hown3 := hide (hown2.below hb3)
        have hbl3 := hbl2.trans (hb3.mono hsz2)
        have hsz3 := hbl3.size
        clear hb3 hown2 hlv hcv
        have hL' := hide hL
        have hO' := hide hO
        clear hL hO
        go_wp2_with fail
        go_loopw [80] (fun i wr => ∃ j : Nat, j ≤ m ∧ i = .int .i64 ((j : Nat) : Int) ∧ Below w3.heap.size w3 wr) (fun i _ => m - (intOf i).toNat)
        case atStart => exact ⟨0, Nat.zero_le _, rfl, Below.refl _ _⟩
        case round =>
          obtain ⟨j, hj, rfl, hbel⟩ := hrel
          obtain ⟨wo, rfl⟩ : ∃ wo : World, wo = wr := ⟨_, rfl⟩
          by_cases hjm : j < m
          · have hR := (hown3.out.below hbel).rd
            obtain ⟨b, off, z, rfl, hbw, hz, hck⟩ := hR.at_ hjm
            obtain ⟨p0, p2, p3, p4, p5, p6, hps⟩ := props_of z
            have hof := hide (fun y : BW wo => of_any z y.world)
            rw [hps] at hof
            clear hps
            have q1 : (j : Int) < (m : Int) := by omega
            have q2 : (0 : Int) ≤ (j : Int) := by omega
            have k1 : ∀ y : BW wo, y.world.cell? ⟨g1, j, none⟩ = some (.int .u8 (bit base)) := fun y => by
              obtain ⟨z1, hz1, hc1⟩ := ((hL'.out.below hbel).below y.below).rd.cell hjm
              have := hz1.out
              rw [List.getElem?_replicate, if_pos (by rw [List.length_map, hml.out]; exact hjm)] at this
              injection this with this
              rw [Nat.zero_add] at hc1
              rw [hc1, this]
            have k2 : ∀ y : BW wo, y.world.cell? ⟨g2, j, none⟩ = some (.int .u8 (cls z)) := fun y => by
              obtain ⟨z1, hz1, hc1⟩ := ((hO'.out.below hbel).below y.below).rd.cell hjm
              have := hz1.out
              rw [List.getElem?_map, hz.out] at this
              injection this with this
              rw [Nat.zero_add] at hc1
              rw [hc1, ← this]
            have u1 : (bit base != bit base) = false := by simp
            have u2 : (cls z != cls z) = false := by simp
            generalize bit base = bb at *
            generalize cls z = p1 at *
            go_wp2_with fail
            refine wp_region_below (by kernel_rfl) (by kernel_rfl) ?_
            repeat (go_big_quiet_step ((go_at_call 23; exact Calls.below_of (hof.out _))))
            refine wpQuiet_nil ?_
            rintro _ ⟨x, rfl⟩
            go_wp2_with fail
            go_roundw
            case rel => exact ⟨j + 1, by omega, by go_num, hbel.trans (x.below.mono hbel.size)⟩
            case measure => simp [intOf]; omega
          · obtain rfl : j = m := by omega
            clear hjm
            go_wp2_with fail
            refine (awake_l wo).mono ?_
            rintro e w2 ⟨rfl, hb2⟩
            go_wp2_with fail
            go_ret
            have h4 := hbl3.trans (hbel.mono hsz3)
            exact ⟨rfl, h4.trans (hb2.mono h4.size)⟩
end Go.Proofs.Ytaojjneajiobnaa

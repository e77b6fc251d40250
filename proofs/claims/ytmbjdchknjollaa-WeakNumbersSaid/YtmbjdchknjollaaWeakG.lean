/-
  The walk of the document's w5.
-/
import Derived.Test.YtmbjdchknjollaaWeakF
namespace Go.Proofs.Ytmbjdchknjollaa
open Go.RowKit

theorem run5_down {z : List Int} {f t : Nat} (h : Run5 z f t) (hf : 0 < f) (hx : atN z ((f : Int) - 1) = 5) : Run5 z (f - 1) t := by
  intro j h1 h2
  rcases Nat.lt_or_ge j f with hj | hj
  · obtain rfl : j = f - 1 := by omega
    have e : (f : Int) - 1 = ((f - 1 : Nat) : Int) := by omega
    rw [e] at hx
    unfold atN at hx
    rw [if_neg (by omega), Int.toNat_natCast] at hx
    cases hz : z[f - 1]? with
    | none => rw [hz] at hx; simp at hx
    | some u => rw [hz] at hx; simp at hx; rw [hx]
  · exact h j hj h2
theorem run5_up {z : List Int} {f t : Nat} (h : Run5 z f t) (hx : atN z (t : Int) = 5) : Run5 z f (t + 1) ∧ t < z.length := by
  unfold atN at hx
  rw [if_neg (by omega), Int.toNat_natCast] at hx
  cases hz : z[t]? with
  | none => rw [hz] at hx; simp at hx
  | some u =>
    rw [hz] at hx; simp at hx
    subst hx
    refine ⟨fun j h1 h2 => ?_, (List.getElem?_eq_some_iff.1 hz).1⟩
    rcases Nat.lt_or_ge j t with hj | hj
    · exact h j h1 hj
    · obtain rfl : j = t := by omega
      exact hz
theorem run5_pos {z : List Int} {f : Nat} (hx : atN z ((f : Int) - 1) = 5) : 0 < f := by
  rcases Nat.eq_zero_or_pos f with rfl | h
  · rw [atN_lo (by omega)] at hx; cases hx
  · exact h

set_option maxHeartbeats 8000000 in
theorem w5_any (B : Nat) (A : Option Addr) (n c : Nat) (zs : List Int) (w : World) (hown : Own B 5 .u8 w A n c zs) :
    Calls Try.prog 35 #[.slice A n c] w (RowPost B w A n c (endsS zs)) := by
  have hm := hown.2
  have hln := hide hown.len
  go_enter Try.func35, Try.ntmps35
  go_wp2
  go_loopw [2] (fun i wr => ∃ (k : Nat) (z : List Int), k ≤ n ∧ i = .int .i64 k ∧ Own B 5 .u8 wr A n c z ∧ Hid (W5 zs z k) ∧ w.grownBy wr (Value.slice A n c).ownBlock) (fun i _ => n - (intOf i).toNat)
  case atStart => exact ⟨0, zs, Nat.zero_le _, rfl, hown, hide (W5.start zs), World.grownBy.refl _ _⟩
  case round =>
    obtain ⟨k, z, hk, rfl, hownr, hw5, hgr⟩ := hrel
    by_cases hkn : k < n
    · have hzl := hide hownr.len
      obtain ⟨g, x, rfl, _, hgl, hz, hck, hfk⟩ := hownr.at_ hkn
      by_cases h5 : (x == 5) = true
      · have e5 : x = 5 := eq_of_beq h5
        subst e5
        clear h5
        obtain ⟨wo, rfl⟩ : ∃ wo : World, wo = wr := ⟨_, rfl⟩
        go_wp2
        go_loop [3] (fun i => ∃ f : Nat, f ≤ k ∧ i = .int .i64 f ∧ Hid (Run5 z f (k + 1))) (fun i => (intOf i).toNat)
        case atStart => exact ⟨k, Nat.le_refl _, rfl, hide (fun j h1 h2 => by obtain rfl : j = k := by omega
                                                                              exact hz.out)⟩
        case round =>
          obtain ⟨f, hf, rfl, hrun⟩ := hrel
          have c1 := hide (at_any (some ⟨g, 0, none⟩) n c z ((f : Int) - 1) wo hownr.rd)
          obtain ⟨a, ha⟩ : ∃ a, Hid (atN z ((f : Int) - 1) = a) := ⟨_, rfl⟩
          rw [ha.out] at c1
          by_cases ha5 : (a == 5) = true
          · have e5 : a = 5 := eq_of_beq ha5
            subst e5
            have hfp := run5_pos ha.out
            go_wp2_with fail
            refine c1.out.mono ?_
            rintro e w' ⟨rfl, rfl⟩
            go_wp2_with fail
            go_round
            case rel => exact ⟨f - 1, by omega, by go_num, hide (run5_down hrun.out hfp ha.out)⟩
            case measure => simp [intOf]; omega
          · have ha5' : (a == 5) = false := by simpa using ha5
            clear ha5
            go_wp2_with fail
            refine c1.out.mono ?_
            rintro e w' ⟨rfl, rfl⟩
            go_wp2_with fail
            go_loop [4] (fun i => ∃ t : Nat, k ≤ t ∧ t < n ∧ i = .int .i64 t ∧ Hid (Run5 z f (t + 1))) (fun i => n - (intOf i).toNat)
            case atStart => exact ⟨k, Nat.le_refl _, hkn, rfl, hrun⟩
            case round =>
              obtain ⟨t, hkt, htn, rfl, hrunt⟩ := hrel
              have c2 := hide (at_any (some ⟨g, 0, none⟩) n c z ((t : Int) + 1) wo hownr.rd)
              obtain ⟨b, hb⟩ : ∃ b, Hid (atN z ((t : Int) + 1) = b) := ⟨_, rfl⟩
              rw [hb.out] at c2
              by_cases hb5 : (b == 5) = true
              · have e5 : b = 5 := eq_of_beq hb5
                subst e5
                have hup := hide (run5_up hrunt.out hb.out)
                have htl : t + 1 < n := by have := hup.out.2; rw [hzl.out] at this; exact this
                go_wp2_with fail
                refine c2.out.mono ?_
                rintro e w' ⟨rfl, rfl⟩
                go_wp2_with fail
                go_round
                case rel => exact ⟨t + 1, by omega, htl, by go_num, hide hup.out.1⟩
                case measure => simp [intOf]; omega
              · have hb5' : (b == 5) = false := by simpa using hb5
                clear hb5
                go_wp2_with fail
                refine c2.out.mono ?_
                rintro e w' ⟨rfl, rfl⟩
                go_wp2_with fail
                by_cases hn3 : (a == 3) = true ∨ (b == 3) = true
                · have hfin := hide (hw5.out.near (f := f) (t := t + 1) ⟨by omega, by omega⟩ hrunt.out (by rw [hzl.out]; omega) (by rw [ha.out]; simpa using ha5') (by rw [Int.natCast_add, Int.cast_ofNat_Int, hb.out]; simpa using hb5') (by rw [ha.out, Int.natCast_add, Int.cast_ofNat_Int, hb.out]; simpa using hn3))
                  have hca : (a == 3) = true ∨ ((a == 3) = false ∧ (b == 3) = true) := by
                    rcases hn3 with h | h
                    · exact .inl h
                    · by_cases h3 : (a == 3) = true
                      · exact .inl h3
                      · exact .inr ⟨by simpa using h3, h⟩
                  clear hn3
                  have hfl : ∀ j, f + j ≤ t → Hid (fill3 z f (j + 1) = (fill3 z f j).set (f + j) 3) := fun j hj => hide (fill3_step (by rw [hzl.out]; omega))
                  have hf0 := hide (fill3_zero z f)
                  rw [show t + 1 - f = t - f + 1 by omega] at hfin
                  rcases hca with ha3 | ⟨ha3, hb3⟩
                  all_goals
                    refine c1.out.mono ?_
                    rintro e w' ⟨rfl, rfl⟩
                    go_wp2_with fail
                  all_goals try (refine c2.out.mono ?_; rintro e w' ⟨rfl, rfl⟩; go_wp2_with fail)
                  all_goals
                    go_loopw [5] (fun i wr => ∃ j : Nat, f + j ≤ t + 1 ∧ i = .int .i64 ((f + j : Nat) : Int) ∧ Own B 5 .u8 wr (some ⟨g, 0, none⟩) n c (fill3 z f j) ∧ w.grownBy wr (Value.slice (some ⟨g, 0, none⟩) n c).ownBlock) (fun i _ => n - (intOf i).toNat)
                    case atStart => exact ⟨0, by omega, rfl, by rw [hf0.out]; exact hownr, hgr⟩
                    case round =>
                      obtain ⟨j, hj, rfl, hownj, hgj⟩ := hrel
                      by_cases hjt : f + j ≤ t
                      · obtain ⟨g', y, hgg, _, hgl', hy, hck', hfk'⟩ := hownj.at_ (show f + j < n by omega)
                        clear hck hfk
                        obtain rfl : g = g' := by injection hgg with h; injection h
                        clear hgg
                        go_wp2
                        go_roundw
                        case rel => exact ⟨j + 1, by omega, by go_num, by rw [(hfl j hjt).out]; exact hownj.set_ (f + j) 3, grown_setCell (p := ⟨g, f + j, none⟩) hgj (.inl rfl) _⟩
                        case measure => simp [intOf]; omega
                      · obtain rfl : j = t - f + 1 := by omega
                        go_wp2
                        go_roundw
                        case rel => exact ⟨k + 1, _, by omega, by go_num, hownj, hfin, hgj⟩
                        case measure => simp [intOf]; omega
                · simp only [not_or, Bool.not_eq_true] at hn3
                  obtain ⟨ha3, hb3⟩ := hn3
                  have hfin := hide (hw5.out.far (f := f) (t := t + 1) ⟨by omega, by omega⟩ hrunt.out (by rw [hzl.out]; omega) (by rw [ha.out]; simpa using ha5') (by rw [Int.natCast_add, Int.cast_ofNat_Int, hb.out]; simpa using hb5') (by rw [ha.out, Int.natCast_add, Int.cast_ofNat_Int, hb.out]; exact ⟨by simpa using ha3, by simpa using hb3⟩))
                  refine c1.out.mono ?_
                  rintro e w' ⟨rfl, rfl⟩
                  go_wp2_with fail
                  refine c2.out.mono ?_
                  rintro e w' ⟨rfl, rfl⟩
                  go_wp2_with fail
                  go_roundw
                  case rel => exact ⟨k + 1, z, by omega, by go_num, hownr, hfin, hgr⟩
                  case measure => simp [intOf]; omega
      · have h5' : (x == 5) = false := by simpa using h5
        clear h5
        go_wp2
        go_roundw
        case rel => exact ⟨k + 1, z, by omega, by go_num, hownr, hide (hw5.out.pass hz.out h5'), hgr⟩
        case measure => simp [intOf]; omega
    · obtain rfl : k = n := by omega
      clear hkn
      go_wp2
      go_end0
      have e := hw5.out.fin hln.out.symm
      rw [e] at hownr
      exact ⟨rfl, hownr, hgr⟩
end Go.Proofs.Ytmbjdchknjollaa

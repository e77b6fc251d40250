/-
  The reference of layer 19: way, Paragraph.
-/
import Derived.Test.YtaojjneajiobnaaRfC
namespace Go.Proofs.Ytaojjneajiobnaa
open Go.RowKit

theorem strong_skip : ∀ (xs : List Int) (d : Nat) (R rest : List Int), xs = upto d xs ++ 22 :: rest → strongS (d + 1) (upto d xs ++ 22 :: R) = strongS 0 R
  | [], d, R, rest, h => by simp [upto] at h
  | c :: cs, d, R, rest, h => by
    by_cases ho : opS c = true
    · rw [upto_o ho] at h ⊢
      rw [List.cons_append, strong_o ho]
      exact strong_skip cs (d + 1) R rest (by rw [List.cons_append] at h; injection h)
    · have ho' : opS c = false := by simpa using ho
      by_cases h22 : c = 22
      · subst h22
        cases d with
        | zero => rw [upto_z, List.nil_append, strong_p]
        | succ d =>
          rw [upto_p] at h ⊢
          rw [List.cons_append, strong_p]
          exact strong_skip cs d R rest (by rw [List.cons_append] at h; injection h)
      · rw [upto_n ho' h22] at h ⊢
        rw [List.cons_append, strong_deep ho' h22 (by omega)]
        exact strong_skip cs d R rest (by rw [List.cons_append] at h; injection h)
theorem strong_lost : ∀ (xs : List Int) (d : Nat), strongS (d + 1) (upto d xs) = (false, false)
  | [], d => by simp [upto, strongS]
  | c :: cs, d => by
    by_cases ho : opS c = true
    · rw [upto_o ho, strong_o ho]; exact strong_lost cs (d + 1)
    · have ho' : opS c = false := by simpa using ho
      by_cases h22 : c = 22
      · subst h22
        cases d with
        | zero => rw [upto_z]; simp [strongS]
        | succ d => rw [upto_p, strong_p]; exact strong_lost cs d
      · rw [upto_n ho' h22, strong_deep ho' h22 (by omega)]; exact strong_lost cs d
theorem slice_at {cl : List Int} {t k : Nat} {z : Int} (hz : cl[k]? = some z) (ht : k < t) : (cl.take t).drop k = z :: (cl.take t).drop (k + 1) :=
  drop_at (by rw [List.getElem?_take, if_pos ht]; exact hz)
theorem skip_end {cl : List Int} {t k e : Nat} {z : Int} (hz : cl[k]? = some z) (h : MEnds cl k z (e : Int) e) (he : e < t) (hm : (matchS cl)[k]? = some (e : Int)) : strongS 0 ((cl.take t).drop k) = strongS 0 ((cl.take t).drop (e + 1)) := by
  obtain ⟨ho, _, h3, h4, h5, _⟩ := h
  have hk : k < cl.length := (List.getElem?_eq_some_iff.1 hz).1
  have hw := within (cl := cl) (j := k) hk (by rw [getD_of hz]; exact ho)
  rw [getD_of hm, Int.toNat_natCast] at hw
  have h6 : cl.drop (k + 1) = upto 0 (cl.drop (k + 1)) ++ 22 :: cl.drop (e + 1) := by
    rw [← hw, ← drop_at h5]
    have h7 : cl.drop e = (cl.drop (k + 1)).drop (e - (k + 1)) := by rw [List.drop_drop]; congr 1; omega
    have h8 : (cl.take e).drop (k + 1) = (cl.drop (k + 1)).take (e - (k + 1)) := by rw [List.drop_take]
    rw [h7, h8, List.take_append_drop]
  have h9 : (cl.take t).drop (k + 1) = upto 0 (cl.drop (k + 1)) ++ 22 :: (cl.take t).drop (e + 1) := by
    rw [← hw, ← slice_at h5 he]
    have h7 : (cl.take t).drop e = ((cl.take t).drop (k + 1)).drop (e - (k + 1)) := by rw [List.drop_drop]; congr 1; omega
    have h8 : (cl.take e).drop (k + 1) = ((cl.take t).drop (k + 1)).take (e - (k + 1)) := by
      rw [List.drop_take, List.drop_take, List.take_take, Nat.min_eq_left (by omega)]
    rw [h7, h8, List.take_append_drop]
  rw [slice_at hz (by omega), strong_o ho, h9]
  exact strong_skip _ 0 _ _ h6
theorem skip_lost {cl : List Int} {k : Nat} {z : Int} (hz : cl[k]? = some z) (ho : opS z = true) (hm : (matchS cl)[k]? = some (cl.length : Int)) : strongS 0 ((cl.take cl.length).drop k) = (false, false) := by
  have hk : k < cl.length := (List.getElem?_eq_some_iff.1 hz).1
  have hw := within (cl := cl) (j := k) hk (by rw [getD_of hz]; exact ho)
  rw [getD_of hm, Int.toNat_natCast] at hw
  rw [slice_at hz hk, strong_o ho, hw]
  exact strong_lost _ 0

/-- what way answers -/
def wayV (p : Bool × Bool) : Int := if p.2 then (if p.1 then 1 else 0) else -1
set_option maxRecDepth 100000 in
set_option maxHeartbeats 4000000 in
theorem way_any (A A2 : Option Addr) (n c c2 f t : Nat) (l : List Int) (w : World) (hr : Rd .u8 w A n l) (hr2 : Rd .i64 w A2 n (matchS l)) (hn : n ≤ 1000000) (ht : t ≤ n) (hf : f ≤ n)
    (hctx : ∀ (k : Nat) (mk : Int), f ≤ k → k < t → (matchS l)[k]? = some mk → 0 ≤ mk → mk < t ∨ t = n) :
    Calls Try.prog 43 #[.slice A n c, .slice A2 n c2, .int .i64 f, .int .i64 t] w fun e w' => e = .returned (.int .i64 (wayV (strongS 0 ((l.take t).drop f)))) ∧ w = w' := by
  have hln := hide hr.len
  have HC := hide hctx
  clear hctx
  go_enter Try.func43, Try.ntmps43
  go_wp2_with fail
  go_loop [9] (fun i => ∃ k : Nat, f ≤ k ∧ k ≤ n + 1 ∧ i = .int .i64 ((k : Nat) : Int) ∧ Hid (strongS 0 ((l.take t).drop f) = strongS 0 ((l.take t).drop k))) (fun i => n + 2 - (intOf i).toNat)
  case atStart => exact ⟨f, Nat.le_refl _, by omega, rfl, hide rfl⟩
  case round =>
    obtain ⟨k, hfk, hkn, rfl, hI⟩ := hrel
    by_cases hkt : k < t
    · have t0 : decide ((k : Int) < (t : Int)) = true := by simp; omega
      obtain ⟨b, off, z, rfl, hbw, hz, hck⟩ := hr.at_ (show k < n by omega)
      obtain ⟨b2, off2, mk, rfl, hbw2, hz2, hck2⟩ := hr2.at_ (show k < n by omega)
      have q1 : (k : Int) < (n : Int) := by omega
      have q2 : (0 : Int) ≤ (k : Int) := by omega
      rcases match_cases hz.out hz2.out with hm | ⟨e, hm⟩ | hm
      · obtain ⟨ho, hmk⟩ := hm
        obtain rfl : mk = (n : Int) := by rw [hmk, hln.out]
        have htn : t = n := by
          rcases HC.out k _ hfk hkt hz2.out (by omega) with h | h
          · omega
          · exact h
        subst htn
        have hE := hide (show strongS 0 ((l.take t).drop f) = strongS 0 ((l.take t).drop (t + 1)) by
          rw [hI.out, show (l.take t).drop (t + 1) = [] from List.drop_eq_nil_of_le (by rw [List.length_take]; omega), show t = l.length by rw [hln.out], skip_lost hz.out ho (by rw [hz2.out, hln.out])]; simp [strongS])
        have hO := hide ho
        clear ho hmk hI
        go_wp2_with fail
        refine (op41 z _).mono ?_
        rintro e w' ⟨rfl, rfl⟩
        rw [hO.out]
        go_wp2_with fail
        go_round
        case rel => exact ⟨t + 1, by omega, by omega, by go_num, hE⟩
        case measure => simp [intOf]; omega
      · obtain rfl : mk = (e : Int) := hm.2.1
        have het : e < t := by
          rcases HC.out k _ hfk hkt hz2.out (by omega) with h | h
          · omega
          · have := hm.2.2.2.1; rw [hln.out] at this; omega
        have hke := hm.2.2.1
        have hE := hide (hI.out.trans (skip_end hz.out hm het hz2.out))
        have hO := hide hm.1
        clear hm hI
        go_wp2_with fail
        refine (op41 z _).mono ?_
        rintro e2 w' ⟨rfl, rfl⟩
        rw [hO.out]
        go_wp2_with fail
        go_round
        case rel => exact ⟨e + 1, by omega, by omega, by go_num, hE⟩
        case measure => simp [intOf]; omega
      · have ho : opS z = false := by
          rcases hm with ⟨q, hm⟩ | hm
          · exact hm.1
          · exact hm.1
        have hO := hide ho
        have hsl := hide (slice_at hz.out hkt)
        have hz3 : z = 0 ∨ z = 1 ∨ z = 2 ∨ ((z == 0) = false ∧ (z == 1) = false ∧ (z == 2) = false ∧ Hid (strongS 0 (z :: (l.take t).drop (k + 1)) = strongS 0 ((l.take t).drop (k + 1)))) := by
          rcases strong_cases z with h | h | h | h | h | ⟨h1, h2, h3, h4, h5⟩
          · rw [ho] at h; cases h
          · subst h; exact .inr (.inr (.inr ⟨rfl, rfl, rfl, hide strong_p⟩))
          · exact .inl h
          · exact .inr (.inl h)
          · exact .inr (.inr (.inl h))
          · exact .inr (.inr (.inr ⟨h3, h4, h5, hide (strong_n h1 h2 h3 h4 h5)⟩))
        clear hm ho
        rcases hz3 with rfl | rfl | rfl | ⟨e0, e1, e2, e3⟩
        · go_wp2_with fail
          refine (op41 0 _).mono ?_
          rintro e w' ⟨rfl, rfl⟩
          rw [hO.out]
          go_wp2_with fail
          go_ret
          exact ⟨by rw [hI.out, hsl.out, strong_0]; rfl, rfl⟩
        · go_wp2_with fail
          refine (op41 1 _).mono ?_
          rintro e w' ⟨rfl, rfl⟩
          rw [hO.out]
          go_wp2_with fail
          go_ret
          exact ⟨by rw [hI.out, hsl.out, strong_1]; rfl, rfl⟩
        · go_wp2_with fail
          refine (op41 2 _).mono ?_
          rintro e w' ⟨rfl, rfl⟩
          rw [hO.out]
          go_wp2_with fail
          go_ret
          exact ⟨by rw [hI.out, hsl.out, strong_2]; rfl, rfl⟩
        · go_wp2_with fail
          refine (op41 z _).mono ?_
          rintro e w' ⟨rfl, rfl⟩
          rw [hO.out]
          go_wp2_with fail
          go_round
          case rel => exact ⟨k + 1, by omega, by omega, by go_num, hide (by rw [hI.out, hsl.out, e3.out])⟩
          case measure => simp [intOf]; omega
    · have t0 : decide ((k : Int) < (t : Int)) = false := by simp; omega
      have e : (l.take t).drop k = [] := List.drop_eq_nil_of_le (by rw [List.length_take]; omega)
      rw [e] at hI
      clear e
      go_wp2_with fail
      go_ret
      exact ⟨by rw [hI.out]; rfl, rfl⟩

theorem wayV_one (p : Bool × Bool) (hp : p.2 = false → p = (false, false)) : (wayV p == 1) = p.1 := by
  obtain ⟨a, b⟩ := p
  cases a <;> cases b
  · rfl
  · rfl
  · have := hp rfl; simp at this
  · rfl
theorem strong_tell : ∀ (xs : List Int) (d : Nat), (strongS d xs).2 = false → strongS d xs = (false, false)
  | [], d, _ => by simp [strongS]
  | c :: cs, d, h => by
    unfold strongS at h ⊢
    split
    · rename_i h1; rw [if_pos h1] at h; exact strong_tell cs _ h
    · rename_i h1
      rw [if_neg h1] at h
      split
      · rename_i h2; rw [if_pos h2] at h; exact strong_tell cs _ h
      · rename_i h2
        rw [if_neg h2] at h
        split
        · rename_i h3; rw [if_pos h3] at h; exact strong_tell cs _ h
        · rename_i h3
          rw [if_neg h3] at h
          split
          · rename_i h4; rw [if_pos h4] at h; simp at h
          · rename_i h4
            rw [if_neg h4] at h
            split
            · rename_i h5; rw [if_pos h5] at h; simp at h
            · rename_i h5; rw [if_neg h5] at h; exact strong_tell cs _ h
set_option maxRecDepth 100000 in
set_option maxHeartbeats 4000000 in
theorem refpar_any (A : Option Addr) (n c : Nat) (l : List Int) (auto rtl : Bool) (w : World) (hr : Rd .i32 w A n l) (h32 : I32 l) (hn : n ≤ 1000000) :
    Calls Try.prog 20 #[.slice A n c, .bool auto, .bool rtl] w (RetU8 (parS l auto rtl) w) := by
  cases auto
  · cases rtl
    all_goals
      go_enter Try.func20, Try.ntmps20
      go_wp2_with fail
      go_ret
      exact ⟨rfl, Below.refl _ _⟩
  · have hl := hide hr.len
    go_enter Try.func20, Try.ntmps20
    go_wp2_with fail
    refine (refclasses_any A n c l w hr h32 hn).mono ?_
    rintro e w1 ⟨A1, c1, rfl, hown, hb⟩
    have e1 : (l.map cls).length = n := by rw [List.length_map, hl.out]
    have e2 : (matchS (l.map cls)).length = n := by rw [match_len, e1]
    rw [e1] at hown ⊢
    have E1 := hide e1
    have E2 := hide e2
    clear e1 e2
    go_wp2_with fail
    refine (refmatch_any A1 n c1 _ w1 hown.rd hn).mono ?_
    rintro e w2 ⟨A2, c2, rfl, hown2, hb2⟩
    rw [E2.out] at hown2 ⊢
    go_wp2_with fail
    refine (way_any A1 A2 n c1 c2 0 n (l.map cls) w2 (hown.rd.below hb2) hown2.rd hn (Nat.le_refl _) (Nat.zero_le _) (fun _ _ _ _ _ _ => .inr rfl)).mono ?_
    rintro e w3 ⟨rfl, rfl⟩
    have h0 : (List.take n (l.map cls)).drop 0 = l.map cls := by rw [List.drop_zero, List.take_of_length_le (by rw [E1.out]; exact Nat.le_refl _)]
    rw [h0]
    have hp := hide (show parS l true rtl = bit (strongS 0 (l.map cls)).1 from rfl)
    have hv := wayV_one (strongS 0 (l.map cls)) (strong_tell _ 0)
    have hb3 := hb.trans (hb2.mono hb.size)
    clear hown hown2 h0 E1 E2
    generalize strongS 0 (l.map cls) = s at *
    generalize wayV s = v at *
    obtain ⟨s1, s2⟩ := s
    simp only at hv
    cases s1
    all_goals
      go_wp2_with fail
      go_ret
      exact ⟨by rw [hp.out]; rfl, hb3⟩
end Go.Proofs.Ytaojjneajiobnaa

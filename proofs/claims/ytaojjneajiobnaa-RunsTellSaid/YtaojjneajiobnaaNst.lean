/-
  Isolates nest: behind an isolate's end the state is what it was ahead of its beginning, and what stands within is told by what comes behind the beginning alone.
-/
import Derived.Test.YtaojjneajiobnaaAwL
import Derived.Test.YtaojjneajiobnaaMatN
namespace Go.Proofs.Ytaojjneajiobnaa

/-- a state reached from S by what opens an isolate, d isolates further in -/
def Deep (S : PS) (d : Nat) (s : PS) : Prop :=
  (s.stk = S.stk ∧ s.nw = S.nw ∧ s.em = S.em ∧ s.is = S.is + 1 + d) ∨
  (S.is = 0 ∧ S.em = 0 ∧ ∃ inner lv, s.stk = inner ++ ⟨lv, 13, true⟩ :: S.stk ∧ inner.countP (fun e => e.iso) + s.is = d ∧ s.nw = S.nw + 1 + inner.countP (fun e => e.iso))
theorem ps_eq {s t : PS} (h1 : s.stk = t.stk) (h2 : s.is = t.is) (h3 : s.em = t.em) (h4 : s.nw = t.nw) : s = t := by
  cases s; cases t; simp_all
theorem deep_new (S : PS) (left : Bool) : Deep S 0 (openS S left) := by
  by_cases hc : 125 < nextS S.top.lv left ∨ 0 < S.is + S.em
  · rw [open_no hc]; exact .inl ⟨rfl, rfl, rfl, rfl⟩
  · rw [open_yes hc, push_yes hc]
    exact .inr ⟨by omega, by omega, [], nextS S.top.lv left, rfl, by simp; omega, by simp⟩
theorem deep_embed {S s : PS} {d : Nat} (h : Deep S d s) (x : Int) : Deep S d (embedS s x) := by
  by_cases hc : 125 < nextS s.top.lv (x == 15 || x == 18) ∨ 0 < s.is + s.em
  · by_cases hi : s.is = 0
    · rw [embed_no0 hc hi]
      rcases h with ⟨_, _, _, h4⟩ | ⟨h1, h2, inner, lv, h3, h4, h5⟩
      · omega
      · exact .inr ⟨h1, h2, inner, lv, h3, h4, h5⟩
    · rw [embed_no1 hc hi]; exact h
  · rw [embed_yes hc, push_yes hc]
    rcases h with ⟨_, _, _, h4⟩ | ⟨h1, h2, inner, lv, h3, h4, h5⟩
    · omega
    · exact .inr ⟨h1, h2, ⟨nextS s.top.lv (x == 15 || x == 18), if x = 17 then 0 else if x = 18 then 1 else 13, false⟩ :: inner, lv, by simp only [h3, List.cons_append], by simpa [List.countP_cons] using h4, by simpa [List.countP_cons] using h5⟩
theorem deep_end {S s : PS} {d : Nat} (h : Deep S d s) : Deep S d (endS s) := by
  by_cases h1 : 0 < s.is
  · rw [end_a h1]; exact h
  · rcases h with ⟨_, _, _, h4⟩ | ⟨g1, g2, inner, lv, g3, g4, g5⟩
    · omega
    · by_cases h2 : 0 < s.em
      · rw [end_b h1 h2]; exact .inr ⟨g1, g2, inner, lv, g3, g4, g5⟩
      · by_cases hc : s.top.iso = false ∧ 1 < s.stk.length
        · rw [end_e h1 h2 hc]
          cases inner with
          | nil =>
            have := hc.1
            unfold PS.top at this
            rw [g3] at this
            simp at this
          | cons a inner =>
            have ha : a.iso = false := by
              have := hc.1
              unfold PS.top at this
              rw [g3] at this
              simpa using this
            refine .inr ⟨g1, g2, inner, lv, by simp [g3], ?_, ?_⟩
            · rw [List.countP_cons, ha] at g4; simpa using g4
            · rw [List.countP_cons, ha] at g5; simpa using g5
        · rw [end_c h1 h2 hc]; exact .inr ⟨g1, g2, inner, lv, g3, g4, g5⟩
theorem deep_open {S s : PS} {d : Nat} (h : Deep S d s) (left : Bool) : Deep S (d + 1) (openS s left) := by
  by_cases hc : 125 < nextS s.top.lv left ∨ 0 < s.is + s.em
  · rw [open_no hc]
    rcases h with ⟨h1, h2, h3, h4⟩ | ⟨g1, g2, inner, lv, g3, g4, g5⟩
    · exact .inl ⟨h1, h2, h3, by simp only; omega⟩
    · exact .inr ⟨g1, g2, inner, lv, g3, by simp only; omega, g5⟩
  · rw [open_yes hc, push_yes hc]
    rcases h with ⟨h1, h2, h3, h4⟩ | ⟨g1, g2, inner, lv, g3, g4, g5⟩
    · omega
    · exact .inr ⟨g1, g2, ⟨nextS s.top.lv left, 13, true⟩ :: inner, lv, by simp only [g3, List.cons_append], by simp only [List.countP_cons, if_true]; omega, by simp only [List.countP_cons, if_true]; omega⟩
theorem deep_close {S s : PS} {d : Nat} (h : Deep S (d + 1) s) : Deep S d (closeS s) := by
  by_cases h1 : 0 < s.is
  · rw [close_a h1]
    rcases h with ⟨h1, h2, h3, h4⟩ | ⟨g1, g2, inner, lv, g3, g4, g5⟩
    · exact .inl ⟨h1, h2, h3, by simp only; omega⟩
    · exact .inr ⟨g1, g2, inner, lv, g3, by simp only; omega, g5⟩
  · rcases h with ⟨_, _, _, h4⟩ | ⟨g1, g2, inner, lv, g3, g4, g5⟩
    · omega
    · rw [close_b h1 (by omega)]
      obtain ⟨pre, t, rest, h3, h4, h5, h6⟩ := drop_iso (stk := inner) (by omega)
      have hcp : pre.countP (fun e => e.iso) = 0 := List.countP_eq_zero.2 (fun e he => by rw [h4 e he]; decide)
      have hci : inner.countP (fun e => e.iso) = rest.countP (fun e => e.iso) + 1 := by
        rw [h3, List.countP_append, List.countP_cons, h5, hcp]; simp
      have hd : s.stk.dropWhile (fun e => !e.iso) = t :: (rest ++ ⟨lv, 13, true⟩ :: S.stk) := by
        rw [g3, h3, List.append_assoc, List.dropWhile_append_of_pos (by intro e he; simp [h4 e he]), List.cons_append, List.dropWhile_cons, h5]
        simp
      refine .inr ⟨g1, g2, rest, lv, by simp only [hd, List.tail_cons], by simp only; omega, by simp only; omega⟩
theorem deep_last {S s : PS} (h : Deep S 0 s) : closeS s = S := by
  by_cases h1 : 0 < s.is
  · rw [close_a h1]
    rcases h with ⟨h1, h2, h3, h4⟩ | ⟨g1, g2, inner, lv, g3, g4, g5⟩
    · exact ps_eq h1 (by simp only; omega) h3 h2
    · omega
  · rcases h with ⟨_, _, _, h4⟩ | ⟨g1, g2, inner, lv, g3, g4, g5⟩
    · omega
    · rw [close_b h1 (by omega)]
      have hi : ∀ e ∈ inner, e.iso = false := fun e he => by
        have := List.countP_eq_zero.1 (show inner.countP (fun e => e.iso) = 0 by omega) e he
        simpa using this
      refine ps_eq ?_ (by simp only; omega) (by simp only; omega) (by simp only; omega)
      simp only [g3]
      rw [List.dropWhile_append_of_pos (by intro e he; simp [hi e he]), List.dropWhile_cons]
      simp

/-! ### a step -/
theorem opS_in {x : Int} : opS x = true ↔ x = 19 ∨ x = 20 ∨ x = 21 := by unfold opS; simp; omega
theorem step_open (f : Bool) (s : PS) {x : Int} (h : opS x = true) : stepS f s x = (openS s (x == 20 || (x == 21 && f)), s.top.lv, asS s x) := by
  have := opS_in.1 h
  unfold stepS
  rw [if_neg (by omega), if_neg (by omega), if_pos this]
theorem step_close (f : Bool) (s : PS) : stepS f s 22 = (closeS s, (closeS s).top.lv, asS (closeS s) 22) := rfl
theorem deep_step {S s : PS} {d : Nat} (h : Deep S d s) (f : Bool) {x : Int} (ho : opS x = false) (h22 : x ≠ 22) : Deep S d (stepS f s x).1 := by
  have hn : ¬ (x = 19 ∨ x = 20 ∨ x = 21) := fun e => by rw [opS_in.2 e] at ho; cases ho
  unfold stepS
  split
  · exact deep_embed h x
  · split
    · exact deep_end h
    · first
        | rw [if_neg hn, if_neg h22]
        | skip
      split
      · exact h
      · split <;> exact h

/-! ### what stands within -/
/-- up to what ends an isolate that is open ahead, d isolates further in -/
def upto : Nat → List Int → List Int
  | _, [] => []
  | d, c :: cs => if opS c then c :: upto (d + 1) cs else if c = 22 then (match d with | 0 => [] | d + 1 => c :: upto d cs) else c :: upto d cs
theorem upto_o {d : Nat} {c : Int} {cs : List Int} (h : opS c = true) : upto d (c :: cs) = c :: upto (d + 1) cs := by simp [upto, h]
theorem upto_z {cs : List Int} : upto 0 (22 :: cs) = [] := by simp [upto, opS]
theorem upto_p {d : Nat} {cs : List Int} : upto (d + 1) (22 :: cs) = 22 :: upto d cs := by simp [upto, opS]
theorem upto_n {d : Nat} {c : Int} {cs : List Int} (h : opS c = false) (h22 : c ≠ 22) : upto d (c :: cs) = c :: upto d cs := by simp [upto, h, h22]
theorem take_drop_step {l : List Int} {q k : Nat} {c : Int} (hc : l[k]? = some c) (hq : q < k) : (l.take (k + 1)).drop (q + 1) = (l.take k).drop (q + 1) ++ [c] := by
  obtain ⟨hk, rfl⟩ := List.getElem?_eq_some_iff.1 hc
  rw [List.take_succ_eq_append_getElem hk, List.drop_append_of_le_length (by simp; omega)]

/-- what holds behind k places -/
structure NInv (cl : List Int) (base : Int) (k : Nat) (s : List Int × List Int) : Prop where
  op : ∀ a q : Nat, s.2[a]? = some (q : Int) → Deep (expSt cl base q).1 (s.2.length - 1 - a) (expSt cl base k).1 ∧ upto 0 (cl.drop (q + 1)) = (cl.take k).drop (q + 1) ++ upto (s.2.length - 1 - a) (cl.drop k)
  closed : ∀ j e : Nat, j < k → opS (cl.getD j 0) = true → (j : Int) ∉ s.2 → s.1.getD j 0 = e → (expSt cl base (e + 1)).1 = (expSt cl base j).1 ∧ upto 0 (cl.drop (j + 1)) = (cl.take e).drop (j + 1)
theorem nInv (cl : List Int) (base : Int) : ∀ k, k ≤ cl.length → NInv cl base k (mSt cl k)
  | 0, _ => ⟨fun a q h => by simp [mSt] at h, fun j e hj => by omega⟩
  | k + 1, hk => by
    have ih := nInv cl base k (by omega)
    have ii := mInv cl k (by omega)
    have hck : cl[k]? = some (cl.getD k 0) := of_getD (by omega)
    have hst : (expSt cl base (k + 1)).1 = (stepS (fsiAt cl k) (expSt cl base k).1 (cl.getD k 0)).1 := rfl
    show NInv cl base (k + 1) (mStep cl.length (mSt cl k) k (cl.getD k 0))
    generalize hc : cl.getD k 0 = c at *
    have hdr := drop_at hck
    have hks : k < (mSt cl k).1.length := by rw [ii.len]; omega
    generalize mSt cl k = s at ih ii hks ⊢
    have hqk : ∀ a q : Nat, s.2[a]? = some (q : Int) → q < k := fun a q h => by
      obtain ⟨j, e, h1, _⟩ := ii.op a q h; omega
    by_cases ho : opS c = true
    · rw [mStep_o ho]
      refine ⟨fun a q h => ?_, fun j e hj hoj hnj he => ?_⟩
      · simp only [List.length_append, List.length_singleton] at h ⊢
        rcases Nat.lt_or_ge a s.2.length with ha | ha
        · rw [List.getElem?_append_left ha] at h
          obtain ⟨h1, h2⟩ := ih.op a q h
          rw [show s.2.length + 1 - 1 - a = (s.2.length - 1 - a) + 1 by omega, hst, step_open _ _ ho]
          refine ⟨deep_open h1 _, ?_⟩
          rw [h2, hdr, upto_o ho, take_drop_step hck (hqk a q h), List.append_assoc]; rfl
        · have ha0 : a = s.2.length := by
            rcases Nat.lt_or_ge s.2.length a with h0 | h0
            · rw [List.getElem?_eq_none (by simp; omega)] at h; cases h
            · omega
          subst ha0
          have hq : q = k := by simp at h; omega
          subst hq
          rw [show s.2.length + 1 - 1 - s.2.length = 0 by omega, hst, step_open _ _ ho]
          refine ⟨deep_new _ _, ?_⟩
          rw [List.drop_eq_nil_of_le (show (cl.take (q + 1)).length ≤ q + 1 by rw [List.length_take]; omega)]; rfl
      · have hjk : j ≠ k := by rintro rfl; exact hnj (by simp)
        have hnj' : (j : Int) ∉ s.2 := fun h => hnj (List.mem_append.2 (.inl h))
        simp only at he
        rw [getD_set _ _ _ _ hks, if_neg (by omega)] at he
        exact ih.closed j e (by omega) hoj hnj' he
    · have ho' : opS c = false := by simpa using ho
      by_cases hz : c = 22 ∧ s.2 ≠ []
      · obtain ⟨rfl, hne⟩ := hz
        obtain ⟨m, hm⟩ : ∃ m, s.2.length = m + 1 := ⟨s.2.length - 1, by have := List.length_pos_iff.2 hne; omega⟩
        have hlast := List.getElem?_eq_getElem (l := s.2) (i := m) (by omega)
        obtain ⟨q, hq, hqk', _⟩ := ii.op m _ hlast
        rw [hq] at hlast
        rw [mStep_p hm hlast]
        have hqs : q < (s.1.set k (q : Int)).length := by simp; omega
        obtain ⟨l1, l2⟩ := ih.op m q hlast
        rw [show s.2.length - 1 - m = 0 by omega] at l1 l2
        refine ⟨fun a p h => ?_, fun j e hj hoj hnj he => ?_⟩
        · simp only [List.getElem?_take, List.length_take] at h ⊢
          split at h
          next ha =>
            obtain ⟨h1, h2⟩ := ih.op a p h
            rw [show s.2.length - 1 - a = (min m s.2.length - 1 - a) + 1 by omega] at h1 h2
            rw [hst, step_close]
            refine ⟨deep_close h1, ?_⟩
            rw [h2, hdr, upto_p, take_drop_step hck (hqk a p h), List.append_assoc]; rfl
          next => cases h
        · simp only at he
          rw [getD_set _ _ _ _ hqs, getD_set _ _ _ _ hks] at he
          by_cases hjq : q = j
          · subst hjq
            rw [if_pos rfl] at he
            obtain rfl : k = e := by omega
            rw [hst, step_close]
            refine ⟨deep_last l1, ?_⟩
            rw [l2, hdr, upto_z, List.append_nil]
          · rw [if_neg hjq] at he
            have hjk : j ≠ k := by rintro rfl; rw [hc, op_22] at hoj; cases hoj
            rw [if_neg (by omega)] at he
            refine ih.closed j e (by omega) hoj (fun h => hnj ?_) he
            obtain ⟨a, ha, hee⟩ := List.mem_iff_getElem.1 h
            have h2 : s.2[a]? = some (j : Int) := by rw [← hee]; exact List.getElem?_eq_getElem ha
            have ham : a < m := by
              rcases Nat.lt_or_ge a m with h | h
              · exact h
              · obtain rfl : a = m := by omega
                rw [hlast] at h2; injection h2 with h2; omega
            refine List.mem_of_getElem? (i := a) ?_
            simp only [List.getElem?_take, if_pos ham, h2]
      · have hstep : mStep cl.length s k c = (s.1.set k (-1), s.2) := by
          unfold mStep; rw [if_neg ho, if_neg hz]
        rw [hstep]
        refine ⟨fun a q h => ?_, fun j e hj hoj hnj he => ?_⟩
        · have h22 : c ≠ 22 := fun e => hz ⟨e, fun e2 => by simp [e2] at h⟩
          obtain ⟨h1, h2⟩ := ih.op a q h
          rw [hst]
          refine ⟨deep_step h1 _ ho' h22, ?_⟩
          rw [h2, hdr, upto_n ho' h22, take_drop_step hck (hqk a q h), List.append_assoc]; rfl
        · have hjk : j ≠ k := by rintro rfl; rw [hc] at hoj; exact ho hoj
          simp only at he
          rw [getD_set _ _ _ _ hks, if_neg (by omega)] at he
          exact ih.closed j e (by omega) hoj hnj he

/-- what an FSI looks at -/
theorem within {cl : List Int} {j : Nat} (hj : j < cl.length) (ho : opS (cl.getD j 0) = true) : (cl.take ((matchS cl).getD j 0).toNat).drop (j + 1) = upto 0 (cl.drop (j + 1)) := by
  have ni := nInv cl 0 cl.length (Nat.le_refl _)
  have mi := mInv cl cl.length (Nat.le_refl _)
  by_cases hop : (j : Int) ∈ (mSt cl cl.length).2
  · obtain ⟨a, ha, he⟩ := List.mem_iff_getElem.1 hop
    have h2 : (mSt cl cl.length).2[a]? = some (j : Int) := by rw [← he]; exact List.getElem?_eq_getElem ha
    obtain ⟨q, e, _, _, h4⟩ := mi.op a j h2
    obtain rfl : j = q := by omega
    obtain ⟨_, h5⟩ := ni.op a j h2
    show (cl.take ((mSt cl cl.length).1.getD j 0).toNat).drop (j + 1) = _
    rw [h4, h5, List.drop_eq_nil_of_le (Nat.le_refl cl.length), Int.toNat_natCast]
    simp [upto]
  · obtain ⟨e, h1, _⟩ := mi.closed j hj ho hop
    obtain ⟨_, h5⟩ := ni.closed j e hj ho hop h1
    show (cl.take ((mSt cl cl.length).1.getD j 0).toNat).drop (j + 1) = _
    rw [h1, h5, Int.toNat_natCast]
theorem fsi_eq {cl : List Int} {j : Nat} (hj : j < cl.length) (ho : opS (cl.getD j 0) = true) : fsiAt cl j = (strongS 0 (upto 0 (cl.drop (j + 1)))).1 := by
  unfold fsiAt; rw [within hj ho]
/-- behind what ends an isolate the state is what it was ahead of it -/
theorem back {cl : List Int} (base : Int) {i e : Nat} {c : Int} (hc : cl[i]? = some c) (h : MEnds cl i c (e : Int) e) : (expSt cl base (e + 1)).1 = (expSt cl base i).1 := by
  obtain ⟨h1, _, h3, h4, h5, h6, _⟩ := h
  have hi : i < cl.length := by omega
  have ni := nInv cl base cl.length (Nat.le_refl _)
  have mi := mInv cl cl.length (Nat.le_refl _)
  have ho : opS (cl.getD i 0) = true := by rw [getD_of hc]; exact h1
  have hop : (i : Int) ∉ (mSt cl cl.length).2 := by
    intro hop
    obtain ⟨a, ha, he⟩ := List.mem_iff_getElem.1 hop
    have h2 : (mSt cl cl.length).2[a]? = some (i : Int) := by rw [← he]; exact List.getElem?_eq_getElem ha
    obtain ⟨q, e', _, _, h7⟩ := mi.op a i h2
    obtain rfl : i = q := by omega
    rcases mi.pdi e h4 (getD_of h5) with ⟨g1, g2⟩ | ⟨p, g1, g2, g3, g4⟩
    · have := g2 i h3 ho; omega
    · have e1 : (matchS cl).getD e 0 = (i : Int) := getD_of h6
      have e2 : (matchS cl).getD e 0 = (p : Int) := g1
      obtain rfl : i = p := by omega
      omega
  obtain ⟨e', g1, _, _, _, g5, _⟩ := mi.closed i hi ho hop
  obtain rfl : e' = e := by
    have e1 : (matchS cl).getD e 0 = (i : Int) := getD_of h6
    rcases mi.pdi e h4 (getD_of h5) with ⟨k1, k2⟩ | ⟨p, k1, k2, k3, k4⟩
    · have : (matchS cl).getD e 0 = -1 := k1
      omega
    · have e2 : (matchS cl).getD e 0 = (p : Int) := k1
      obtain rfl : i = p := by omega
      omega
  exact (ni.closed i e' hi ho hop g1).1

/-! ### levels and classes, place by place -/
theorem exp_at {cl : List Int} {base : Int} {i : Nat} : ∀ k, i < k → (expSt cl base k).2.1[i]? = some (stepS (fsiAt cl i) (expSt cl base i).1 (cl.getD i 0)).2.1 ∧ (expSt cl base k).2.2[i]? = some (stepS (fsiAt cl i) (expSt cl base i).1 (cl.getD i 0)).2.2
  | 0, h => by omega
  | k + 1, h => by
    obtain ⟨l1, l2⟩ := exp_len cl base k
    simp only [expSt]
    rcases Nat.lt_or_ge i k with hik | hik
    · obtain ⟨h1, h2⟩ := exp_at (cl := cl) (base := base) k hik
      rw [List.getElem?_append_left (by omega), List.getElem?_append_left (by omega)]
      exact ⟨h1, h2⟩
    · obtain rfl : i = k := by omega
      rw [List.getElem?_append_right (by omega), List.getElem?_append_right (by omega), l1, l2, Nat.sub_self]
      exact ⟨rfl, rfl⟩
theorem levels_at {cl : List Int} {base : Int} {i : Nat} (h : i < cl.length) : (levelsS cl base)[i]? = some (stepS (fsiAt cl i) (expSt cl base i).1 (cl.getD i 0)).2.1 := (exp_at _ h).1
theorem classes_at {cl : List Int} {base : Int} {i : Nat} (h : i < cl.length) : (classesS cl base)[i]? = some (stepS (fsiAt cl i) (expSt cl base i).1 (cl.getD i 0)).2.2 := (exp_at _ h).2
theorem ends_level {cl : List Int} (base : Int) {i e : Nat} {c : Int} (hc : cl[i]? = some c) (h : MEnds cl i c (e : Int) e) : (levelsS cl base)[e]? = (levelsS cl base)[i]? := by
  have hb := back base hc h
  obtain ⟨h1, _, h3, h4, h5, _⟩ := h
  rw [levels_at h4, levels_at (show i < cl.length by omega), getD_of hc, getD_of h5, step_open _ _ h1, step_close]
  rw [show (expSt cl base (e + 1)).1 = closeS (expSt cl base e).1 by simp only [expSt, getD_of h5]; rfl] at hb
  rw [hb]
theorem levels_len (cl : List Int) (base : Int) : (levelsS cl base).length = cl.length := (exp_len cl base _).1
theorem classes_len (cl : List Int) (base : Int) : (classesS cl base).length = cl.length := (exp_len cl base _).2
end Go.Proofs.Ytaojjneajiobnaa

/-
  The plain law of isolates and their ends: they nest.
-/
import Derived.Test.YtaojjneajiobnaaMat
namespace Go.Proofs.Ytaojjneajiobnaa

/-- what holds of the row behind k places: o j is what stands at place j, op the open ones -/
structure MInv (l : List Int) (k : Nat) (s : List Int × List Int) : Prop where
  len : s.1.length = l.length
  /-- the open ones rise, are below k, open, and are told the end of all -/
  op : ∀ (a : Nat) (q : Int), s.2[a]? = some q → ∃ j : Nat, q = j ∧ j < k ∧ opS (l.getD j 0) = true ∧ s.1.getD j 0 = l.length
  rise : ∀ (a b : Nat) (p q : Int), a < b → s.2[a]? = some p → s.2[b]? = some q → p < q
  /-- who opens and is not open any more has an end -/
  closed : ∀ j : Nat, j < k → opS (l.getD j 0) = true → (j : Int) ∉ s.2 → ∃ e : Nat, s.1.getD j 0 = e ∧ j < e ∧ e < k ∧ l.getD e 0 = 22 ∧ s.1.getD e 0 = j ∧
    ∀ t : Nat, j < t → t < e → (0 ≤ s.1.getD t 0 → (j : Int) < s.1.getD t 0 ∧ s.1.getD t 0 < e) ∧ (s.1.getD t 0 < 0 → l.getD t 0 ≠ 22)
  /-- who ends -/
  pdi : ∀ j : Nat, j < k → l.getD j 0 = 22 → (s.1.getD j 0 = -1 ∧ ∀ q : Nat, q < j → opS (l.getD q 0) = true → s.1.getD q 0 < j) ∨
    ∃ q : Nat, s.1.getD j 0 = q ∧ q < j ∧ opS (l.getD q 0) = true ∧ s.1.getD q 0 = j
  other : ∀ j : Nat, j < k → opS (l.getD j 0) = false → l.getD j 0 ≠ 22 → s.1.getD j 0 = -1
  /-- between an open one and here -/
  inner : ∀ q : Nat, (q : Int) ∈ s.2 → ∀ t : Nat, q < t → t < k → (0 ≤ s.1.getD t 0 → (q : Int) < s.1.getD t 0) ∧ (s.1.getD t 0 < 0 → l.getD t 0 ≠ 22)

theorem getD_set (l : List Int) (i j : Nat) (v : Int) (hi : i < l.length) : (l.set i v).getD j 0 = if i = j then v else l.getD j 0 := by
  simp only [List.getD, List.getElem?_set]
  by_cases h : i = j
  · subst h; simp [hi]
  · simp [h]
theorem op_22 : opS 22 = false := rfl
theorem mInv (l : List Int) : ∀ k, k ≤ l.length → MInv l k (mSt l k)
  | 0, _ => by
    refine ⟨by simp [mSt], fun a q h => ?_, fun a b p q _ h _ => ?_, fun j hj => by omega, fun j hj => by omega, fun j hj => by omega, fun q h => ?_⟩
    · simp [mSt] at h
    · simp [mSt] at h
    · simp [mSt] at h
  | k + 1, hk => by
    have ih := mInv l k (by omega)
    show MInv l (k + 1) (mStep l.length (mSt l k) k (l.getD k 0))
    generalize hc : l.getD k 0 = c
    generalize mSt l k = s at ih ⊢
    have hks : k < s.1.length := by rw [ih.len]; omega
    have opk : ∀ q : Nat, (q : Int) ∈ s.2 → q < k ∧ opS (l.getD q 0) = true ∧ s.1.getD q 0 = l.length := by
      intro q hq
      obtain ⟨a, ha, he⟩ := List.mem_iff_getElem.1 hq
      obtain ⟨j, e, h1, h2, h3⟩ := ih.op a q (by rw [← he]; exact List.getElem?_eq_getElem ha)
      obtain rfl : q = j := by omega
      exact ⟨h1, h2, h3⟩
    by_cases ho : opS c = true
    · -- it opens
      rw [mStep_o ho]
      have hg : ∀ j, (s.1.set k (l.length : Int)).getD j 0 = if k = j then (l.length : Int) else s.1.getD j 0 := fun j => getD_set _ _ _ _ hks
      have hgo : ∀ j, j < k → (s.1.set k (l.length : Int)).getD j 0 = s.1.getD j 0 := fun j hj => by rw [hg, if_neg (by omega)]
      have hgk : (s.1.set k (l.length : Int)).getD k 0 = l.length := by rw [hg, if_pos rfl]
      have c22 : c ≠ 22 := by rintro rfl; rw [op_22] at ho; cases ho
      refine ⟨by simp [ih.len], ?_, ?_, ?_, ?_, ?_, ?_⟩
      · intro a q h
        rcases Nat.lt_or_ge a s.2.length with ha | ha
        · rw [List.getElem?_append_left ha] at h
          obtain ⟨j, e, h1, h2, h3⟩ := ih.op a q h
          exact ⟨j, e, by omega, h2, by show (s.1.set k _).getD j 0 = _; rw [hgo j h1, h3]⟩
        · rw [List.getElem?_append_right ha] at h
          have ha0 : a - s.2.length = 0 := by
            rcases Nat.eq_zero_or_pos (a - s.2.length) with h0 | h0
            · exact h0
            · rw [List.getElem?_eq_none (by simp; omega)] at h; cases h
          rw [ha0] at h
          have : q = k := by simpa using h.symm
          exact ⟨k, this, by omega, by rw [hc]; exact ho, hgk⟩
      · intro a b p q hab h1 h2
        rcases Nat.lt_or_ge b s.2.length with hb | hb
        · rw [List.getElem?_append_left hb] at h2
          rw [List.getElem?_append_left (by omega)] at h1
          exact ih.rise a b p q hab h1 h2
        · rw [List.getElem?_append_right hb] at h2
          have hb0 : b - s.2.length = 0 := by
            rcases Nat.eq_zero_or_pos (b - s.2.length) with h0 | h0
            · exact h0
            · rw [List.getElem?_eq_none (by simp; omega)] at h2; cases h2
          rw [hb0] at h2
          have hq : q = k := by simpa using h2.symm
          rw [List.getElem?_append_left (by omega)] at h1
          obtain ⟨j, e, hj, _⟩ := ih.op a p h1
          omega
      · intro j hj hoj hnj
        have hjk : j ≠ k := by rintro rfl; exact hnj (by simp)
        have hnj' : (j : Int) ∉ s.2 := fun h => hnj (List.mem_append.2 (.inl h))
        obtain ⟨e, h1, h2, h3, h4, h5, h6⟩ := ih.closed j (by omega) hoj hnj'
        refine ⟨e, ?_, h2, by omega, h4, ?_, fun t ht1 ht2 => ?_⟩
        · show (s.1.set k _).getD j 0 = _; rw [hgo j (by omega), h1]
        · show (s.1.set k _).getD e 0 = _; rw [hgo e h3, h5]
        · show (0 ≤ (s.1.set k _).getD t 0 → _ < (s.1.set k _).getD t 0 ∧ (s.1.set k _).getD t 0 < _) ∧ ((s.1.set k _).getD t 0 < 0 → _)
          rw [hgo t (by omega)]; exact h6 t ht1 ht2
      · intro j hj hj22
        have hjk : j ≠ k := by rintro rfl; exact c22 (hc.symm.trans hj22)
        show ((s.1.set k _).getD j 0 = -1 ∧ ∀ q : Nat, q < j → _ → (s.1.set k _).getD q 0 < j) ∨ ∃ q : Nat, (s.1.set k _).getD j 0 = q ∧ q < j ∧ _ ∧ (s.1.set k _).getD q 0 = j
        rw [hgo j (by omega)]
        rcases ih.pdi j (by omega) hj22 with ⟨h1, h2⟩ | ⟨q, h1, h2, h3, h4⟩
        · exact .inl ⟨h1, fun q hq hoq => by rw [hgo q (by omega)]; exact h2 q hq hoq⟩
        · exact .inr ⟨q, h1, h2, h3, by rw [hgo q (by omega)]; exact h4⟩
      · intro j hj hoj hj22
        have hjk : j ≠ k := by rintro rfl; rw [hc, ho] at hoj; cases hoj
        show (s.1.set k _).getD j 0 = -1
        rw [hgo j (by omega)]; exact ih.other j (by omega) hoj hj22
      · intro q hq t h1 h2
        show (0 ≤ (s.1.set k _).getD t 0 → _ < (s.1.set k _).getD t 0) ∧ ((s.1.set k _).getD t 0 < 0 → _)
        rcases List.mem_append.1 hq with hq | hq
        · by_cases htk : t = k
          · subst htk; rw [hgk]; exact ⟨fun _ => by omega, fun h => by omega⟩
          · rw [hgo t (by omega)]; exact ih.inner q hq t h1 (by omega)
        · have : q = k := by have : (q : Int) = k := by simpa using hq
                             omega
          omega
    · have ho' : opS c = false := by simpa using ho
      by_cases hz : c = 22 ∧ s.2 ≠ []
      · -- it ends the last open one
        obtain ⟨rfl, hne⟩ := hz
        obtain ⟨m, hm⟩ : ∃ m, s.2.length = m + 1 := ⟨s.2.length - 1, by have := List.length_pos_iff.2 hne; omega⟩
        have hlast := List.getElem?_eq_getElem (l := s.2) (i := m) (by omega)
        obtain ⟨q, hq, hqk, hoq, hNq⟩ := ih.op m _ hlast
        rw [hq] at hlast
        rw [mStep_p hm hlast]
        have hqs : q < (s.1.set k (q : Int)).length := by simp; omega
        have hg : ∀ j, ((s.1.set k (q : Int)).set q (k : Int)).getD j 0 = if q = j then (k : Int) else if k = j then (q : Int) else s.1.getD j 0 := fun j => by
          rw [getD_set _ _ _ _ hqs, getD_set _ _ _ _ hks]
        have hgo : ∀ j, j < k → j ≠ q → ((s.1.set k (q : Int)).set q (k : Int)).getD j 0 = s.1.getD j 0 := fun j hj hjq => by rw [hg, if_neg (fun e => hjq e.symm), if_neg (by omega)]
        have hgq : ((s.1.set k (q : Int)).set q (k : Int)).getD q 0 = k := by rw [hg, if_pos rfl]
        have hgk : ((s.1.set k (q : Int)).set q (k : Int)).getD k 0 = q := by rw [hg, if_neg (by omega), if_pos rfl]
        have hqmem : (q : Int) ∈ s.2 := List.mem_of_getElem? hlast
        have hlt : ∀ (a : Nat) (p : Int), a < m → s.2[a]? = some p → p < q := fun a p ha hp => ih.rise a m p q ha hp hlast
        have htake : ∀ (a : Nat) (p : Int), (s.2.take m)[a]? = some p → a < m ∧ s.2[a]? = some p := by
          intro a p h
          rw [List.getElem?_take] at h
          split at h
          next ha => exact ⟨ha, h⟩
          next => cases h
        have hmemt : ∀ p : Nat, (p : Int) ∈ s.2.take m → (p : Int) ∈ s.2 ∧ p < q := by
          intro p hp
          obtain ⟨a, ha, he⟩ := List.mem_iff_getElem.1 hp
          obtain ⟨h1, h2⟩ := htake a p (by rw [← he]; exact List.getElem?_eq_getElem ha)
          exact ⟨List.mem_of_getElem? h2, by have := hlt a p h1 h2; omega⟩
        have hnotq : ∀ p : Nat, (p : Int) ∈ s.2 → p ≠ q → (p : Int) ∈ s.2.take m := by
          intro p hp hpq
          obtain ⟨a, ha, he⟩ := List.mem_iff_getElem.1 hp
          have h2 : s.2[a]? = some (p : Int) := by rw [← he]; exact List.getElem?_eq_getElem ha
          have ham : a < m := by
            rcases Nat.lt_or_ge a m with h | h
            · exact h
            · obtain rfl : a = m := by omega
              rw [hlast] at h2; injection h2 with h2; omega
          refine List.mem_of_getElem? (i := a) ?_
          rw [List.getElem?_take, if_pos ham, h2]
        -- what lies between q and k is closed
        have hbet : ∀ t : Nat, q < t → t < k → (0 ≤ s.1.getD t 0 → (q : Int) < s.1.getD t 0 ∧ s.1.getD t 0 < k) ∧ (s.1.getD t 0 < 0 → l.getD t 0 ≠ 22) := by
          intro t h1 h2
          obtain ⟨i1, i2⟩ := ih.inner q hqmem t h1 h2
          refine ⟨fun h0 => ⟨i1 h0, ?_⟩, i2⟩
          by_cases hot : opS (l.getD t 0) = true
          · have hnt : (t : Int) ∉ s.2 := by
              intro h
              by_cases htq : t = q
              · omega
              · have := (hmemt t (hnotq t h htq)).2; omega
            obtain ⟨e, h3, h4, h5, _⟩ := ih.closed t h2 hot hnt
            omega
          · by_cases ht22 : l.getD t 0 = 22
            · rcases ih.pdi t h2 ht22 with ⟨h3, _⟩ | ⟨p, h3, h4, _⟩
              · omega
              · omega
            · have := ih.other t h2 (by simpa using hot) ht22; omega
        refine ⟨by simp [ih.len], ?_, ?_, ?_, ?_, ?_, ?_⟩
        · intro a p h
          obtain ⟨h1, h2⟩ := htake a p h
          obtain ⟨j, e, h3, h4, h5⟩ := ih.op a p h2
          have := hlt a p h1 h2
          exact ⟨j, e, by omega, h4, by show ((s.1.set k _).set q _).getD j 0 = _; rw [hgo j h3 (by omega), h5]⟩
        · intro a b p p' hab h1 h2
          exact ih.rise a b p p' hab (htake a p h1).2 (htake b p' h2).2
        · intro j hj hoj hnj
          by_cases hjq : j = q
          · subst hjq
            refine ⟨k, hgq, hqk, by omega, hc, hgk, fun t h1 h2 => ?_⟩
            show (0 ≤ ((s.1.set k _).set j _).getD t 0 → _ < ((s.1.set k _).set j _).getD t 0 ∧ ((s.1.set k _).set j _).getD t 0 < _) ∧ (((s.1.set k _).set j _).getD t 0 < 0 → _)
            rw [hgo t h2 (by omega)]
            exact hbet t h1 h2
          · have hjk : j ≠ k := by rintro rfl; rw [hc, op_22] at hoj; cases hoj
            have hnj' : (j : Int) ∉ s.2 := fun h => hnj (hnotq j h hjq)
            obtain ⟨e, h1, h2, h3, h4, h5, h6⟩ := ih.closed j (by omega) hoj hnj'
            have heq : e ≠ q := by rintro rfl; rw [h4, op_22] at hoq; cases hoq
            refine ⟨e, ?_, h2, by omega, h4, ?_, fun t h7 h8 => ?_⟩
            · show ((s.1.set k _).set q _).getD j 0 = _; rw [hgo j (by omega) hjq, h1]
            · show ((s.1.set k _).set q _).getD e 0 = _; rw [hgo e h3 heq, h5]
            · show (0 ≤ ((s.1.set k _).set q _).getD t 0 → _ < ((s.1.set k _).set q _).getD t 0 ∧ ((s.1.set k _).set q _).getD t 0 < _) ∧ (((s.1.set k _).set q _).getD t 0 < 0 → _)
              have htq : t ≠ q := by
                rintro rfl
                have h9 := (h6 t h7 h8).1 (by rw [hNq]; omega)
                rw [hNq] at h9; omega
              rw [hgo t (by omega) htq]; exact h6 t h7 h8
        · intro j hj hj22
          show (((s.1.set k _).set q _).getD j 0 = -1 ∧ ∀ q' : Nat, q' < j → _ → ((s.1.set k _).set q _).getD q' 0 < j) ∨ ∃ q' : Nat, ((s.1.set k _).set q _).getD j 0 = q' ∧ q' < j ∧ _ ∧ ((s.1.set k _).set q _).getD q' 0 = j
          by_cases hjk : j = k
          · subst hjk
            exact .inr ⟨q, hgk, hqk, hoq, hgq⟩
          · have hjq : j ≠ q := by rintro rfl; rw [hj22, op_22] at hoq; cases hoq
            rw [hgo j (by omega) hjq]
            rcases ih.pdi j (by omega) hj22 with ⟨h1, h2⟩ | ⟨p, h1, h2, h3, h4⟩
            · refine .inl ⟨h1, fun p hp hop => ?_⟩
              have hpq : p ≠ q := by
                rintro rfl
                have := h2 p hp hop
                rw [hNq] at this; omega
              rw [hgo p (by omega) hpq]; exact h2 p hp hop
            · have hpq : p ≠ q := by rintro rfl; rw [hNq] at h4; omega
              exact .inr ⟨p, h1, h2, h3, by rw [hgo p (by omega) hpq]; exact h4⟩
        · intro j hj hoj hj22
          have hjk : j ≠ k := by rintro rfl; exact hj22 hc
          have hjq : j ≠ q := by rintro rfl; rw [hoq] at hoj; cases hoj
          show ((s.1.set k _).set q _).getD j 0 = -1
          rw [hgo j (by omega) hjq]; exact ih.other j (by omega) hoj hj22
        · intro p hp t h1 h2
          obtain ⟨hp1, hpq⟩ := hmemt p hp
          show (0 ≤ ((s.1.set k _).set q _).getD t 0 → _ < ((s.1.set k _).set q _).getD t 0) ∧ (((s.1.set k _).set q _).getD t 0 < 0 → _)
          by_cases htq : t = q
          · subst htq; rw [hgq]; exact ⟨fun _ => by omega, fun h => by omega⟩
          · by_cases htk : t = k
            · subst htk; rw [hgk]; exact ⟨fun _ => by omega, fun h => by omega⟩
            · rw [hgo t (by omega) htq]; exact ih.inner p hp1 t h1 (by omega)
      · -- nothing of an isolate, or a PDI that ends none
        have hstep : mStep l.length s k c = (s.1.set k (-1), s.2) := by
          unfold mStep; rw [if_neg ho, if_neg hz]
        rw [hstep]
        have hg : ∀ j, (s.1.set k (-1 : Int)).getD j 0 = if k = j then (-1 : Int) else s.1.getD j 0 := fun j => getD_set _ _ _ _ hks
        have hgo : ∀ j, j < k → (s.1.set k (-1 : Int)).getD j 0 = s.1.getD j 0 := fun j hj => by rw [hg, if_neg (by omega)]
        have hgk : (s.1.set k (-1 : Int)).getD k 0 = -1 := by rw [hg, if_pos rfl]
        refine ⟨by simp [ih.len], ?_, ih.rise, ?_, ?_, ?_, ?_⟩
        · intro a q h
          obtain ⟨j, e, h1, h2, h3⟩ := ih.op a q h
          exact ⟨j, e, by omega, h2, by show (s.1.set k _).getD j 0 = _; rw [hgo j h1, h3]⟩
        · intro j hj hoj hnj
          have hjk : j ≠ k := by rintro rfl; rw [hc] at hoj; exact ho hoj
          obtain ⟨e, h1, h2, h3, h4, h5, h6⟩ := ih.closed j (by omega) hoj hnj
          refine ⟨e, ?_, h2, by omega, h4, ?_, fun t ht1 ht2 => ?_⟩
          · show (s.1.set k _).getD j 0 = _; rw [hgo j (by omega), h1]
          · show (s.1.set k _).getD e 0 = _; rw [hgo e h3, h5]
          · show (0 ≤ (s.1.set k _).getD t 0 → _ < (s.1.set k _).getD t 0 ∧ (s.1.set k _).getD t 0 < _) ∧ ((s.1.set k _).getD t 0 < 0 → _)
            rw [hgo t (by omega)]; exact h6 t ht1 ht2
        · intro j hj hj22
          show ((s.1.set k _).getD j 0 = -1 ∧ ∀ q : Nat, q < j → _ → (s.1.set k _).getD q 0 < j) ∨ ∃ q : Nat, (s.1.set k _).getD j 0 = q ∧ q < j ∧ _ ∧ (s.1.set k _).getD q 0 = j
          by_cases hjk : j = k
          · subst hjk
            refine .inl ⟨hgk, fun q hq hoq => ?_⟩
            rw [hgo q hq]
            have hem : s.2 = [] := by
              rcases Classical.em (s.2 = []) with h | h
              · exact h
              · exact absurd ⟨hc.symm.trans hj22, h⟩ hz
            obtain ⟨e, h1, h2, h3, _⟩ := ih.closed q hq hoq (by rw [hem]; simp)
            omega
          · rw [hgo j (by omega)]
            rcases ih.pdi j (by omega) hj22 with ⟨h1, h2⟩ | ⟨q, h1, h2, h3, h4⟩
            · exact .inl ⟨h1, fun q hq hoq => by rw [hgo q (by omega)]; exact h2 q hq hoq⟩
            · exact .inr ⟨q, h1, h2, h3, by rw [hgo q (by omega)]; exact h4⟩
        · intro j hj hoj hj22
          show (s.1.set k _).getD j 0 = -1
          by_cases hjk : j = k
          · subst hjk; exact hgk
          · rw [hgo j (by omega)]; exact ih.other j (by omega) hoj hj22
        · intro q hq t h1 h2
          show (0 ≤ (s.1.set k _).getD t 0 → _ < (s.1.set k _).getD t 0) ∧ ((s.1.set k _).getD t 0 < 0 → _)
          by_cases htk : t = k
          · subst htk; rw [hgk]
            refine ⟨fun h => by omega, fun _ h => ?_⟩
            exact hz ⟨hc.symm.trans h, fun e => by rw [e] at hq; cases hq⟩
          · rw [hgo t (by omega)]; exact ih.inner q hq t h1 (by omega)
end Go.Proofs.Ytaojjneajiobnaa

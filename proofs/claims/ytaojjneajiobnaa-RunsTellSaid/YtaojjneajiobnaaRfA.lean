/-
  The reference of layer 2: a code point's properties, as the document's rows have them.
-/
import Derived.Test.YtaojjneajiobnaaNst
namespace Go.Proofs.Ytaojjneajiobnaa
open Go.RowKit

set_option maxHeartbeats 4000000 in
theorem refrows_any (r : Int) (w : World) : Calls Try.prog 79 #[.int .i32 r] w (TabRet 112 (tabOf r).length (tabI (tabOf r)) w) := by
  have hT := hide (rfl : tabOf r = if r < 127 then tab1 else if r < 1030 then tab2 else if r < 1617 then tab3 else if r < 8238 then tab4 else tab5)
  by_cases h1 : r < 127
  · have e := hide (hT.out.trans (if_pos h1))
    clear hT
    go_enter Try.func79, Try.ntmps79
    go_wp2_with fail
    refine (rows1_any _).mono ?_
    rintro e2 w2 ⟨rfl, rfl⟩
    go_wp2_with fail
    go_ret
    rw [e.out]
    exact ⟨rfl, rfl⟩
  · skip
    by_cases h2 : r < 1030
    · have e := hide (hT.out.trans ((if_neg h1).trans (if_pos h2)))
      clear hT
      go_enter Try.func79, Try.ntmps79
      go_wp2_with fail
      refine (rows2_any _).mono ?_
      rintro e2 w2 ⟨rfl, rfl⟩
      go_wp2_with fail
      go_ret
      rw [e.out]
      exact ⟨rfl, rfl⟩
    · skip
      by_cases h3 : r < 1617
      · have e := hide (hT.out.trans ((if_neg h1).trans ((if_neg h2).trans (if_pos h3))))
        clear hT
        go_enter Try.func79, Try.ntmps79
        go_wp2_with fail
        refine (rows3_any _).mono ?_
        rintro e2 w2 ⟨rfl, rfl⟩
        go_wp2_with fail
        go_ret
        rw [e.out]
        exact ⟨rfl, rfl⟩
      · skip
        by_cases h4 : r < 8238
        · have e := hide (hT.out.trans ((if_neg h1).trans ((if_neg h2).trans ((if_neg h3).trans (if_pos h4)))))
          clear hT
          go_enter Try.func79, Try.ntmps79
          go_wp2_with fail
          refine (rows4_any _).mono ?_
          rintro e2 w2 ⟨rfl, rfl⟩
          go_wp2_with fail
          go_ret
          rw [e.out]
          exact ⟨rfl, rfl⟩
        · skip
          have e := hide (hT.out.trans ((if_neg h1).trans ((if_neg h2).trans ((if_neg h3).trans (if_neg h4)))))
          clear hT
          go_enter Try.func79, Try.ntmps79
          go_wp2_with fail
          refine (rows5_any _).mono ?_
          rintro e2 w2 ⟨rfl, rfl⟩
          go_wp2_with fail
          go_ret
          rw [e.out]
          exact ⟨rfl, rfl⟩

theorem rowI_len {r : List Int} : (rowI r).length = r.length := by unfold rowI; simp
theorem cellI {w : World} {b : Nat} {t : List (List Int)} (h9 : Ok9 t) (hb : w.heap[b]? = some (.cells (tabI t) 112 (0, 0))) {i j : Nat} (hi : i < t.length) (hj : j < 9) :
    w.cell? ⟨b, i * 9 + j, none⟩ = some (.int .i64 (rowAt t i j)) := by
  rw [cell_of_row w b _ _ _ _ hb]
  show (tabI t)[i * 9 + j]? = _
  unfold tabI
  rw [List.getElem?_toArray, flat9 h9 rowI (fun _ => rowI_len) i j hi hj]
  have h := row9 h9 hi
  unfold rowI rowAt
  rw [List.getElem?_map, List.getElem?_eq_getElem (show j < (t.getD i []).length by omega)]
  simp [List.getD, List.getElem?_eq_getElem (show j < (t[i]?.getD []).length by simpa [List.getD] using (by omega : j < (t.getD i []).length))]
/-- the rows rise, and lie apart -/
def Apart1 (t : List (List Int)) : Prop := ∀ i j, i < j → j < t.length → rowAt t i 1 < rowAt t j 0
def apartB (t : List (List Int)) : Bool := (List.range t.length).all fun i => (List.range t.length).all fun j => !decide (i < j) || decide (rowAt t i 1 < rowAt t j 0)
theorem apart_of {t : List (List Int)} (h : apartB t = true) : Apart1 t := by
  intro i j hij hj
  unfold apartB at h
  rw [List.all_eq_true] at h
  have h1 := h i (List.mem_range.2 (by omega))
  rw [List.all_eq_true] at h1
  have h2 := h1 j (List.mem_range.2 hj)
  simp only [Bool.or_eq_true, Bool.not_eq_true', decide_eq_false_iff_not, decide_eq_true_eq] at h2
  exact h2.resolve_left (by omega)
theorem tab_apart (r : Int) : Apart1 (tabOf r) ∧ ∀ i j, i < (tabOf r).length → 2 ≤ j → j < 9 → 0 ≤ rowAt (tabOf r) i j ∧ rowAt (tabOf r) i j ≤ 255 := by
  have h : ∀ t ∈ [tab1, tab2, tab3, tab4, tab5], apartB t = true ∧ (t.all fun r => (r.drop 2).all fun x => decide (0 ≤ x) && decide (x ≤ 255)) = true := by decide +kernel
  have hm : tabOf r ∈ [tab1, tab2, tab3, tab4, tab5] := by
    unfold tabOf
    split
    · simp
    · split
      · simp
      · split
        · simp
        · split <;> simp
  obtain ⟨h1, h2⟩ := h _ hm
  obtain ⟨h9, _⟩ := tab_ok r
  refine ⟨apart_of h1, fun i j hi hj hj9 => ?_⟩
  have hl := row9 h9 hi
  unfold rowAt
  generalize hrow : (tabOf r).getD i [] = row at *
  have hmem : row ∈ tabOf r := by
    rw [← hrow]; simp only [List.getD, List.getElem?_eq_getElem hi, Option.getD_some]; exact List.getElem_mem hi
  have h3 := List.all_eq_true.1 h2 row hmem
  have h4 := List.all_eq_true.1 h3 (row.getD j 0) (by
    have : (row.drop 2)[j - 2]? = some (row.getD j 0) := by
      rw [List.getElem?_drop, show 2 + (j - 2) = j by omega, List.getElem?_eq_getElem (by omega)]
      simp [List.getD, List.getElem?_eq_getElem (show j < row.length by omega)]
    exact List.mem_of_getElem? this)
  simpa using h4
/-- the first row that holds r -/
theorem lin_some {t : List (List Int)} {r : Int} (h9 : Ok9 t) (ha : Apart1 t) {i : Nat} (hi : i < t.length) (h0 : rowAt t i 0 ≤ r) (h1 : r ≤ rowAt t i 1) :
    propT t r = [rowAt t i 2, rowAt t i 3, rowAt t i 4, rowAt t i 5, rowAt t i 6, rowAt t i 7, rowAt t i 8] := by
  rw [prop_some h9 hi (fun j hj => decide_eq_false (by have := ha j i hj hi; omega)) (decide_eq_true h1), if_neg (by omega)]
theorem lin_none {t : List (List Int)} {r : Int} (h9 : Ok9 t) (h : ∀ i, i < t.length → ¬ (rowAt t i 0 ≤ r ∧ r ≤ rowAt t i 1)) : propT t r = dflt := by
  by_cases hex : ∃ i, i < t.length ∧ r ≤ rowAt t i 1
  · -- the first such row
    have key : ∀ n, (∃ i, i ≤ n ∧ i < t.length ∧ r ≤ rowAt t i 1) → ∃ i, i < t.length ∧ r ≤ rowAt t i 1 ∧ ∀ j, j < i → ¬ r ≤ rowAt t j 1 := by
      intro n
      induction n using Nat.strongRecOn with
      | ind n ih =>
        rintro ⟨i, hin, hi, h1⟩
        by_cases hlow : ∃ j, j < i ∧ r ≤ rowAt t j 1
        · obtain ⟨j, hj, h2⟩ := hlow
          exact ih j (by omega) ⟨j, Nat.le_refl _, by omega, h2⟩
        · exact ⟨i, hi, h1, fun j hj h2 => hlow ⟨j, hj, h2⟩⟩
    obtain ⟨i0, hi0, h0⟩ := hex
    obtain ⟨i, hi, h1, h2⟩ := key i0 ⟨i0, Nat.le_refl _, hi0, h0⟩
    rw [prop_some h9 hi (fun j hj => decide_eq_false (h2 j hj)) (decide_eq_true h1), if_pos]
    have := h i hi
    omega
  · exact prop_none fun j hj => decide_eq_false fun h => hex ⟨j, hj, h⟩
end Go.Proofs.Ytaojjneajiobnaa

/-
  Rows without what opens and closes: levels and classes, and the first strong one.
-/
import Derived.Test.YtaojjneajiobnaaAwL
namespace Go.Proofs.Ytaojjneajiobnaa

/-- code points, those left out that open and close -/
def bareS (l : List Int) : List Int := l.filter (fun r => decide (cls r < 14))
theorem bare_cls {l : List Int} : ∀ x ∈ (bareS l).map cls, x < 14 := by
  intro x hx
  obtain ⟨r, hr, rfl⟩ := List.mem_map.1 hx
  simpa using (List.mem_filter.1 hr).2
theorem bare_take {l : List Int} {k : Nat} {z : Int} (hz : l[k]? = some z) : bareS (l.take (k + 1)) = if cls z < 14 then bareS (l.take k) ++ [z] else bareS (l.take k) := by
  obtain ⟨hk, rfl⟩ := List.getElem?_eq_some_iff.1 hz
  rw [List.take_succ_eq_append_getElem hk]
  unfold bareS
  rw [List.filter_append]
  by_cases h : cls l[k] < 14
  · simp [h]
  · simp [h]
theorem bare_len (l : List Int) : (bareS l).length ≤ l.length := List.length_filter_le _ _

/-! ### the first strong one -/
theorem strong_app {c : Int} : ∀ xs : List Int, (∀ x ∈ xs, x < 14) → strongS 0 (xs ++ [c]) = if (strongS 0 xs).2 then strongS 0 xs else strongS 0 [c]
  | [], _ => by simp [strongS]
  | x :: xs, h => by
    have hx := h x (by simp)
    have ih := strong_app (c := c) xs (fun y hy => h y (by simp [hy]))
    have ho : opS x = false := by unfold opS; simp; omega
    have h22 : x ≠ 22 := by omega
    rw [List.cons_append]
    by_cases h0 : x = 0
    · subst h0; simp [strong_0]
    · by_cases h1 : x = 1
      · subst h1; simp [strong_1]
      · by_cases h2 : x = 2
        · subst h2; simp [strong_2]
        · rw [strong_n ho (by simpa using h22) (by simpa using h0) (by simpa using h1) (by simpa using h2), strong_n ho (by simpa using h22) (by simpa using h0) (by simpa using h1) (by simpa using h2)]
          exact ih
theorem strong_one {c : Int} (h : c < 14) : strongS 0 [c] = if c = 0 then (false, true) else if c = 1 ∨ c = 2 then (true, true) else (false, false) := by
  have ho : opS c = false := by unfold opS; simp; omega
  have h22 : c ≠ 22 := by omega
  simp [strongS, ho, h22]
theorem strong_not {d : Nat} : ∀ xs : List Int, (strongS d xs).2 = false → strongS d xs = (false, false)
  | [], _ => by simp [strongS]
  | x :: xs, h => by
    unfold strongS at h ⊢
    split
    · rename_i h1; rw [if_pos h1] at h; exact strong_not xs h
    · rename_i h1
      rw [if_neg h1] at h
      split
      · rename_i h2; rw [if_pos h2] at h; exact strong_not xs h
      · rename_i h2
        rw [if_neg h2] at h
        split
        · rename_i h3; rw [if_pos h3] at h; exact strong_not xs h
        · rename_i h3
          rw [if_neg h3] at h
          split
          · rename_i h4; rw [if_pos h4] at h; simp at h
          · rename_i h4
            rw [if_neg h4] at h
            split
            · rename_i h5; rw [if_pos h5] at h; simp at h
            · rename_i h5; rw [if_neg h5] at h; exact strong_not xs h

/-! ### levels and classes -/
theorem step_bare {f : Bool} {base x : Int} (hx : x < 14) : stepS f (start base) x = (start base, base, x) := by
  unfold stepS
  rw [if_neg (by omega), if_neg (by omega), if_neg (by omega), if_neg (by omega)]
  split
  · rename_i h; subst h; rfl
  · split
    · rename_i h; subst h; rfl
    · rfl
theorem exp_bare {cl : List Int} (base : Int) (h : ∀ x ∈ cl, x < 14) : ∀ k, k ≤ cl.length → expSt cl base k = (start base, List.replicate k base, cl.take k)
  | 0, _ => by simp [expSt]
  | k + 1, hk => by
    have ih := exp_bare base h k (by omega)
    have hg : cl.getD k 0 = cl[k] := by simp [List.getD, List.getElem?_eq_getElem (show k < cl.length by omega)]
    simp only [expSt, ih, hg]
    rw [step_bare (h _ (List.getElem_mem _)), List.take_succ_eq_append_getElem (by omega), List.replicate_succ']
theorem levels_bare {cl : List Int} (base : Int) (h : ∀ x ∈ cl, x < 14) : levelsS cl base = List.replicate cl.length base := by
  unfold levelsS; rw [exp_bare base h _ (Nat.le_refl _)]
theorem classes_bare {cl : List Int} (base : Int) (h : ∀ x ∈ cl, x < 14) : classesS cl base = cl := by
  unfold classesS; rw [exp_bare base h _ (Nat.le_refl _)]; simp
end Go.Proofs.Ytaojjneajiobnaa

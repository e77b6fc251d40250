/-
  What level.Match answers, place by place.
-/
import Derived.Test.YtaojjneajiobnaaMatM
namespace Go.Proofs.Ytaojjneajiobnaa

theorem getD_of {l : List Int} {i : Nat} {x : Int} (h : l[i]? = some x) : l.getD i 0 = x := by simp [List.getD, h]
theorem of_getD {l : List Int} {i : Nat} (h : i < l.length) : l[i]? = some (l.getD i 0) := by simp [List.getD, List.getElem?_eq_getElem h]
theorem match_len (l : List Int) : (matchS l).length = l.length := (mInv l l.length (Nat.le_refl _)).len
/-- it opens, and does not end -/
def MOpen (l : List Int) (c k : Int) : Prop := opS c = true ∧ k = l.length
/-- it opens, and ends at e -/
def MEnds (l : List Int) (i : Nat) (c k : Int) (e : Nat) : Prop := opS c = true ∧ k = e ∧ i < e ∧ e < l.length ∧ l[e]? = some 22 ∧ (matchS l)[e]? = some (i : Int) ∧
  ∀ (t : Nat) (x y : Int), i < t → t < e → l[t]? = some x → (matchS l)[t]? = some y → (0 ≤ y → (i : Int) < y ∧ y < e) ∧ (y < 0 → x ≠ 22)
/-- it ends what opens at q -/
def MPdi (l : List Int) (i : Nat) (c k : Int) (q : Nat) : Prop := opS c = false ∧ c = 22 ∧ k = q ∧ q < i ∧ (matchS l)[q]? = some (i : Int) ∧ ∃ z, l[q]? = some z ∧ opS z = true
/-- nothing -/
def MNone (l : List Int) (i : Nat) (c k : Int) : Prop := opS c = false ∧ k = -1 ∧ (c = 22 → ∀ (q : Nat) (x y : Int), q < i → l[q]? = some x → (matchS l)[q]? = some y → opS x = true → y < i)
theorem match_cases {l : List Int} {i : Nat} {c k : Int} (hc : l[i]? = some c) (hk : (matchS l)[i]? = some k) : MOpen l c k ∨ (∃ e, MEnds l i c k e) ∨ (∃ q, MPdi l i c k q) ∨ MNone l i c k := by
  have I := mInv l l.length (Nat.le_refl _)
  have hi : i < l.length := (List.getElem?_eq_some_iff.1 hc).1
  have hcg := getD_of hc
  have hkg := getD_of hk
  have hl := match_len l
  have hat : ∀ e, e < l.length → (matchS l)[e]? = some ((mSt l l.length).1.getD e 0) := fun e he => of_getD (by omega)
  have hkg' : (mSt l l.length).1.getD i 0 = k := hkg
  by_cases ho : opS c = true
  · by_cases hop : (i : Int) ∈ (mSt l l.length).2
    · obtain ⟨a, ha, he⟩ := List.mem_iff_getElem.1 hop
      obtain ⟨j, e, h1, h2, h3⟩ := I.op a i (by rw [← he]; exact List.getElem?_eq_getElem ha)
      obtain rfl : i = j := by omega
      exact .inl ⟨ho, by rw [← hkg', h3]⟩
    · obtain ⟨e, h1, h2, h3, h4, h5, h6⟩ := I.closed i hi (by rw [hcg]; exact ho) hop
      refine .inr (.inl ⟨e, ho, by rw [← hkg', h1], h2, h3, by rw [of_getD h3, h4], by rw [hat e h3, h5], fun t x y a b hx hy => ?_⟩)
      have := h6 t a b
      rw [show (mSt l l.length).1.getD t 0 = y from getD_of hy, getD_of hx] at this
      exact this
  · have ho' : opS c = false := by simpa using ho
    by_cases h22 : c = 22
    · rcases I.pdi i hi (by rw [hcg]; exact h22) with ⟨h1, h2⟩ | ⟨q, h1, h2, h3, h4⟩
      · refine .inr (.inr (.inr ⟨ho', by rw [← hkg', h1], fun _ q x y hq hx hy hox => ?_⟩))
        have := h2 q hq (by rw [getD_of hx]; exact hox)
        rw [show (mSt l l.length).1.getD q 0 = y from getD_of hy] at this
        exact this
      · exact .inr (.inr (.inl ⟨q, ho', h22, by rw [← hkg', h1], h2, by rw [hat q (by omega), h4], _, of_getD (by omega), h3⟩))
    · exact .inr (.inr (.inr ⟨ho', by rw [← hkg']; exact I.other i hi (by rw [hcg]; exact ho') (by rw [hcg]; exact h22), fun h => absurd h h22⟩))
end Go.Proofs.Ytaojjneajiobnaa

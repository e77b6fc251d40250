/-
  The plain law of layer 23: what plain.Plain computes, place by place; turned about; changed again; and what the document's Plain computes.
-/
import Derived.Test.YtmbjdchknjollaaPlainB
namespace Go.Proofs.Ytmbjdchknjollaa

/-- the way of the first one of a row that is not neutral; the side's, if there is none -/
def sideL (s : Int) : List Int → Int
  | [] => min s 1
  | c :: cs => if neuS c then sideL s cs else wayS c
/-- what a place of a row becomes -/
def atS (l : List Int) (level start fin : Int) (i : Nat) : Int :=
  if neuS (l.getD i 0) then pickS (sideL fin (l.drop i)) (sideL start (l.take i).reverse) level else l.getD i 0

theorem fillS_len (zs : List Int) (f : Nat) (v : Int) : ∀ k, (fillS zs f v k).length = zs.length
  | 0 => rfl
  | k + 1 => by rw [fillS, List.length_set]; exact fillS_len zs f v k
theorem fillS_at (zs : List Int) (f : Nat) (v : Int) (j : Nat) (hj : j < zs.length) : ∀ k, (fillS zs f v k).getD j 0 = if f ≤ j ∧ j < f + k then v else zs.getD j 0
  | 0 => by rw [if_neg (by omega)]; rfl
  | k + 1 => by
    rw [fillS]
    have h := fillS_at zs f v j hj k
    by_cases e : f + k = j
    · subst e
      rw [if_pos (by omega)]
      simp [List.getD, fillS_len, hj]
    · simp only [List.getD, List.getElem?_set, if_neg e] at h ⊢
      rw [h]
      by_cases g : f ≤ j ∧ j < f + k
      · rw [if_pos g, if_pos (by omega)]
      · rw [if_neg g, if_neg (by omega)]
theorem getD_eq {l : List Int} {k : Nat} (h : k < l.length) : l.getD k 0 = l[k] := by simp [List.getD, List.getElem?_eq_getElem h]
theorem sideL_take (s : Int) {l : List Int} {k : Nat} (h : k < l.length) : sideL s (l.take (k + 1)).reverse = if neuS (l.getD k 0) then sideL s (l.take k).reverse else wayS (l.getD k 0) := by
  rw [List.take_succ_eq_append_getElem h, List.reverse_append, getD_eq h]
  rfl
theorem sideL_drop (s : Int) {l : List Int} {k : Nat} (h : k < l.length) : sideL s (l.drop k) = if neuS (l.getD k 0) then sideL s (l.drop (k + 1)) else wayS (l.getD k 0) := by
  rw [List.drop_eq_getElem_cons h, getD_eq h]
  rfl
/-- over neutral places the side behind is one -/
theorem sideL_over (s : Int) {l : List Int} {j k : Nat} (hjk : j ≤ k) (hk : k ≤ l.length) (hn : ∀ i, j ≤ i → i < k → neuS (l.getD i 0) = true) : sideL s (l.drop j) = sideL s (l.drop k) := by
  induction k with
  | zero => have : j = 0 := by omega
            subst this; rfl
  | succ k ih =>
    by_cases e : j = k + 1
    · subst e; rfl
    · rw [ih (by omega) (by omega) (fun i h1 h2 => hn i h1 (by omega)), sideL_drop s (show k < l.length by omega), if_pos (hn k (by omega) (by omega))]
theorem sideL_over' (s : Int) {l : List Int} {j k : Nat} (hjk : j ≤ k) (hk : k ≤ l.length) (hn : ∀ i, j ≤ i → i < k → neuS (l.getD i 0) = true) : sideL s (l.take k).reverse = sideL s (l.take j).reverse := by
  induction k with
  | zero => have : j = 0 := by omega
            subst this; rfl
  | succ k ih =>
    by_cases e : j = k + 1
    · subst e; rfl
    · rw [sideL_take s (show k < l.length by omega), if_pos (hn k (by omega) (by omega)), ih (by omega) (by omega) (fun i h1 h2 => hn i h1 (by omega))]

structure StOk (l : List Int) (level start fin : Int) (k : Nat) (o : List Int) (a : Int) (f : Nat) : Prop where
  hf : f ≤ k
  hlen : o.length = l.length
  hneu : ∀ j, f ≤ j → j < k → neuS (l.getD j 0) = true
  ha : a = sideL start (l.take k).reverse
  hlo : ∀ j, j < f → o.getD j 0 = atS l level start fin j
  hhi : ∀ j, f ≤ j → j < l.length → o.getD j 0 = l.getD j 0
theorem stP_ok (l : List Int) (level start fin : Int) : ∀ k, k ≤ l.length → StOk l level start fin k (stP l level start k).1 (stP l level start k).2.1 (stP l level start k).2.2
  | 0, _ => ⟨Nat.le_refl _, rfl, fun _ _ h => absurd h (by omega), rfl, fun _ h => absurd h (Nat.not_lt_zero _), fun _ _ _ => rfl⟩
  | k + 1, hk => by
    have ih := stP_ok l level start fin k (by omega)
    unfold stP
    split
    next hz =>
      refine ⟨Nat.le_succ_of_le ih.hf, ih.hlen, fun j h1 h2 => ?_, ?_, ih.hlo, ih.hhi⟩
      · by_cases e : j = k
        · subst e; exact hz
        · exact ih.hneu j h1 (by omega)
      · rw [sideL_take start (by omega), if_pos hz]; exact ih.ha
    next hz =>
      refine ⟨Nat.le_refl _, (fillS_len _ _ _ _).trans ih.hlen, fun j (h1 : k + 1 ≤ j) h2 => absurd h2 (by omega), ?_, fun j (hj : j < k + 1) => ?_, fun j (h1 : k + 1 ≤ j) h2 => ?_⟩
      · rw [sideL_take start (by omega), if_neg hz]
      · have hfk := ih.hf
        rw [fillS_at _ _ _ _ (by rw [ih.hlen]; omega)]
        by_cases g : (stP l level start k).2.2 ≤ j ∧ j < k
        · rw [if_pos (by omega)]
          have hnj := ih.hneu j g.1 g.2
          unfold atS
          rw [if_pos hnj, sideL_over fin (Nat.le_of_lt g.2) (by omega) (fun i h1 h2 => ih.hneu i (by omega) h2), sideL_drop fin (show k < l.length by omega), if_neg hz, ih.ha,
            sideL_over' start (Nat.le_of_lt g.2) (by omega) (fun i h1 h2 => ih.hneu i (by omega) h2)]
        · rw [if_neg (by omega)]
          by_cases e : j = k
          · subst e
            rw [ih.hhi j hfk (by omega), atS, if_neg hz]
          · exact ih.hlo j (by omega)
      · rw [fillS_at _ _ _ _ (by rw [ih.hlen]; exact h2), if_neg (by omega)]
        exact ih.hhi j (by have := ih.hf; omega) h2
theorem plainP_len (l : List Int) (level start fin : Int) : (plainP l level start fin).length = l.length := (fillS_len _ _ _ _).trans (stP_ok l level start fin _ (Nat.le_refl _)).hlen
theorem plainP_at (l : List Int) (level start fin : Int) {j : Nat} (hj : j < l.length) : (plainP l level start fin).getD j 0 = atS l level start fin j := by
  have ih := stP_ok l level start fin l.length (Nat.le_refl _)
  have hfk := ih.hf
  unfold plainP
  rw [fillS_at _ _ _ _ (by rw [ih.hlen]; exact hj)]
  by_cases g : (stP l level start l.length).2.2 ≤ j
  · rw [if_pos (by omega)]
    have hnj := ih.hneu j g hj
    unfold atS
    rw [if_pos hnj, sideL_over fin (Nat.le_of_lt hj) (Nat.le_refl _) (fun i h1 h2 => ih.hneu i (by omega) h2), ih.ha,
      sideL_over' start (Nat.le_of_lt hj) (Nat.le_refl _) (fun i h1 h2 => ih.hneu i (by omega) h2), List.drop_length]
    rfl
  · rw [if_neg (by omega)]
    exact ih.hlo j (by omega)

theorem list_ext_getD {xs ys : List Int} (hl : xs.length = ys.length) (h : ∀ j, j < xs.length → xs.getD j 0 = ys.getD j 0) : xs = ys := by
  apply List.ext_getElem hl
  intro j h1 h2
  have := h j h1
  rwa [getD_eq h1, getD_eq h2] at this
theorem plainP_unique {l xs : List Int} {level start fin : Int} (hl : xs.length = l.length) (h : ∀ j, j < l.length → xs.getD j 0 = atS l level start fin j) : xs = plainP l level start fin :=
  list_ext_getD (hl.trans (plainP_len l level start fin).symm) fun j hj => by rw [h j (by omega), plainP_at l level start fin (by omega)]

theorem sideL_cases (s : Int) (hs : 0 ≤ s) : ∀ l : List Int, sideL s l = 0 ∨ sideL s l = 1 ∨ sideL s l = 255
  | [] => by unfold sideL; omega
  | c :: cs => by
    unfold sideL
    split
    · exact sideL_cases s hs cs
    · unfold wayS; split; exact .inl rfl; split; exact .inr (.inl rfl); exact .inr (.inr rfl)
theorem pick01 {b a level : Int} (hb : b = 0 ∨ b = 1 ∨ b = 255) : pickS b a level = 0 ∨ pickS b a level = 1 := by
  unfold pickS; split <;> omega
theorem atS_neu {l : List Int} {level start fin : Int} {i : Nat} (hf : 0 ≤ fin) (h : neuS (l.getD i 0) = true) : atS l level start fin i = 0 ∨ atS l level start fin i = 1 := by
  unfold atS; rw [if_pos h]; exact pick01 (sideL_cases fin hf _)
theorem atS_not {l : List Int} {level start fin : Int} {i : Nat} (h : neuS (l.getD i 0) = false) : atS l level start fin i = l.getD i 0 := by
  unfold atS; rw [if_neg (by rw [h]; simp)]
theorem atS_no {l : List Int} {level start fin : Int} {i : Nat} (hf : 0 ≤ fin) : neuS (atS l level start fin i) = false := by
  by_cases h : neuS (l.getD i 0) = true
  · rcases atS_neu (l := l) (level := level) (start := start) hf h with e | e <;> rw [e] <;> rfl
  · have h' : neuS (l.getD i 0) = false := by simpa using h
    rw [atS_not h', h']
/-- changed again it is the same -/
theorem plainP_again {l : List Int} {level start fin : Int} (hf : 0 ≤ fin) : plainP (plainP l level start fin) level start fin = plainP l level start fin := by
  refine (plainP_unique (plainP_len l level start fin ▸ rfl) fun j hj => ?_).symm
  have hj' : j < l.length := by rwa [plainP_len] at hj
  rw [atS_not]
  rw [plainP_at l level start fin hj']
  exact atS_no hf
/-- in a row of neutral ones all become one -/
theorem atS_row {l : List Int} {level start fin : Int} {i : Nat} (hi : i + 1 < l.length) (h1 : neuS (l.getD i 0) = true) (h2 : neuS (l.getD (i + 1) 0) = true) : atS l level start fin i = atS l level start fin (i + 1) := by
  unfold atS
  rw [if_pos h1, if_pos h2, sideL_drop fin (show i < l.length by omega), if_pos h1, sideL_take start (show i < l.length by omega), if_pos h1]
theorem pick_comm (b a level : Int) : pickS b a level = pickS a b level := by
  unfold pickS; split <;> split <;> omega
/-- turned about -/
theorem plainP_turn (l : List Int) (level start fin : Int) : (plainP l.reverse level fin start).reverse = plainP l level start fin := by
  refine plainP_unique (by rw [List.length_reverse, plainP_len, List.length_reverse]) fun j hj => ?_
  have e1 : (plainP l.reverse level fin start).reverse.getD j 0 = (plainP l.reverse level fin start).getD (l.length - 1 - j) 0 := by
    simp only [List.getD]
    rw [List.getElem?_reverse (by rw [plainP_len, List.length_reverse]; exact hj), plainP_len, List.length_reverse]
  have e2 : l.reverse.getD (l.length - 1 - j) 0 = l.getD j 0 := by
    simp only [List.getD]
    rw [List.getElem?_reverse (by omega), show l.length - 1 - (l.length - 1 - j) = j by omega]
  rw [e1, plainP_at l.reverse level fin start (by rw [List.length_reverse]; omega)]
  unfold atS
  rw [e2]
  by_cases h : neuS (l.getD j 0) = true
  · rw [if_pos h, if_pos h, pick_comm]
    have e3 : l.reverse.drop (l.length - 1 - j) = (l.take (j + 1)).reverse := by rw [List.drop_reverse]; congr 2; omega
    have e4 : (l.reverse.take (l.length - 1 - j)).reverse = l.drop (j + 1) := by rw [List.take_reverse, List.reverse_reverse]; congr 1; omega
    rw [e3, e4, sideL_take start hj, if_pos h, sideL_drop fin hj, if_pos h]
  · rw [if_neg h, if_neg h]

/-! ### the document's Plain -/
def side9 (s : Int) : List Int → Int
  | [] => if s = 0 then 0 else 1
  | c :: cs => if neuS c then side9 s cs else way9 c
def to9 (x : Int) : Int := if x = 255 then 9 else x
theorem way9_eq (c : Int) : way9 c = to9 (wayS c) := by unfold way9 to9 wayS; split; rfl; split <;> rfl
theorem side9_eq {s : Int} (hs : 0 ≤ s) : ∀ l : List Int, side9 s l = to9 (sideL s l)
  | [] => by unfold side9 sideL to9; split <;> split <;> omega
  | c :: cs => by
    unfold side9 sideL
    split
    · exact side9_eq hs cs
    · exact way9_eq c
def pick9 (x y level : Int) : Int := if x = y ∧ x ≠ 9 then x else level % 2
theorem pick9_eq {a b level : Int} (ha : a = 0 ∨ a = 1 ∨ a = 255) (hb : b = 0 ∨ b = 1 ∨ b = 255) : pick9 (to9 a) (to9 b) level = pickS b a level := by
  rcases ha with rfl | rfl | rfl <;> rcases hb with rfl | rfl | rfl <;> simp [pick9, to9, pickS]
/-- what the document's Plain makes of a place -/
def at9 (l : List Int) (level start fin : Int) (i : Nat) : Int :=
  if neuS (l.getD i 0) then pick9 (side9 start (l.take i).reverse) (side9 fin (l.drop (i + 1))) level else l.getD i 0
theorem at9_eq {l : List Int} {level start fin : Int} {i : Nat} (hs : 0 ≤ start) (hf : 0 ≤ fin) (hi : i < l.length) : at9 l level start fin i = atS l level start fin i := by
  unfold at9 atS
  by_cases h : neuS (l.getD i 0) = true
  · rw [if_pos h, if_pos h, side9_eq hs, side9_eq hf, pick9_eq (sideL_cases start hs _) (sideL_cases fin hf _), sideL_drop fin hi, if_pos h]
  · rw [if_neg h, if_neg h]
/-- the first places of the document's answer -/
def ref9 (l : List Int) (level start fin : Int) : Nat → List Int
  | 0 => []
  | k + 1 => ref9 l level start fin k ++ [at9 l level start fin k]
theorem ref9_len (l : List Int) (level start fin : Int) : ∀ k, (ref9 l level start fin k).length = k
  | 0 => rfl
  | k + 1 => by rw [ref9, List.length_append, ref9_len l level start fin k]; rfl
theorem ref9_at (l : List Int) (level start fin : Int) : ∀ k j, j < k → (ref9 l level start fin k).getD j 0 = at9 l level start fin j
  | 0, _, h => absurd h (Nat.not_lt_zero _)
  | k + 1, j, h => by
    rw [ref9]
    by_cases e : j = k
    · subst e
      simp [List.getD, ref9_len]
    · have hj : j < k := by omega
      have := ref9_at l level start fin k j hj
      rw [← this]
      simp only [List.getD]
      rw [List.getElem?_append_left (by rw [ref9_len]; exact hj)]
theorem ref9_eq {l : List Int} {level start fin : Int} (hs : 0 ≤ start) (hf : 0 ≤ fin) : ref9 l level start fin l.length = plainP l level start fin :=
  plainP_unique (ref9_len l level start fin _) fun j hj => by rw [ref9_at l level start fin _ j hj, at9_eq hs hf hj]

/-! ### four places, and one -/
def wantS (a b level : Int) : Int := if (a = 0) = (b = 0) then min a 1 else level % 2
def strong4 (a : Int) : Prop := a = 0 ∨ a = 1 ∨ a = 3 ∨ a = 6
theorem mn0 : min (0 : Int) 1 = 0 := by decide
theorem mn3 : min (3 : Int) 1 = 1 := by decide
theorem mn6 : min (6 : Int) 1 = 1 := by decide
theorem plain_four {a b : Int} (level start fin : Int) (ha : strong4 a) (hb : strong4 b) : plainP [a, 13, 12, b] level start fin = [a, wantS a b level, wantS a b level, b] := by
  rcases ha with rfl | rfl | rfl | rfl <;> rcases hb with rfl | rfl | rfl | rfl <;> simp [plainP, stP, neuS, wayS, fillS, pickS, wantS, mn0, mn3, mn6]
theorem plain_one {a b : Int} (level : Int) (ha : strong4 a) (hb : strong4 b) : plainP [13] level a b = [wantS a b level] := by
  rcases ha with rfl | rfl | rfl | rfl <;> rcases hb with rfl | rfl | rfl | rfl <;> simp [plainP, stP, neuS, fillS, pickS, wantS, mn0, mn3, mn6]

end Go.Proofs.Ytmbjdchknjollaa

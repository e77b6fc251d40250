/-
  Bounds of levels and classes.
-/
import Derived.Test.YtaojjneajiobnaaNst
namespace Go.Proofs.Ytaojjneajiobnaa

/-- what holds of all entries of the stack -/
def Good (base : Int) (s : PS) : Prop := ∀ e ∈ s.stk, base ≤ e.lv ∧ (e.ov = 0 ∨ e.ov = 1 ∨ e.ov = 13)
theorem Good.top {base : Int} {s : PS} {k : Nat} (h : Good base s) (hf : Fit s k) : base ≤ s.top.lv ∧ (s.top.ov = 0 ∨ s.top.ov = 1 ∨ s.top.ov = 13) := by
  obtain ⟨t, rest, e1, e2, _⟩ := hf.parts
  rw [e2]
  exact h t (by rw [e1]; simp)
theorem next_gt (lv : Int) (left : Bool) : lv < nextS lv left := by unfold nextS; split <;> omega
theorem good_push {base : Int} {s : PS} {k : Nat} (h : Good base s) (hf : Fit s k) (left : Bool) (ov : Int) (iso : Bool) (ho : ov = 0 ∨ ov = 1 ∨ ov = 13) : Good base (pushS s left ov iso).1 := by
  by_cases hc : 125 < nextS s.top.lv left ∨ 0 < s.is + s.em
  · rw [push_no hc]; exact h
  · rw [push_yes hc]
    intro e he
    rcases List.mem_cons.1 he with rfl | he
    · exact ⟨by have := (h.top hf).1; have := next_gt s.top.lv left; simp only; omega, ho⟩
    · exact h e he
theorem good_of {base : Int} {s t : PS} (h : Good base s) (hs : t.stk = s.stk) : Good base t := by unfold Good; rw [hs]; exact h
theorem good_sub {base : Int} {s t : PS} (h : Good base s) (hs : ∀ e ∈ t.stk, e ∈ s.stk) : Good base t := fun e he => h e (hs e he)
theorem good_embed {base : Int} {s : PS} {k : Nat} (h : Good base s) (hf : Fit s k) (x : Int) : Good base (embedS s x) := by
  have hp := good_push h hf (x == 15 || x == 18) (if x = 17 then 0 else if x = 18 then 1 else 13) false (by split; exact .inl rfl; split; exact .inr (.inl rfl); exact .inr (.inr rfl))
  unfold embedS
  generalize pushS s (x == 15 || x == 18) (if x = 17 then 0 else if x = 18 then 1 else 13) false = p at hp ⊢
  simp only
  split
  · exact good_of hp rfl
  · exact hp
theorem good_open {base : Int} {s : PS} {k : Nat} (h : Good base s) (hf : Fit s k) (left : Bool) : Good base (openS s left) := by
  have hp := good_push h hf left 13 true (.inr (.inr rfl))
  unfold openS
  simp only
  split
  · exact good_of hp rfl
  · exact good_of hp rfl
theorem good_end {base : Int} {s : PS} (h : Good base s) : Good base (endS s) := by
  unfold endS
  split
  · exact h
  · split
    · exact good_of h rfl
    · split
      · exact good_sub h fun e he => List.mem_of_mem_tail he
      · exact h
theorem good_close {base : Int} {s : PS} (h : Good base s) : Good base (closeS s) := by
  unfold closeS
  split
  · exact good_of h rfl
  · split
    · exact good_sub h fun e he => (List.dropWhile_sublist _).subset (List.mem_of_mem_tail he)
    · exact h
theorem good_step {base : Int} {s : PS} {k : Nat} (h : Good base s) (hf : Fit s k) (f : Bool) (x : Int) : Good base (stepS f s x).1 := by
  unfold stepS
  split
  · exact good_embed h hf x
  · split
    · exact good_end h
    · split
      · exact good_open h hf _
      · split
        · exact good_close h
        · split
          · exact h
          · split <;> exact h
theorem exp_good (cl : List Int) {base : Int} (hb : 0 ≤ base ∧ base ≤ 1) : ∀ k, Good base (expSt cl base k).1
  | 0 => fun e he => by
    have : e = ⟨base, 13, false⟩ := by simpa [expSt, start] using he
    subst this; exact ⟨Int.le_refl _, .inr (.inr rfl)⟩
  | k + 1 => good_step (exp_good cl hb k) (exp_fit cl hb k).1 _ _
/-- a class of one place -/
def ClsIs (x v : Int) : Prop := ((x = 9 ∨ (14 ≤ x ∧ x ≤ 18)) ∧ v = 9) ∨ (x = 10 ∧ v = 10) ∨ (x ≠ 9 ∧ ¬ (14 ≤ x ∧ x ≤ 18) ∧ x ≠ 10 ∧ (v = x ∨ v = 0 ∨ v = 1))
theorem as_is {base : Int} {s : PS} {k : Nat} (h : Good base s) (hf : Fit s k) (x : Int) : asS s x = x ∨ asS s x = 0 ∨ asS s x = 1 := by
  have := (h.top hf).2
  unfold asS
  split <;> omega
theorem step_bd {base : Int} {s : PS} {k : Nat} (h : Good base s) (hf : Fit s k) (h2 : Fit2 s) (f : Bool) (x : Int) : base ≤ (stepS f s x).2.1 ∧ ClsIs x (stepS f s x).2.2 := by
  have t1 := (h.top hf).1
  have t2 := ((good_end h).top (end_fit hf)).1
  have t3 := ((good_close h).top (close_fit hf h2)).1
  have a1 := as_is h hf x
  have a2 := as_is (good_close h) (close_fit hf h2) x
  unfold stepS ClsIs
  split
  · exact ⟨t1, .inl ⟨.inr (by omega), rfl⟩⟩
  · split
    · exact ⟨t2, .inl ⟨.inr (by omega), rfl⟩⟩
    · split
      · exact ⟨t1, .inr (.inr ⟨by omega, by omega, by omega, a1⟩)⟩
      · split
        · exact ⟨t3, .inr (.inr ⟨by omega, by omega, by omega, a2⟩)⟩
        · split
          · exact ⟨t1, .inr (.inl ⟨by omega, rfl⟩)⟩
          · split
            · exact ⟨t1, .inl ⟨by omega, rfl⟩⟩
            · exact ⟨t1, .inr (.inr ⟨by omega, by omega, by omega, a1⟩)⟩
theorem bd_at {cl : List Int} {base : Int} (hb : 0 ≤ base ∧ base ≤ 1) {i : Nat} {x lv v : Int} (hx : cl[i]? = some x) (hl : (levelsS cl base)[i]? = some lv) (hv : (classesS cl base)[i]? = some v) :
    base ≤ lv ∧ ClsIs x v := by
  have hi : i < cl.length := (List.getElem?_eq_some_iff.1 hx).1
  obtain ⟨f1, f2⟩ := exp_fit cl hb i
  have := step_bd (exp_good cl hb i) f1 f2 (fsiAt cl i) (cl.getD i 0)
  rw [levels_at hi] at hl
  rw [classes_at hi] at hv
  injection hl with hl
  injection hv with hv
  rw [hl, hv, getD_of hx] at this
  exact this
/-- an isolate and what ends it are of one level -/
theorem bd_match {cl : List Int} (base : Int) {i : Nat} {c k : Int} (hc : cl[i]? = some c) (hk : (matchS cl)[i]? = some k) (h0 : 0 ≤ k) (hn : k < cl.length) : ∃ e : Nat, k = e ∧ e < cl.length ∧ (levelsS cl base)[e]? = (levelsS cl base)[i]? := by
  have hi : i < cl.length := (List.getElem?_eq_some_iff.1 hc).1
  rcases match_cases hc hk with ⟨_, h⟩ | ⟨e, h⟩ | ⟨q, h⟩ | ⟨_, h, _⟩
  · omega
  · obtain rfl : k = e := h.2.1
    exact ⟨e, rfl, h.2.2.2.1, ends_level base hc h⟩
  · obtain ⟨_, rfl, rfl, h4, h5, z, h6, h7⟩ := h
    refine ⟨q, rfl, by omega, ?_⟩
    rcases match_cases h6 h5 with ⟨_, g⟩ | ⟨e, g⟩ | ⟨q', g⟩ | ⟨_, g, _⟩
    · omega
    · obtain rfl : i = e := by have := g.2.1; omega
      exact (ends_level base h6 g).symm
    · have := g.1; rw [h7] at this; cases this
    · omega
  · omega
end Go.Proofs.Ytaojjneajiobnaa

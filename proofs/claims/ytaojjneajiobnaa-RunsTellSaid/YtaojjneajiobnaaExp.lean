/-
  The plain form of level.Explicit: step by step.
-/
import Derived.Test.YtaojjneajiobnaaDee
import Derived.Test.YtaojjneajiobnaaMatM
namespace Go.Proofs.Ytaojjneajiobnaa

/-- what a class does: the state behind it, a level, a class -/
def stepS (fsi : Bool) (s : PS) (x : Int) : PS × Int × Int :=
  if x = 14 ∨ x = 15 ∨ x = 17 ∨ x = 18 then (embedS s x, s.top.lv, 9)
  else if x = 16 then (endS s, (endS s).top.lv, 9)
  else if x = 19 ∨ x = 20 ∨ x = 21 then (openS s (x == 20 || (x == 21 && fsi)), s.top.lv, asS s x)
  else if x = 22 then (closeS s, (closeS s).top.lv, asS (closeS s) x)
  else if x = 10 then (s, s.top.lv, 10)
  else if x = 9 then (s, s.top.lv, 9)
  else (s, s.top.lv, asS s x)
/-- does an FSI at place i open to the left? -/
def fsiAt (cl : List Int) (i : Nat) : Bool := (strongS 0 ((cl.take ((matchS cl).getD i 0).toNat).drop (i + 1))).1
def start (base : Int) : PS := { stk := [⟨base, 13, false⟩], is := 0, em := 0, nw := 0 }
/-- behind k places: the state, levels, classes -/
def expSt (cl : List Int) (base : Int) : Nat → PS × List Int × List Int
  | 0 => (start base, [], [])
  | k + 1 =>
    let r := stepS (fsiAt cl k) (expSt cl base k).1 (cl.getD k 0)
    (r.1, (expSt cl base k).2.1 ++ [r.2.1], (expSt cl base k).2.2 ++ [r.2.2])
def levelsS (cl : List Int) (base : Int) : List Int := (expSt cl base cl.length).2.1
def classesS (cl : List Int) (base : Int) : List Int := (expSt cl base cl.length).2.2

/-! ### what holds of the state -/
theorem Fit.mono {s : PS} {k k' : Nat} (h : Fit s k) (hk : k ≤ k') : Fit s k' := ⟨h.ne, h.lv, h.ov, by have := h.len; omega, by have := h.is; omega, by have := h.em; omega, by have := h.nw; omega⟩
theorem next_bd {lv : Int} {left : Bool} (h : 0 ≤ lv) : 0 ≤ nextS lv left := by unfold nextS; split <;> omega
theorem push_fit {s : PS} {k : Nat} (h : Fit s k) (left : Bool) (ov : Int) (iso : Bool) (hov : 0 ≤ ov ∧ ov ≤ 13) : Fit (pushS s left ov iso).1 (k + 1) := by
  by_cases hc : 125 < nextS s.top.lv left ∨ 0 < s.is + s.em
  · rw [push_no hc]; exact h.mono (by omega)
  · rw [push_yes hc]
    obtain ⟨t, rest, e1, e2, l0, _⟩ := h.parts
    have hn := next_bd (left := left) (by rw [e2]; exact l0 : 0 ≤ s.top.lv)
    have h1 := h.len; have h2 := h.is; have h3 := h.em; have h4 := h.nw
    refine ⟨by simp, fun e he => ?_, fun e he => ?_, by simp; omega, by show s.is ≤ k + 1; omega, by show s.em ≤ k + 1; omega, by show s.nw ≤ k + 1; omega⟩
    · rcases List.mem_cons.1 he with rfl | he
      · exact ⟨hn, by simp only; omega⟩
      · exact h.lv e he
    · rcases List.mem_cons.1 he with rfl | he
      · exact hov
      · exact h.ov e he
theorem embed_fit {s : PS} {k : Nat} (h : Fit s k) (x : Int) : Fit (embedS s x) (k + 1) := by
  have hp := push_fit h (x == 15 || x == 18) (if x = 17 then 0 else if x = 18 then 1 else 13) false (by split; omega; split <;> omega)
  unfold embedS
  by_cases hc : 125 < nextS s.top.lv (x == 15 || x == 18) ∨ 0 < s.is + s.em
  · simp only [push_no hc]
    split
    · exact (h.mono (by omega)).with _ _ _ (by have := h.is; omega) (by have := h.em; omega) (by have := h.nw; omega)
    · exact h.mono (by omega)
  · have h2 : (pushS s (x == 15 || x == 18) (if x = 17 then 0 else if x = 18 then 1 else 13) false).2 = true := by rw [push_yes hc]
    simp only [h2]
    exact hp
theorem open_fit {s : PS} {k : Nat} (h : Fit s k) (left : Bool) : Fit (openS s left) (k + 1) := by
  by_cases hc : 125 < nextS s.top.lv left ∨ 0 < s.is + s.em
  · rw [open_no hc]
    exact (h.mono (by omega)).with _ _ _ (by have := h.is; omega) (by have := h.em; omega) (by have := h.nw; omega)
  · rw [open_yes hc]
    have hp := push_fit h left 13 true (by omega)
    exact hp.with _ _ _ hp.is hp.em (by have := h.nw; omega)
theorem embed_fit2 {s : PS} {k : Nat} (hf : Fit s k) (h : Fit2 s) (x : Int) : Fit2 (embedS s x) := by
  by_cases hc : 125 < nextS s.top.lv (x == 15 || x == 18) ∨ 0 < s.is + s.em
  · by_cases hi : s.is = 0
    · rw [embed_no0 hc hi]; exact ⟨h.nw, h.low⟩
    · rw [embed_no1 hc hi]; exact h
  · rw [embed_yes hc, push_yes hc]
    obtain ⟨b, hb, hbi⟩ := h.low
    refine ⟨by simp only [List.countP_cons]; rw [h.nw]; simp, b, ?_, hbi⟩
    rw [List.getLast?_cons_of_ne_nil hf.ne]; exact hb
theorem open_fit2 {s : PS} {k : Nat} (hf : Fit s k) (h : Fit2 s) (left : Bool) : Fit2 (openS s left) := by
  by_cases hc : 125 < nextS s.top.lv left ∨ 0 < s.is + s.em
  · rw [open_no hc]; exact ⟨h.nw, h.low⟩
  · rw [open_yes hc, push_yes hc]
    obtain ⟨b, hb, hbi⟩ := h.low
    refine ⟨by simp only [List.countP_cons]; rw [h.nw]; simp, b, ?_, hbi⟩
    rw [List.getLast?_cons_of_ne_nil hf.ne]; exact hb
theorem end_fit2 {s : PS} {k : Nat} (hf : Fit s k) (h : Fit2 s) : Fit2 (endS s) := by
  by_cases h1 : 0 < s.is
  · rw [end_a h1]; exact h
  · by_cases h2 : 0 < s.em
    · rw [end_b h1 h2]; exact ⟨h.nw, h.low⟩
    · by_cases hc : s.top.iso = false ∧ 1 < s.stk.length
      · rw [end_e h1 h2 hc]
        obtain ⟨t, rest, e1, e2, _⟩ := hf.parts
        obtain ⟨b, hb, hbi⟩ := h.low
        have hn := h.nw
        have ht : t.iso = false := by rw [← e2]; exact hc.1
        have hl := hc.2
        rw [e1] at hn hb hl
        rw [e1]
        refine ⟨?_, b, ?_, hbi⟩
        · show rest.countP _ = s.nw
          rw [List.countP_cons, ht] at hn; simpa using hn
        · show rest.getLast? = some b
          have hr : rest ≠ [] := by rintro rfl; simp at hl
          rwa [List.getLast?_cons_of_ne_nil hr] at hb
      · rw [end_c h1 h2 hc]; exact h
theorem close_fit2 {s : PS} (h : Fit2 s) : Fit2 (closeS s) := by
  by_cases h1 : 0 < s.is
  · rw [close_a h1]; exact ⟨h.nw, h.low⟩
  · by_cases h2 : 0 < s.nw
    · rw [close_b h1 h2]
      obtain ⟨pre, t, rest, h3, h4, h5, h6, h7⟩ := close_parts h h2
      obtain ⟨b, hb, hbi⟩ := h.low
      have hn := h.nw
      rw [h6]
      refine ⟨?_, b, ?_, hbi⟩
      · show rest.countP _ = s.nw - 1
        rw [h3, List.countP_append, List.countP_cons, h5] at hn
        have hp : pre.countP (fun e => e.iso) = 0 := List.countP_eq_zero.2 (fun e he => by rw [h4 e he]; decide)
        rw [hp] at hn
        simp at hn
        omega
      · show rest.getLast? = some b
        rw [h3, List.getLast?_append, List.getLast?_cons_of_ne_nil h7] at hb
        cases hr : rest.getLast? with
        | none => exact absurd (List.getLast?_eq_none_iff.1 hr) h7
        | some z => rw [hr] at hb; simpa using hb
    · rw [close_c h1 h2]; exact h
theorem step_fit {s : PS} {k : Nat} (h : Fit s k) (h2 : Fit2 s) (fsi : Bool) (x : Int) : Fit (stepS fsi s x).1 (k + 1) ∧ Fit2 (stepS fsi s x).1 := by
  unfold stepS
  split
  · exact ⟨embed_fit h x, embed_fit2 h h2 x⟩
  · split
    · exact ⟨(end_fit h).mono (by omega), end_fit2 h h2⟩
    · split
      · exact ⟨open_fit h _, open_fit2 h h2 _⟩
      · split
        · exact ⟨(close_fit h h2).mono (by omega), close_fit2 h2⟩
        · split
          · exact ⟨h.mono (by omega), h2⟩
          · split <;> exact ⟨h.mono (by omega), h2⟩
theorem start_fit {base : Int} (hb : 0 ≤ base ∧ base ≤ 1) : Fit (start base) 0 ∧ Fit2 (start base) := by
  refine ⟨⟨by simp [start], fun e he => ?_, fun e he => ?_, by simp [start], Nat.le_refl _, Nat.le_refl _, Nat.le_refl _⟩, ⟨rfl, _, rfl, rfl⟩⟩
  · have : e = ⟨base, 13, false⟩ := by simpa [start] using he
    subst this; exact ⟨hb.1, by simp only; omega⟩
  · have : e = ⟨base, 13, false⟩ := by simpa [start] using he
    subst this; exact ⟨by simp only; omega, by simp only; omega⟩
theorem exp_fit (cl : List Int) {base : Int} (hb : 0 ≤ base ∧ base ≤ 1) : ∀ k, Fit (expSt cl base k).1 k ∧ Fit2 (expSt cl base k).1
  | 0 => start_fit hb
  | k + 1 => step_fit (exp_fit cl hb k).1 (exp_fit cl hb k).2 _ _
theorem exp_len (cl : List Int) (base : Int) : ∀ k, (expSt cl base k).2.1.length = k ∧ (expSt cl base k).2.2.length = k
  | 0 => ⟨rfl, rfl⟩
  | k + 1 => by
    obtain ⟨h1, h2⟩ := exp_len cl base k
    simp only [expSt, List.length_append, h1, h2, List.length_singleton, and_self]
end Go.Proofs.Ytaojjneajiobnaa

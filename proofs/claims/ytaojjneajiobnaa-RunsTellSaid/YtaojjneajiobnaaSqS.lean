/-
  Runs of levels, and sequences, as lists: plain law.
-/
import Derived.Test.YtaojjneajiobnaaNst
namespace Go.Proofs.Ytaojjneajiobnaa
open Go.RowKit

/-- where the run of a ends, looked for from t on: levels f of n places -/
def runTo (f : Nat → Int) (n a : Nat) : Nat → Nat → Nat
  | 0, t => t
  | m + 1, t => if t < n ∧ f t = f a then runTo f n a m (t + 1) else t
def runEnd (f : Nat → Int) (n a : Nat) : Nat := runTo f n a (n - (a + 1)) (a + 1)
/-- where the k-th run begins -/
def cut (f : Nat → Int) (n : Nat) : Nat → Nat
  | 0 => 0
  | k + 1 => runEnd f n (cut f n k)
section
variable {f : Nat → Int} {n a t : Nat}
theorem runTo_on (h : t < n) (e : f t = f a) : runTo f n a (n - t) t = runTo f n a (n - (t + 1)) (t + 1) := by
  rw [show n - t = (n - (t + 1)) + 1 by omega, runTo, if_pos ⟨h, e⟩]
theorem runTo_off (h : ¬ (t < n ∧ f t = f a)) : runTo f n a (n - t) t = t := by
  rcases Nat.eq_zero_or_pos (n - t) with h0 | h0
  · rw [h0]; rfl
  · rw [show n - t = (n - t - 1) + 1 by omega, runTo, if_neg h]
theorem runTo_spec : ∀ (m t : Nat), m = n - t → t ≤ n → a < t → (∀ j, a ≤ j → j < t → f j = f a) →
    t ≤ runTo f n a m t ∧ runTo f n a m t ≤ n ∧ (∀ j, a ≤ j → j < runTo f n a m t → f j = f a) ∧ (runTo f n a m t = n ∨ f (runTo f n a m t) ≠ f a)
  | 0, t, hm, ht, hat, hj => ⟨Nat.le_refl _, ht, hj, .inl (show t = n by omega)⟩
  | m + 1, t, hm, ht, hat, hj => by
    rw [runTo]
    split
    · rename_i h
      obtain ⟨h1, h2, h3, h4⟩ := runTo_spec m (t + 1) (by omega) (by omega) (by omega) (fun j h1 h2 => by
        rcases Nat.lt_or_ge j t with h3 | h3
        · exact hj j h1 h3
        · rw [show j = t by omega]; exact h.2)
      exact ⟨by omega, h2, h3, h4⟩
    · rename_i h
      exact ⟨Nat.le_refl _, ht, hj, by
        rcases Nat.lt_or_ge t n with h3 | h3
        · exact .inr (fun e => h ⟨h3, e⟩)
        · exact .inl (by omega)⟩
theorem runEnd_spec (h : a < n) : a < runEnd f n a ∧ runEnd f n a ≤ n ∧ (∀ j, a ≤ j → j < runEnd f n a → f j = f a) ∧ (runEnd f n a = n ∨ f (runEnd f n a) ≠ f a) := by
  obtain ⟨h1, h2, h3, h4⟩ := runTo_spec (f := f) (n := n) (a := a) (n - (a + 1)) (a + 1) rfl (by omega) (by omega) (fun j h1 h2 => by rw [show j = a by omega])
  exact ⟨by unfold runEnd; omega, h2, h3, h4⟩
end
end Go.Proofs.Ytaojjneajiobnaa

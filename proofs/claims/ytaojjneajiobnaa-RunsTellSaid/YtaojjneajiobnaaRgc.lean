/-
  A rule for a region that draws its order, whose last two operations are a call that makes memory and a store: whatever the order of the others.
-/
import Derived.Test.YtaojjneajiobnaaReg
namespace Go.Proofs.Ytaojjneajiobnaa
open Go.RowKit

section
variable {P : Program} {Q : Exit → Act → World → Prop}
/-- each operation below n is asked for by a later one, up to n -/
def covB (ops : Array Oper) (n : Nat) : Bool := (List.range n).all fun i => (List.range (n + 1)).any fun j => decide (i < j) && ((ops[j]?).map fun o => o.after.any fun e => Region.binds .any e && e.on == i).getD false
theorem cov_at {ops : Array Oper} {n i : Nat} (h : covB ops n = true) (hi : i < n) : ∃ j o e, i < j ∧ j ≤ n ∧ ops[j]? = some o ∧ e ∈ o.after ∧ Region.binds .any e = true ∧ e.on = i := by
  unfold covB at h
  rw [List.all_eq_true] at h
  have h1 := h i (List.mem_range.2 hi)
  rw [List.any_eq_true] at h1
  obtain ⟨j, hj, h2⟩ := h1
  rw [Bool.and_eq_true] at h2
  obtain ⟨h3, h4⟩ := h2
  cases ho : ops[j]? with
  | none => rw [ho] at h4; cases h4
  | some o =>
    rw [ho] at h4
    simp only [Option.map_some, Option.getD_some, Array.any_eq_true] at h4
    obtain ⟨x, hx, h5⟩ := h4
    rw [Bool.and_eq_true] at h5
    exact ⟨j, o, o.after[x], of_decide_eq_true h3, by have := List.mem_range.1 hj; omega, ho, Array.getElem_mem hx, h5.1, by simpa using h5.2⟩
/-- where n may come up, or is done, all below are done -/
theorem cov_all {ops : Array Oper} {n : Nat} {L : Array Bool} (hc : covB ops n = true) (hcl : Closed .any ops L) (hn : ∀ o, ops[n]? = some o → ∀ e ∈ o.after, Region.binds .any e = true → L.getD e.on false = true) : ∀ m i, m = n - i → i < n → L.getD i false = true := by
  intro m
  induction m using Nat.strongRecOn with
  | ind m ih =>
    intro i hm hi
    obtain ⟨j, o, e, hij, hjn, ho, he, hb, rfl⟩ := cov_at hc hi
    by_cases hj : j = n
    · subst hj; exact hn o ho e he hb
    · exact hcl j o ho (ih (n - j) (by omega) j rfl (by omega)) e he hb
theorem rep_false (m i : Nat) : (Array.replicate m false).getD i false = false := by
  rcases Nat.lt_or_ge i m with h | h
  · simp [h]
  · simp [h]
theorem wp_region_call {id : Nat} {l : List Oper} {a : Act} {w : World} (hm : P.follows .mixedOrders = true) (n : Nat) (hlen : l.toArray.size = n + 2) (I0 : Array Bool → Act → World → Prop) (J : Act → World → Prop)
    (h0 : I0 (Array.replicate l.toArray.size false) a w.drew)
    (hfix : ∀ (L : Array Bool) (a : Act) (w : World) (i : Nat) (o : Oper), i < n → L.size = l.toArray.size → I0 L a w → l.toArray[i]? = some o → L.getD i true = false → (∀ e ∈ o.after, Region.binds .any e = true → L.getD e.on false = true) →
      wpOp P l.toArray Q i (fun a' w' => I0 (L.setIfInBounds i true) a' w') a w)
    (hcall : ∀ (L : Array Bool) (a : Act) (w : World), I0 L a w → (∀ i, i < n → L.getD i false = true) → wpOp P l.toArray Q n J a w)
    (hstore : ∀ (a : Act) (w : World), J a w → wpOp P l.toArray Q (n + 1) (fun a' w' => Q .normal a' w') a w)
    (hcov : covB l.toArray n = true) (hdep : ∀ o, l.toArray[n + 1]? = some o → ∃ e ∈ o.after, Region.binds .any e = true ∧ e.on = n)
    (hacyc : ∀ (i : Nat) (o : Oper), l.toArray[i]? = some o → ∀ e ∈ o.after, e.on < i) : (Code.region id l.toArray true).wp P Q a w := by
  refine wp_region_inv hm (fun L a w => (L.getD n false = false ∧ L.getD (n + 1) false = false ∧ I0 L a w) ∨ (L.getD n false = true ∧ L.getD (n + 1) false = false ∧ J a w) ∨ (L.getD (n + 1) false = true ∧ Q .normal a w)) ?_ ?_ ?_ hacyc
  · left
    exact ⟨rep_false _ _, rep_false _ _, h0⟩
  · intro L a w i o hs hcl hI ho hl hd
    have hi : i < n + 2 := by rw [← hlen]; exact (Array.getElem?_eq_some_iff.1 ho).1
    have hil : i < L.size := by omega
    have hlf : L.getD i false = false := by simpa [hil] using hl
    have hall : L.getD n false = true → ∀ i, i < n → L.getD i false = true := fun hn i hi => cov_all hcov hcl (fun o ho e he hb => hcl n o ho hn e he hb) _ i rfl hi
    have hlast : L.getD (n + 1) false = true → L.getD n false = true := fun h => by
      obtain ⟨o', ho'⟩ : ∃ o', l.toArray[n + 1]? = some o' := ⟨_, Array.getElem?_eq_getElem (by omega)⟩
      obtain ⟨e, he, hb, hon⟩ := hdep o' ho'
      rw [← hon]; exact hcl _ _ ho' h e he hb
    rcases Nat.lt_or_ge i n with h1 | h1
    · rcases hI with ⟨g1, g2, g3⟩ | ⟨g1, _⟩ | ⟨g1, _⟩
      · refine wpOp_mono (fun a' w' h => .inl ⟨?_, ?_, h⟩) (hfix L a w i o h1 hs g3 ho hl hd)
        · rw [getD_set_ne false (by omega)]; exact g1
        · rw [getD_set_ne false (by omega)]; exact g2
      · have := hall g1 i h1; rw [hlf] at this; cases this
      · have := hall (hlast g1) i h1; rw [hlf] at this; cases this
    · rcases Nat.lt_or_ge i (n + 1) with h2 | h2
      · obtain rfl : i = n := by omega
        rcases hI with ⟨g1, g2, g3⟩ | ⟨g1, _⟩ | ⟨g1, _⟩
        · refine wpOp_mono (fun a' w' h => .inr (.inl ⟨?_, ?_, h⟩)) (hcall L a w g3 (fun j hj => cov_all hcov hcl (fun o' ho' e he hb => by rw [ho] at ho'; injection ho' with ho'; subst ho'; exact hd e he hb) _ j rfl hj))
          · simp [hil]
          · rw [getD_set_ne false (by omega)]; exact g2
        · rw [hlf] at g1; cases g1
        · have := hlast g1; rw [hlf] at this; cases this
      · obtain rfl : i = n + 1 := by omega
        rcases hI with ⟨g1, _⟩ | ⟨_, _, g3⟩ | ⟨g1, _⟩
        · obtain ⟨e, he, hb, hon⟩ := hdep o ho
          have := hd e he hb
          rw [hon, g1] at this; cases this
        · exact wpOp_mono (fun a' w' h => .inr (.inr ⟨by simp [hil], h⟩)) (hstore a w g3)
        · rw [hlf] at g1; cases g1
  · intro L a w hs hI hall
    rcases hI with ⟨_, g, _⟩ | ⟨_, g, _⟩ | ⟨_, g⟩
    · rw [hall (n + 1) (by omega)] at g; cases g
    · rw [hall (n + 1) (by omega)] at g; cases g
    · exact g
/-- what a guard sees -/
theorem yields_of {ops : Array Oper} {a : Act} {j d : Nat} {b : Bool} {o : Oper} (ho : ops[j]? = some o) (hd : o.dst = some d) (hv : a.tmps.getD d undef = .bool b) : yielded ops a.tmps j = some b := by
  have h : a.tmps[d]? = some (.bool b) := by
    rw [Array.getD_eq_getD_getElem?] at hv
    cases h : a.tmps[d]? with
    | none => rw [h] at hv; cases hv
    | some v => rw [h] at hv; simp at hv; rw [hv]
  unfold yielded
  rw [ho]
  simp [hd, h]
theorem wpOp_yes {ops : Array Oper} {i j : Nat} {b : Bool} {K : Act → World → Prop} {a : Act} {w : World} {o : Oper} (ho : ops[i]? = some o) (hg : o.guard = some (j, b)) (hy : yielded ops a.tmps j = some b) (h : o.wp P a w K Q) : wpOp P ops Q i K a w := by
  unfold wpOp
  rw [ho]
  simp only [Region.wanted, hg, hy, beq_self_eq_true, if_true]
  exact .inl h
theorem wpOp_no {ops : Array Oper} {i j : Nat} {b b' : Bool} {K : Act → World → Prop} {a : Act} {w : World} {o : Oper} (ho : ops[i]? = some o) (hg : o.guard = some (j, b)) (hy : yielded ops a.tmps j = some b') (hne : b' ≠ b) (h : K (a.put o.dst undef) w) : wpOp P ops Q i K a w := by
  unfold wpOp
  rw [ho]
  have : (some b' == some b) = false := by simpa using hne
  simp only [Region.wanted, hg, hy, this]
  exact h
theorem Plan.Inv.no {p : Plan} {B0 : Nat} {L : Array Bool} {a : Act} {w : World} (h : p.Inv B0 L a w) (ok : p.OK) (f : Fx) (hf : f ∈ p.F) (hl : L.getD f.idx true = false) (hv : f.v = undef) : p.Inv B0 (L.setIfInBounds f.idx true) (a.put (some f.dst) undef) w := by
  rw [← hv]; exact h.fixed ok.1 ok.2.1 ok.2.2 hf hl
end
end Go.Proofs.Ytaojjneajiobnaa

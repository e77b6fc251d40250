/-
  The plain law of the document's w5: a run of terminators beside a number, filled at once.
-/
import Derived.Test.YtmbjdchknjollaaWeakS
namespace Go.Proofs.Ytmbjdchknjollaa

theorem scan_rep5 (b : Bool) : ∀ m, scan endF b (List.replicate m 5) = (if b then List.replicate m 3 else List.replicate m 5) ∧ scanSt endF b (List.replicate m 5) = b
  | 0 => by cases b <;> exact ⟨rfl, rfl⟩
  | m + 1 => by
    have ih := scan_rep5 b m
    cases b
    · have e : endF false 5 = (5, false) := by decide
      simp only [List.replicate_succ, scan, scanSt, e, ih.1, ih.2]; simp
    · have e : endF true 5 = (3, true) := by decide
      simp only [List.replicate_succ, scan, scanSt, e, ih.1, ih.2]; simp
theorem scan_rep3 (b : Bool) : ∀ m, scan endF b (List.replicate m 3) = List.replicate m 3 ∧ (0 < m → scanSt endF b (List.replicate m 3) = true)
  | 0 => ⟨rfl, fun h => absurd h (by omega)⟩
  | m + 1 => by
    have e : endF b 3 = (3, true) := by cases b <;> decide
    have ih := scan_rep3 true m
    simp only [List.replicate_succ, scan, scanSt, e, ih.1]
    refine ⟨trivial, fun _ => ?_⟩
    rcases Nat.eq_zero_or_pos m with rfl | hm
    · rfl
    · exact ih.2 hm
/-- behind a row that does not end in a terminator -/
theorem scanSt_end (b : Bool) (x : List Int) (z : Int) (hz : z ≠ 5) : scanSt endF b (x ++ [z]) = (z == 3) := by
  rw [scanSt_app]
  show (endF _ z).2 = _
  unfold endF
  by_cases h3 : z = 3 <;> simp [h3, hz]
theorem endF_sh {s s' : Bool} {z : Int} (h : z ≠ 5) : endF s z = endF s' z := by simp [endF, h]
theorem scan_sh (s s' : Bool) {z : Int} (h : z ≠ 5) (y : List Int) : scan endF s (z :: y) = scan endF s' (z :: y) := by
  simp only [scan, endF_sh (s := s) (s' := s') h]

/-- does the row before a run end in a number? -/
def ends3 (x : List Int) : Bool := x.getLast? == some 3
theorem st_of (x : List Int) (h : x.getLast? ≠ some 5) : scanSt endF false x = ends3 x := by
  rcases List.eq_nil_or_concat x with rfl | ⟨x', z, rfl⟩
  · rfl
  · rw [List.concat_eq_append] at h ⊢
    have hz : z ≠ 5 := fun e => h (by simp [e])
    rw [scanSt_end _ _ _ hz]
    simp [ends3]
theorem scan_last (s : Bool) (x : List Int) (z : Int) (hz : z ≠ 5) : (scan endF s (x ++ [z])).getLast? = some z := by
  rw [scan_app]
  simp only [scan]
  unfold endF
  by_cases h3 : z = 3 <;> simp [h3, hz]
theorem scan_getLast (x : List Int) (h : x.getLast? ≠ some 5) : (scan endF false x).getLast? = x.getLast? := by
  rcases List.eq_nil_or_concat x with rfl | ⟨x', z, rfl⟩
  · rfl
  · rw [List.concat_eq_append] at h ⊢
    have hz : z ≠ 5 := fun e => h (by simp [e])
    rw [scan_last _ _ _ hz]; simp
theorem scan_headr (s : Bool) (y : List Int) (h : y.head? ≠ some 5) : (scan endF s y).head? = y.head? := by
  cases y with
  | nil => rfl
  | cons z y =>
    have hz : z ≠ 5 := fun e => h (by simp [e])
    simp only [scan, List.head?_cons, Option.some.injEq]
    unfold endF
    by_cases h3 : z = 3 <;> simp [h3, hz]

/-- a run beside a number is made one of numbers -/
theorem ends_near (x y : List Int) (m : Nat) (hm : 0 < m) (hx : x.getLast? ≠ some 5) (hy : y.head? ≠ some 5) (h : ends3 x = true ∨ y.head? = some 3) :
    endsS (x ++ (List.replicate m 5 ++ y)) = endsS (x ++ (List.replicate m 3 ++ y)) := by
  unfold endsS
  congr 1
  rw [scan_app, scan_app, scan_app, scan_app, st_of x hx, (scan_rep5 _ m).1, (scan_rep5 _ m).2, (scan_rep3 _ m).1, (scan_rep3 _ m).2 hm]
  cases he : ends3 x with
  | true => simp
  | false =>
    rw [he] at h
    have h3 : y.head? = some 3 := by simpa using h
    obtain ⟨y', rfl⟩ : ∃ y', y = 3 :: y' := by
      cases y with
      | nil => simp at h3
      | cons z y => simp at h3; exact ⟨y, by rw [h3]⟩
    rw [scan_sh true false (by decide) y']
    simp only [Bool.false_eq_true, if_false, List.reverse_append, List.reverse_replicate]
    rw [scan_app, scan_app, scan_app, scan_app, scanSt_app, scanSt_app]
    have e : scanSt endF false (scan endF false (3 :: y')).reverse = true := by
      have e2 : scan endF false (3 :: y') = 3 :: scan endF true y' := rfl
      rw [e2, List.reverse_cons, scanSt_end _ _ _ (by decide)]; rfl
    rw [e, (scan_rep5 _ m).1, (scan_rep5 _ m).2, (scan_rep3 _ m).1, (scan_rep3 _ m).2 hm]
    simp

theorem ends_mid (x r y : List Int) : ∃ x' r' y', endsS (x ++ (r ++ y)) = x' ++ (r' ++ y') ∧ x'.length = x.length ∧ r'.length = r.length ∧
    r' = (scan endF (scanSt endF false (scan endF (scanSt endF false (x ++ r)) y).reverse) (scan endF (scanSt endF false x) r).reverse).reverse := by
  refine ⟨(scan endF (scanSt endF (scanSt endF false (scan endF (scanSt endF false (x ++ r)) y).reverse) (scan endF (scanSt endF false x) r).reverse) (scan endF false x).reverse).reverse, _, (scan endF false (scan endF (scanSt endF false (x ++ r)) y).reverse).reverse, ?_, ?_, ?_, rfl⟩
  · unfold endsS
    rw [scan_app, scan_app, List.reverse_append, List.reverse_append, List.append_assoc, scan_app, scan_app, List.reverse_append, List.reverse_append, scanSt_app, List.append_assoc]
  · simp [scan_len]
  · simp [scan_len]

/-- a run that has no number beside it stays -/
theorem ends_far (x y : List Int) (m : Nat) (hx : x.getLast? ≠ some 5) (hy : y.head? ≠ some 5) (h : ends3 x = false ∧ y.head? ≠ some 3) :
    ∃ x' y', endsS (x ++ (List.replicate m 5 ++ y)) = x' ++ (List.replicate m 5 ++ y') ∧ x'.length = x.length := by
  obtain ⟨x', r', y', he, h1, h2, h3⟩ := ends_mid x (List.replicate m 5) y
  refine ⟨x', y', ?_, h1⟩
  rw [he, h3, scanSt_app, st_of x hx, h.1, (scan_rep5 _ m).1, (scan_rep5 _ m).2]
  have e : scanSt endF false (scan endF false y).reverse = false := by
    rw [st_of _ (by rw [List.getLast?_reverse, scan_headr _ _ hy]; exact hy)]
    unfold ends3
    rw [List.getLast?_reverse, scan_headr _ _ hy]
    simpa using h.2
  rw [e]
  simp only [Bool.false_eq_true, if_false, List.reverse_replicate]
  rw [(scan_rep5 _ m).1]
  simp
/-- a place that is no terminator stays -/
theorem endF_keep {s : Bool} {z : Int} (hz : z ≠ 5) : (endF s z).1 = z := by
  unfold endF
  by_cases h3 : z = 3 <;> simp [h3, hz]
theorem ends_one (x y : List Int) (z : Int) (hz : z ≠ 5) : ∃ x' y', endsS (x ++ ([z] ++ y)) = x' ++ ([z] ++ y') ∧ x'.length = x.length := by
  obtain ⟨x', r', y', he, h1, h2, h3⟩ := ends_mid x [z] y
  refine ⟨x', y', ?_, h1⟩
  rw [he, h3]
  simp [scan, endF_keep hz]

theorem split_at {l : List Int} {k : Nat} {z : Int} (hz : l[k]? = some z) : l = l.take k ++ ([z] ++ l.drop (k + 1)) := by
  obtain ⟨hk, rfl⟩ := List.getElem?_eq_some_iff.1 hz
  conv => lhs; rw [← List.take_append_drop k l, List.drop_eq_getElem_cons hk]
  rfl
theorem ends_keep {l : List Int} {k : Nat} {z : Int} (hz : l[k]? = some z) (h : z ≠ 5) : (endsS l)[k]? = some z := by
  obtain ⟨x', y', he, h1⟩ := ends_one (l.take k) (l.drop (k + 1)) z h
  rw [← split_at hz] at he
  obtain ⟨hk, _⟩ := List.getElem?_eq_some_iff.1 hz
  have : x'.length = k := by rw [h1, List.length_take]; omega
  rw [he, List.getElem?_append_right (by omega), this, Nat.sub_self]
  rfl
/-- a run from a place to another -/
def Run5 (l : List Int) (f t : Nat) : Prop := ∀ j, f ≤ j → j < t → l[j]? = some 5
theorem run_split {l : List Int} {f t : Nat} (hft : f ≤ t) (h : Run5 l f t) : l = l.take f ++ (List.replicate (t - f) 5 ++ l.drop t) := by
  have e : List.replicate (t - f) 5 = (l.drop f).take (t - f) := by
    apply List.ext_getElem?
    intro j
    by_cases hj : j < t - f
    · rw [List.getElem?_take, if_pos hj, List.getElem?_drop, h (f + j) (by omega) (by omega), List.getElem?_replicate, if_pos hj]
    · rw [List.getElem?_take, if_neg hj, List.getElem?_replicate, if_neg hj]
  rw [e]
  conv => lhs; rw [← List.take_append_drop f l, ← List.take_append_drop (t - f) (l.drop f)]
  rw [List.drop_drop, Nat.add_sub_cancel' hft]
/-- the row with k places of a run filled -/
def fill3 (l : List Int) (f k : Nat) : List Int := l.take f ++ (List.replicate k 3 ++ l.drop (f + k))
theorem fill3_zero (l : List Int) (f : Nat) : fill3 l f 0 = l := by simp [fill3]
theorem fill3_len {l : List Int} {f k : Nat} (h : f + k ≤ l.length) : (fill3 l f k).length = l.length := by
  simp [fill3]; omega
theorem fill3_step {l : List Int} {f k : Nat} (h : f + k < l.length) : fill3 l f (k + 1) = (fill3 l f k).set (f + k) 3 := by
  unfold fill3
  rw [List.set_append_right _ _ (by rw [List.length_take]; omega), List.set_append_right _ _ (by rw [List.length_replicate, List.length_take]; omega), List.length_take, List.length_replicate,
    show f + k - min f l.length - k = 0 by omega, List.drop_eq_getElem_cons h, List.set_cons_zero, List.replicate_succ', List.append_assoc]
  rfl
theorem take_last {l : List Int} {f : Nat} (hf : f ≤ l.length) : (l.take f).getLast? = if f = 0 then none else l[f - 1]? := by
  split
  next h => subst h; rfl
  next h => rw [List.getLast?_eq_getElem?, List.length_take, List.getElem?_take, Nat.min_eq_left hf, if_pos (by omega)]
theorem last_atN {l : List Int} {f : Nat} (hf : f ≤ l.length) {v : Int} (hv : v ≠ 99) : ((l.take f).getLast? = some v) ↔ atN l ((f : Int) - 1) = v := by
  rw [take_last hf]
  split
  next h => subst h; rw [atN_lo (by omega)]; exact ⟨(fun e => nomatch e), fun e => absurd e.symm hv⟩
  next h =>
    have e : (f : Int) - 1 = ((f - 1 : Nat) : Int) := by omega
    have hlt : f - 1 < l.length := by omega
    rw [e, atN_at (List.getElem?_eq_getElem hlt), List.getElem?_eq_getElem hlt]
    simp
theorem head_atN {l : List Int} {t : Nat} {v : Int} (hv : v ≠ 99) : ((l.drop t).head? = some v) ↔ atN l (t : Int) = v := by
  rw [List.head?_drop]
  rcases Nat.lt_or_ge t l.length with h | h
  · rw [atN_at (List.getElem?_eq_getElem h), List.getElem?_eq_getElem h]; simp
  · rw [atN_hi rfl (by omega), List.getElem?_eq_none h]; exact ⟨(fun e => nomatch e), fun e => absurd e.symm hv⟩
/-- a whole run beside a number -/
theorem run_near {l : List Int} {f t : Nat} (hft : f < t) (h : Run5 l f t) (ht : t ≤ l.length) (hl : atN l ((f : Int) - 1) ≠ 5) (hr : atN l (t : Int) ≠ 5) (hn : atN l ((f : Int) - 1) = 3 ∨ atN l (t : Int) = 3) :
    endsS l = endsS (fill3 l f (t - f)) := by
  have hx : (l.take f).getLast? ≠ some 5 := fun e => hl ((last_atN (by omega) (by decide)).1 e)
  have hy : (l.drop t).head? ≠ some 5 := fun e => hr ((head_atN (by decide)).1 e)
  have hc : ends3 (l.take f) = true ∨ (l.drop t).head? = some 3 := by
    rcases hn with hn | hn
    · left; unfold ends3; rw [(last_atN (by omega) (by decide)).2 hn]; rfl
    · right; exact (head_atN (by decide)).2 hn
  have e := ends_near (l.take f) (l.drop t) (t - f) (by omega) hx hy hc
  rw [← run_split (by omega) h] at e
  rw [e]; unfold fill3; rw [Nat.add_sub_cancel' (by omega)]
theorem run_far {l : List Int} {f t : Nat} (hft : f < t) (h : Run5 l f t) (ht : t ≤ l.length) (hl : atN l ((f : Int) - 1) ≠ 5) (hr : atN l (t : Int) ≠ 5) (hn : atN l ((f : Int) - 1) ≠ 3 ∧ atN l (t : Int) ≠ 3) {j : Nat} (hj : f ≤ j ∧ j < t) :
    (endsS l)[j]? = some 5 := by
  have hx : (l.take f).getLast? ≠ some 5 := fun e => hl ((last_atN (by omega) (by decide)).1 e)
  have hy : (l.drop t).head? ≠ some 5 := fun e => hr ((head_atN (by decide)).1 e)
  have hc : ends3 (l.take f) = false ∧ (l.drop t).head? ≠ some 3 := by
    constructor
    · have := fun e => hn.1 ((last_atN (l := l) (f := f) (by omega) (by decide)).1 e)
      unfold ends3; simpa using this
    · exact fun e => hn.2 ((head_atN (by decide)).1 e)
  obtain ⟨x', y', he, h1⟩ := ends_far (l.take f) (l.drop t) (t - f) hx hy hc
  rw [← run_split (by omega) h] at he
  have : x'.length = f := by rw [h1, List.length_take]; omega
  rw [he, List.getElem?_append_right (by omega), List.getElem?_append_left (by rw [List.length_replicate]; omega), List.getElem?_replicate, if_pos (by omega)]
theorem fill3_in {l : List Int} {f k j : Nat} (h : f + k ≤ l.length) (h1 : f ≤ j) (h2 : j < f + k) : (fill3 l f k)[j]? = some 3 := by
  unfold fill3
  rw [List.getElem?_append_right (by rw [List.length_take]; omega), List.getElem?_append_left (by rw [List.length_replicate, List.length_take]; omega), List.getElem?_replicate, if_pos (by rw [List.length_take]; omega)]
theorem fill3_out {l : List Int} {f k j : Nat} (h : f + k ≤ l.length) (h1 : j < f ∨ f + k ≤ j) : (fill3 l f k)[j]? = l[j]? := by
  unfold fill3
  rcases h1 with h1 | h1
  · rw [List.getElem?_append_left (by rw [List.length_take]; omega), List.getElem?_take, if_pos h1]
  · rw [List.getElem?_append_right (by rw [List.length_take]; omega), List.getElem?_append_right (by rw [List.length_replicate, List.length_take]; omega), List.getElem?_drop, List.length_take, List.length_replicate]
    congr 1; omega

/-- the row when the document's w5 has gone over k places -/
def W5 (l z : List Int) (k : Nat) : Prop := z.length = l.length ∧ endsS z = endsS l ∧ ∀ j, j < k → z[j]? = (endsS l)[j]?
theorem endsS_len (l : List Int) : (endsS l).length = l.length := by simp [endsS, scan_len]
theorem W5.start (l : List Int) : W5 l l 0 := ⟨rfl, rfl, fun j hj => absurd hj (by omega)⟩
theorem W5.fin {l z : List Int} {k : Nat} (h : W5 l z k) (hk : k = l.length) : z = endsS l := by
  subst hk
  apply List.ext_getElem?
  intro j
  rcases Nat.lt_or_ge j l.length with hj | hj
  · exact h.2.2 j hj
  · rw [List.getElem?_eq_none (by rw [h.1]; exact hj), List.getElem?_eq_none (by rw [endsS_len]; exact hj)]
theorem W5.pass {l z : List Int} {k : Nat} {x : Int} (h : W5 l z k) (hx : z[k]? = some x) (hn : (x == 5) = false) : W5 l z (k + 1) := by
  refine ⟨h.1, h.2.1, fun j hj => ?_⟩
  rcases Nat.lt_or_ge j k with hjk | hjk
  · exact h.2.2 j hjk
  · obtain rfl : j = k := by omega
    rw [← h.2.1, ends_keep hx (by simpa using hn), hx]
theorem W5.far {l z : List Int} {k f t : Nat} (h : W5 l z k) (hf : f ≤ k ∧ k < t) (hr : Run5 z f t) (ht : t ≤ z.length) (hl : atN z ((f : Int) - 1) ≠ 5) (hrr : atN z (t : Int) ≠ 5) (hn : atN z ((f : Int) - 1) ≠ 3 ∧ atN z (t : Int) ≠ 3) : W5 l z (k + 1) := by
  refine ⟨h.1, h.2.1, fun j hj => ?_⟩
  rcases Nat.lt_or_ge j k with hjk | hjk
  · exact h.2.2 j hjk
  · obtain rfl : j = k := by omega
    rw [← h.2.1, run_far (by omega) hr ht hl hrr hn hf, hr j hf.1 hf.2]
theorem W5.near {l z : List Int} {k f t : Nat} (h : W5 l z k) (hf : f ≤ k ∧ k < t) (hr : Run5 z f t) (ht : t ≤ z.length) (hl : atN z ((f : Int) - 1) ≠ 5) (hrr : atN z (t : Int) ≠ 5) (hn : atN z ((f : Int) - 1) = 3 ∨ atN z (t : Int) = 3) : W5 l (fill3 z f (t - f)) (k + 1) := by
  have e := run_near (by omega) hr ht hl hrr hn
  have hlen : (fill3 z f (t - f)).length = z.length := fill3_len (by omega)
  refine ⟨hlen.trans h.1, e.symm.trans h.2.1, fun j hj => ?_⟩
  rcases Nat.lt_or_ge j f with hjf | hjf
  · rw [fill3_out (by omega) (.inl hjf)]; exact h.2.2 j (by omega)
  · have h3 := fill3_in (l := z) (f := f) (k := t - f) (j := j) (by omega) hjf (by omega)
    rw [h3, ← h.2.1, e, ends_keep h3 (by decide)]
end Go.Proofs.Ytmbjdchknjollaa

/-
  The plain laws of layer 21: length, kinds, twice, cuts, marks.
-/
import Derived.Test.YtmbjdchknjollaaWeakH
namespace Go.Proofs.Ytmbjdchknjollaa

/-! ### place by place -/
def Pl (R : Int → Int → Prop) (l l' : List Int) : Prop := l'.length = l.length ∧ ∀ (i : Nat) (a b : Int), l[i]? = some a → l'[i]? = some b → R a b
theorem Pl.len {R l l'} (h : Pl R l l') : l'.length = l.length := h.1
theorem Pl.trans {R S T : Int → Int → Prop} {a b c : List Int} (h : Pl R a b) (k : Pl S b c) (ht : ∀ x y z, R x y → S y z → T x z) : Pl T a c := by
  refine ⟨k.1.trans h.1, fun i x z hx hz => ?_⟩
  have hi : i < b.length := by rw [h.1]; exact (List.getElem?_eq_some_iff.1 hx).1
  have hy := List.getElem?_eq_getElem hi
  exact ht _ _ _ (h.2 i _ _ hx hy) (k.2 i _ _ hy hz)
theorem Pl.weaken {R S : Int → Int → Prop} {a b : List Int} (h : Pl R a b) (ht : ∀ x y, R x y → S x y) : Pl S a b := ⟨h.1, fun i x y hx hy => ht _ _ (h.2 i x y hx hy)⟩
theorem Pl.nil (R) : Pl R [] [] := ⟨rfl, fun i a b h => by simp at h⟩
theorem Pl.cons {R : Int → Int → Prop} {x y : Int} {a b : List Int} (h : R x y) (k : Pl R a b) : Pl R (x :: a) (y :: b) := by
  refine ⟨by simp [k.1], fun i u v hu hv => ?_⟩
  cases i with
  | zero => simp at hu hv; subst hu; subst hv; exact h
  | succ j => exact k.2 j u v (by simpa using hu) (by simpa using hv)
theorem Pl.rev {R : Int → Int → Prop} {a b : List Int} (k : Pl R a b) : Pl R a.reverse b.reverse := by
  refine ⟨by simp [k.1], fun i u v hu hv => ?_⟩
  have hi : i < a.length := by have := (List.getElem?_eq_some_iff.1 hu).1; simpa using this
  rw [List.getElem?_reverse hi] at hu
  rw [List.getElem?_reverse (by rw [k.1]; exact hi), k.1] at hv
  exact k.2 _ u v hu hv
theorem Pl.scan {σ : Type} {f : σ → Int → Int × σ} {R : Int → Int → Prop} (P : σ → Prop) (h : ∀ s c, P s → R c (f s c).1 ∧ P (f s c).2) : ∀ (l : List Int) (s : σ), P s → Pl R l (scan f s l)
  | [], _, _ => Pl.nil R
  | c :: cs, s, hs => Pl.cons (h s c hs).1 (Pl.scan P h cs _ (h s c hs).2)

def Rm (a b : Int) : Prop := (a ≠ 8 ∧ b = a) ∨ (a = 8 ∧ b ≠ 8)
def Rn (t a b : Int) : Prop := b = a ∨ (a = 3 ∧ b = t)
theorem marks_pl {s : Int} (hs : s ≠ 8) (l : List Int) : Pl Rm l (marksS s l) := by
  refine Pl.scan (fun s => s ≠ 8) (fun s c hs => ?_) l s hs
  unfold markF Rm
  by_cases h : c = 8
  · rw [if_pos h]
    exact ⟨.inr ⟨h, hs⟩, by show (if isoB s then (13 : Int) else s) ≠ 8; split <;> omega⟩
  · rw [if_neg h]
    exact ⟨.inl ⟨h, rfl⟩, by show (if isoB c then (13 : Int) else c) ≠ 8; split <;> omega⟩
theorem num_pl (b t s : Int) (l : List Int) : Pl (Rn t) l (numS b t s l) := by
  refine Pl.scan (fun _ => True) (fun s c _ => ⟨?_, trivial⟩) l s trivial
  unfold numF Rn
  split
  · exact .inl rfl
  · split
    next h3 =>
      split
      · exact .inr ⟨h3, rfl⟩
      · exact .inl h3.symm
    next => exact .inl rfl
def Ra (a b : Int) : Prop := (a ≠ 2 ∧ b = a) ∨ (a = 2 ∧ b = 1)
theorem al_pl (l : List Int) : Pl Ra l (scan alF () l) := by
  refine Pl.scan (fun _ => True) (fun s c _ => ⟨?_, trivial⟩) l () trivial
  unfold alF Ra
  by_cases h : c = 2
  · exact .inr ⟨h, by simp [h]⟩
  · exact .inl ⟨h, by simp [h]⟩
def Rs (a b : Int) : Prop := b = a ∨ (a = 4 ∧ b = 3) ∨ (a = 7 ∧ (b = 3 ∨ b = 6))
theorem sign1_rs (a c b : Int) : Rs c (sign1 a c b) := by
  unfold sign1 Rs
  split
  next h => omega
  next => exact .inl rfl
theorem Pl.set {R : Int → Int → Prop} {a b : List Int} (k : Pl R a b) {j : Nat} {v : Int} (h : ∀ x, b[j]? = some x → ∀ u, R u x → R u v) : Pl R a (b.set j v) := by
  refine ⟨by simp [k.1], fun i x y hx hy => ?_⟩
  rw [List.getElem?_set] at hy
  split at hy
  next e =>
    subst e
    split at hy
    next hj =>
      have e2 : v = y := by injection hy
      subst e2
      have hb := List.getElem?_eq_getElem hj
      exact h _ hb x (k.2 _ _ _ hx hb)
    next => cases hy
  next => exact k.2 i x y hx hy
theorem Pl.same {R : Int → Int → Prop} (hR : ∀ x, R x x) (l : List Int) : Pl R l l := ⟨rfl, fun i a b h h' => by rw [h] at h'; injection h' with e; subst e; exact hR _⟩
theorem sgN_pl (l : List Int) : ∀ m, Pl Rs l (sgN l m)
  | 0 => Pl.same (fun _ => .inl rfl) l
  | m + 1 => by
    unfold sgN
    refine Pl.set (sgN_pl l m) fun x hx u hu => ?_
    have hx' : (sgN l m).getD (m + 1) 0 = x := by simp [List.getD, hx]
    rw [hx']
    have h1 := sign1_rs ((sgN l m).getD m 0) x ((sgN l m).getD (m + 2) 0)
    unfold Rs at *
    omega
def Re (a b : Int) : Prop := b = a ∨ (a = 5 ∧ b = 3)
theorem end_pl (s : Bool) (l : List Int) : Pl Re l (scan endF s l) := by
  refine Pl.scan (fun _ => True) (fun s c _ => ⟨?_, trivial⟩) l s trivial
  unfold endF Re
  split
  next h => rcases h with h | h
            · exact .inl h.symm
            · exact .inr ⟨h.2, rfl⟩
  next => exact .inl rfl
theorem ends_pl (l : List Int) : Pl Re l (endsS l) := by
  have h1 := end_pl false l
  have h2 := (end_pl false (scan endF false l).reverse).rev
  rw [List.reverse_reverse] at h2
  exact h1.trans h2 (fun x y z hx hy => by unfold Re at *; omega)
def Rr (a b : Int) : Prop := ((a = 4 ∨ a = 5 ∨ a = 7) ∧ b = 13) ∨ (¬ (a = 4 ∨ a = 5 ∨ a = 7) ∧ b = a)
theorem rest_pl (l : List Int) : Pl Rr l (restS l) := by
  refine Pl.scan (fun _ => True) (fun s c _ => ⟨?_, trivial⟩) l () trivial
  unfold restF Rr
  by_cases h : c = 4 ∨ c = 5 ∨ c = 7
  · exact .inl ⟨h, by simp only [if_pos h]⟩
  · exact .inr ⟨h, by simp only [if_neg h]⟩

/-- what a class may become -/
def Kind (a b : Int) : Prop :=
  (b ≠ 8 ∧ b ≠ 2 ∧ b ≠ 4 ∧ b ≠ 5 ∧ b ≠ 7) ∧ (a ≠ 8 → (a = 2 → b = 1) ∧ (a = 3 → b = 3 ∨ b = 6 ∨ b = 0) ∧ (a = 4 ∨ a = 5 → b = 13 ∨ b = 3 ∨ b = 0) ∧ (a = 7 → b = 13 ∨ b = 3 ∨ b = 6 ∨ b = 0) ∧ (a ≠ 2 ∧ a ≠ 3 ∧ a ≠ 4 ∧ a ≠ 5 ∧ a ≠ 7 → b = a))
theorem weak_pl (l : List Int) (start : Int) : Pl Kind l (weakP l start) := by
  have h1 := marks_pl (s := min start 1) (by omega) l
  have h2 := h1.trans (num_pl 2 6 (min start 1) _) (T := fun a b => b ≠ 8 ∧ (a ≠ 8 → b = a ∨ a = 3 ∧ b = 6)) (fun x y z hx hy => by unfold Rm at hx; unfold Rn at hy; omega)
  have h3 := h2.trans (al_pl _) (T := fun a b => b ≠ 8 ∧ b ≠ 2 ∧ (a ≠ 8 → b = a ∧ a ≠ 2 ∨ a = 3 ∧ b = 6 ∨ a = 2 ∧ b = 1)) (fun x y z hx hy => by unfold Ra at hy; omega)
  have h4 := h3.trans (sgN_pl _ (l.length - 2)) (T := fun a b => b ≠ 8 ∧ b ≠ 2 ∧ (a ≠ 8 → b = a ∧ a ≠ 2 ∨ a = 3 ∧ b = 6 ∨ a = 2 ∧ b = 1 ∨ a = 4 ∧ b = 3 ∨ a = 7 ∧ (b = 3 ∨ b = 6))) (fun x y z hx hy => by unfold Rs at hy; omega)
  have h5 := h4.trans (ends_pl _) (T := fun a b => b ≠ 8 ∧ b ≠ 2 ∧ (a ≠ 8 → b = a ∧ a ≠ 2 ∨ a = 3 ∧ b = 6 ∨ a = 2 ∧ b = 1 ∨ a = 4 ∧ b = 3 ∨ a = 5 ∧ b = 3 ∨ a = 7 ∧ (b = 3 ∨ b = 6))) (fun x y z hx hy => by unfold Re at hy; omega)
  have h6 := h5.trans (rest_pl _) (T := fun a b => (b ≠ 8 ∧ b ≠ 2 ∧ b ≠ 4 ∧ b ≠ 5 ∧ b ≠ 7) ∧ (a ≠ 8 → b = a ∧ a ≠ 2 ∧ a ≠ 4 ∧ a ≠ 5 ∧ a ≠ 7 ∨ a = 3 ∧ b = 6 ∨ a = 2 ∧ b = 1 ∨ a = 4 ∧ (b = 3 ∨ b = 13) ∨ a = 5 ∧ (b = 3 ∨ b = 13) ∨ a = 7 ∧ (b = 3 ∨ b = 6 ∨ b = 13))) (fun x y z hx hy => by unfold Rr at hy; omega)
  exact h6.trans (num_pl 0 0 (min start 1) _) (T := Kind) (fun x y z hx hy => by unfold Rn at hy; unfold Kind; omega)
theorem weakP_len (l : List Int) (start : Int) : (weakP l start).length = l.length := (weak_pl l start).len

/-! ### twice -/
theorem scan_id {σ : Type} {f : σ → Int → Int × σ} (P : σ → Prop) (Q : Int → Prop) (h : ∀ s c, P s → Q c → (f s c).1 = c ∧ P (f s c).2) : ∀ (l : List Int) (s : σ), P s → (∀ x ∈ l, Q x) → scan f s l = l
  | [], _, _, _ => rfl
  | c :: cs, s, hs, hl => by
    have h1 := h s c hs (hl c (List.mem_cons_self ..))
    show (f s c).1 :: scan f (f s c).2 cs = _
    rw [h1.1, scan_id P Q h cs _ h1.2 (fun x hx => hl x (List.mem_cons_of_mem _ hx))]
def Done (b : Int) : Prop := b ≠ 8 ∧ b ≠ 2 ∧ b ≠ 4 ∧ b ≠ 5 ∧ b ≠ 7
theorem weak_done (l : List Int) (start : Int) : ∀ x ∈ weakP l start, Done x := by
  intro x hx
  obtain ⟨i, hi, rfl⟩ := List.mem_iff_getElem.1 hx
  have h := weak_pl l start
  have hi' : i < l.length := by rw [← h.1]; exact hi
  exact (h.2 i _ _ (List.getElem?_eq_getElem hi') (List.getElem?_eq_getElem hi)).1
theorem num_twice : ∀ (l : List Int) (s : Int), numS 0 0 s (numS 0 0 s l) = numS 0 0 s l
  | [], _ => rfl
  | c :: cs, s => by
    show scan (numF 0 0) s ((numF 0 0 s c).1 :: scan (numF 0 0) (numF 0 0 s c).2 cs) = (numF 0 0 s c).1 :: scan (numF 0 0) (numF 0 0 s c).2 cs
    have e : numF 0 0 s (numF 0 0 s c).1 = numF 0 0 s c := by
      by_cases h : c = 0 ∨ c = 1 ∨ c = 2
      · have : numF 0 0 s c = (c, c) := by simp [numF, h]
        rw [this]; exact this
      · by_cases h3 : c = 3
        · subst h3
          by_cases hs : s = 0
          · subst hs; rfl
          · have : numF 0 0 s 3 = (3, s) := by simp [numF, hs]
            rw [this]; exact this
        · have : numF 0 0 s c = (c, s) := by simp [numF, h, h3]
          rw [this]; exact this
    show (numF 0 0 s (numF 0 0 s c).1).1 :: scan (numF 0 0) (numF 0 0 s (numF 0 0 s c).1).2 _ = _
    rw [e]
    congr 1
    exact num_twice cs _
theorem sgN_id {l : List Int} (h : ∀ x ∈ l, Done x) : ∀ m, m + 2 ≤ l.length ∨ m = 0 → sgN l m = l
  | 0, _ => rfl
  | m + 1, hm => by
    have ih := sgN_id h m (by omega)
    unfold sgN
    rw [ih]
    have hlt : m + 1 < l.length := by omega
    have e : l.getD (m + 1) 0 = l[m + 1] := by simp [List.getD, hlt]
    have hd := h _ (List.getElem_mem hlt)
    rw [e]
    have e2 : sign1 (l.getD m 0) l[m + 1] (l.getD (m + 2) 0) = l[m + 1] := by
      unfold sign1; rw [if_neg]; unfold Done at hd; omega
    rw [e2]
    exact List.set_getElem_self _
theorem weak_twice (l : List Int) (start : Int) : weakP (weakP l start) start = weakP l start := by
  have hd := weak_done l start
  have hn : numS 0 0 (min start 1) (weakP l start) = weakP l start := num_twice _ _
  generalize weakP l start = g at *
  have hs : min start 1 ≠ 2 := by omega
  have h1 : marksS (min start 1) g = g := scan_id (fun _ => True) Done (fun s c _ hc => ⟨by unfold markF; rw [if_neg hc.1], trivial⟩) g _ trivial hd
  have h2 : numS 2 6 (min start 1) g = g := scan_id (fun s => s ≠ 2) Done (fun s c hs hc => by
    unfold numF
    split
    next h => exact ⟨rfl, hc.2.1⟩
    next => split
            next h3 => exact ⟨h3.symm, hs⟩
            next => exact ⟨rfl, hs⟩) g _ hs hd
  have h3 : scan alF () g = g := scan_id (fun _ => True) Done (fun s c _ hc => ⟨by unfold alF; rw [if_neg hc.2.1], trivial⟩) g _ trivial hd
  have h4 : sgN g (g.length - 2) = g := sgN_id hd _ (by omega)
  have he : ∀ (g : List Int) (s : Bool), (∀ x ∈ g, Done x) → scan endF s g = g := fun g s hd => scan_id (fun _ => True) Done (fun s c _ hc => ⟨by
    unfold endF
    split
    next h => rcases h with h | h
              · exact h.symm
              · exact absurd h.2 hc.2.2.2.1
    next => rfl, trivial⟩) g s trivial hd
  have h5 : endsS g = g := by
    unfold endsS
    rw [he g false hd, he g.reverse false (fun x hx => hd x (List.mem_reverse.1 hx)), List.reverse_reverse]
  have h6 : restS g = g := scan_id (fun _ => True) Done (fun s c _ hc => ⟨by unfold restF; rw [if_neg]; unfold Done at hc; omega, trivial⟩) g _ trivial hd
  show numS 0 0 (min start 1) (restS (endsS (sgN (arabS (min start 1) (marksS (min start 1) g)) (g.length - 2)))) = g
  rw [h1]; unfold arabS; rw [h2, h3, h4, h5, h6, hn]

/-! ### marks behind a place -/
theorem marks_twin {l r : List Int} {c s : Int} (hc : c ≠ 8) (hi : isoB c = false) (n : Nat) : marksS s (l ++ c :: (List.replicate n 8 ++ r)) = marksS s (l ++ c :: (List.replicate n c ++ r)) := by
  unfold marksS
  rw [scan_app, scan_app]
  congr 1
  have e1 : ∀ s, markF s c = (c, c) := fun s => by unfold markF; rw [if_neg hc, hi]; rfl
  have e2 : markF c 8 = (c, c) := by unfold markF; rw [if_pos rfl, hi]; rfl
  show (markF _ c).1 :: scan markF (markF _ c).2 _ = (markF _ c).1 :: scan markF (markF _ c).2 _
  rw [e1]
  congr 1
  induction n with
  | zero => rfl
  | succ n ih =>
    show (markF c 8).1 :: scan markF (markF c 8).2 _ = (markF c c).1 :: scan markF (markF c c).2 _
    rw [e1, e2]
    congr 1
theorem weak_twin {l r : List Int} {c start : Int} (hc : c ≠ 8) (hi : isoB c = false) (n : Nat) : weakP (l ++ c :: (List.replicate n 8 ++ r)) start = weakP (l ++ c :: (List.replicate n c ++ r)) start := by
  have hl : (l ++ c :: (List.replicate n 8 ++ r)).length = (l ++ c :: (List.replicate n c ++ r)).length := by simp
  show numS 0 0 (min start 1) (restS (endsS (sgN (arabS (min start 1) (marksS (min start 1) _)) (_ - 2)))) = numS 0 0 (min start 1) (restS (endsS (sgN (arabS (min start 1) (marksS (min start 1) _)) (_ - 2))))
  rw [marks_twin hc hi, hl]
end Go.Proofs.Ytmbjdchknjollaa

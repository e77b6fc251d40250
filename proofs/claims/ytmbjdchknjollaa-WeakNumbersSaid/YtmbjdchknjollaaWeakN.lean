/-
  The plain laws of layer 21: a row that is cut ahead of a letter; numbers behind a letter.
-/
import Derived.Test.YtmbjdchknjollaaWeakM
namespace Go.Proofs.Ytmbjdchknjollaa

/-! ### cut ahead of a letter -/
def Let (c : Int) : Prop := c = 0 ∨ c = 1 ∨ c = 2
/-- a row that begins with a letter -/
def Hd (l : List Int) : Prop := ∃ c y, Let c ∧ l = c :: y
theorem scan_sh1 {σ : Type} {f : σ → Int → Int × σ} {c : Int} {s s' : σ} (h : f s c = f s' c) (y : List Int) : scan f s (c :: y) = scan f s' (c :: y) := by
  show (f s c).1 :: scan f (f s c).2 y = (f s' c).1 :: scan f (f s' c).2 y
  rw [h]
theorem scan_cut {σ : Type} {f : σ → Int → Int × σ} (h : ∀ c, Let c → ∀ s s', f s c = f s' c) (s s' : σ) (x : List Int) {y : List Int} (hy : Hd y) : scan f s (x ++ y) = scan f s x ++ scan f s' y := by
  obtain ⟨c, y, hc, rfl⟩ := hy
  rw [scan_app, scan_sh1 (h c hc _ s')]
theorem scan_hd {σ : Type} {f : σ → Int → Int × σ} (h : ∀ c, Let c → ∀ s, Let (f s c).1) (s : σ) {y : List Int} (hy : Hd y) : Hd (scan f s y) := by
  obtain ⟨c, y, hc, rfl⟩ := hy
  exact ⟨_, _, h c hc s, rfl⟩
theorem markF_let (c : Int) (h : Let c) (s s' : Int) : markF s c = markF s' c := by
  have h8 : ¬ c = 8 := by unfold Let at h; omega
  simp only [markF, if_neg h8]
theorem numF_let {b t : Int} (c : Int) (h : Let c) (s s' : Int) : numF b t s c = numF b t s' c := by
  have h' : c = 0 ∨ c = 1 ∨ c = 2 := h
  simp only [numF, if_pos h']
theorem endF_l (c : Int) (h : Let c) (s : Bool) : endF s c = (c, false) := by
  unfold Let at h; unfold endF; rw [if_neg]; omega
theorem endF_let (c : Int) (h : Let c) (s s' : Bool) : endF s c = endF s' c := by rw [endF_l c h, endF_l c h]
theorem marks_hd (s : Int) {y : List Int} (hy : Hd y) : Hd (marksS s y) :=
  scan_hd (fun c h s => by unfold markF; rw [if_neg (by unfold Let at h; omega)]; exact h) s hy
theorem num_hd (b t s : Int) {y : List Int} (hy : Hd y) : Hd (numS b t s y) :=
  scan_hd (fun c h s => by have h' : c = 0 ∨ c = 1 ∨ c = 2 := h; simp only [numF, if_pos h']; exact h) s hy
theorem al_hd {y : List Int} (hy : Hd y) : Hd (scan alF () y) :=
  scan_hd (fun c h s => by unfold Let at *; unfold alF; simp only; split <;> omega) () hy
theorem rest_hd {y : List Int} (hy : Hd y) : Hd (restS y) :=
  scan_hd (fun c h s => by unfold Let at *; unfold restF; rw [if_neg (by omega)]; exact h) () hy
theorem end_hd (s : Bool) {y : List Int} (hy : Hd y) : Hd (scan endF s y) :=
  scan_hd (fun c h s => by rw [endF_l c h]; exact h) s hy

/-- W4, from place to place -/
theorem sgN_cons (a b c : Int) (r : List Int) : ∀ m, sgN (a :: b :: c :: r) (m + 1) = a :: sgN (sign1 a b c :: c :: r) m
  | 0 => rfl
  | m + 1 => by
    rw [sgN, sgN_cons a b c r m]
    rfl
theorem sgN_signs : ∀ l : List Int, sgN l (l.length - 2) = signsS l
  | [] => rfl
  | [_] => rfl
  | [_, _] => rfl
  | a :: b :: c :: r => by
    show sgN (a :: b :: c :: r) (r.length + 1) = _
    rw [sgN_cons]
    have := sgN_signs (sign1 a b c :: c :: r)
    show a :: sgN (sign1 a b c :: c :: r) ((sign1 a b c :: c :: r).length - 2) = _
    rw [this]
    rfl
termination_by l => l.length
theorem sign1_letb {a c b : Int} (h : Let b) : sign1 a c b = c := by unfold Let at h; unfold sign1; rw [if_neg]; omega
theorem sign1_letc {a c b : Int} (h : Let c) : sign1 a c b = c := by unfold Let at h; unfold sign1; rw [if_neg]; omega
theorem signsFrom_let {c : Int} (h : Let c) (a : Int) : ∀ y, signsFrom a (c :: y) = c :: signsFrom c y
  | [] => rfl
  | b :: y => by rw [signsFrom, sign1_letc h]
theorem signsFrom_cut {c : Int} (h : Let c) (y : List Int) : ∀ (x : List Int) (a : Int), signsFrom a (x ++ c :: y) = signsFrom a x ++ (c :: signsFrom c y)
  | [], a => signsFrom_let h a y
  | [d], a => by
    show signsFrom a (d :: c :: y) = [d] ++ (c :: signsFrom c y)
    rw [signsFrom, sign1_letb h, signsFrom_let h]
    rfl
  | d :: e :: x, a => by
    show sign1 a d e :: signsFrom (sign1 a d e) ((e :: x) ++ c :: y) = sign1 a d e :: signsFrom (sign1 a d e) (e :: x) ++ _
    rw [signsFrom_cut h y (e :: x)]
    rfl
theorem signs_cut (x : List Int) {y : List Int} (hy : Hd y) : signsS (x ++ y) = signsS x ++ signsS y := by
  obtain ⟨c, y, hc, rfl⟩ := hy
  cases x with
  | nil => rfl
  | cons a x =>
    show a :: signsFrom a (x ++ c :: y) = a :: signsFrom a x ++ (c :: signsFrom c y)
    rw [signsFrom_cut hc]
    rfl
theorem signs_hd {y : List Int} (hy : Hd y) : Hd (signsS y) := by
  obtain ⟨c, y, hc, rfl⟩ := hy
  exact ⟨c, _, hc, rfl⟩
theorem ends_cut (x : List Int) {y : List Int} (hy : Hd y) : endsS (x ++ y) = endsS x ++ endsS y := by
  unfold endsS
  rw [scan_cut endF_let false false x hy, List.reverse_append, scan_app]
  obtain ⟨c, z, hc, e⟩ := end_hd false hy
  have h2 : scanSt endF false (scan endF false y).reverse = false := by
    rw [e, List.reverse_cons, scanSt_app]
    show (endF _ c).2 = false
    rw [endF_l c hc]
  rw [h2, List.reverse_append]
theorem ends_hd {y : List Int} (hy : Hd y) : Hd (endsS y) := by
  obtain ⟨c, z, hc, e⟩ := end_hd false hy
  unfold endsS
  rw [e, List.reverse_cons, scan_app, List.reverse_append]
  refine ⟨c, (scan endF false z.reverse).reverse, hc, ?_⟩
  show [(endF _ c).1].reverse ++ _ = _
  rw [endF_l c hc]
  rfl

theorem weakP_eq (l : List Int) (start : Int) : weakP l start = weakS l start := by
  have hl : (arabS (min start 1) (marksS (min start 1) l)).length = l.length := by unfold arabS numS marksS; rw [scan_len, scan_len, scan_len]
  show numS 0 0 (min start 1) (restS (endsS (sgN (arabS (min start 1) (marksS (min start 1) l)) (l.length - 2)))) = _
  rw [← hl, sgN_signs]
  rfl
theorem arab_cut (s s' : Int) (x : List Int) {y : List Int} (hy : Hd y) : arabS s (x ++ y) = arabS s x ++ arabS s' y := by
  unfold arabS numS
  rw [scan_cut numF_let s s' x hy, scan_app]
theorem arab_hd (s : Int) {y : List Int} (hy : Hd y) : Hd (arabS s y) := al_hd (num_hd 2 6 s hy)
theorem weak_cut (x : List Int) {y : List Int} (hy : Hd y) (s s' : Int) : weakP (x ++ y) s = weakP x s ++ weakP y s' := by
  rw [weakP_eq, weakP_eq, weakP_eq]
  unfold weakS
  have h1 := marks_hd (min s' 1) hy
  have h2 := arab_hd (min s' 1) h1
  have h3 := signs_hd h2
  have h4 := ends_hd h3
  have h5 := rest_hd h4
  have e1 : marksS (min s 1) (x ++ y) = marksS (min s 1) x ++ marksS (min s' 1) y := scan_cut markF_let _ _ x hy
  rw [e1, arab_cut _ (min s' 1) _ h1, signs_cut _ h2, ends_cut _ h3]
  unfold restS
  rw [scan_app]
  exact scan_cut numF_let _ _ _ h5
theorem weak_head {y : List Int} (hy : Hd y) (s s' : Int) : weakP y s = weakP y s' := by
  have := weak_cut [] hy s s'
  rw [List.nil_append] at this
  rw [this]
  have e : weakP [] s = [] := List.eq_nil_of_length_eq_zero (weakP_len [] s)
  rw [e]; rfl

/-! ### numbers behind a letter -/
theorem num_const (b t s : Int) : ∀ l : List Int, (∀ x ∈ l, ¬ Let x) → numS b t s l = l.map (fun z => if z = 3 then (if s = b then t else 3) else z)
  | [], _ => rfl
  | z :: l, h => by
    have hz : ¬ (z = 0 ∨ z = 1 ∨ z = 2) := h z (List.mem_cons_self ..)
    have e : numF b t s z = ((if z = 3 then (if s = b then t else 3) else z), s) := by
      unfold numF; rw [if_neg hz]; split <;> rfl
    show (numF b t s z).1 :: scan (numF b t) (numF b t s z).2 l = _
    rw [e]
    show _ :: numS b t s l = _
    rw [num_const b t s l (fun x hx => h x (List.mem_cons_of_mem _ hx))]
    rfl
/-- W4 by the row as it was -/
def signsO (a : Int) : List Int → List Int
  | [] => []
  | [c] => [c]
  | c :: b :: cs => sign1 a c b :: signsO c (b :: cs)
theorem signsFrom_O : ∀ (l : List Int) (a a' : Int), (a = a' ∨ ∃ y r, l = y :: r ∧ (y = 3 ∨ y = 6)) → signsFrom a l = signsO a' l
  | [], _, _, _ => rfl
  | [_], _, _, _ => rfl
  | c :: b :: cs, a, a', h => by
    have e : sign1 a c b = sign1 a' c b := by
      rcases h with rfl | ⟨y, r, he, hy⟩
      · rfl
      · injection he with he _
        subst he
        unfold sign1; rw [if_neg (by omega), if_neg (by omega)]
    show sign1 a c b :: signsFrom (sign1 a c b) (b :: cs) = sign1 a' c b :: signsO c (b :: cs)
    rw [signsFrom_O (b :: cs) (sign1 a c b) c, e]
    by_cases h2 : a = b ∧ (a = 3 ∧ (c = 4 ∨ c = 7) ∨ a = 6 ∧ c = 7)
    · exact .inr ⟨b, cs, rfl, by omega⟩
    · left; unfold sign1; rw [if_neg h2]
theorem signsO_at : ∀ (l : List Int) (a : Int) (i : Nat), (signsO a l)[i]? = if i + 1 < l.length then some (sign1 ((a :: l).getD i 0) (l.getD i 0) (l.getD (i + 1) 0)) else l[i]?
  | [], a, i => by simp [signsO]
  | [c], a, i => by simp [signsO]
  | c :: b :: cs, a, 0 => by simp [signsO]
  | c :: b :: cs, a, i + 1 => by
    show (signsO c (b :: cs))[i]? = _
    rw [signsO_at (b :: cs) c i]
    by_cases h : i + 1 < (b :: cs).length
    · rw [if_pos h, if_pos (by simpa using h)]; rfl
    · rw [if_neg h, if_neg (by simpa using h)]; rfl
theorem signs_at (l : List Int) (i : Nat) (hi : 0 < i) : (signsS l)[i]? = if i + 1 < l.length then some (sign1 (l.getD (i - 1) 0) (l.getD i 0) (l.getD (i + 1) 0)) else l[i]? := by
  cases l with
  | nil => simp [signsS]
  | cons a l =>
    obtain ⟨j, rfl⟩ : ∃ j, i = j + 1 := ⟨i - 1, by omega⟩
    show (signsFrom a l)[j]? = _
    rw [signsFrom_O l a a (.inl rfl), signsO_at]
    by_cases h : j + 1 < l.length
    · rw [if_pos h, if_pos (by simpa using h)]; rfl
    · rw [if_neg h, if_neg (by simpa using h)]; rfl
theorem ends_id {l : List Int} (h : ∀ x ∈ l, x ≠ 3) : endsS l = l := by
  have he : ∀ (g : List Int), (∀ x ∈ g, x ≠ 3) → scan endF false g = g := fun g hd => scan_id (fun s => s = false) (fun x => x ≠ 3) (fun s c hs hc => by
    subst hs
    have : endF false c = (c, false) := by unfold endF; rw [if_neg]; simp [hc]
    rw [this]; exact ⟨rfl, rfl⟩) g false rfl hd
  unfold endsS
  rw [he l h, he l.reverse (fun x hx => h x (List.mem_reverse.1 hx)), List.reverse_reverse]

def numOf (c : Int) : Int := if c = 0 then 0 else if c = 1 then 3 else 6
def GA (c z : Int) : Int := if z = 2 then 1 else if z = 3 ∧ c = 2 then 6 else z
theorem map_at {f : Int → Int} {l : List Int} {i : Nat} {x y : Int} (hx : l[i]? = some x) (hy : (l.map f)[i]? = some y) : y = f x := by
  rw [List.getElem?_map, hx] at hy; injection hy with hy; exact hy.symm
theorem at_some {l l' : List Int} (h : l'.length = l.length) {i : Nat} {x : Int} (hx : l[i]? = some x) : ∃ y, l'[i]? = some y := by
  have : i < l'.length := by rw [h]; exact (List.getElem?_eq_some_iff.1 hx).1
  exact ⟨_, List.getElem?_eq_getElem this⟩
theorem arab_numbers {c : Int} (hc : Let c) {ps : List Int} (hp : ∀ x ∈ ps, x = 3 ∨ x = 4 ∨ x = 5 ∨ x = 7) : arabS 1 (marksS 1 (c :: ps)) = (c :: ps).map (GA c) := by
  have e1 : marksS 1 (c :: ps) = c :: ps := scan_id (fun _ => True) (fun x => x ≠ 8) (fun s z _ hz => ⟨by unfold markF; rw [if_neg hz], trivial⟩) _ _ trivial (by
    intro x hx
    unfold Let at hc
    rcases List.mem_cons.1 hx with rfl | hx
    · omega
    · have := hp x hx; omega)
  rw [e1]
  have e2 : numS 2 6 1 (c :: ps) = c :: ps.map (fun z => if z = 3 then (if c = 2 then 6 else 3) else z) := by
    show (numF 2 6 1 c).1 :: numS 2 6 (numF 2 6 1 c).2 ps = _
    have : numF 2 6 1 c = (c, c) := by have h' : c = 0 ∨ c = 1 ∨ c = 2 := hc; simp only [numF, if_pos h']
    rw [this, num_const 2 6 c ps (fun x hx => by have := hp x hx; unfold Let; omega)]
  unfold arabS
  rw [e2]
  have e3 : ∀ l : List Int, scan alF () l = l.map (fun z => if z = 2 then 1 else z) := by
    intro l
    induction l with
    | nil => rfl
    | cons z l ih => show _ :: scan alF () l = _ :: _; rw [ih]; rfl
  rw [e3]
  show (if c = 2 then 1 else c) :: (ps.map _).map _ = GA c c :: ps.map (GA c)
  rw [List.map_map]
  congr 1
  · unfold GA; unfold Let at hc; split
    · rfl
    · rw [if_neg (by omega)]
  · apply List.map_congr_left
    intro z hz
    have := hp z hz
    simp only [Function.comp, GA]
    rcases this with rfl | rfl | rfl | rfl
    · by_cases h2 : c = 2 <;> simp [h2]
    all_goals simp
/-- what the last two rules make of a place behind the letter c -/
def finF (c z : Int) : Int := if (if z = 4 ∨ z = 5 ∨ z = 7 then 13 else z) = 3 then (if c = 0 then 0 else 3) else (if z = 4 ∨ z = 5 ∨ z = 7 then 13 else z)
theorem num_fin : ∀ c ∈ [(0 : Int), 1, 2], ∀ a ∈ [(0 : Int), 1, 2, 3, 4, 5, 7], ∀ b ∈ [(3 : Int), 4, 5, 7], ∀ x ∈ [(4 : Int), 7],
    ¬ (5 = sign1 (GA c a) (GA c x) (GA c b)) ∧ (x = 7 → (finF c (sign1 (GA c a) (GA c x) (GA c b)) = numOf c ↔ a = 3 ∧ b = 3)) ∧
      (x = 4 → (finF c (sign1 (GA c a) (GA c x) (GA c b)) = numOf c ↔ a = 3 ∧ b = 3 ∧ c ≠ 2)) := by decide +kernel
set_option maxHeartbeats 1000000 in
theorem numbers_at {c : Int} (hc : Let c) {ps : List Int} (hp : ∀ x ∈ ps, x = 3 ∨ x = 4 ∨ x = 5 ∨ x = 7) {i : Nat} {x y : Int} (hi : 0 < i) (hx : (c :: ps)[i]? = some x) (hy : (weakP (c :: ps) 1)[i]? = some y) :
    (x = 3 → y = numOf c) ∧ (x = 5 → c = 2 → y = 13) ∧ ∀ a b, (c :: ps)[i - 1]? = some a → (c :: ps)[i + 1]? = some b → (x = 7 → (y = numOf c ↔ a = 3 ∧ b = 3)) ∧ (x = 4 → (y = numOf c ↔ a = 3 ∧ b = 3 ∧ c ≠ 2)) := by
  have hall : ∀ j z, (c :: ps)[j]? = some z → (j = 0 ∧ z = c) ∨ (0 < j ∧ (z = 3 ∨ z = 4 ∨ z = 5 ∨ z = 7)) := by
    intro j z hz
    cases j with
    | zero => left; simp at hz; exact ⟨rfl, hz.symm⟩
    | succ j => right; exact ⟨by omega, hp z (List.mem_of_getElem? (by simpa using hz))⟩
  have hxx : x = 3 ∨ x = 4 ∨ x = 5 ∨ x = 7 := by rcases hall i x hx with ⟨h, _⟩ | ⟨_, h⟩ <;> first | exact h | omega
  rw [weakP_eq] at hy
  unfold weakS at hy
  rw [show min (1 : Int) 1 = 1 from rfl, arab_numbers hc hp] at hy
  generalize hS2 : (c :: ps).map (GA c) = S2 at hy
  have hl2 : S2.length = (c :: ps).length := by rw [← hS2, List.length_map]
  have g2 : ∀ j z, (c :: ps)[j]? = some z → S2[j]? = some (GA c z) := fun j z hz => by rw [← hS2, List.getElem?_map, hz]; rfl
  have i2 : ∀ z ∈ S2, c = 2 → z ≠ 3 := by
    intro z hz e
    rw [← hS2] at hz
    obtain ⟨u, _, rfl⟩ := List.mem_map.1 hz
    unfold GA; split
    · omega
    · split <;> omega
  generalize hS3 : signsS S2 = S3 at hy
  have hl3 : S3.length = S2.length := by
    have h0 := sgN_signs S2
    rw [← hS3, ← h0, sgN_len]
  have p3 : Pl Rs S2 S3 := by rw [← hS3, ← sgN_signs]; exact sgN_pl _ _
  have g3 : ∀ j, 0 < j → S3[j]? = if j + 1 < S2.length then some (sign1 (S2.getD (j - 1) 0) (S2.getD j 0) (S2.getD (j + 1) 0)) else S2[j]? := fun j hj => by rw [← hS3]; exact signs_at S2 j hj
  have i3 : ∀ z ∈ S3, c = 2 → z ≠ 3 := by
    intro z hz e
    obtain ⟨j, hj, rfl⟩ := List.mem_iff_getElem.1 hz
    have hz3 := List.getElem?_eq_getElem hj
    cases j with
    | zero =>
      obtain ⟨u, hu⟩ := at_some hl3.symm hz3
      have h0 := p3.2 0 _ _ hu hz3
      have hu' : u = GA c c := by have := g2 0 c rfl; rw [this] at hu; injection hu with hu; exact hu.symm
      subst e
      rw [hu'] at h0
      have : GA 2 2 = 1 := rfl
      unfold Rs at h0
      omega
    | succ j =>
      rw [g3 (j + 1) (by omega)] at hz3
      split at hz3
      next hlt =>
        injection hz3 with hz3
        rw [← hz3]
        have m1 := i2 (S2.getD (j + 1 - 1) 0) (by simp only [Nat.add_sub_cancel, List.getD]; rw [List.getElem?_eq_getElem (by omega)]; exact List.getElem_mem _) e
        have m2 := i2 (S2.getD (j + 1) 0) (by simp only [List.getD]; rw [List.getElem?_eq_getElem (by omega)]; exact List.getElem_mem _) e
        unfold sign1; split <;> assumption
      next => exact i2 _ (List.mem_of_getElem? hz3) e
  have z30 : ∀ z, S3[0]? = some z → z = GA c c := by
    intro z hz
    obtain ⟨u, hu⟩ := at_some hl3.symm hz
    rw [← hS3] at hz
    rw [g2 0 c rfl] at hu
    cases hS : S2 with
    | nil => rw [hS] at hz; simp [signsS] at hz
    | cons a r =>
      rw [hS] at hz
      have := g2 0 c rfl
      rw [hS] at this
      simp [signsS] at hz this
      omega
  generalize hS4 : endsS S3 = S4 at hy
  have p4 : Pl Re S3 S4 := by rw [← hS4]; exact ends_pl S3
  have e4 : c = 2 → S4 = S3 := fun e => by rw [← hS4]; exact ends_id (fun z hz => i3 z hz e)
  generalize hS5 : restS S4 = S5 at hy
  have p5 : Pl Rr S4 S5 := by rw [← hS5]; exact rest_pl S4
  have hl5 : S5.length = (c :: ps).length := by rw [p5.1, p4.1, hl3, hl2]
  -- every place of S5 but the first
  have key : ∀ j z, 0 < j → (c :: ps)[j]? = some z → ∃ z3 z4 z5, S3[j]? = some z3 ∧ S5[j]? = some z5 ∧ Re z3 z4 ∧ Rr z4 z5 ∧ Rs (GA c z) z3 ∧ (c = 2 → z4 = z3) := by
    intro j z hj hz
    obtain ⟨z3, h3⟩ := at_some hl3 (g2 j z hz)
    obtain ⟨z4, h4⟩ := at_some p4.1 h3
    obtain ⟨z5, h5⟩ := at_some p5.1 h4
    refine ⟨z3, z4, z5, h3, h5, p4.2 j _ _ h3 h4, p5.2 j _ _ h4 h5, p3.2 j _ _ (g2 j z hz) h3, fun e => ?_⟩
    rw [e4 e, h3] at h4; injection h4 with h4; exact h4.symm
  obtain ⟨d, t, hdt⟩ : ∃ d t, S5 = d :: t := by
    cases hS : S5 with
    | nil => rw [hS] at hl5; simp at hl5
    | cons d t => exact ⟨d, t, rfl⟩
  have hd : d = GA c c := by
    have h5 : S5[0]? = some d := by rw [hdt]; rfl
    obtain ⟨z4, h4⟩ := at_some p5.1.symm h5
    obtain ⟨z3, h3⟩ := at_some p4.1.symm h4
    have r5 := p5.2 0 _ _ h4 h5
    have r4 := p4.2 0 _ _ h3 h4
    have e3 := z30 _ h3
    have : GA c c = 0 ∨ GA c c = 1 := by unfold GA; unfold Let at hc; split <;> first | omega | (rw [if_neg (by omega)]; omega)
    unfold Re at r4; unfold Rr at r5
    omega
  have hGc : GA c c = if c = 0 then 0 else 1 := by
    unfold GA; unfold Let at hc
    rcases hc with rfl | rfl | rfl <;> rfl
  have hG : ∀ z, (z = 3 ∨ z = 4 ∨ z = 5 ∨ z = 7) → (z = 3 → c = 2 → GA c z = 6) ∧ (z = 3 → c ≠ 2 → GA c z = 3) ∧ (z ≠ 3 → GA c z = z) := by
    intro z hz
    unfold GA
    rw [if_neg (by omega)]
    by_cases h3 : z = 3 ∧ c = 2
    · rw [if_pos h3]; omega
    · rw [if_neg h3]; omega
  have ht : ∀ z ∈ t, ¬ Let z := by
    intro z hz
    obtain ⟨j, hj, rfl⟩ := List.mem_iff_getElem.1 hz
    have h5 : S5[j + 1]? = some t[j] := by rw [hdt]; rw [List.getElem?_cons_succ]; exact List.getElem?_eq_getElem hj
    obtain ⟨u, hu⟩ := at_some hl5.symm h5
    obtain ⟨z3, z4, z5, h3, h5', r4, r5, r3, _⟩ := key (j + 1) u (by omega) hu
    rw [h5] at h5'; injection h5' with h5'
    rw [h5']
    have hu' : u = 3 ∨ u = 4 ∨ u = 5 ∨ u = 7 := by rcases hall _ u hu with ⟨h, _⟩ | ⟨_, h⟩ <;> first | exact h | omega
    have := hG u hu'
    unfold Let at *; unfold Re at r4; unfold Rr at r5; unfold Rs at r3
    omega
  have hfin : numS 0 0 1 S5 = d :: t.map (fun z => if z = 3 then (if d = 0 then 0 else 3) else z) := by
    rw [hdt]
    show (numF 0 0 1 d).1 :: numS 0 0 (numF 0 0 1 d).2 t = _
    have hl : d = 0 ∨ d = 1 ∨ d = 2 := by rw [hd, hGc]; split <;> omega
    have : numF 0 0 1 d = (d, d) := by unfold numF; rw [if_pos hl]
    rw [this, num_const 0 0 d t ht]
  rw [hfin] at hy
  obtain ⟨z3, z4, z5, h3, h5, r4, r5, r3, h2⟩ := key i x hi hx
  have hy' : y = if z5 = 3 then (if d = 0 then 0 else 3) else z5 := by
    obtain ⟨j, rfl⟩ : ∃ j, i = j + 1 := ⟨i - 1, by omega⟩
    rw [hdt] at h5
    rw [List.getElem?_cons_succ] at h5 hy
    exact map_at (f := fun z => if z = 3 then (if d = 0 then 0 else 3) else z) h5 hy
  have hgx := hG x hxx
  have hd' : (c = 0 → d = 0) ∧ (c ≠ 0 → d = 1) := by rw [hd, hGc]; constructor <;> intro h <;> simp [h]
  have hy2 : (z5 = 3 → c = 0 → y = 0) ∧ (z5 = 3 → c ≠ 0 → y = 3) ∧ (z5 ≠ 3 → y = z5) := by
    refine ⟨fun h h' => ?_, fun h h' => ?_, fun h => ?_⟩
    · rw [hy', if_pos h, if_pos (hd'.1 h')]
    · rw [hy', if_pos h, if_neg (by have := hd'.2 h'; omega)]
    · rw [hy', if_neg h]
  clear hy'
  have hno : (c = 0 → numOf c = 0) ∧ (c = 1 → numOf c = 3) ∧ (c = 2 → numOf c = 6) := by
    unfold numOf; refine ⟨?_, ?_, ?_⟩ <;> rintro rfl <;> rfl
  have hcc : c = 0 ∨ c = 1 ∨ c = 2 := hc
  refine ⟨fun h => ?_, fun h h' => ?_, fun a b ha hb => ?_⟩
  · unfold Re at r4; unfold Rr at r5; unfold Rs at r3
    omega
  · unfold Re at r4; unfold Rr at r5; unfold Rs at r3
    omega
  · have hlt : i + 1 < S2.length := by rw [hl2]; exact (List.getElem?_eq_some_iff.1 hb).1
    have e3 := g3 i hi
    rw [if_pos hlt, h3] at e3
    have q1 : S2.getD (i - 1) 0 = GA c a := by simp [List.getD, g2 _ _ ha]
    have q2 : S2.getD i 0 = GA c x := by simp [List.getD, g2 _ _ hx]
    have q3 : S2.getD (i + 1) 0 = GA c b := by simp [List.getD, g2 _ _ hb]
    rw [q1, q2, q3] at e3
    injection e3 with e3
    have hb' : b ∈ [(3 : Int), 4, 5, 7] := by have : b = 3 ∨ b = 4 ∨ b = 5 ∨ b = 7 := (by rcases hall _ b hb with ⟨h, _⟩ | ⟨_, h⟩ <;> first | exact h | omega); simpa using this
    have ha' : a ∈ [(0 : Int), 1, 2, 3, 4, 5, 7] := by
      rcases hall _ a ha with ⟨_, h⟩ | ⟨_, h⟩
      · rw [h]; unfold Let at hc; rcases hc with rfl | rfl | rfl <;> decide
      · rcases h with rfl | rfl | rfl | rfl <;> decide
    have hc' : c ∈ [(0 : Int), 1, 2] := by unfold Let at hc; rcases hc with rfl | rfl | rfl <;> decide
    constructor
    all_goals
      intro hx7
      have hfin2 := num_fin c hc' a ha' b hb' x (by rw [hx7]; decide)
      have hz4 : z4 = z3 := by
        rcases r4 with h | h
        · exact h
        · exact absurd (h.1.symm.trans e3) hfin2.1
      have hz5 : z5 = if z3 = 4 ∨ z3 = 5 ∨ z3 = 7 then 13 else z3 := by
        subst hz4
        rcases r5 with ⟨h, h'⟩ | ⟨h, h'⟩
        · rw [if_pos h, h']
        · rw [if_neg h, h']
      have hyf : y = finF c z3 := by
        unfold finF
        rw [← hz5]
        by_cases h3 : z5 = 3
        · by_cases h0 : c = 0
          · rw [if_pos h3, if_pos h0, hy2.1 h3 h0]
          · rw [if_pos h3, if_neg h0, hy2.2.1 h3 h0]
        · rw [if_neg h3, hy2.2.2 h3]
      rw [hyf, e3]
      first | exact hfin2.2.1 hx7 | exact hfin2.2.2 hx7
end Go.Proofs.Ytmbjdchknjollaa

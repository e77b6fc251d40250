/-
  What stands within an isolate that ends changes nothing outside of it.
-/
import Derived.Test.YtaojjneajiobnaaNst
namespace Go.Proofs.Ytaojjneajiobnaa

/-! ### levels and classes, by what comes behind alone -/
/-- a step where rest is behind -/
def nxt (s : PS) (x : Int) (rest : List Int) : PS × Int × Int := stepS (strongS 0 (upto 0 rest)).1 s x
def runB : PS → List Int → List (Int × Int)
  | _, [] => []
  | s, x :: xs => (nxt s x xs).2 :: runB (nxt s x xs).1 xs
/-- the state behind p, where r is behind -/
def endB : PS → List Int → List Int → PS
  | s, [], _ => s
  | s, x :: p, r => endB (nxt s x (p ++ r)).1 p r
def runP : PS → List Int → List Int → List (Int × Int)
  | _, [], _ => []
  | s, x :: p, r => (nxt s x (p ++ r)).2 :: runP (nxt s x (p ++ r)).1 p r
theorem runP_len : ∀ (p : List Int) (s : PS) (r : List Int), (runP s p r).length = p.length
  | [], _, _ => rfl
  | x :: p, s, r => by simp [runP, runP_len p]
theorem runB_app : ∀ (p : List Int) (s : PS) (r : List Int), runB s (p ++ r) = runP s p r ++ runB (endB s p r) r
  | [], _, _ => rfl
  | x :: p, s, r => by simp [runB, runP, endB, runB_app p]
theorem nxt_f {f : Bool} {s : PS} {x : Int} {rest : List Int} (h : x = 21 → f = (strongS 0 (upto 0 rest)).1) : stepS f s x = nxt s x rest := by
  unfold nxt
  by_cases hx : x = 21
  · rw [h hx]
  · have : (x == 21) = false := by simpa using hx
    unfold stepS
    rw [this]
    simp
theorem exp_nxt {cl : List Int} {k : Nat} {x : Int} (hx : cl[k]? = some x) (s : PS) : stepS (fsiAt cl k) s x = nxt s x (cl.drop (k + 1)) :=
  nxt_f fun h => fsi_eq (List.getElem?_eq_some_iff.1 hx).1 (by rw [getD_of hx, h]; rfl)
theorem exp_run {cl : List Int} (base : Int) : ∀ k, k ≤ cl.length → (expSt cl base k).1 = endB (start base) (cl.take k) (cl.drop k) ∧
    (expSt cl base k).2.1 = (runP (start base) (cl.take k) (cl.drop k)).map Prod.fst ∧ (expSt cl base k).2.2 = (runP (start base) (cl.take k) (cl.drop k)).map Prod.snd
  | 0, _ => by simp [expSt, endB, runP]
  | k + 1, hk => by
    obtain ⟨h1, h2, h3⟩ := exp_run (cl := cl) base k (by omega)
    have hx : cl[k]? = some cl[k] := List.getElem?_eq_getElem (by omega)
    have hd := drop_at hx
    have happ : ∀ (p : List Int) (s : PS) (r : List Int) (x : Int), endB s (p ++ [x]) r = (nxt (endB s p (x :: r)) x r).1 ∧ runP s (p ++ [x]) r = runP s p (x :: r) ++ [(nxt (endB s p (x :: r)) x r).2] := by
      intro p
      induction p with
      | nil => intro s r x; simp [endB, runP]
      | cons y p ih =>
        intro s r x
        obtain ⟨i1, i2⟩ := ih (nxt s y (p ++ x :: r)).1 r x
        have e : (p ++ [x]) ++ r = p ++ x :: r := by simp
        simp only [List.cons_append, endB, runP, e, i1, i2, and_self]
    rw [List.take_succ_eq_append_getElem (by omega)]
    obtain ⟨a1, a2⟩ := happ (cl.take k) (start base) (cl.drop (k + 1)) cl[k]
    rw [a1, a2]
    simp only [expSt, getD_of hx]
    rw [h1, h2, h3, hd, exp_nxt hx]
    simp
theorem levels_run (cl : List Int) (base : Int) : levelsS cl base = (runB (start base) cl).map Prod.fst ∧ classesS cl base = (runB (start base) cl).map Prod.snd := by
  obtain ⟨_, h2, h3⟩ := exp_run (cl := cl) base cl.length (Nat.le_refl _)
  have := runB_app cl (start base) []
  rw [List.append_nil] at this
  rw [List.take_length, List.drop_length] at h2 h3
  unfold levelsS classesS
  rw [h2, h3, this]
  simp [runB]

/-! ### ahead, and within -/
theorem nxt_same {s : PS} {x : Int} {r r' : List Int} (h : x ≠ 21) : nxt s x r = nxt s x r' := nxt_f fun e => absurd e h
theorem ahead_same : ∀ (p : List Int) (s : PS) (r r' : List Int), (∀ x ∈ p, x ≠ 21) → endB s p r = endB s p r' ∧ runP s p r = runP s p r'
  | [], _, _, _, _ => ⟨rfl, rfl⟩
  | x :: p, s, r, r', h => by
    have hx := nxt_same (s := s) (r := p ++ r) (r' := p ++ r') (h x (by simp))
    obtain ⟨h1, h2⟩ := ahead_same p (nxt s x (p ++ r')).1 r r' (fun y hy => h y (by simp [hy]))
    simp only [endB, runP, hx, h1, h2, and_self]
theorem within_deep : ∀ (p : List Int) (S s : PS) (r : List Int), (∀ x ∈ p, opS x = false ∧ x ≠ 22) → Deep S 0 s → Deep S 0 (endB s p r)
  | [], _, _, _, _, h => h
  | x :: p, S, s, r, hp, h => by
    obtain ⟨h1, h2⟩ := hp x (by simp)
    exact within_deep p S _ r (fun y hy => hp y (by simp [hy])) (deep_step h _ h1 h2)
/-- an isolate with X in it, between A and B -/
def isoR (A X B : List Int) (o z : Int) : List Int := A ++ (o :: (X ++ (z :: B)))
def isoL (A B : List Int) (o : Int) (base : Int) : List (Int × Int) :=
  runP (start base) A [] ++ [(nxt (endB (start base) A []) o []).2] ++ (((endB (start base) A []).top.lv, asS (endB (start base) A []) 22) :: runB (endB (start base) A []) B)
theorem iso_run {A X B : List Int} {o base : Int} (hA : ∀ x ∈ A, x ≠ 21) (hX : ∀ x ∈ X, opS x = false ∧ x ≠ 22) (ho : o = 19 ∨ o = 20) :
    (runB (start base) (isoR A X B o 22)).take (A.length + 1) ++ (runB (start base) (isoR A X B o 22)).drop (A.length + 1 + X.length) = isoL A B o base := by
  unfold isoR isoL
  obtain ⟨e1, e2⟩ := ahead_same A (start base) (o :: (X ++ (22 :: B))) [] hA
  have hop : opS o = true := by rcases ho with rfl | rfl <;> rfl
  have ho21 : o ≠ 21 := by omega
  rw [runB_app, e1, e2]
  generalize endB (start base) A [] = S
  have hlen := runP_len A (start base) []
  generalize runP (start base) A [] = R at *
  rw [show runB S (o :: (X ++ (22 :: B))) = (nxt S o (X ++ (22 :: B))).2 :: runB (nxt S o (X ++ (22 :: B))).1 (X ++ (22 :: B)) from rfl, nxt_same (r' := []) ho21, runB_app]
  have hd : Deep S 0 (nxt S o []).1 := by
    unfold nxt; rw [step_open _ _ hop]; exact deep_new _ _
  have hdd := within_deep X S _ (22 :: B) hX hd
  have hlX := runP_len X (nxt S o []).1 (22 :: B)
  generalize runP (nxt S o []).1 X (22 :: B) = RX at *
  generalize endB (nxt S o []).1 X (22 :: B) = s at *
  have hcl := deep_last hdd
  rw [show runB s (22 :: B) = (nxt s 22 B).2 :: runB (nxt s 22 B).1 B from rfl]
  have hn : nxt s 22 B = (S, S.top.lv, asS S 22) := by unfold nxt; rw [step_close, hcl]
  rw [hn]
  rw [show R ++ (nxt S o []).2 :: (RX ++ (S, S.top.lv, asS S 22).2 :: runB (S, S.top.lv, asS S 22).1 B) = (R ++ [(nxt S o []).2]) ++ (RX ++ ((S.top.lv, asS S 22) :: runB S B)) by simp]
  rw [List.take_append_of_le_length (by simp; omega), List.take_of_length_le (by simp; omega)]
  rw [show A.length + 1 + X.length = (R ++ [(nxt S o []).2]).length + X.length by simp; omega, List.drop_append, List.drop_of_length_le (by omega), List.nil_append]
  rw [show (R ++ [(nxt S o []).2]).length + X.length - (R ++ [(nxt S o []).2]).length = RX.length by omega, List.drop_append, List.drop_length]
  simp
theorem iso_levels {A X B : List Int} {o base : Int} (hA : ∀ x ∈ A, x ≠ 21) (hX : ∀ x ∈ X, opS x = false ∧ x ≠ 22) (ho : o = 19 ∨ o = 20) :
    (levelsS (isoR A X B o 22) base).take (A.length + 1) ++ (levelsS (isoR A X B o 22) base).drop (A.length + 1 + X.length) = (isoL A B o base).map Prod.fst ∧
    (classesS (isoR A X B o 22) base).take (A.length + 1) ++ (classesS (isoR A X B o 22) base).drop (A.length + 1 + X.length) = (isoL A B o base).map Prod.snd := by
  obtain ⟨h1, h2⟩ := levels_run (isoR A X B o 22) base
  rw [h1, h2, ← iso_run hA hX ho]
  simp only [List.map_append, List.map_take, List.map_drop, and_self]
end Go.Proofs.Ytaojjneajiobnaa

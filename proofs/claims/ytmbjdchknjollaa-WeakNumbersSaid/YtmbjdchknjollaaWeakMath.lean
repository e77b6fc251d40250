/-
  The plain law of layer 21: rules that go over a row once, from the left to the right, and what they make of it.
-/
import Derived.Test.YtmbjdchknjollaaBase
namespace Go.Proofs.Ytmbjdchknjollaa

section
variable {σ : Type} (f : σ → Int → Int × σ)
/-- a rule that goes over a row once -/
def scan (s : σ) : List Int → List Int
  | [] => []
  | c :: cs => (f s c).1 :: scan (f s c).2 cs
/-- what it bears behind a row -/
def scanSt (s : σ) : List Int → σ
  | [] => s
  | c :: cs => scanSt (f s c).2 cs
theorem scan_len (s : σ) : ∀ l : List Int, (scan f s l).length = l.length
  | [] => rfl
  | c :: cs => by simp [scan, scan_len _ cs]
theorem scan_app (s : σ) : ∀ a b : List Int, scan f s (a ++ b) = scan f s a ++ scan f (scanSt f s a) b
  | [], b => rfl
  | c :: cs, b => by simp [scan, scanSt, scan_app _ cs b]
theorem scanSt_app (s : σ) : ∀ a b : List Int, scanSt f s (a ++ b) = scanSt f (scanSt f s a) b
  | [], b => rfl
  | c :: cs, b => by simp [scanSt, scanSt_app _ cs b]
/-- the row when the first k places have been gone over -/
def inPl (s : σ) (l : List Int) (k : Nat) : List Int := scan f s (l.take k) ++ l.drop k
theorem inPl_zero (s : σ) (l : List Int) : inPl f s l 0 = l := by simp [inPl, scan]
theorem inPl_all (s : σ) (l : List Int) {n : Nat} (h : l.length = n) : inPl f s l n = scan f s l := by
  subst h; simp [inPl]
theorem inPl_at (s : σ) {l : List Int} {k : Nat} {z : Int} (hz : l[k]? = some z) : (inPl f s l k)[k]? = some z := by
  obtain ⟨hk, rfl⟩ := List.getElem?_eq_some_iff.1 hz
  unfold inPl
  have hl : (scan f s (l.take k)).length = k := by rw [scan_len, List.length_take]; omega
  rw [List.getElem?_append_right (by omega), hl, Nat.sub_self, List.drop_eq_getElem_cons hk]
  rfl
theorem inPl_of {s : σ} {l : List Int} {k : Nat} {z : Int} (h : (inPl f s l k)[k]? = some z) : l[k]? = some z := by
  unfold inPl at h
  rcases Nat.lt_or_ge k l.length with hk | hk
  · have h2 := inPl_at f s (List.getElem?_eq_getElem hk)
    unfold inPl at h2
    rw [h2] at h
    rw [List.getElem?_eq_getElem hk, h]
  · have hl : (scan f s (l.take k)).length = l.length := by rw [scan_len, List.length_take]; omega
    rw [List.drop_of_length_le hk, List.append_nil, List.getElem?_eq_none (by omega)] at h
    cases h
theorem scanSt_take (s : σ) {l : List Int} {k : Nat} {z : Int} (hz : l[k]? = some z) : scanSt f s (l.take (k + 1)) = (f (scanSt f s (l.take k)) z).2 := by
  obtain ⟨hk, rfl⟩ := List.getElem?_eq_some_iff.1 hz
  rw [List.take_succ_eq_append_getElem hk, scanSt_app]
  rfl
theorem inPl_step (s : σ) {l : List Int} {k : Nat} {z : Int} (hz : l[k]? = some z) : inPl f s l (k + 1) = (inPl f s l k).set k (f (scanSt f s (l.take k)) z).1 := by
  obtain ⟨hk, rfl⟩ := List.getElem?_eq_some_iff.1 hz
  unfold inPl
  have hl : (scan f s (l.take k)).length = k := by rw [scan_len, List.length_take]; omega
  rw [List.take_succ_eq_append_getElem hk, scan_app, List.drop_eq_getElem_cons hk, List.set_append_right _ _ (by omega), hl, Nat.sub_self, List.set_cons_zero, List.append_assoc]
  rfl
theorem inPl_same (s : σ) {l : List Int} {k : Nat} {z : Int} (hz : l[k]? = some z) (h : (f (scanSt f s (l.take k)) z).1 = z) : inPl f s l (k + 1) = inPl f s l k := by
  rw [inPl_step f s hz, h]
  have h2 := inPl_at f s hz
  obtain ⟨hk, he⟩ := List.getElem?_eq_some_iff.1 h2
  conv => lhs; rw [← he]
  exact List.set_getElem_self _
end

/-! ### the rules -/
def isoB (c : Int) : Bool := 19 ≤ c && c ≤ 22
/-- W1 -/
def markF (last c : Int) : Int × Int := if c = 8 then (last, if isoB last then 13 else last) else (c, if isoB c then 13 else c)
/-- W2, W7 -/
def numF (behind to : Int) (s c : Int) : Int × Int := if c = 0 ∨ c = 1 ∨ c = 2 then (c, c) else if c = 3 then (if s = behind then to else 3, s) else (c, s)
/-- W3 -/
def alF (_ : Unit) (c : Int) : Int × Unit := (if c = 2 then 1 else c, ())
/-- W5, one way -/
def endF (near : Bool) (c : Int) : Int × Bool := if c = 3 ∨ near = true ∧ c = 5 then (3, true) else (c, false)
/-- W6 -/
def restF (_ : Unit) (c : Int) : Int × Unit := (if c = 4 ∨ c = 5 ∨ c = 7 then 13 else c, ())
/-- W4: a place between two -/
def sign1 (a c b : Int) : Int := if a = b ∧ (a = 3 ∧ (c = 4 ∨ c = 7) ∨ a = 6 ∧ c = 7) then a else c
/-- W4: behind a place that is a -/
def signsFrom (a : Int) : List Int → List Int
  | [] => []
  | [c] => [c]
  | c :: b :: cs => sign1 a c b :: signsFrom (sign1 a c b) (b :: cs)
def signsS : List Int → List Int
  | [] => []
  | a :: cs => a :: signsFrom a cs
def marksS (s : Int) (l : List Int) : List Int := scan markF s l
def numS (behind to s : Int) (l : List Int) : List Int := scan (numF behind to) s l
def arabS (s : Int) (l : List Int) : List Int := scan alF () (numS 2 6 s l)
def endsS (l : List Int) : List Int := (scan endF false (scan endF false l).reverse).reverse
def restS (l : List Int) : List Int := scan restF () l
def weakS (l : List Int) (start : Int) : List Int :=
  numS 0 0 (min start 1) (restS (endsS (signsS (arabS (min start 1) (marksS (min start 1) l)))))

end Go.Proofs.Ytmbjdchknjollaa

/-
  How sequences lie in memory.
-/
import Derived.Test.YtaojjneajiobnaaRunC
import Derived.Test.YtaojjneajiobnaaDee
import Derived.Test.YtaojjneajiobnaaRfC
import Derived.Maps.OwnIn
namespace Go.Proofs.Ytaojjneajiobnaa
open Go.RowKit Go.Maps

structure QR where
  ps : List Int
  lv : Int
  st : Int
  en : Int
/-- a sequence, and where its places lie -/
structure QV where
  A : Option Addr
  c : Nat
  q : QR
def QV.sl (x : QV) : Value := .slice x.A x.q.ps.length x.c
def QV.cells (x : QV) : List Value := [x.sl, .int .u8 x.q.lv, .int .u8 x.q.st, .int .u8 x.q.en]
theorem QV.cells_len (x : QV) : x.cells.length = 4 := rfl
def cellsOf (xs : List QV) : List Value := xs.flatMap QV.cells
theorem cellsOf_len : ∀ xs : List QV, (cellsOf xs).length = xs.length * 4
  | [] => rfl
  | x :: xs => by
    have := cellsOf_len xs
    unfold cellsOf at this ⊢
    rw [List.flatMap_cons, List.length_append, this, QV.cells_len, List.length_cons]; omega
theorem cellsOf_at : ∀ {xs : List QV} {i : Nat} {x : QV}, xs[i]? = some x → ∀ j, j < 4 → (cellsOf xs)[4 * i + j]? = x.cells[j]?
  | [], i, x, h, j, hj => by simp at h
  | y :: xs, 0, x, h, j, hj => by
    simp only [List.getElem?_cons_zero, Option.some.injEq] at h
    subst h
    unfold cellsOf
    rw [List.flatMap_cons, Nat.mul_zero, Nat.zero_add, List.getElem?_append_left (by rw [QV.cells_len]; exact hj)]
  | y :: xs, i + 1, x, h, j, hj => by
    have := cellsOf_at (xs := xs) (i := i) (x := x) (by simpa using h) j hj
    unfold cellsOf at this ⊢
    rw [List.flatMap_cons, List.getElem?_append_right (by rw [QV.cells_len]; omega), QV.cells_len, show 4 * (i + 1) + j - 4 = 4 * i + j by omega]
    exact this
theorem cellsOf_set : ∀ {xs : List QV} {i : Nat} {x x' : QV} {j : Nat} {u : Value}, xs[i]? = some x → j < 4 → x'.cells = x.cells.set j u → (cellsOf xs).set (4 * i + j) u = cellsOf (xs.set i x')
  | [], i, x, x', j, u, h, hj, hs => by simp at h
  | y :: xs, 0, x, x', j, u, h, hj, hs => by
    simp only [List.getElem?_cons_zero, Option.some.injEq] at h
    subst h
    unfold cellsOf
    rw [List.set_cons_zero, List.flatMap_cons, List.flatMap_cons, Nat.mul_zero, Nat.zero_add, List.set_append, if_pos (by rw [QV.cells_len]; exact hj), hs]
  | y :: xs, i + 1, x, x', j, u, h, hj, hs => by
    have := cellsOf_set (xs := xs) (i := i) (x := x) (x' := x') (j := j) (u := u) (by simpa using h) hj hs
    unfold cellsOf at this ⊢
    rw [List.set_cons_succ, List.flatMap_cons, List.flatMap_cons, List.set_append, if_neg (by rw [QV.cells_len]; omega), QV.cells_len, show 4 * (i + 1) + j - 4 = 4 * i + j by omega, this]

/-- the sequences as they lie, in blocks from B on -/
structure Sq (B : Nat) (w : World) (v : Value) (xs : List QV) : Prop where
  row : w.ownsRow B 49 4 v xs.length (cellsOf xs)
  own : ∀ (i : Nat) (x : QV), xs[i]? = some x → Own B 3 .i64 w x.A x.q.ps.length x.c x.q.ps
  dist : ∀ (i j : Nat) (x y : QV), i ≠ j → xs[i]? = some x → xs[j]? = some y → Dist x.sl.ownBlock y.sl.ownBlock
section
variable {B : Nat} {w w' : World} {v : Value} {xs : List QV} {i : Nat} {x : QV}
theorem Sq.nil (B : Nat) (w : World) : Sq B w (.slice none 0 0) [] := ⟨World.ownsRow_nil w B 49 4, fun i x h => by simp at h, fun i j x y _ h => by simp at h⟩
theorem own_kind {size : Nat} {e : TypeId} {n : Nat} {ys : List Value} (h : w.ownsRow B e size v n ys) : ∀ g, v.ownBlock = some g → ∃ c, w.heap[g]? = some (.cells c e (0, 0)) := by
  intro g hg
  rcases h.2 with ⟨rfl, _⟩ | ⟨g', cap, cur, rfl, _, hh, _⟩
  · cases hg
  · injection hg with hg
    subst hg
    exact ⟨_, hh⟩
theorem own_form {size : Nat} {e : TypeId} {n : Nat} {ys : List Value} (h : w.ownsRow B e size v n ys) (hn : 0 < n) : ∃ g cap, v = .slice (some ⟨g, 0, none⟩) n cap := by
  rcases h.2 with ⟨_, h0⟩ | ⟨g', cap, cur, rfl, _⟩
  · omega
  · exact ⟨_, _, rfl⟩
theorem row_ne {size : Nat} {e : TypeId} {n : Nat} {ys : List Value} (h : w.ownsRow B e size v n ys) {g : Nat} {cs : Array Value} {t : TypeId} {fz : Nat × Nat} (hg : w.heap[g]? = some (.cells cs t fz)) (ht : e ≠ t) : v.ownBlock ≠ some g := by
  intro he
  obtain ⟨c, hh⟩ := own_kind h g he
  rw [hg] at hh
  injection hh with hh
  injection hh with _ h2 _
  exact ht h2.symm
theorem row_apart {s1 s2 : Nat} {e1 e2 : TypeId} {v1 v2 : Value} {n1 n2 B1 B2 : Nat} {y1 y2 : List Value} (h1 : w.ownsRow B1 e1 s1 v1 n1 y1) (h2 : w.ownsRow B2 e2 s2 v2 n2 y2) (ht : e1 ≠ e2) : Dist v1.ownBlock v2.ownBlock := by
  cases hg : v2.ownBlock with
  | none => cases h : v1.ownBlock with
    | none => exact .inl rfl
    | some g => exact .inr (by simp)
  | some g =>
    obtain ⟨c, hh⟩ := own_kind h2 g hg
    exact .inr (row_ne h1 hh ht)
/-- nothing of it is turned -/
theorem Sq.same (h : Sq B w v xs) {row : Option Nat} (hg : w.grownBy w' row) (h1 : v.ownBlock = none ∨ v.ownBlock ≠ row) (h2 : ∀ (i : Nat) (x : QV), xs[i]? = some x → x.sl.ownBlock = none ∨ x.sl.ownBlock ≠ row) : Sq B w' v xs :=
  ⟨h.row.kept hg h1, fun i x hx => (h.own i x hx).kept hg (h2 i x hx), h.dist⟩
theorem Sq.below (h : Sq B w v xs) (hb : Below w.heap.size w w') : Sq B w' v xs :=
  h.same (row := none) ⟨hb.os, hb.tape, hb.output, hb.size, fun i hi _ => hb.block i hi⟩ (by cases v.ownBlock <;> simp) (fun i x _ => by cases x.sl.ownBlock <;> simp)
theorem Sq.lt (h : Sq B w v xs) : ∀ g, v.ownBlock = some g → B ≤ g ∧ g < w.heap.size := h.row.lt
/-- the block of the sequences, and the cells of one -/
theorem Sq.at_ (h : Sq B w v xs) (hx : xs[i]? = some x) : ∃ ob cap, v = .slice (some ⟨ob, 0, none⟩) xs.length cap ∧ B ≤ ob ∧ ob < w.heap.size ∧ i < xs.length ∧ w.cell? ⟨ob, 4 * i, none⟩ = some x.sl ∧ w.cell? ⟨ob, 4 * i + 1, none⟩ = some (.int .u8 x.q.lv) ∧
    w.cell? ⟨ob, 4 * i + 2, none⟩ = some (.int .u8 x.q.st) ∧ w.cell? ⟨ob, 4 * i + 3, none⟩ = some (.int .u8 x.q.en) ∧ ∀ j, w.frozen? ⟨ob, j, none⟩ = false := by
  have hi : i < xs.length := (List.getElem?_eq_some_iff.1 hx).1
  obtain ⟨ob, cap, rfl⟩ := own_form h.row (by omega)
  have hl := h.row.lt ob rfl
  have hc : ∀ j, j < 4 → w.cell? ⟨ob, 4 * i + j, none⟩ = x.cells[j]? := fun j hj => by
    rw [h.row.cellAt (4 * i + j) (by omega)]
    exact cellsOf_at hx j hj
  exact ⟨ob, cap, rfl, hl.1, hl.2, hi, hc 0 (by decide), hc 1 (by decide), hc 2 (by decide), hc 3 (by decide), fun j => h.row.frozenAt j⟩
/-- one of its cells is written -/
theorem Sq.store {ob cap : Nat} (h : Sq B w (.slice (some ⟨ob, 0, none⟩) xs.length cap) xs) (hx : xs[i]? = some x) {x' : QV} {j : Nat} {u : Value} (hj : j < 4) (hs : x'.cells = x.cells.set j u)
    (ho : Own B 3 .i64 w x'.A x'.q.ps.length x'.c x'.q.ps) (hd : ∀ (k : Nat) (y : QV), k ≠ i → xs[k]? = some y → Dist x'.sl.ownBlock y.sl.ownBlock) :
    Sq B (w.setCell ⟨ob, 4 * i + j, none⟩ u) (.slice (some ⟨ob, 0, none⟩) (xs.set i x').length cap) (xs.set i x') := by
  have hr : ∀ {A : Option Addr} {n c : Nat} {zs : List Int}, Own B 3 .i64 w A n c zs → Own B 3 .i64 (w.setCell ⟨ob, 4 * i + j, none⟩ u) A n c zs := fun ho' =>
    ho'.other (p := ⟨ob, 4 * i + j, none⟩) (fun e => by
      rcases row_apart ho'.1 h.row (by decide) with h1 | h1
      · rw [h1] at e; cases e
      · exact h1 e) u
  have hi : i < xs.length := (List.getElem?_eq_some_iff.1 hx).1
  have hget : ∀ (k : Nat) (y : QV), (xs.set i x')[k]? = some y → (k = i ∧ y = x') ∨ (k ≠ i ∧ xs[k]? = some y) := fun k y hy => by
    rw [List.getElem?_set] at hy
    by_cases e : i = k
    · subst e
      rw [if_pos rfl, if_pos hi] at hy
      exact .inl ⟨rfl, (Option.some.inj hy).symm⟩
    · rw [if_neg e] at hy
      exact .inr ⟨Ne.symm e, hy⟩
  refine ⟨?_, fun k y hy => ?_, fun a b y z hab hy hz => ?_⟩
  · have := (h.row.stored (4 * i + j) u).1
    rw [cellsOf_set hx hj hs] at this
    simpa using this
  · rcases hget k y hy with ⟨rfl, rfl⟩ | ⟨_, hy⟩
    · exact hr ho
    · exact hr (h.own k y hy)
  · rcases hget a y hy with ⟨ha, hya⟩ | ⟨h1, hy'⟩
    · rcases hget b z hz with ⟨hb, _⟩ | ⟨h2, hz'⟩
      · exact absurd (ha.trans hb.symm) hab
      · rw [hya]; exact hd b z h2 hz'
    · rcases hget b z hz with ⟨_, hzb⟩ | ⟨h2, hz'⟩
      · rw [hzb]; exact (hd a y h1 hy').sym
      · exact h.dist a b y z hab hy' hz'
/-- a new one, without places -/
theorem Sq.new_ (h : Sq B w v xs) {v' : Value} {q : QR} (hq : q.ps = []) (hrow : w'.ownsRow B 49 4 v' (xs.length + 1) (cellsOf xs ++ (QV.mk none 0 q).cells)) (hg : w.grownBy w' v.ownBlock) : Sq B w' v' (xs ++ [⟨none, 0, q⟩]) := by
  have hget : ∀ (k : Nat) (y : QV), (xs ++ [(⟨none, 0, q⟩ : QV)])[k]? = some y → xs[k]? = some y ∨ y = ⟨none, 0, q⟩ := fun k y hy => by
    rcases Nat.lt_or_ge k xs.length with h1 | h1
    · rw [List.getElem?_append_left h1] at hy; exact .inl hy
    · rw [List.getElem?_append_right h1] at hy
      rcases Nat.eq_zero_or_pos (k - xs.length) with h2 | h2
      · rw [h2] at hy; exact .inr (Option.some.inj hy).symm
      · rw [List.getElem?_eq_none (by simp; omega)] at hy; cases hy
  have hnone : (QV.mk none 0 q).sl.ownBlock = none := rfl
  refine ⟨?_, fun k y hy => ?_, fun a b y z hab hy hz => ?_⟩
  · rw [List.length_append]
    have : cellsOf (xs ++ [(⟨none, 0, q⟩ : QV)]) = cellsOf xs ++ (QV.mk none 0 q).cells := by unfold cellsOf; rw [List.flatMap_append]; simp
    rw [this]; exact hrow
  · rcases hget k y hy with h1 | rfl
    · exact (h.own k y h1).kept hg (row_apart (h.own k y h1).1 h.row (by decide))
    · have := Own.none_ B 3 .i64 w'
      simpa [hq] using this
  · rcases hget a y hy with h1 | rfl
    · rcases hget b z hz with h2 | rfl
      · exact h.dist a b y z hab h1 h2
      · exact (Dist.sym (.inl hnone))
    · exact .inl hnone
/-- its places, more of them -/
theorem Sq.more {ob cap : Nat} (h : Sq B w (.slice (some ⟨ob, 0, none⟩) xs.length cap) xs) (hx : xs[i]? = some x) {A2 : Option Addr} {c2 m : Nat} {ys : List Int} (hm : ys.length = m)
    (hown : Own B 3 .i64 w' A2 (x.q.ps.length + m) c2 (x.q.ps ++ ys)) (hg : w.grownBy w' x.sl.ownBlock) (hat : (Value.slice A2 (x.q.ps.length + m) c2).ownBlock = x.sl.ownBlock ∨ (Value.slice A2 (x.q.ps.length + m) c2).ownBlock = some w.heap.size) :
    Sq B (w'.setCell ⟨ob, 4 * i, none⟩ (.slice A2 (x.q.ps.length + m) c2)) (.slice (some ⟨ob, 0, none⟩) (xs.set i ⟨A2, c2, ⟨x.q.ps ++ ys, x.q.lv, x.q.st, x.q.en⟩⟩).length cap) (xs.set i ⟨A2, c2, ⟨x.q.ps ++ ys, x.q.lv, x.q.st, x.q.en⟩⟩) := by
  have hsl : (QV.mk A2 c2 ⟨x.q.ps ++ ys, x.q.lv, x.q.st, x.q.en⟩).sl = .slice A2 (x.q.ps.length + m) c2 := by simp [QV.sl, hm]
  -- beside x's places all is as it was
  have hob : some ob ≠ x.sl.ownBlock := fun e => by
    rcases row_apart (h.own i x hx).1 h.row (by decide) with h1 | h1
    · rw [show x.sl.ownBlock = none from h1] at e; cases e
    · exact h1 e.symm
  have hrow' : w'.ownsRow B 49 4 (.slice (some ⟨ob, 0, none⟩) xs.length cap) xs.length (cellsOf xs) := h.row.kept hg (.inr hob)
  have hother : ∀ (k : Nat) (y : QV), k ≠ i → xs[k]? = some y → Own B 3 .i64 w' y.A y.q.ps.length y.c y.q.ps := fun k y hk hy => (h.own k y hy).kept hg (h.dist k i y x hk hy hx)
  have hi : i < xs.length := (List.getElem?_eq_some_iff.1 hx).1
  have hget : ∀ (k : Nat) (y : QV), (xs.set i ⟨A2, c2, ⟨x.q.ps ++ ys, x.q.lv, x.q.st, x.q.en⟩⟩)[k]? = some y → (k = i ∧ y = ⟨A2, c2, ⟨x.q.ps ++ ys, x.q.lv, x.q.st, x.q.en⟩⟩) ∨ (k ≠ i ∧ xs[k]? = some y) := fun k y hy => by
    rw [List.getElem?_set] at hy
    by_cases e : i = k
    · subst e
      rw [if_pos rfl, if_pos hi] at hy
      exact .inl ⟨rfl, (Option.some.inj hy).symm⟩
    · rw [if_neg e] at hy
      exact .inr ⟨Ne.symm e, hy⟩
  have hr : ∀ {A : Option Addr} {n c : Nat} {zs : List Int}, Own B 3 .i64 w' A n c zs → Own B 3 .i64 (w'.setCell ⟨ob, 4 * i, none⟩ (.slice A2 (x.q.ps.length + m) c2)) A n c zs := fun ho' =>
    ho'.other (p := ⟨ob, 4 * i, none⟩) (fun e => by
      rcases row_apart ho'.1 hrow' (by decide) with h1 | h1
      · rw [h1] at e; cases e
      · exact h1 e) _
  have hd : ∀ (k : Nat) (y : QV), k ≠ i → xs[k]? = some y → Dist (Value.slice A2 (x.q.ps.length + m) c2).ownBlock y.sl.ownBlock := fun k y hk hy =>
    (h.dist i k x y (Ne.symm hk) hx hy).one hat (fun g hg => ((h.own k y hy).lt g hg).2)
  refine ⟨?_, fun k y hy => ?_, fun a b y z hab hy hz => ?_⟩
  · have := (hrow'.stored (4 * i + 0) (.slice A2 (x.q.ps.length + m) c2)).1
    rw [cellsOf_set (x' := ⟨A2, c2, ⟨x.q.ps ++ ys, x.q.lv, x.q.st, x.q.en⟩⟩) hx (by decide) (by simp [QV.cells, hsl])] at this
    simpa using this
  · rcases hget k y hy with ⟨_, rfl⟩ | ⟨h1, hy'⟩
    · refine hr ?_
      simpa [hm] using hown
    · exact hr (hother k y h1 hy')
  · rcases hget a y hy with ⟨ha, hya⟩ | ⟨h1, hy'⟩
    · rcases hget b z hz with ⟨hb, _⟩ | ⟨h2, hz'⟩
      · exact absurd (ha.trans hb.symm) hab
      · rw [hya, hsl]; exact hd b z h2 hz'
    · rcases hget b z hz with ⟨_, hzb⟩ | ⟨h2, hz'⟩
      · rw [hzb, hsl]; exact (hd a y h1 hy').sym
      · exact h.dist a b y z hab hy' hz'
/-- its end -/
theorem Sq.setEn {ob cap : Nat} (h : Sq B w (.slice (some ⟨ob, 0, none⟩) xs.length cap) xs) (hx : xs[i]? = some x) (e : Int) :
    Sq B (w.setCell ⟨ob, 4 * i + 3, none⟩ (.int .u8 e)) (.slice (some ⟨ob, 0, none⟩) (xs.set i ⟨x.A, x.c, ⟨x.q.ps, x.q.lv, x.q.st, e⟩⟩).length cap) (xs.set i ⟨x.A, x.c, ⟨x.q.ps, x.q.lv, x.q.st, e⟩⟩) :=
  h.store (x' := ⟨x.A, x.c, ⟨x.q.ps, x.q.lv, x.q.st, e⟩⟩) hx (by decide) rfl (h.own i x hx) (fun k y hk hy => h.dist i k x y (Ne.symm hk) hx hy)
end
end Go.Proofs.Ytaojjneajiobnaa

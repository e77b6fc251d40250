/-
  What RunsSides says of sequences: plain law.
-/
import Derived.Test.YtaojjneajiobnaaRP
import Derived.Test.YtaojjneajiobnaaLDm
import Derived.Test.YtaojjneajiobnaaLBm
namespace Go.Proofs.Ytaojjneajiobnaa
open Go.RowKit

/-! ### the kept places -/
theorem kpS_append : ∀ (ys xs : List Int), kpS (xs ++ ys) = kpS xs ++ (kpS ys).map (fun i => i + (xs.length : Int)) := by
  have key : ∀ (n : Nat) (ys xs : List Int), ys.length = n → kpS (xs ++ ys) = kpS xs ++ (kpS ys).map (fun i => i + (xs.length : Int)) := by
    intro n
    induction n with
    | zero =>
      intro ys xs h
      obtain rfl := List.eq_nil_of_length_eq_zero h
      rw [List.append_nil]
      show kpS xs = kpS xs ++ []
      rw [List.append_nil]
    | succ n ih =>
      intro ys xs h
      obtain ⟨zs, z, rfl⟩ : ∃ zs z, ys = zs ++ [z] := ⟨ys.dropLast, ys.getLast (by intro e; rw [e] at h; cases h), (List.dropLast_concat_getLast _).symm⟩
      rw [← List.append_assoc, kpS_app, kpS_app, ih zs xs (by simpa using h), List.map_append, List.append_assoc]
      congr 1
      congr 1
      split
      · rfl
      · simp [Int.add_comm]
  exact fun ys xs => key _ ys xs rfl
theorem kpS_rep : ∀ k : Nat, kpS (List.replicate k 9) = []
  | 0 => rfl
  | k + 1 => by rw [List.replicate_succ', kpS_app, kpS_rep k]; rfl
theorem kpS_one {x : Int} (h : x ≠ 9) : kpS [x] = [0] := by
  have := kpS_app [] x
  rw [List.nil_append, if_neg h] at this
  exact this
theorem kpS_congr {xs ys : List Int} (hl : xs.length = ys.length) (h : ∀ (i : Nat) (x y : Int), xs[i]? = some x → ys[i]? = some y → (x = 9 ↔ y = 9)) : kpS xs = kpS ys := by
  unfold kpS keptTo
  rw [hl]
  congr 1
  apply List.filter_congr
  intro i hi
  have hi := List.mem_range.1 hi
  obtain ⟨x, hx⟩ : ∃ x, xs[i]? = some x := ⟨_, List.getElem?_eq_getElem (by omega)⟩
  obtain ⟨y, hy⟩ : ∃ y, ys[i]? = some y := ⟨_, List.getElem?_eq_getElem hi⟩
  rw [getD_of' hx, getD_of' hy]
  have := h i x y hx hy
  by_cases e : x = 9
  · rw [e, this.1 e]
  · have e2 : ¬ y = 9 := fun h => e (this.2 h)
    rw [show (x != 9) = true from by simpa using e, show (y != 9) = true from by simpa using e2]

/-! ### what is laid -/
def kindB (x : Bool) : Int := if x then 1 else 0
def nestR (a : List Bool) : List Int := a.map (fun x => openR (kindB x)) ++ [97] ++ List.replicate a.length 8236
def nestC (a : List Bool) : List Int := a.map (fun x => openC (kindB x)) ++ [0] ++ List.replicate a.length 16
/-- the level within -/
def nestL (base : Int) (a : List Bool) : Int := a.foldl (fun at_ x => nextS at_ x) base
theorem kind_lt (x : Bool) : kindB x % 6 < 4 := by cases x <;> decide
theorem closeC_kind (x : Bool) : closeC (kindB x) = 16 := by unfold closeC; rw [if_pos (kind_lt x)]
theorem nest_depth (a : List Bool) : nestC a = (a.map kindB).map openC ++ [0] ++ ((a.map kindB).reverse.map closeC) := by
  unfold nestC
  rw [List.map_map]
  congr 1
  rw [List.map_reverse, List.map_map]
  symm
  rw [List.eq_replicate_iff]
  refine ⟨by simp, fun b hb => ?_⟩
  rw [List.mem_reverse] at hb
  obtain ⟨x, _, rfl⟩ := List.mem_map.1 hb
  exact closeC_kind x
theorem nest_cls (a : List Bool) : (nestR a).map cls = nestC a := by
  obtain ⟨_, _, _, _, _, _, h6, _, h8, _⟩ := cls_consts
  unfold nestR nestC
  rw [List.map_append, List.map_append, List.map_map, List.map_replicate, h6, List.map_singleton, h8]
  congr 2
  exact List.map_congr_left (fun x _ => cls_open (kindB x))
theorem nest_len (a : List Bool) : (nestC a).length = 2 * a.length + 1 := by unfold nestC; simp; omega
/-- all that RunsSides lays -/
def sideC (a b : List Bool) : List Int := nestC a ++ nestC b
theorem nest_in (a : List Bool) : ∀ x ∈ nestC a, x = 0 ∨ x = 14 ∨ x = 15 ∨ x = 16 := by
  intro x hx
  unfold nestC at hx
  simp only [List.mem_append, List.mem_map, List.mem_singleton] at hx
  rcases hx with (⟨y, _, rfl⟩ | rfl) | hx
  · cases y <;> decide
  · exact .inl rfl
  · exact .inr (.inr (.inr (List.eq_of_mem_replicate hx)))
theorem side_in (a b : List Bool) : ∀ x ∈ sideC a b, x = 0 ∨ x = 14 ∨ x = 15 ∨ x = 16 := by
  intro x hx
  rcases List.mem_append.1 hx with hx | hx
  · exact nest_in a x hx
  · exact nest_in b x hx
def markC (a : List Bool) : List Int := List.replicate a.length 9 ++ [0] ++ List.replicate a.length 9
theorem kept_mark (a : List Bool) : kpS (markC a) = [(a.length : Int)] := by
  unfold markC
  rw [kpS_append, kpS_append, kpS_rep, kpS_one (by decide)]
  simp
theorem mark_len (a : List Bool) : (markC a).length = 2 * a.length + 1 := by unfold markC; simp; omega
theorem nest_mark (a : List Bool) {i : Nat} {x y : Int} (hx : (nestC a)[i]? = some x) (hy : (markC a)[i]? = some y) : x = 0 ↔ y ≠ 9 := by
  unfold nestC at hx
  unfold markC at hy
  rcases Nat.lt_trichotomy i a.length with h | h | h
  · rw [List.append_assoc, List.getElem?_append_left (by simpa using h)] at hx hy
    rw [List.getElem?_map] at hx
    rw [List.getElem?_replicate, if_pos h] at hy
    injection hy with hy
    cases hz : a[i]? with
    | none => rw [hz] at hx; cases hx
    | some z =>
      rw [hz] at hx
      injection hx with hx
      subst hx; subst hy
      cases z <;> decide
  · subst h
    rw [List.append_assoc, List.getElem?_append_right (by simp)] at hx hy
    simp at hx hy
    subst hx; subst hy
    decide
  · rw [List.getElem?_append_right (by simp; omega)] at hx hy
    rw [List.getElem?_replicate] at hx hy
    split at hx
    · split at hy
      · injection hx with hx; injection hy with hy
        subst hx; subst hy; decide
      · cases hy
    · cases hx
theorem side_kept {base : Int} (hb : 0 ≤ base ∧ base ≤ 1) (a b : List Bool) : kpS (classesS (sideC a b) base) = [(a.length : Int), (2 * a.length + 1 + b.length : Int)] := by
  have h1 : kpS (classesS (sideC a b) base) = kpS (markC a ++ markC b) := by
    refine kpS_congr (by rw [classes_len]; unfold sideC; simp only [List.length_append, nest_len, mark_len]) (fun i v y hv hy => ?_)
    have hi : i < (sideC a b).length := by rw [← classes_len (sideC a b) base]; exact (List.getElem?_eq_some_iff.1 hv).1
    obtain ⟨x, hx⟩ : ∃ x, (sideC a b)[i]? = some x := ⟨_, List.getElem?_eq_getElem hi⟩
    obtain ⟨lv, hl⟩ : ∃ x, (levelsS (sideC a b) base)[i]? = some x := ⟨_, List.getElem?_eq_getElem (by rw [levels_len]; exact hi)⟩
    have hxy : x = 0 ↔ y ≠ 9 := by
      unfold sideC at hx
      rcases Nat.lt_or_ge i (nestC a).length with h | h
      · rw [List.getElem?_append_left h] at hx
        rw [List.getElem?_append_left (by rw [mark_len]; rw [nest_len] at h; exact h)] at hy
        exact nest_mark a hx hy
      · rw [List.getElem?_append_right h] at hx
        rw [List.getElem?_append_right (by rw [mark_len]; rw [nest_len] at h; exact h)] at hy
        rw [nest_len] at hx
        rw [mark_len] at hy
        exact nest_mark b hx hy
    have hin := side_in a b x (List.mem_of_getElem? hx)
    have hbd := (bd_at hb hx hl hv).2
    unfold ClsIs at hbd
    constructor
    · intro e
      rcases hin with rfl | hin
      · exfalso; omega
      · have : ¬ x = 0 := by omega
        by_cases h9 : y = 9
        · exact h9
        · exact absurd (hxy.2 h9) this
    · intro e
      have : ¬ x = 0 := fun h => (hxy.1 h) e
      omega
  rw [h1, kpS_append, kept_mark, kept_mark, mark_len]
  simp only [List.map_cons, List.map_nil, List.cons_append, List.nil_append]
  congr 2
  omega

/-! ### the levels -/
theorem odd_kind (x : Bool) : oddK (kindB x) = x := by cases x <;> decide
theorem nx_bd (lv : Int) (x : Bool) : lv < nextS lv x ∧ nextS lv x ≤ lv + 2 := by unfold nextS; split <;> omega
theorem nestL_bd : ∀ (a : List Bool) (base : Int), base ≤ nestL base a ∧ nestL base a ≤ base + 2 * (a.length : Int)
  | [], base => ⟨Int.le_refl _, by simp [nestL]⟩
  | x :: a, base => by
    have h1 := nx_bd base x
    have h2 := nestL_bd a (nextS base x)
    show base ≤ nestL (nextS base x) a ∧ nestL (nextS base x) a ≤ _
    rw [List.length_cons]
    omega
theorem fold_lv : ∀ (a : List Bool) (s : PS), s.is + s.em = 0 → s.top.lv + 2 * (a.length : Int) ≤ 125 → ((a.map (fun x => openC (kindB x))).foldl stepN s).top.lv = nestL s.top.lv a
  | [], s, _, _ => rfl
  | x :: a, s, h1, h2 => by
    rw [List.length_cons] at h2
    have h3 := nx_bd s.top.lv x
    have h4 := (keep_step s (kindB x)).2 (by rw [odd_kind]; omega)
    rw [odd_kind] at h4
    rw [List.map_cons, List.foldl_cons, fold_lv a _ h4.2 (by rw [h4.1]; omega), h4.1]
    rfl
theorem side_no21 (a b : List Bool) : ∀ x ∈ sideC a b, x ≠ 21 := fun x hx => by have := side_in a b x hx; omega
theorem side_lv1 {base : Int} (hb : 0 ≤ base ∧ base ≤ 1) {a b : List Bool} (ha : a.length ≤ 9) : (levelsS (sideC a b) base)[a.length]? = some (nestL base a) := by
  have hk : (sideC a b)[a.length]? = some 0 := by
    unfold sideC nestC
    rw [List.append_assoc, List.append_assoc, List.getElem?_append_right (by simp)]
    simp
  rw [level_in base (side_no21 a b) hk]
  unfold sideC nestC
  rw [List.append_assoc, List.append_assoc, List.take_append_of_le_length (by simp), List.take_of_length_le (by simp), fold_lv a (start base) rfl (by show base + _ ≤ 125; omega)]
  rfl
theorem side_lv2 {base : Int} (hb : 0 ≤ base ∧ base ≤ 1) {a b : List Bool} (hbl : b.length ≤ 9) : (levelsS (sideC a b) base)[2 * a.length + 1 + b.length]? = some (nestL base b) := by
  have hk : (sideC a b)[2 * a.length + 1 + b.length]? = some 0 := by
    unfold sideC
    rw [List.getElem?_append_right (by rw [nest_len]; omega), nest_len, show 2 * a.length + 1 + b.length - (2 * a.length + 1) = b.length by omega]
    unfold nestC
    rw [List.append_assoc, List.getElem?_append_right (by simp)]
    simp
  rw [level_in base (side_no21 a b) hk]
  unfold sideC
  rw [List.take_append, List.take_of_length_le (by rw [nest_len]; omega), nest_len, show 2 * a.length + 1 + b.length - (2 * a.length + 1) = b.length by omega, List.foldl_append]
  have hback : (nestC a).foldl stepN (start base) = start base := by
    rw [nest_depth]
    exact fold_back (a.map kindB) (start base) 0 (start_fit hb).1
  rw [hback]
  unfold nestC
  rw [List.append_assoc, List.take_append_of_le_length (by simp), List.take_of_length_le (by simp), fold_lv b (start base) rfl (by show base + _ ≤ 125; omega)]
  rfl
theorem seqs_side {base : Int} (hb : 0 ≤ base ∧ base ≤ 1) {a b : List Bool} (ha : a.length ≤ 9) (hbl : b.length ≤ 9) :
    (nestL base a = nestL base b → ∃ st en, seqsS (sideC a b) base = [⟨[(a.length : Int), (2 * a.length + 1 + b.length : Int)], nestL base a, st, en⟩]) ∧
    (nestL base a ≠ nestL base b → seqsS (sideC a b) base = [⟨[(a.length : Int)], nestL base a, sideS (nestL base a) base, sideS (nestL base a) (nestL base b)⟩, ⟨[(2 * a.length + 1 + b.length : Int)], nestL base b, sideS (nestL base b) (nestL base a), sideS (nestL base b) base⟩]) := by
  have h1 := side_lv1 hb (b := b) ha
  have h2 := side_lv2 hb (a := a) hbl
  have hk := side_kept hb a b
  have hop : ∀ (i : Nat) (x : Int), (sideC a b)[i]? = some x → opS x = false := fun i x hx => by
    have := side_in a b x (List.mem_of_getElem? hx)
    unfold opS; simp; omega
  have hl1 : a.length < (sideC a b).length := by rw [← levels_len (sideC a b) base]; exact (List.getElem?_eq_some_iff.1 h1).1
  have hl2 : 2 * a.length + 1 + b.length < (sideC a b).length := by rw [← levels_len (sideC a b) base]; exact (List.getElem?_eq_some_iff.1 h2).1
  unfold kpS at hk
  rw [classes_len] at hk
  unfold seqsS
  rw [hk]
  generalize levelsS (sideC a b) base = lv at *
  generalize matchS (sideC a b) = m at *
  generalize nestL base a = x at *
  generalize nestL base b = y at *
  have e2 : ((2 : Int) * (a.length : Int) + 1 + (b.length : Int)) = ((2 * a.length + 1 + b.length : Nat) : Int) := by omega
  rw [e2]
  generalize 2 * a.length + 1 + b.length = i2 at *
  generalize a.length = i1 at *
  obtain ⟨o1, ho1⟩ : ∃ o, (sideC a b)[i1]? = some o := ⟨_, List.getElem?_eq_getElem hl1⟩
  obtain ⟨o2, ho2⟩ : ∃ o, (sideC a b)[i2]? = some o := ⟨_, List.getElem?_eq_getElem hl2⟩
  have hp1 := hop i1 o1 ho1
  have hp2 := hop i2 o2 ho2
  generalize sideC a b = cl at *
  have f0 : lvAt lv [(i1 : Int), (i2 : Int)] 0 = x := lvAt_of (x := i1) rfl h1
  have f1 : lvAt lv [(i1 : Int), (i2 : Int)] 1 = y := lvAt_of (x := i2) rfl h2
  have hx := getD_of' h1
  have hy := getD_of' h2
  have at_m : atS lv [(i1 : Int), (i2 : Int)] base ((0 : Nat) - 1 : Int) = base := if_pos (.inl (by decide))
  have at_0 : atS lv [(i1 : Int), (i2 : Int)] base ((1 : Nat) - 1 : Int) = x := by
    unfold atS
    rw [if_neg (by simp)]
    exact f0
  have at_1 : atS lv [(i1 : Int), (i2 : Int)] base ((1 : Nat) : Int) = y := by
    unfold atS
    rw [if_neg (by simp)]
    exact f1
  have at_2 : atS lv [(i1 : Int), (i2 : Int)] base ((2 : Nat) : Int) = base := if_pos (.inr (by simp))
  constructor
  · intro hxy
    have hcut : cut (lvAt lv [(i1 : Int), (i2 : Int)]) 2 1 = 2 := by
      show runTo _ 2 0 1 1 = 2
      rw [runTo, if_pos ⟨by decide, by rw [f0, f1, hxy]⟩]; rfl
    rw [show runsN (lvAt lv [(i1 : Int), (i2 : Int)]) [(i1 : Int), (i2 : Int)].length = 1 from runsN_of hcut]
    show ∃ st en, (stepQ lv _ cl m base ⟨[], fun _ => none⟩ 0 (cut (lvAt lv [(i1 : Int), (i2 : Int)]) 2 1)).out = _
    rw [hcut, stepQ_eq (p := i1) (q := i2) (x := 0) (Y := [newR lv [(i1 : Int), (i2 : Int)] base 0 i1]) (q0 := newR lv [(i1 : Int), (i2 : Int)] base 0 i1) (oq := o2) rfl rfl rfl rfl rfl ho2]
    exact ⟨_, _, by simp only [List.set_cons_zero, onR, newR, hx]; rfl⟩
  · intro hxy
    have hcut1 : cut (lvAt lv [(i1 : Int), (i2 : Int)]) 2 1 = 1 := by
      show runTo _ 2 0 1 1 = 1
      rw [runTo, if_neg (fun h => hxy (by rw [← f0, ← f1, h.2]))]
    have hcut2 : cut (lvAt lv [(i1 : Int), (i2 : Int)]) 2 2 = 2 := by
      show runEnd _ 2 (cut (lvAt lv [(i1 : Int), (i2 : Int)]) 2 1) = 2
      rw [hcut1]; rfl
    rw [show runsN (lvAt lv [(i1 : Int), (i2 : Int)]) [(i1 : Int), (i2 : Int)].length = 2 from runsN_of hcut2]
    show (stepQ lv _ cl m base (stepQ lv _ cl m base ⟨[], fun _ => none⟩ 0 (cut (lvAt lv [(i1 : Int), (i2 : Int)]) 2 1)) (cut (lvAt lv [(i1 : Int), (i2 : Int)]) 2 1) (cut (lvAt lv [(i1 : Int), (i2 : Int)]) 2 2)).out = _
    have hi : stepQ lv [(i1 : Int), (i2 : Int)] cl m base ⟨[], fun _ => none⟩ 0 1 = ⟨[⟨[(i1 : Int)], x, sideS x base, sideS x y⟩], fun _ => none⟩ := by
      rw [stepQ_eq (p := i1) (q := i1) (x := 0) (Y := [newR lv [(i1 : Int), (i2 : Int)] base 0 i1]) (q0 := newR lv [(i1 : Int), (i2 : Int)] base 0 i1) (oq := o1) rfl rfl rfl rfl rfl ho1, hp1]
      simp only [Bool.false_eq_true, if_false, List.set_cons_zero, onR, newR, hx, at_m, at_1]
      rfl
    rw [hcut1, hcut2, hi, stepQ_eq (p := i2) (q := i2) (x := 1) (Y := [⟨[(i1 : Int)], x, sideS x base, sideS x y⟩, newR lv [(i1 : Int), (i2 : Int)] base 1 i2]) (q0 := newR lv [(i1 : Int), (i2 : Int)] base 1 i2) (oq := o2) rfl rfl rfl rfl rfl ho2, hp2]
    simp only [Bool.false_eq_true, if_false, List.set_cons_zero, List.set_cons_succ, onR, newR, hy, at_0, at_2]
    rfl
end Go.Proofs.Ytaojjneajiobnaa

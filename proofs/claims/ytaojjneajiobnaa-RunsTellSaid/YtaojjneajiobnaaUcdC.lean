/-
  Layer 2: a code point's properties, as the program finds them.
-/
import Derived.Test.YtaojjneajiobnaaUcdB
import Derived.Shelf.Abstract
import Derived.Laws.CopyOwn
namespace Go.Proofs.Ytaojjneajiobnaa
open Go.RowKit

theorem hB_drewN {B : Nat} {a w : World} (h : Below B a w) (n : Nat) : Below B a (w.drewN n) := ⟨h.os, h.tape, h.output, h.size, h.block⟩

theorem below_mid {n lo hi : Nat} {p : Nat → Bool} (M : ∀ a b, a ≤ b → b < n → p a = true → p b = true) (hlt : lo < hi) (hin : hi ≤ n) (h : p ((lo + hi) / 2) = false) : ∀ t, t < (lo + hi) / 2 + 1 → p t = false := fun t ht => by
  cases hp : p t with
  | false => rfl
  | true =>
    have := M t ((lo + hi) / 2) (by omega) (by omega) hp
    rw [h] at this
    cases this
/-- what a search answers: the first place of which p holds -/
def Found (n : Nat) (p : Nat → Bool) (w : World) (e : Ending) (w' : World) : Prop :=
  ∃ i : Nat, e = .returned (.int .i64 i) ∧ i ≤ n ∧ (∀ j, j < i → p j = false) ∧ (i < n → p i = true) ∧ Below w.heap.size w w'

set_option maxRecDepth 100000 in
set_option maxHeartbeats 4000000 in
theorem search_any (cb : Array Value) (n : Nat) (p : Nat → Bool) (w : World) (hn : n ≤ 1000000)
    (hf : ∀ (W : World) (i : Nat), Below w.heap.size w W → i < n → Calls Try.prog 49 (#[.int .i64 i] ++ cb) W fun e w' => e = .returned (.bool (p i)) ∧ Below W.heap.size W w')
    (hmono : ∀ a b, a ≤ b → b < n → p a = true → p b = true) :
    Calls Try.prog 48 #[.int .i64 n, .func (.func 49) #[] cb] w (Found n p w) := by
  have HF := hide hf
  have M := hide hmono
  clear hf hmono
  have eg : ∀ args w, (callFunc 49 args).run Try.prog w = .ok (.enter 49 args) w := enters_of Try.func49 (by kernel_rfl) rfl
  go_enter Try.func48, Try.ntmps48
  go_wp2
  go_loopw [5, 6] (fun s5 s6 wr => ∃ (lo hi : Nat), s5 = .int .i64 lo ∧ s6 = .int .i64 hi ∧ lo ≤ hi ∧ hi ≤ n ∧ Below w.heap.size w wr ∧
    Hid ((∀ t, t < lo → p t = false) ∧ (∀ t, hi ≤ t → t < n → p t = true))) (fun s5 s6 _ => (intOf s6).toNat - (intOf s5).toNat)
  case atStart => exact ⟨0, n, rfl, rfl, Nat.zero_le _, Nat.le_refl _, Below.refl _ _, ⟨fun t ht => absurd ht (Nat.not_lt_zero _), fun t h1 h2 => by omega⟩⟩
  case round =>
    obtain ⟨lo, hi, rfl, rfl, hlh, hin, hbel, I⟩ := hrel
    obtain ⟨wo, rfl⟩ : ∃ wo : World, wo = wr := ⟨_, rfl⟩
    by_cases hlt : lo < hi
    · have hc := HF.out wo ((lo + hi) / 2) hbel (by omega)
      rw [show (((lo + hi) / 2 : Nat) : Int) = ((lo : Int) + (hi : Int)) / 2 by omega] at hc
      have hC := hide hc
      clear hc
      cases hp : p ((lo + hi) / 2)
      · have HP := hide hp
        rw [hp] at hC
        clear hp
        go_wp2_with fail
        refine (hC.out).mono ?_
        rintro e w1 ⟨rfl, hb1⟩
        go_wp2_with fail
        go_roundw
        case rel =>
          exact ⟨(lo + hi) / 2 + 1, hi, by rw [show ((lo : Int) + (hi : Int)) / 2 + 1 = (((lo + hi) / 2 + 1 : Nat) : Int) by omega], rfl, by omega, hin, hbel.trans (hb1.mono hbel.size), ⟨below_mid M.out hlt hin HP.out, I.out.2⟩⟩
        case measure => simp [intOf]; omega
      · have HP := hide hp
        rw [hp] at hC
        clear hp
        go_wp2_with fail
        refine (hC.out).mono ?_
        rintro e w1 ⟨rfl, hb1⟩
        go_wp2_with fail
        go_roundw
        case rel =>
          exact ⟨lo, (lo + hi) / 2, rfl, by rw [show ((lo : Int) + (hi : Int)) / 2 = (((lo + hi) / 2 : Nat) : Int) by omega], by omega, by omega, hbel.trans (hb1.mono hbel.size), ⟨I.out.1, fun t ht htn => M.out ((lo + hi) / 2) t ht htn HP.out⟩⟩
        case measure => simp [intOf]; omega
    · obtain rfl : hi = lo := by omega
      go_wp2
      go_ret
      exact ⟨hi, rfl, hin, I.out.1, fun h => I.out.2 hi (Nat.le_refl _) h, hbel⟩

/-! ### the closure that looks at a range's end -/
/-- row i's numbers -/
def rowAt (t : List (List Int)) (i j : Nat) : Int := (t.getD i []).getD j 0
def Ok9 (t : List (List Int)) : Prop := ∀ r ∈ t, r.length = 9
theorem flat9 {t : List (List Int)} (h : Ok9 t) (f : List Int → List Value) (hf : ∀ r, (f r).length = r.length) : ∀ (i j : Nat), i < t.length → j < 9 → (t.flatMap f)[i * 9 + j]? = (f (t.getD i []))[j]? := by
  induction t with
  | nil => intro i j hi; simp at hi
  | cons r t ih =>
    intro i j hi hj
    have hl : (f r).length = 9 := (hf r).trans (h r (List.mem_cons_self ..))
    cases i with
    | zero =>
      rw [List.flatMap_cons, Nat.zero_mul, Nat.zero_add, List.getElem?_append_left (by omega)]
      rfl
    | succ i =>
      rw [List.flatMap_cons, List.getElem?_append_right (by omega), hl, show (i + 1) * 9 + j - 9 = i * 9 + j by omega, ih (fun r hr => h r (List.mem_cons_of_mem _ hr)) i j (by simpa using hi) hj]
      rfl
theorem rowC_len {r : List Int} : (rowC r).length = r.length := by unfold rowC; simp; omega
theorem row9 {t : List (List Int)} (h : Ok9 t) {i : Nat} (hi : i < t.length) : (t.getD i []).length = 9 := by
  have : t.getD i [] = t[i] := by simp [List.getD, hi]
  rw [this]; exact h _ (List.getElem_mem hi)
theorem rowC_at {r : List Int} (hr : r.length = 9) {j : Nat} (hj : j < 9) : (rowC r)[j]? = some (.int (if j < 2 then .i32 else .u8) (r.getD j 0)) := by
  unfold rowC
  have hjr : j < r.length := by omega
  by_cases h2 : j < 2
  · rw [List.getElem?_append_left (by simp; omega), List.getElem?_map, List.getElem?_take, if_pos h2, if_pos h2]
    simp [List.getD, hjr]
  · rw [List.getElem?_append_right (by simp; omega), List.getElem?_map, List.getElem?_drop, if_neg h2]
    have : 2 + (j - (List.map (Value.int IntKind.i32) (List.take 2 r)).length) = j := by simp; omega
    rw [this]
    simp [List.getD, hjr]
theorem cellC {w : World} {b : Nat} {t : List (List Int)} (h9 : Ok9 t) (hb : w.heap[b]? = some (.cells (tabC t) 84 (0, 0))) {i j : Nat} (hi : i < t.length) (hj : j < 9) :
    w.cell? ⟨b, i * 9 + j, none⟩ = some (.int (if j < 2 then .i32 else .u8) (rowAt t i j)) := by
  rw [cell_of_row w b _ _ _ _ hb]
  show (tabC t)[i * 9 + j]? = _
  unfold tabC
  rw [List.getElem?_toArray, flat9 h9 rowC (fun _ => rowC_len) i j hi hj, rowC_at (row9 h9 hi) hj]
  rfl
set_option maxRecDepth 100000 in
set_option maxHeartbeats 4000000 in
theorem ends_at (t : List (List Int)) (n gl gr b i : Nat) (r : Int) (W : World) (h9 : Ok9 t) (hn : t.length = n) (_hn1 : n ≤ 1000) (hi : i < n)
    (hl : Var W gl 80 (.slice (some ⟨b, 0, none⟩) n n)) (hr : Var W gr 21 (.int .i32 r)) (hb : W.heap[b]? = some (.cells (tabC t) 84 (0, 0))) :
    Calls Try.prog 49 #[.int .i64 i, .pointer (some ⟨gl, 0, none⟩), .pointer (some ⟨gr, 0, none⟩)] W fun e w' => e = .returned (.bool (decide (r ≤ rowAt t i 1))) ∧ Below W.heap.size W w' := by
  have c1 := hl.cell
  have c2 := hr.cell
  have c3 := cellC h9 hb (i := i) (j := 1) (by omega) (by omega)
  rw [if_pos (by decide)] at c3
  generalize rowAt t i 1 = v at c3 ⊢
  have hi1 : (0 : Int) ≤ (i : Int) := by omega
  have hi2 : (i : Int) < (n : Int) := by omega
  clear hl hr hb h9 hn
  go_enter Try.func49, Try.ntmps49
  go_wp2_with fail
  go_quiet (fail)
  go_wp2_with fail
  go_ret
  exact ⟨rfl, hB_drewN (Below.refl _ _) _⟩

/-! ### a struct that is read at an address -/
theorem run_loadVar_at {P : Program} (w : World) (a : Addr) (ty : TypeId) (cs : List Value) (d : TypeDesc) (hc : ∀ (j : Nat) (v : Value), cs[j]? = some v → w.cell? (a.add j) = some v)
    (hu : P.underlying ty = some d) (hd : (match d with | .struct _ | .array _ _ => true | _ => false) = true) (hi : (P.info? ty).map (·.size) = some cs.length) :
    (loadVar ty a).run P w = .ok (.agg cs.toArray) w := by
  have hl : (loadCells a cs.length).run P w = .ok cs.toArray w := run_loadCells_list (P := P) w a cs hc
  cases hq : P.info? ty with
  | none => simp [hq] at hi
  | some i =>
    have hs : i.size = cs.length := by simpa [hq] using hi
    have hagg : (isAgg ty).run P w = .ok true w := by
      unfold isAgg
      rw [Sem.run_bind, run_underlying hu w]
      cases d <;> simp_all
    simp [loadVar, Sem.run_bind, hagg, sizeOf, typeInfo, hq, hs, hl]
theorem wp_load_at {P : Program} {o : Oper} {a : Act} {w : World} {K : Act → World → Prop} {Q : Exit → Act → World → Prop} (ty : TypeId) (x : Operand) (ho : o.op = .load ty x)
    (p : Addr) (hx : a.eval x = .pointer (some p)) (cs : List Value) (d : TypeDesc) (hc : ∀ (j : Nat) (v : Value), cs[j]? = some v → w.cell? (p.add j) = some v)
    (hu : P.underlying ty = some d) (hd : (match d with | .struct _ | .array _ _ => true | _ => false) = true) (hi : (P.info? ty).map (·.size) = some cs.length)
    (h : K (a.put o.dst (.agg cs.toArray)) w) : o.wp P a w K Q := by
  unfold Oper.wp execOp
  simp only [ho, hx, Instr.loadAt, Instr.sureAddr, Sem.run_bind, Sem.run_pure, Result.andThen_ok, run_loadVar_at w p ty cs d hc hu hd hi]
  exact h
theorem wpList_load_at {P : Program} {ops : Array Oper} {rest : List Oper} {o : Oper} {a : Act} {w : World} {Q : Exit → Act → World → Prop} (hgd : o.guard = none) (ty : TypeId) (x : Operand) (ho : o.op = .load ty x)
    (p : Addr) (hx : a.eval x = .pointer (some p)) (cs : List Value) (d : TypeDesc) (hc : ∀ (j : Nat) (v : Value), cs[j]? = some v → w.cell? (p.add j) = some v)
    (hu : P.underlying ty = some d) (hd : (match d with | .struct _ | .array _ _ => true | _ => false) = true) (hi : (P.info? ty).map (·.size) = some cs.length)
    (h : wpList P ops Q rest (a.put o.dst (.agg cs.toArray)) w) : wpList P ops Q (o :: rest) a w :=
  wpList_plain hgd fun _ hK => wp_load_at ty x ho p hx cs d hc hu hd hi (hK _ _ h)

theorem all_ints (k : IntKind) (zs : List Int) : (zs.map (Value.int k)).toArray.all (·.oneCell') = true := by
  rw [Array.all_eq_true']
  intro v hv
  exact ints_oneCell k zs v (by simpa using hv)

/-! ### Of -/
def tabOf (r : Int) : List (List Int) := if r < 127 then tab1 else if r < 1030 then tab2 else if r < 1617 then tab3 else if r < 8238 then tab4 else tab5
def dflt : List Int := [0, 0, 0, 0, 0, 0, 1]
def propT (t : List (List Int)) (r : Int) : List Int :=
  match t.find? (fun row => decide (r ≤ row.getD 1 0)) with
  | some row => if r < row.getD 0 0 then dflt else row.drop 2
  | none => dflt
/-- what is known of a code point -/
def propS (r : Int) : List Int := propT (tabOf r) r
/-- its bidi class -/
def cls (r : Int) : Int := (propS r).getD 1 0

def Sorted1 (t : List (List Int)) : Prop := ∀ i j, i < j → j < t.length → rowAt t i 1 < rowAt t j 1
def sortedB : List (List Int) → Bool
  | a :: b :: l => decide (a.getD 1 0 < b.getD 1 0) && sortedB (b :: l)
  | _ => true
theorem sorted_of : ∀ t : List (List Int), sortedB t = true → Sorted1 t
  | [], _, i, j, _, hj => by simp at hj
  | [a], _, i, j, hij, hj => by simp at hj; omega
  | a :: b :: l, h, i, j, hij, hj => by
    simp only [sortedB, Bool.and_eq_true, decide_eq_true_eq] at h
    have ih := sorted_of (b :: l) h.2
    have hs : ∀ k, rowAt (a :: b :: l) (k + 1) 1 = rowAt (b :: l) k 1 := fun _ => rfl
    obtain ⟨j, rfl⟩ : ∃ k, j = k + 1 := ⟨j - 1, by omega⟩
    rw [hs]
    cases i with
    | zero =>
      cases j with
      | zero => exact h.1
      | succ j => exact Int.lt_trans h.1 (ih 0 (j + 1) (by omega) (by simpa using hj))
    | succ i => rw [hs]; exact ih i j (by omega) (by simpa using hj)
theorem tab_ok (r : Int) : Ok9 (tabOf r) ∧ Sorted1 (tabOf r) ∧ (tabOf r).length ≤ 34 := by
  have h : ∀ t ∈ [tab1, tab2, tab3, tab4, tab5], (t.all fun r => r.length == 9) = true ∧ sortedB t = true ∧ t.length ≤ 34 := by decide +kernel
  have hm : tabOf r ∈ [tab1, tab2, tab3, tab4, tab5] := by
    unfold tabOf
    split
    · simp
    · split
      · simp
      · split
        · simp
        · split <;> simp
  obtain ⟨h1, h2, h3⟩ := h _ hm
  exact ⟨fun x hx => by simpa using List.all_eq_true.1 h1 x hx, sorted_of _ h2, h3⟩
theorem find_at_ {t : List (List Int)} {r : Int} {i : Nat} (hi : i < t.length) (hlo : ∀ j, j < i → decide (r ≤ rowAt t j 1) = false) (hhi : decide (r ≤ rowAt t i 1) = true) :
    t.find? (fun row => decide (r ≤ row.getD 1 0)) = some (t.getD i []) := by
  induction t generalizing i with
  | nil => simp at hi
  | cons a t ih =>
    cases i with
    | zero =>
      have : decide (r ≤ a.getD 1 0) = true := hhi
      rw [List.find?_cons, this]; rfl
    | succ i =>
      have h0 : decide (r ≤ a.getD 1 0) = false := hlo 0 (by omega)
      rw [List.find?_cons, h0]
      exact ih (by simpa using hi) (fun j hj => hlo (j + 1) (by omega)) hhi
theorem find_none_ {t : List (List Int)} {r : Int} (hlo : ∀ j, j < t.length → decide (r ≤ rowAt t j 1) = false) : t.find? (fun row => decide (r ≤ row.getD 1 0)) = none := by
  rw [List.find?_eq_none]
  intro x hx
  obtain ⟨j, hj, rfl⟩ := List.mem_iff_getElem.1 hx
  have := hlo j hj
  unfold rowAt at this
  have e : t.getD j [] = t[j] := by simp [List.getD, hj]
  rw [e] at this
  simpa using this

set_option maxHeartbeats 4000000 in
theorem part_any (r : Int) (w : World) : Calls Try.prog 47 #[.int .i32 r] w (TabRet 84 (tabOf r).length (tabC (tabOf r)) w) := by
  have hT := hide (rfl : tabOf r = if r < 127 then tab1 else if r < 1030 then tab2 else if r < 1617 then tab3 else if r < 8238 then tab4 else tab5)
  by_cases h1 : r < 127
  · have e := hide (hT.out.trans (if_pos h1))
    clear hT
    go_enter Try.func47, Try.ntmps47
    go_wp2_with fail
    refine (part1_any _).mono ?_
    rintro e2 w2 ⟨rfl, rfl⟩
    go_wp2_with fail
    go_ret
    rw [e.out]
    exact ⟨rfl, rfl⟩
  · skip
    by_cases h2 : r < 1030
    · have e := hide (hT.out.trans ((if_neg h1).trans (if_pos h2)))
      clear hT
      go_enter Try.func47, Try.ntmps47
      go_wp2_with fail
      refine (part2_any _).mono ?_
      rintro e2 w2 ⟨rfl, rfl⟩
      go_wp2_with fail
      go_ret
      rw [e.out]
      exact ⟨rfl, rfl⟩
    · skip
      by_cases h3 : r < 1617
      · have e := hide (hT.out.trans ((if_neg h1).trans ((if_neg h2).trans (if_pos h3))))
        clear hT
        go_enter Try.func47, Try.ntmps47
        go_wp2_with fail
        refine (part3_any _).mono ?_
        rintro e2 w2 ⟨rfl, rfl⟩
        go_wp2_with fail
        go_ret
        rw [e.out]
        exact ⟨rfl, rfl⟩
      · skip
        by_cases h4 : r < 8238
        · have e := hide (hT.out.trans ((if_neg h1).trans ((if_neg h2).trans ((if_neg h3).trans (if_pos h4)))))
          clear hT
          go_enter Try.func47, Try.ntmps47
          go_wp2_with fail
          refine (part4_any _).mono ?_
          rintro e2 w2 ⟨rfl, rfl⟩
          go_wp2_with fail
          go_ret
          rw [e.out]
          exact ⟨rfl, rfl⟩
        · skip
          have e := hide (hT.out.trans ((if_neg h1).trans ((if_neg h2).trans ((if_neg h3).trans (if_neg h4)))))
          clear hT
          go_enter Try.func47, Try.ntmps47
          go_wp2_with fail
          refine (part5_any _).mono ?_
          rintro e2 w2 ⟨rfl, rfl⟩
          go_wp2_with fail
          go_ret
          rw [e.out]
          exact ⟨rfl, rfl⟩

theorem info36 : (Try.prog.info? 36).map (fun i => i.zero) = some (some (.agg #[.int .u8 0, .int .u8 0, .int .u8 0, .int .u8 0, .int .u8 0, .int .u8 0, .int .u8 0])) := by kernel_rfl

/-- the call answers the properties -/
def OfRet (ps : List Int) (w : World) (e : Ending) (w' : World) : Prop := e = .returned (.agg (ps.map (.int .u8)).toArray) ∧ Below w.heap.size w w'

theorem Var.at_new (w : World) (g : Nat) (t : TypeId) (v : Value) (hg : g = w.heap.size) : Var (w.alloc (.cells #[v] t)) g t v := by subst hg; exact Var.new w t v
theorem heap_at_new (w : World) (g : Nat) (o : Obj) (hg : g = w.heap.size) : (w.alloc o).heap[g]? = some o := by subst hg; exact heap_alloc_new w o
theorem heap_at_old {w : World} {g : Nat} {x : Obj} (o : Obj) (h : w.heap[g]? = some x) : (w.alloc o).heap[g]? = some x := (Below.heap_alloc w o g (lt_of_block h)).trans h
theorem find_call (t : List (List Int)) (n gl gr b : Nat) (r : Int) (W : World) (h9 : Ok9 t) (hs : Sorted1 t) (hn : t.length = n) (hn1 : n ≤ 1000)
    (hl : Var W gl 80 (.slice (some ⟨b, 0, none⟩) n n)) (hr : Var W gr 21 (.int .i32 r)) (hb : W.heap[b]? = some (.cells (tabC t) 84 (0, 0))) :
    Calls Try.prog 48 #[.int .i64 n, .func (.func 49) #[] #[.pointer (some ⟨gl, 0, none⟩), .pointer (some ⟨gr, 0, none⟩)]] W (Found n (fun i => decide (r ≤ rowAt t i 1)) W) := by
  refine search_any _ n _ W (by omega) (fun W' i hB hi => ?_) (fun a b hab hbn h => ?_)
  · have := ends_at t n gl gr b i r W' h9 hn hn1 hi (hl.below hB hl.lt) (hr.below hB hr.lt) ((hB.block b (lt_of_block hb)).trans hb)
    exact this
  · simp only [decide_eq_true_eq] at *
    rcases Nat.lt_or_ge a b with h1 | h1
    · have := hs a b h1 (by omega); omega
    · have : a = b := by omega
      subst this; exact h

theorem row_drop {t : List (List Int)} (h9 : Ok9 t) {i : Nat} (hi : i < t.length) : (t.getD i []).drop 2 = [rowAt t i 2, rowAt t i 3, rowAt t i 4, rowAt t i 5, rowAt t i 6, rowAt t i 7, rowAt t i 8] := by
  have h := row9 h9 hi
  unfold rowAt
  generalize t.getD i [] = r at *
  match r, h with
  | [_, _, _, _, _, _, _, _, _], _ => rfl
theorem prop_none {t : List (List Int)} {r : Int} (h : ∀ j, j < t.length → decide (r ≤ rowAt t j 1) = false) : propT t r = dflt := by
  unfold propT; rw [find_none_ h]
theorem prop_some {t : List (List Int)} {r : Int} (h9 : Ok9 t) {i : Nat} (hi : i < t.length) (hlo : ∀ j, j < i → decide (r ≤ rowAt t j 1) = false) (hhi : decide (r ≤ rowAt t i 1) = true) :
    propT t r = if r < rowAt t i 0 then dflt else [rowAt t i 2, rowAt t i 3, rowAt t i 4, rowAt t i 5, rowAt t i 6, rowAt t i 7, rowAt t i 8] := by
  unfold propT; rw [find_at_ hi hlo hhi, ← row_drop h9 hi]; rfl

set_option maxRecDepth 100000 in
set_option maxHeartbeats 4000000 in
theorem of_any (r : Int) (w : World) : Calls Try.prog 23 #[.int .i32 r] w (OfRet (propS r) w) := by
  obtain ⟨h9, hs, hlen⟩ := tab_ok r
  have hpart := hide (part_any r)
  have hP0 : propS r = propT (tabOf r) r := rfl
  generalize tabOf r = t at *
  generalize propS r = ps at *
  have hP := hide hP0
  clear hP0
  have hlen' : t.length ≤ 1000 := by omega
  go_enter Try.func23, Try.ntmps23
  go_wp2_with fail
  refine (hpart.out _).mono ?_
  rintro e w2 ⟨rfl, rfl⟩
  go_wp2_with fail
  refine (find_call t _ _ _ (w.heap.size + 1 + 1) r _ h9 hs rfl hlen' (Var.at_new _ _ _ _ (by simp)) ((((Var.new _ _ _).alloc _).alloc _).alloc _) (heap_at_old _ (heap_at_new _ _ _ (by simp)))).mono ?_
  rintro e w3 ⟨i, rfl, hin, hlo, hhi, hb⟩
  have hsz := hb.size
  have v1 : Var w3 (w.heap.size + 1 + 1 + 1) 80 (.slice (some ⟨w.heap.size + 1 + 1, 0, none⟩) t.length t.length) := (Var.at_new _ _ _ _ (by simp)).below hb (by simp)
  have v2 : Var w3 w.heap.size 21 (.int .i32 r) := ((((Var.new _ _ _).alloc _).alloc _).alloc _).below hb (by simp <;> omega)
  have v3 : w3.heap[w.heap.size + 1 + 1]? = some (.cells (tabC t) 84 (0, 0)) := (hb.block _ (by simp)).trans (heap_at_old _ (heap_at_new _ _ _ (by simp)))
  have v4 : w3.heap[w.heap.size + 1]? = some (.cells #[.int .u8 0, .int .u8 0, .int .u8 0, .int .u8 0, .int .u8 0, .int .u8 0, .int .u8 0] 36 (0, 0)) := (hb.block _ (by simp <;> omega)).trans (heap_at_old _ (heap_at_old _ (heap_at_new _ _ _ (by simp))))
  have hbel : Below w.heap.size w w3 := (((((Below.refl _ _).alloc (Nat.le_refl _) _).alloc (by simp) _).alloc (by simp <;> omega) _).alloc (by simp <;> omega) _).trans (hb.mono (by simp <;> omega))
  have c1 := v1.cell
  have c2 := v2.cell
  clear hb hpart hs
  rcases Nat.lt_or_ge i t.length with hlt | hge
  · have hps := hide (hP.out.trans (prop_some h9 hlt hlo (hhi hlt)))
    have k0 : w3.cell? ⟨w.heap.size + 1 + 1, i * 9, none⟩ = some (.int .i32 (rowAt t i 0)) := cellC h9 v3 hlt (show 0 < 9 by omega)
    have k2 : ∀ (j : Nat) (v : Value), ([rowAt t i 2, rowAt t i 3, rowAt t i 4, rowAt t i 5, rowAt t i 6, rowAt t i 7, rowAt t i 8].map (Value.int .u8))[j]? = some v → w3.cell? ((⟨w.heap.size + 1 + 1, i * 9 + 2, none⟩ : Addr).add j) = some v := by
      intro j v hv
      rw [addr_add, Nat.add_assoc (i * 9) 2 j]
      have hj : j < 7 := by have := (List.getElem?_eq_some_iff.1 hv).1; simpa using this
      rw [cellC h9 v3 hlt (show 2 + j < 9 by omega), if_neg (by omega), ← hv]
      match j, hj with
      | 0, _ | 1, _ | 2, _ | 3, _ | 4, _ | 5, _ | 6, _ => rfl
    have K2 := hide k2
    clear k2 hlo hhi hP h9 v3
    generalize hn : t.length = n at *
    have hd : ((i : Int) == (n : Int)) = false := by simp; omega
    have hi0 : (0 : Int) ≤ (i : Int) := by omega
    have hi1 : (i : Int) < (n : Int) := by omega
    have hq7 := hide (show [rowAt t i 2, rowAt t i 3, rowAt t i 4, rowAt t i 5, rowAt t i 6, rowAt t i 7, rowAt t i 8].length = 7 from rfl)
    generalize [rowAt t i 2, rowAt t i 3, rowAt t i 4, rowAt t i 5, rowAt t i 6, rowAt t i 7, rowAt t i 8] = qs at *
    generalize rowAt t i 0 = fr at *
    by_cases hlf : r < fr
    · have hps2 := hide (hps.out.trans (if_pos hlf))
      have hlf' : decide (r < fr) = true := by simpa using hlf
      go_wp2_with fail
      go_quiet (fail)
      have v5 : (w3.drewN nq).heap[w.heap.size + 1]? = _ := v4
      go_wp2_with (refine wpList_store_row rfl 36 (.tmp 2) (.tmp 24) rfl (w.heap.size + 1) (dflt.map (.int .u8)).toArray rfl rfl 36 _ v5 (by kernel_rfl) rfl (all_ints _ _) ?_)
      refine bodyPost_ret (results_cell_row rfl _ _ (w.heap.size + 1) 36 (dflt.map (.int .u8)).toArray (0, 0) _ rfl (setRow_heap _ _ _ _ _ _ v5) Try.underlying36 rfl (by kernel_rfl)) rfl ⟨by rw [hps2.out], below_setRow (hB_drewN hbel _) (by omega) _⟩
    · have hps2 := hide (hps.out.trans (if_neg hlf))
      have hlf' : decide (r < fr) = false := by simpa using hlf
      go_wp2_with fail
      go_quiet (fail)
      have v5 : (w3.drewN nq).heap[w.heap.size + 1]? = _ := v4
      go_wp2_with (first
        | (refine wpList_store_row rfl 36 (.tmp 2) (.tmp 29) rfl (w.heap.size + 1) (qs.map (.int .u8)).toArray rfl rfl 36 _ v5 (by rw [List.size_toArray, List.length_map, hq7.out]; kernel_rfl) (by simp [hq7.out]) (all_ints _ _) ?_)
        | (refine wpList_load_at rfl 36 (.tmp 28) rfl ⟨w.heap.size + 1 + 1, i * 9 + 2, none⟩ rfl (qs.map (.int .u8)) _ K2.out Try.underlying36 rfl (by rw [List.length_map, hq7.out]; kernel_rfl) ?_))
      refine bodyPost_ret (results_cell_row rfl _ _ (w.heap.size + 1) 36 (qs.map (.int .u8)).toArray (0, 0) _ rfl (setRow_heap _ _ _ _ _ _ v5) Try.underlying36 rfl (by rw [List.size_toArray, List.length_map, hq7.out]; kernel_rfl)) rfl ⟨by rw [hps2.out], below_setRow (hB_drewN hbel _) (by omega) _⟩
  · obtain rfl : i = t.length := by omega
    have hps := hide (hP.out.trans (prop_none hlo))
    clear hlo hhi hP
    generalize hn : t.length = n at *
    have hd : ((n : Int) == (n : Int)) = true := by simp
    go_wp2_with fail
    go_quiet (fail)
    have v5 : (w3.drewN nq).heap[w.heap.size + 1]? = _ := v4
    go_wp2_with (refine wpList_store_row rfl 36 (.tmp 2) (.tmp 24) rfl (w.heap.size + 1) (dflt.map (.int .u8)).toArray rfl rfl 36 _ v5 (by kernel_rfl) rfl (all_ints _ _) ?_)
    refine bodyPost_ret (results_cell_row rfl _ _ (w.heap.size + 1) 36 (dflt.map (.int .u8)).toArray (0, 0) _ rfl (setRow_heap _ _ _ _ _ _ v5) Try.underlying36 rfl (by kernel_rfl)) rfl ⟨by rw [hps.out], below_setRow (hB_drewN hbel _) (by omega) _⟩

theorem propS_len (r : Int) : (propS r).length = 7 := by
  unfold propS
  obtain ⟨h9, _, _⟩ := tab_ok r
  generalize tabOf r = t at *
  unfold propT
  split
  next row hf =>
    split
    · rfl
    · have := h9 row (List.mem_of_find?_eq_some hf)
      rw [List.length_drop, this]
  next => rfl
end Go.Proofs.Ytaojjneajiobnaa

/-
  Layer 2: the tables of code points, the program's and the document's.
-/
import Derived.Test.YtaojjneajiobnaaSmall
import Derived.Laws.Tables
import Derived.Great.BuildSlice
namespace Go.Proofs.Ytaojjneajiobnaa
open Go.RowKit

/-! ### a region that only builds: run by the kernel -/
/-- the world behind: at most one row was made -/
def wOf (w : World) : Option (Array Value × TypeId) → World
  | none => w
  | some (cells, e) => w.alloc (.cells cells e)
/-- what a slice literal's cells are -/
def sliceCells (P : Program) (e : TypeId) (len : Nat) (parts : List (Nat × Value)) : Option (Array Value) :=
  match P.info? e with
  | some ie => match ie.zero with
    | some z => if 2 ^ 24 < len * ie.size ∨ len * ie.size = 0 then none else Instr.fill (fun i => some (i * ie.size, ie.size)) ((Array.range (len * ie.size)).map (z.cells[· % z.cells.size]!)) parts
    | none => none
  | none => none
def tStep (P : Program) (N : Nat) (o : Oper) (s : Act × Option (Array Value × TypeId)) : Option (Act × Option (Array Value × TypeId)) :=
  if o.guard.isSome then none else
  match o.op with
  | .move x => some (s.1.put o.dst (s.1.eval x), s.2)
  | .assign x => some (s.1.put o.dst (s.1.eval x), s.2)
  | .build t parts => (P.built t (parts.map fun (i, x) => (i, s.1.eval x)).toList).map fun cells => (s.1.put o.dst (.agg cells), s.2)
  | .buildSlice t len parts =>
    match s.2 with
    | some _ => none
    | none => match P.underlying t with
      | some (.slice e) => (sliceCells P e len (parts.map fun (i, x) => (i, s.1.eval x)).toList).map fun cells => (s.1.put o.dst (.slice (some ⟨N, 0, none⟩) len len), some (cells, e))
      | _ => none
  | _ => none
theorem tStep_wp {P : Program} {ops : Array Oper} {rest : List Oper} {o : Oper} {w : World} {Q : Exit → Act → World → Prop} {s s' : Act × Option (Array Value × TypeId)}
    (h : tStep P w.heap.size o s = some s') (hw : wpList P ops Q rest s'.1 (wOf w s'.2)) : wpList P ops Q (o :: rest) s.1 (wOf w s.2) := by
  unfold tStep at h
  split at h
  next => cases h
  next hg =>
    have hgd : o.guard = none := by cases hh : o.guard <;> simp_all
    refine wpList_plain hgd fun K hK => ?_
    split at h
    next x ho =>
      injection h with h; subst h
      unfold Oper.wp execOp
      simp only [ho, Sem.run_pure]
      exact hK _ _ hw
    next x ho =>
      injection h with h; subst h
      unfold Oper.wp execOp
      simp only [ho, Sem.run_pure]
      exact hK _ _ hw
    next t parts ho =>
      cases hb : P.built t (parts.map fun (i, x) => (i, s.1.eval x)).toList with
      | none => rw [hb] at h; cases h
      | some cells =>
        rw [hb] at h
        injection h with h; subst h
        refine wp_build t parts ho (by rw [hb]; rfl) ?_
        rw [hb]
        exact hK _ _ hw
    next t len parts ho =>
      split at h
      next => cases h
      next hs =>
        split at h
        next e hu =>
          cases hc : sliceCells P e len (parts.map fun (i, x) => (i, s.1.eval x)).toList with
          | none => rw [hc] at h; cases h
          | some cells =>
            rw [hc] at h
            injection h with h; subst h
            unfold sliceCells at hc
            split at hc
            next ie hie =>
              split at hc
              next z hz =>
                split at hc
                next => cases hc
                next hn =>
                  rw [hs]
                  exact wp_buildSlice t e len parts ho cells ie z hu hie hz (by omega) (by omega) hc (hK _ _ hw)
              next => cases hc
            next => cases hc
        next => cases h
    next => cases h
def tRun (P : Program) (N : Nat) : List Oper → Act × Option (Array Value × TypeId) → Option (Act × Option (Array Value × TypeId))
  | [], s => some s
  | o :: l, s => (tStep P N o s).bind (tRun P N l)
theorem tRun_wp {P : Program} {ops : Array Oper} {w : World} {Q : Exit → Act → World → Prop} : ∀ (l : List Oper) (s s' : Act × Option (Array Value × TypeId)), tRun P w.heap.size l s = some s' →
    Q .normal s'.1 (wOf w s'.2) → wpList P ops Q l s.1 (wOf w s.2)
  | [], s, s', h, hw => by injection h with h; subst h; exact wpList_nil hw
  | o :: l, s, s', h, hw => by
    unfold tRun at h
    cases hs : tStep P w.heap.size o s with
    | none => rw [hs] at h; cases h
    | some s1 =>
      rw [hs] at h
      exact tStep_wp hs (tRun_wp l s1 s' h hw)
/-- what slot 0 holds behind the operations, the row that was made, and whether nothing is put off -/
def tRes2 (P : Program) (N : Nat) (l0 l1 : List Oper) (a : Act) : Option (Value × Option (Array Value × TypeId)) :=
  match tRun P N l0 (a, none) with
  | some (a0, none) => (tRun P N l1 (a0, none)).map fun s => (s.1.eval (.tmp 0), s.2)
  | _ => none
theorem tStep_defers {P : Program} {N : Nat} {o : Oper} {s s' : Act × Option (Array Value × TypeId)} (h : tStep P N o s = some s') : s'.1.defers = s.1.defers := by
  have hp : ∀ (a : Act) (d : Option Tmp) (v : Value), (a.put d v).defers = a.defers := fun a d v => by cases d <;> rfl
  unfold tStep at h
  split at h
  next => cases h
  next =>
    split at h
    next => injection h with h; subst h; exact hp _ _ _
    next => injection h with h; subst h; exact hp _ _ _
    next =>
      obtain ⟨_, _, h⟩ := Option.map_eq_some_iff.1 h
      subst h; exact hp _ _ _
    next =>
      split at h
      next => cases h
      next =>
        split at h
        next =>
          obtain ⟨_, _, h⟩ := Option.map_eq_some_iff.1 h
          subst h; exact hp _ _ _
        next => cases h
    next => cases h
theorem tRun_defers {P : Program} {N : Nat} : ∀ (l : List Oper) (s s' : Act × Option (Array Value × TypeId)), tRun P N l s = some s' → s'.1.defers = s.1.defers
  | [], s, s', h => by injection h with h; subst h; rfl
  | o :: l, s, s', h => by
    unfold tRun at h
    cases hs : tStep P N o s with
    | none => rw [hs] at h; cases h
    | some s1 =>
      rw [hs] at h
      exact (tRun_defers l s1 s' h).trans (tStep_defers hs)
/-- a body that is two regions and returns slot 0 -/
theorem tab_body {P : Program} {fn : Func} {R : Ending → World → Prop} {i0 i1 : Nat} {l0 l1 : List Oper} {a : Act} {w : World} {v : Value} {cells : Array Value} {e : TypeId} (hr : fn.results = #[.tmp 0]) (hd : a.defers = [])
    (h : tRes2 P w.heap.size l0 l1 a = some (v, some (cells, e))) (hR : R (.returned v) (w.alloc (.cells cells e))) : ((Code.region i0 l0.toArray false).seq ((Code.region i1 l1.toArray false).seq Code.ret)).wp P (bodyPost P fn R) a w := by
  unfold tRes2 at h
  cases h0 : tRun P w.heap.size l0 (a, none) with
  | none => rw [h0] at h; cases h
  | some s0 =>
    rw [h0] at h
    obtain ⟨s0a, s0m⟩ := s0
    cases s0m with
    | some m => cases h
    | none =>
      obtain ⟨s, hs, hv⟩ := Option.map_eq_some_iff.1 h
      simp only [Prod.mk.injEq] at hv
      obtain ⟨hv, hm⟩ := hv
      apply wp_seq_k
      intro K0 hK0
      apply wp_region_lit
      refine tRun_wp (w := w) l0 (a, none) _ h0 (hK0 _ _ ?_)
      apply wp_seq_k
      intro K hK
      apply wp_region_lit
      refine tRun_wp (w := w) l1 (s0a, none) s hs (hK _ _ ?_)
      have hdd : s.1.defers = [] := ((tRun_defers l1 _ s hs).trans (tRun_defers l0 _ _ h0)).trans hd
      rw [hm]
      refine wp_ret ?_
      refine bodyPost_ret (results_tmp hr _ _ _) hdd ?_
      have hv' : s.1.tmps.getD 0 undef = v := hv
      rw [hv']
      exact hR

def tab1 : List (List Int) := [[0, 8, 9, 9, 0, 0, 0, 0, 0], [9, 9, 9, 11, 0, 0, 0, 0, 0], [10, 10, 9, 10, 0, 0, 0, 0, 0], [11, 11, 9, 11, 0, 0, 0, 0, 0], [12, 12, 9, 12, 0, 0, 0, 0, 0], [13, 13, 9, 10, 0, 0, 0, 0, 0], [14, 27, 9, 9, 0, 0, 0, 0, 0], [28, 30, 9, 10, 0, 0, 0, 0, 0], [31, 31, 9, 11, 0, 0, 0, 0, 0], [32, 32, 8, 12, 0, 0, 0, 0, 1], [33, 34, 6, 13, 0, 0, 0, 0, 1], [35, 35, 6, 5, 0, 0, 0, 0, 1], [36, 36, 7, 5, 0, 0, 0, 0, 1], [37, 37, 6, 5, 0, 0, 0, 0, 1], [38, 42, 6, 13, 0, 0, 0, 0, 1], [43, 43, 7, 4, 0, 0, 0, 0, 1], [44, 44, 6, 7, 0, 0, 0, 0, 1], [45, 45, 6, 4, 0, 0, 0, 0, 1], [46, 47, 6, 7, 0, 0, 0, 0, 1], [48, 57, 5, 3, 0, 0, 0, 1, 1], [58, 58, 6, 7, 0, 0, 0, 0, 1], [59, 59, 6, 13, 0, 0, 0, 0, 1], [60, 62, 7, 13, 0, 0, 0, 0, 1], [63, 64, 6, 13, 0, 0, 0, 0, 1], [65, 90, 2, 0, 0, 0, 2, 0, 1], [91, 93, 6, 13, 0, 0, 0, 0, 1], [94, 94, 7, 13, 0, 0, 0, 0, 1], [95, 95, 6, 13, 0, 0, 0, 0, 1], [96, 96, 7, 13, 0, 0, 0, 0, 1], [97, 122, 1, 0, 0, 0, 2, 0, 1], [123, 123, 6, 13, 0, 0, 0, 0, 1], [124, 124, 7, 13, 0, 0, 0, 0, 1], [125, 125, 6, 13, 0, 0, 0, 0, 1], [126, 126, 7, 13, 0, 0, 0, 0, 1]]
def tab2 : List (List Int) := [[127, 132, 9, 9, 0, 0, 0, 0, 0], [133, 133, 9, 10, 0, 0, 0, 0, 0], [134, 159, 9, 9, 0, 0, 0, 0, 0], [160, 160, 8, 7, 0, 0, 0, 0, 1], [162, 165, 7, 5, 0, 0, 0, 0, 1], [167, 167, 6, 13, 0, 0, 0, 0, 1], [171, 171, 6, 13, 0, 0, 0, 0, 1], [173, 173, 10, 9, 0, 0, 0, 0, 0], [176, 177, 7, 5, 0, 0, 0, 0, 1], [183, 183, 6, 13, 0, 0, 0, 0, 1], [187, 187, 6, 13, 0, 0, 0, 0, 1], [192, 214, 2, 0, 0, 0, 2, 0, 1], [215, 215, 7, 13, 0, 0, 0, 0, 1], [216, 222, 2, 0, 0, 0, 2, 0, 1], [223, 246, 1, 0, 0, 0, 2, 0, 1], [247, 247, 7, 13, 0, 0, 0, 0, 1], [248, 255, 1, 0, 0, 0, 2, 0, 1], [305, 305, 1, 0, 0, 0, 2, 0, 1], [338, 338, 2, 0, 0, 0, 2, 0, 1], [339, 339, 1, 0, 0, 0, 2, 0, 1], [471, 471, 2, 0, 0, 0, 2, 0, 1], [472, 472, 1, 0, 0, 0, 2, 0, 1], [768, 788, 4, 8, 2, 230, 1, 0, 0], [803, 806, 4, 8, 2, 220, 1, 0, 0], [807, 808, 4, 8, 2, 202, 1, 0, 0], [820, 824, 4, 8, 2, 1, 1, 0, 0], [885, 885, 7, 13, 0, 0, 3, 0, 1], [902, 902, 2, 0, 0, 0, 3, 0, 1], [904, 906, 2, 0, 0, 0, 3, 0, 1], [913, 929, 2, 0, 0, 0, 3, 0, 1], [931, 937, 2, 0, 0, 0, 3, 0, 1], [940, 943, 1, 0, 0, 0, 3, 0, 1], [945, 969, 1, 0, 0, 0, 3, 0, 1], [1025, 1025, 2, 0, 0, 0, 4, 0, 1]]
def tab3 : List (List Int) := [[1030, 1030, 2, 0, 0, 0, 4, 0, 1], [1040, 1071, 2, 0, 0, 0, 4, 0, 1], [1072, 1103, 1, 0, 0, 0, 4, 0, 1], [1105, 1105, 1, 0, 0, 0, 4, 0, 1], [1110, 1110, 1, 0, 0, 0, 4, 0, 1], [1460, 1460, 4, 8, 2, 14, 5, 0, 0], [1463, 1463, 4, 8, 2, 17, 5, 0, 0], [1468, 1468, 4, 8, 2, 21, 5, 0, 0], [1470, 1470, 6, 1, 0, 0, 5, 0, 1], [1488, 1514, 3, 1, 0, 0, 5, 0, 1], [1523, 1524, 6, 1, 0, 0, 5, 0, 1], [1548, 1548, 6, 7, 0, 0, 0, 0, 1], [1563, 1563, 6, 2, 0, 0, 0, 0, 1], [1564, 1564, 10, 2, 2, 0, 6, 0, 0], [1567, 1567, 6, 2, 0, 0, 0, 0, 1], [1569, 1569, 3, 2, 0, 0, 6, 0, 1], [1570, 1573, 3, 2, 5, 0, 6, 0, 1], [1574, 1574, 3, 2, 3, 0, 6, 0, 1], [1575, 1575, 3, 2, 5, 0, 6, 0, 1], [1576, 1576, 3, 2, 3, 0, 6, 0, 1], [1577, 1577, 3, 2, 5, 0, 6, 0, 1], [1578, 1582, 3, 2, 3, 0, 6, 0, 1], [1583, 1586, 3, 2, 5, 0, 6, 0, 1], [1587, 1594, 3, 2, 3, 0, 6, 0, 1], [1600, 1600, 3, 2, 1, 0, 0, 0, 1], [1601, 1607, 3, 2, 3, 0, 6, 0, 1], [1608, 1608, 3, 2, 5, 0, 6, 0, 1], [1609, 1610, 3, 2, 3, 0, 6, 0, 1], [1611, 1611, 4, 8, 2, 27, 1, 0, 0], [1612, 1612, 4, 8, 2, 28, 1, 0, 0], [1613, 1613, 4, 8, 2, 29, 1, 0, 0], [1614, 1614, 4, 8, 2, 30, 1, 0, 0], [1615, 1615, 4, 8, 2, 31, 1, 0, 0], [1616, 1616, 4, 8, 2, 32, 1, 0, 0]]
def tab4 : List (List Int) := [[1617, 1617, 4, 8, 2, 33, 1, 0, 0], [1618, 1618, 4, 8, 2, 34, 1, 0, 0], [1619, 1620, 4, 8, 2, 230, 1, 0, 0], [1621, 1621, 4, 8, 2, 220, 1, 0, 0], [1632, 1641, 5, 6, 0, 0, 6, 2, 1], [1642, 1642, 6, 5, 0, 0, 6, 0, 1], [1643, 1644, 6, 6, 0, 0, 6, 0, 1], [1740, 1740, 3, 2, 3, 0, 6, 0, 1], [1776, 1785, 5, 3, 0, 0, 6, 3, 1], [2306, 2306, 4, 8, 2, 0, 7, 0, 0], [2307, 2307, 4, 0, 0, 0, 7, 0, 1], [2309, 2361, 3, 0, 0, 0, 7, 0, 1], [2364, 2364, 4, 8, 2, 7, 7, 0, 0], [2366, 2368, 4, 0, 0, 0, 7, 0, 1], [2369, 2376, 4, 8, 2, 0, 7, 0, 0], [2381, 2381, 4, 8, 2, 9, 7, 0, 0], [2406, 2415, 5, 0, 0, 0, 7, 4, 1], [4352, 4370, 3, 0, 0, 0, 11, 0, 2], [4449, 4469, 3, 0, 0, 0, 11, 0, 0], [4520, 4546, 3, 0, 0, 0, 11, 0, 0], [8203, 8203, 10, 9, 2, 0, 0, 0, 0], [8204, 8204, 10, 9, 0, 0, 1, 0, 0], [8205, 8205, 10, 9, 1, 0, 1, 0, 0], [8206, 8206, 10, 0, 2, 0, 0, 0, 0], [8207, 8207, 10, 1, 2, 0, 0, 0, 0], [8211, 8212, 6, 13, 0, 0, 0, 0, 1], [8216, 8223, 6, 13, 0, 0, 0, 0, 1], [8230, 8230, 6, 13, 0, 0, 0, 0, 1], [8232, 8232, 8, 12, 0, 0, 0, 0, 0], [8233, 8233, 8, 10, 0, 0, 0, 0, 0], [8234, 8234, 10, 14, 2, 0, 0, 0, 0], [8235, 8235, 10, 15, 2, 0, 0, 0, 0], [8236, 8236, 10, 16, 2, 0, 0, 0, 0], [8237, 8237, 10, 17, 2, 0, 0, 0, 0]]
def tab5 : List (List Int) := [[8238, 8238, 10, 18, 2, 0, 0, 0, 0], [8260, 8260, 7, 7, 0, 0, 0, 0, 1], [8294, 8294, 10, 19, 0, 0, 0, 0, 0], [8295, 8295, 10, 20, 0, 0, 0, 0, 0], [8296, 8296, 10, 21, 0, 0, 0, 0, 0], [8297, 8297, 10, 22, 0, 0, 0, 0, 0], [8364, 8364, 7, 5, 0, 0, 0, 0, 1], [8722, 8722, 7, 4, 0, 0, 0, 0, 1], [8725, 8725, 7, 13, 0, 0, 0, 0, 1], [9001, 9002, 6, 13, 0, 0, 0, 0, 2], [12290, 12290, 6, 13, 0, 0, 0, 0, 2], [12293, 12293, 3, 0, 0, 0, 8, 0, 2], [12296, 12297, 6, 13, 0, 0, 0, 0, 2], [12300, 12301, 6, 13, 0, 0, 0, 0, 2], [12353, 12438, 3, 0, 0, 0, 9, 0, 2], [12441, 12441, 4, 8, 2, 8, 1, 0, 0], [12449, 12538, 3, 0, 0, 0, 10, 0, 2], [12539, 12539, 6, 13, 0, 0, 0, 0, 2], [12540, 12540, 3, 0, 0, 0, 0, 0, 2], [19968, 40959, 3, 0, 0, 0, 8, 0, 2], [44032, 55203, 3, 0, 0, 0, 11, 0, 2], [65038, 65039, 4, 8, 2, 0, 1, 0, 0], [65279, 65279, 10, 9, 2, 0, 0, 0, 0], [65288, 65289, 6, 13, 0, 0, 0, 0, 2], [65294, 65295, 6, 7, 0, 0, 0, 0, 2], [65296, 65305, 5, 3, 0, 0, 0, 5, 2], [65306, 65306, 6, 7, 0, 0, 0, 0, 2], [65313, 65338, 2, 0, 0, 0, 2, 0, 2], [65345, 65370, 1, 0, 0, 0, 2, 0, 2], [65533, 65533, 7, 13, 0, 0, 0, 0, 1]]

def rowC (r : List Int) : List Value := (r.take 2).map (.int .i32) ++ (r.drop 2).map (.int .u8)
def tabC (t : List (List Int)) : Array Value := (t.flatMap rowC).toArray
def rowI (r : List Int) : List Value := r.map (.int .i64)
def tabI (t : List (List Int)) : Array Value := (t.flatMap rowI).toArray
def TabRet (t : TypeId) (n : Nat) (cells : Array Value) (w : World) (e : Ending) (w' : World) : Prop := e = .returned (.slice (some ⟨w.heap.size, 0, none⟩) n n) ∧ w' = w.alloc (.cells cells t)

set_option maxRecDepth 1000000 in
set_option maxHeartbeats 4000000 in
theorem part1_any (w : World) : Calls Try.prog 71 #[] w (TabRet 84 34 (tabC tab1) w) := by
  go_enter Try.func71, Try.ntmps71
  refine tab_body (v := .slice (some ⟨w.heap.size, 0, none⟩) 34 34) (cells := tabC tab1) (e := 84) ?_ ?_ ?_ ?_
  · rfl
  · rfl
  · as_aux_lemma => kernel_rfl
  · exact ⟨rfl, rfl⟩

set_option maxRecDepth 1000000 in
set_option maxHeartbeats 4000000 in
theorem part2_any (w : World) : Calls Try.prog 72 #[] w (TabRet 84 34 (tabC tab2) w) := by
  go_enter Try.func72, Try.ntmps72
  refine tab_body (v := .slice (some ⟨w.heap.size, 0, none⟩) 34 34) (cells := tabC tab2) (e := 84) ?_ ?_ ?_ ?_
  · rfl
  · rfl
  · as_aux_lemma => kernel_rfl
  · exact ⟨rfl, rfl⟩

set_option maxRecDepth 1000000 in
set_option maxHeartbeats 4000000 in
theorem part3_any (w : World) : Calls Try.prog 73 #[] w (TabRet 84 34 (tabC tab3) w) := by
  go_enter Try.func73, Try.ntmps73
  refine tab_body (v := .slice (some ⟨w.heap.size, 0, none⟩) 34 34) (cells := tabC tab3) (e := 84) ?_ ?_ ?_ ?_
  · rfl
  · rfl
  · as_aux_lemma => kernel_rfl
  · exact ⟨rfl, rfl⟩

set_option maxRecDepth 1000000 in
set_option maxHeartbeats 4000000 in
theorem part4_any (w : World) : Calls Try.prog 74 #[] w (TabRet 84 34 (tabC tab4) w) := by
  go_enter Try.func74, Try.ntmps74
  refine tab_body (v := .slice (some ⟨w.heap.size, 0, none⟩) 34 34) (cells := tabC tab4) (e := 84) ?_ ?_ ?_ ?_
  · rfl
  · rfl
  · as_aux_lemma => kernel_rfl
  · exact ⟨rfl, rfl⟩

set_option maxRecDepth 1000000 in
set_option maxHeartbeats 4000000 in
theorem part5_any (w : World) : Calls Try.prog 75 #[] w (TabRet 84 30 (tabC tab5) w) := by
  go_enter Try.func75, Try.ntmps75
  refine tab_body (v := .slice (some ⟨w.heap.size, 0, none⟩) 30 30) (cells := tabC tab5) (e := 84) ?_ ?_ ?_ ?_
  · rfl
  · rfl
  · as_aux_lemma => kernel_rfl
  · exact ⟨rfl, rfl⟩
end Go.Proofs.Ytaojjneajiobnaa

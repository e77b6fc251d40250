/-
  Which places are kept, and what holds in memory while they are looked for.
-/
import Derived.Test.YtaojjneajiobnaaRunV
import Derived.Test.YtaojjneajiobnaaExpW
namespace Go.Proofs.Ytaojjneajiobnaa
open Go.RowKit Go.Maps

section
variable {P : Program} {Q : Exit → Act → World → Prop}
theorem wpListIn_val {r : Option Nat} {n : Nat} {ops : Array Oper} {o : Oper} {rest : List Oper} {a : Act} {w w' : World} {v : Value} (hg : o.guard = none) (hd : ∀ c, o.op ≠ .defer c) (h : (execOp a.eval o).run P w = .ok (.value v) w')
    (hK : wpListIn (wF r) n P ops Q rest (a.put o.dst v) w') : wpListIn (wF r) n P ops Q (o :: rest) a w :=
  wpListIn_plain hg fun _ hK' => oper_round hd (wp_val h (hK' _ _ hK))
/-- append, in a round or in none -/
theorem wpListIn_app {r : Option Nat} {nn : Nat} {t e : TypeId} {k : IntKind} (he : Elt P t e k) {w : World} {ops : Array Oper} {rest : List Oper} {o : Oper} {a : Act} (hgd : o.guard = none) (s x : Operand)
    (ho : o.op = .call { callee := .builtin .append, args := #[s, x], argTypes := #[t, t] }) {B : Nat} {A A' : Option Addr} {n c m c' : Nat} {zs ys : List Int} (hs : a.eval s = .slice A n c) (hx : a.eval x = .slice A' m c')
    (hown : Own B e k w A n c zs) (hr : Rd k w A' m ys) (hnm : n + m ≤ 1000000000) (hB : B ≤ w.heap.size)
    (h : ∀ A2 c2 w', Own B e k w' A2 (n + m) c2 (zs ++ ys) → w.grownBy w' (Value.slice A n c).ownBlock →
      ((Value.slice A2 (n + m) c2).ownBlock = (Value.slice A n c).ownBlock ∨ (Value.slice A2 (n + m) c2).ownBlock = some w.heap.size) → wpListIn (wF r) nn P ops Q rest (a.put o.dst (.slice A2 (n + m) c2)) w') :
    wpListIn (wF r) nn P ops Q (o :: rest) a w := by
  obtain ⟨A2, c2, w', hrun, h2, h3, h4⟩ := run_app (P := P) he o.type (c' := c') hown hr hnm hB
  refine wpListIn_val (v := .slice A2 (n + m) c2) (w' := w') hgd (by rw [ho]; intro c h; cases h) ?_ (h A2 c2 w' h2 h3 h4)
  unfold execOp
  simp only [ho, resolve, invoke, builtin, Sem.run_bind, Sem.run_pure, Result.andThen_ok, List.map_toArray, List.map_cons, List.map_nil, hs, hx, hrun]
/-- append, in a round or in none -/
theorem wpListIn_app_wide {nn : Nat} {t e : TypeId} {k : IntKind} (he : Elt P t e k) {w : World} {ops : Array Oper} {rest : List Oper} {o : Oper} {a : Act} (hgd : o.guard = none) (s x : Operand)
    (ho : o.op = .call { callee := .builtin .append, args := #[s, x], argTypes := #[t, t] }) {B : Nat} {A A' : Option Addr} {n c m c' : Nat} {zs ys : List Int} (hs : a.eval s = .slice A n c) (hx : a.eval x = .slice A' m c')
    (hown : Own B e k w A n c zs) (hr : Rd k w A' m ys) (hnm : n + m ≤ 1000000000) (hB : B ≤ w.heap.size)
    (h : ∀ A2 c2 w', Own B e k w' A2 (n + m) c2 (zs ++ ys) → w.grownBy w' (Value.slice A n c).ownBlock →
      ((Value.slice A2 (n + m) c2).ownBlock = (Value.slice A n c).ownBlock ∨ (Value.slice A2 (n + m) c2).ownBlock = some w.heap.size) → wpListIn Fence.wide nn P ops Q rest (a.put o.dst (.slice A2 (n + m) c2)) w') :
    wpListIn Fence.wide nn P ops Q (o :: rest) a w :=
  wpListIn_app (r := none) he hgd s x ho hs hx hown hr hnm hB h
/-- append, in a round or in none -/
theorem wpListIn_app_round {l : Nat} {nn : Nat} {t e : TypeId} {k : IntKind} (he : Elt P t e k) {w : World} {ops : Array Oper} {rest : List Oper} {o : Oper} {a : Act} (hgd : o.guard = none) (s x : Operand)
    (ho : o.op = .call { callee := .builtin .append, args := #[s, x], argTypes := #[t, t] }) {B : Nat} {A A' : Option Addr} {n c m c' : Nat} {zs ys : List Int} (hs : a.eval s = .slice A n c) (hx : a.eval x = .slice A' m c')
    (hown : Own B e k w A n c zs) (hr : Rd k w A' m ys) (hnm : n + m ≤ 1000000000) (hB : B ≤ w.heap.size)
    (h : ∀ A2 c2 w', Own B e k w' A2 (n + m) c2 (zs ++ ys) → w.grownBy w' (Value.slice A n c).ownBlock →
      ((Value.slice A2 (n + m) c2).ownBlock = (Value.slice A n c).ownBlock ∨ (Value.slice A2 (n + m) c2).ownBlock = some w.heap.size) → wpListIn (Fence.wide.inRound l) nn P ops Q rest (a.put o.dst (.slice A2 (n + m) c2)) w') :
    wpListIn (Fence.wide.inRound l) nn P ops Q (o :: rest) a w :=
  wpListIn_app (r := some l) he hgd s x ho hs hx hown hr hnm hB h
end

/-- the places whose class is not BN, up to k -/
def keptTo (cs : List Int) (k : Nat) : List Int := ((List.range k).filter fun i => cs.getD i 0 != 9).map fun i => ((i : Nat) : Int)
theorem keptTo_on {cs : List Int} {k : Nat} (h : (cs.getD k 0 == 9) = false) : keptTo cs (k + 1) = keptTo cs k ++ [(k : Int)] := by
  unfold keptTo
  have h2 : (cs.getD k 0 != 9) = true := by rw [bne, h]; rfl
  rw [List.range_succ, List.filter_append, List.map_append, List.filter_cons, if_pos h2]
  rfl
theorem keptTo_off {cs : List Int} {k : Nat} (h : (cs.getD k 0 == 9) = true) : keptTo cs (k + 1) = keptTo cs k := by
  unfold keptTo
  have h2 : ¬ (cs.getD k 0 != 9) = true := by rw [bne, h]; decide
  rw [List.range_succ, List.filter_append, List.map_append, List.filter_cons, if_neg h2, List.filter_nil, List.map_nil, List.append_nil]
theorem keptTo_len (cs : List Int) (k : Nat) : (keptTo cs k).length ≤ k := by
  unfold keptTo
  rw [List.length_map]
  have := List.length_filter_le (fun i => cs.getD i 0 != 9) (List.range k)
  rwa [List.length_range] at this
theorem keptTo_mem {cs : List Int} {k : Nat} : ∀ x ∈ keptTo cs k, 0 ≤ x ∧ x < (k : Int) := by
  intro x hx
  obtain ⟨i, hi, rfl⟩ := List.mem_map.1 hx
  have := List.mem_range.1 (List.mem_filter.1 hi).1
  omega

/-- behind i places of own, and j places looked at for kept -/
structure KInv (w : World) (bb bl br bo ba g1 c1 g2 c2 n i j : Nat) (base : Int) (lv cs zs : List Int) (A2 : Option Addr) (m cc : Nat) (W : World) : Prop where
  b : Var W bb 5 (.int .u8 base)
  l : Var W bl 22 (.slice (some ⟨g1, 0, none⟩) n c1)
  r : W.heap[br]? = some (.cells #[.slice (some ⟨g1, 0, none⟩) n c1, .slice A2 m cc] 88 (0, 0))
  o : Var W bo 22 (.slice (some ⟨ba, 0, none⟩) n n)
  own : Own w.heap.size 5 .u8 W (some ⟨ba, 0, none⟩) n n (zs.take i ++ List.replicate (n - i) 0)
  kp : Own w.heap.size 3 .i64 W A2 m cc (keptTo cs j)
  L : Own w.heap.size 5 .u8 W (some ⟨g1, 0, none⟩) n c1 lv
  O : Own w.heap.size 5 .u8 W (some ⟨g2, 0, none⟩) n c2 cs
  bel : Below w.heap.size w W
  hb : w.heap.size ≤ bb ∧ w.heap.size ≤ bl ∧ w.heap.size ≤ br ∧ w.heap.size ≤ bo
  ne : ba ≠ g1 ∧ ba ≠ g2 ∧ bb ≠ ba
section
variable {w W W' : World} {bb bl br bo ba g1 c1 g2 c2 n i j : Nat} {base : Int} {lv cs zs : List Int} {A2 : Option Addr} {m cc : Nat}
theorem Var.below_ {t : TypeId} {v : Value} {g : Nat} (h : Var W g t v) (hb : Below W.heap.size W W') : Var W' g t v := (hb.block _ h.lt).trans h
theorem KInv.below (h : KInv w bb bl br bo ba g1 c1 g2 c2 n i j base lv cs zs A2 m cc W) (hb : Below W.heap.size W W') : KInv w bb bl br bo ba g1 c1 g2 c2 n i j base lv cs zs A2 m cc W' :=
  ⟨h.b.below_ hb, h.l.below_ hb, (hb.block _ (lt_of_block h.r)).trans h.r, h.o.below_ hb, h.own.below hb, h.kp.below hb, h.L.below hb, h.O.below hb, h.bel.trans (hb.mono h.bel.size), h.hb, h.ne⟩
theorem KInv.alloc (h : KInv w bb bl br bo ba g1 c1 g2 c2 n i j base lv cs zs A2 m cc W) (o : Obj) : KInv w bb bl br bo ba g1 c1 g2 c2 n i j base lv cs zs A2 m cc (W.alloc o) := h.below ((Below.refl _ _).alloc (Nat.le_refl _) _)
theorem KInv.drewN (h : KInv w bb bl br bo ba g1 c1 g2 c2 n i j base lv cs zs A2 m cc W) (d : Nat) : KInv w bb bl br bo ba g1 c1 g2 c2 n i j base lv cs zs A2 m cc (W.drewN d) := h.below (hB_drewN (Below.refl _ _) d)
/-- a place of own is written -/
theorem KInv.put (h : KInv w bb bl br bo ba g1 c1 g2 c2 n i j base lv cs zs A2 m cc W) {z : Int} (hz : zs[i]? = some z) (hi : i < n) : KInv w bb bl br bo ba g1 c1 g2 c2 n (i + 1) j base lv cs zs A2 m cc (W.setCell ⟨ba, i, none⟩ (.int .u8 z)) := by
  have hba := h.own.lt ba rfl
  have hv : ∀ {g : Nat} {t : TypeId} {v : Value}, Var W g t v → t ≠ 5 → g ≠ ba := fun hg ht e => by
    subst e
    exact h.own.ne_ hg ht rfl
  have hrb : br ≠ ba := by
    rintro rfl
    exact row_ne h.own.1 h.r (by decide) rfl
  refine ⟨h.b.other (p := ⟨ba, i, none⟩) h.ne.2.2 _, h.l.other (p := ⟨ba, i, none⟩) (hv h.l (by decide)) _, (Below.heap_setCell W ⟨ba, i, none⟩ _ br hrb).trans h.r, h.o.other (p := ⟨ba, i, none⟩) (hv h.o (by decide)) _, ?_,
    h.kp.other (p := ⟨ba, i, none⟩) ?_ _, h.L.other (p := ⟨ba, i, none⟩) ?_ _, h.O.other (p := ⟨ba, i, none⟩) ?_ _, h.bel.setCell (p := ⟨ba, i, none⟩) hba.1 _, h.hb, h.ne⟩
  · have := h.own.set_ i z
    have hl : (zs.take i).length = i := by
      rw [List.length_take]
      have := (List.getElem?_eq_some_iff.1 hz).1
      omega
    rw [rep_set hl hi] at this
    rw [List.take_add_one, hz]
    exact this
  · intro e
    rcases row_apart h.kp.1 h.own.1 (by decide) with h1 | h1
    · rw [h1] at e; cases e
    · exact h1 e
  · intro e; injection e with e; exact h.ne.1 e.symm
  · intro e; injection e with e; exact h.ne.2.1 e.symm
/-- a place is not kept -/
theorem KInv.off (h : KInv w bb bl br bo ba g1 c1 g2 c2 n i j base lv cs zs A2 m cc W) (hc : (cs.getD j 0 == 9) = true) : KInv w bb bl br bo ba g1 c1 g2 c2 n i (j + 1) base lv cs zs A2 m cc W :=
  ⟨h.b, h.l, h.r, h.o, h.own, by rw [keptTo_off hc]; exact h.kp, h.L, h.O, h.bel, h.hb, h.ne⟩
theorem KInv.r_kept (h : KInv w bb bl br bo ba g1 c1 g2 c2 n i j base lv cs zs A2 m cc W) {W' : World} (hg : W.grownBy W' (Value.slice A2 m cc).ownBlock) : W'.cell? ⟨br, 1, none⟩ = some (.slice A2 m cc) ∧ W'.frozen? ⟨br, 1, none⟩ = false := by
  have hr2 : W'.heap[br]? = some (.cells #[.slice (some ⟨g1, 0, none⟩) n c1, .slice A2 m cc] 88 (0, 0)) := (hg.block _ (lt_of_block h.r) (fun e => row_ne h.kp.1 h.r (by decide) e.symm)).trans h.r
  exact ⟨cell_of_row _ _ _ _ _ _ hr2, by simp [World.frozen?, hr2]⟩
/-- a place is kept -/
theorem KInv.on {A3 : Option Addr} {c3 : Nat} (h : KInv w bb bl br bo ba g1 c1 g2 c2 n i j base lv cs zs A2 m cc W) (hc : (cs.getD j 0 == 9) = false) {W' : World} (hown : Own w.heap.size 3 .i64 W' A3 (m + 1) c3 (keptTo cs j ++ [(j : Int)])) (hg : W.grownBy W' (Value.slice A2 m cc).ownBlock) :
    KInv w bb bl br bo ba g1 c1 g2 c2 n i (j + 1) base lv cs zs A3 (m + 1) c3 (W'.setCell ⟨br, 1, none⟩ (.slice A3 (m + 1) c3)) := by
  have hr2 : W'.heap[br]? = some (.cells #[.slice (some ⟨g1, 0, none⟩) n c1, .slice A2 m cc] 88 (0, 0)) := (hg.block _ (lt_of_block h.r) (fun e => row_ne h.kp.1 h.r (by decide) e.symm)).trans h.r
  have hlo : w.heap.size ≤ br := h.hb.2.2.1
  have hv : ∀ {g : Nat} {t : TypeId} {v : Value}, Var W g t v → t ≠ 3 → t ≠ 88 → Var (W'.setCell ⟨br, 1, none⟩ (.slice A3 (m + 1) c3)) g t v := fun {g t v} hv h3 h88 => by
    have h1 : Var W' g t v := hv.grown hg (fun e => h.kp.ne_ hv h3 e.symm)
    refine h1.other (p := ⟨br, 1, none⟩) (fun e => ?_) _
    simp only at e
    subst e
    unfold Var at h1
    rw [hr2] at h1; injection h1 with h1; injection h1 with _ h2; exact h88 h2.symm
  have ho : ∀ {e : TypeId} {k : IntKind} {A : Option Addr} {n' c' : Nat} {ys : List Int}, Own w.heap.size e k W' A n' c' ys → e ≠ 88 → Own w.heap.size e k (W'.setCell ⟨br, 1, none⟩ (.slice A3 (m + 1) c3)) A n' c' ys := fun ho he =>
    ho.other (p := ⟨br, 1, none⟩) (row_ne ho.1 hr2 he) _
  have ho5 : ∀ {A : Option Addr} {n' c' : Nat} {ys : List Int}, Own w.heap.size 5 .u8 W A n' c' ys → Own w.heap.size 5 .u8 (W'.setCell ⟨br, 1, none⟩ (.slice A3 (m + 1) c3)) A n' c' ys := fun h5 =>
    ho (h5.kept hg (row_apart h5.1 h.kp.1 (by decide))) (by decide)
  refine ⟨hv h.b (by decide) (by decide), hv h.l (by decide) (by decide), ?_, hv h.o (by decide) (by decide), ho5 h.own, by rw [keptTo_on hc]; exact ho hown (by decide), ho5 h.L, ho5 h.O,
    (h.bel.grown hg h.bel.size (fun g hgg => (h.kp.lt g hgg).1)).setCell (p := ⟨br, 1, none⟩) hlo _, h.hb, h.ne⟩
  obtain ⟨hlt, he⟩ := Array.getElem?_eq_some_iff.1 hr2
  simp [World.setCell, hlt, Array.getElem_modify, he]
end
end Go.Proofs.Ytaojjneajiobnaa

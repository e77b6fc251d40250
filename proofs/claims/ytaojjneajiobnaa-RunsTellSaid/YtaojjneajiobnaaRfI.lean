/-
  The reference of layer 19: what holds at the head of Explicit's loop.
-/
import Derived.Test.YtaojjneajiobnaaRfH
namespace Go.Proofs.Ytaojjneajiobnaa
open Go.RowKit

/-- the state s lies in the block gs, its stack in the block b -/
structure SBox (w : World) (gs b c : Nat) (s : PS) : Prop where
  box : w.heap[gs]? = some (.cells #[.slice (some ⟨b, 0, none⟩) s.stk.length c, .int .i64 s.is, .int .i64 s.em, .int .i64 s.nw] 72 (0, 0))
  blt : b < w.heap.size
  cap : s.stk.length ≤ c
  cell : EC w b (s.stk.reverse.map mapE)
section
variable {w w' : World} {gs b c : Nat} {s : PS}
theorem SBox.rs (h : SBox w gs b c s) : RS w (.agg #[.slice (some ⟨b, 0, none⟩) s.stk.length c, .int .i64 s.is, .int .i64 s.em, .int .i64 s.nw]) s := ⟨b, c, rfl, h.blt, h.cap, h.cell⟩
theorem SBox.below (h : SBox w gs b c s) (hb : Below w.heap.size w w') : SBox w' gs b c s :=
  ⟨(hb.block _ (lt_of_block h.box)).trans h.box, by have := hb.size; have := h.blt; omega, h.cap, cells_below h.cell hb⟩
theorem SBox.alloc (h : SBox w gs b c s) (o : Obj) : SBox (w.alloc o) gs b c s := h.below ((Below.refl _ _).alloc (Nat.le_refl _) _)
theorem SBox.lt (h : SBox w gs b c s) : gs < w.heap.size := lt_of_block h.box
/-- a new state is stored -/
theorem SBox.store {s' : PS} {b' c' : Nat} {old : Array Value} (hg : w.heap[gs]? = some (.cells old 72 (0, 0))) (h : RS w (.agg #[.slice (some ⟨b', 0, none⟩) s'.stk.length c', .int .i64 s'.is, .int .i64 s'.em, .int .i64 s'.nw]) s') :
    SBox (w.setRow gs #[.slice (some ⟨b', 0, none⟩) s'.stk.length c', .int .i64 s'.is, .int .i64 s'.em, .int .i64 s'.nw]) gs b' c' s' := by
  obtain ⟨b1, c1, h1, h2, h3, h4⟩ := h
  have hh : (#[Value.slice (some ⟨b', 0, none⟩) s'.stk.length c', .int .i64 s'.is, .int .i64 s'.em, .int .i64 s'.nw] : Array Value) = #[.slice (some ⟨b1, 0, none⟩) s'.stk.length c1, .int .i64 s'.is, .int .i64 s'.em, .int .i64 s'.nw] := by injection h1
  have h0 := congrArg (fun a : Array Value => a[0]?) hh
  simp only [List.getElem?_toArray, List.getElem?_cons_zero, Option.some.injEq, Value.slice.injEq, Addr.mk.injEq, true_and, and_true] at h0
  obtain ⟨rfl, rfl⟩ := h0
  exact ⟨setRow_heap _ _ _ _ _ _ hg, by rw [setRow_size]; exact h2, h3, h4.same (setRow_other _ _ _ _ (h4.ne hg (by decide)))⟩
end
theorem Own.row {B : Nat} {e : TypeId} {k : IntKind} {w : World} {A : Option Addr} {n c : Nat} {zs : List Int} (h : Own B e k w A n c zs) {g : Nat} (hg : (Value.slice A n c).ownBlock ≠ some g) (cs : Array Value) : Own B e k (w.setRow g cs) A n c zs := by
  refine ⟨⟨h.1.1, ?_⟩, h.2⟩
  rcases h.1.2 with h0 | ⟨g', cap, cur, hv, hb, hh, hr⟩
  · exact .inl h0
  · have hbk : (Value.slice A n c).ownBlock = some g' := by rw [hv]; rfl
    exact .inr ⟨g', cap, cur, hv, hb, (setRow_other _ _ _ _ (fun e => hg (by rw [hbk, e]))).trans hh, hr⟩
theorem Own.box_ne {B : Nat} {e : TypeId} {k : IntKind} {w : World} {A : Option Addr} {n c : Nat} {zs : List Int} (h : Own B e k w A n c zs) {g : Nat} {cs : Array Value} {t : TypeId} {fr : Nat × Nat} (hg : w.heap[g]? = some (.cells cs t fr)) (ht : e ≠ t) : (Value.slice A n c).ownBlock ≠ some g := by
  rcases h.1.2 with ⟨hv, _⟩ | ⟨g', cap, cur, hv, _, hh, _⟩
  · rw [hv]; simp [Value.ownBlock]
  · rw [hv]
    intro he
    simp only [Value.ownBlock, Option.some.injEq] at he
    subst he
    rw [hg] at hh
    injection hh with hh
    injection hh with _ h2 _
    exact ht h2.symm
/-- what holds at the head, behind k places -/
structure XR (wa : World) (gs b c : Nat) (A8 A9 : Option Addr) (c8 c9 : Nat) (cl : List Int) (base : Int) (k : Nat) (wr : World) : Prop where
  sb : SBox wr gs b c (expSt cl base k).1
  L : Own wa.heap.size 5 .u8 wr A8 k c8 (expSt cl base k).2.1
  O : Own wa.heap.size 5 .u8 wr A9 k c9 (expSt cl base k).2.2
  d : Dist (Value.slice A8 k c8).ownBlock (Value.slice A9 k c9).ownBlock
  bel : Below wa.heap.size wa wr
  low : wa.heap.size ≤ gs
/-- behind the switch: the new state, and the rows as they were -/
structure XM (wa : World) (gs b c : Nat) (A8 A9 : Option Addr) (c8 c9 : Nat) (cl : List Int) (base : Int) (k : Nat) (s' : PS) (wr : World) : Prop where
  sb : SBox wr gs b c s'
  L : Own wa.heap.size 5 .u8 wr A8 k c8 (expSt cl base k).2.1
  O : Own wa.heap.size 5 .u8 wr A9 k c9 (expSt cl base k).2.2
  d : Dist (Value.slice A8 k c8).ownBlock (Value.slice A9 k c9).ownBlock
  bel : Below wa.heap.size wa wr
  low : wa.heap.size ≤ gs
section
variable {wa wr wr' : World} {gs b c : Nat} {A8 A9 : Option Addr} {c8 c9 : Nat} {cl : List Int} {base : Int} {k : Nat} {s' : PS}
theorem XR.mid (h : XR wa gs b c A8 A9 c8 c9 cl base k wr) : XM wa gs b c A8 A9 c8 c9 cl base k (expSt cl base k).1 wr := ⟨h.sb, h.L, h.O, h.d, h.bel, h.low⟩
theorem XM.below (h : XM wa gs b c A8 A9 c8 c9 cl base k s' wr) (hb : Below wr.heap.size wr wr') : XM wa gs b c A8 A9 c8 c9 cl base k s' wr' :=
  ⟨h.sb.below hb, h.L.below hb, h.O.below hb, h.d, h.bel.trans (hb.mono h.bel.size), h.low⟩
theorem XM.store {s2 : PS} {b' c' : Nat} (h : XM wa gs b c A8 A9 c8 c9 cl base k s' wr) (hR : RS wr (.agg #[.slice (some ⟨b', 0, none⟩) s2.stk.length c', .int .i64 s2.is, .int .i64 s2.em, .int .i64 s2.nw]) s2) :
    XM wa gs b' c' A8 A9 c8 c9 cl base k s2 (wr.setRow gs #[.slice (some ⟨b', 0, none⟩) s2.stk.length c', .int .i64 s2.is, .int .i64 s2.em, .int .i64 s2.nw]) :=
  ⟨SBox.store h.sb.box hR, h.L.row (h.L.box_ne h.sb.box (by decide)) _, h.O.row (h.O.box_ne h.sb.box (by decide)) _, h.d, below_setRow h.bel h.low _, h.low⟩
end
theorem ent_cells (e : Ent) : entV e = .agg #[.int .u8 e.lv, .int .u8 e.ov, .bool e.iso] := rfl
/-- the top's override, as the reference asks -/
theorem ov_cases {s : PS} {k : Nat} (hf : Fit s k) (x : Int) : (((mapE s.top).ov != 255) = true ∧ Hid (asS s x = (mapE s.top).ov)) ∨ (((mapE s.top).ov != 255) = false ∧ Hid (asS s x = x)) := by
  obtain ⟨t, rest, e1, e2, _, _, h1, h2⟩ := hf.parts
  rw [← e2] at h1 h2
  unfold Hid asS mapE
  by_cases h : s.top.ov = 13
  · right; simp [h]
  · left; simp only [h, if_false, bne_iff_ne, ne_eq, and_true]; omega

theorem SBox.grown {w w' : World} {gs b c : Nat} {s : PS} {row : Option Nat} (h : SBox w gs b c s) (hg : w.grownBy w' row) (h1 : row ≠ some gs) (h2 : row ≠ some b) : SBox w' gs b c s :=
  ⟨(hg.block _ (lt_of_block h.box) (Ne.symm h1)).trans h.box, by have := hg.size; have := h.blt; omega, h.cap, h.cell.same (hg.block _ h.cell.lt (Ne.symm h2))⟩
section
variable {wa wr w8 w9 : World} {gs b c : Nat} {A8 A9 A3 A4 : Option Addr} {c8 c9 c3 c4 : Nat} {cl : List Int} {base : Int} {k : Nat} {s' : PS} {v1 v2 x : Int}
/-- behind the first append -/
structure XA (wa : World) (gs b c : Nat) (A8 A9 : Option Addr) (c8 c9 : Nat) (cl : List Int) (base : Int) (k : Nat) (s' : PS) (v1 : Int) (wr : World) : Prop where
  sb : SBox wr gs b c s'
  L : Own wa.heap.size 5 .u8 wr A8 (k + 1) c8 ((expSt cl base k).2.1 ++ [v1])
  O : Own wa.heap.size 5 .u8 wr A9 k c9 (expSt cl base k).2.2
  d : Dist (Value.slice A8 (k + 1) c8).ownBlock (Value.slice A9 k c9).ownBlock
  bel : Below wa.heap.size wa wr
  low : wa.heap.size ≤ gs
theorem XM.app (h : XM wa gs b c A8 A9 c8 c9 cl base k s' wr) {o : Obj} (hown : Own wa.heap.size 5 .u8 w8 A3 (k + 1) c3 ((expSt cl base k).2.1 ++ [v1])) (hgr : (wr.alloc o).grownBy w8 (Value.slice A8 k c8).ownBlock)
    (hat : (Value.slice A3 (k + 1) c3).ownBlock = (Value.slice A8 k c8).ownBlock ∨ (Value.slice A3 (k + 1) c3).ownBlock = some (wr.alloc o).heap.size) : XA wa gs b c A3 A9 c3 c9 cl base k s' v1 w8 := by
  have hsb := h.sb.alloc o
  have hO := h.O.alloc o
  have hL := h.L.alloc o
  have hsz := h.bel.size
  obtain ⟨cur, hc69⟩ := hsb.cell.1
  exact ⟨hsb.grown hgr (hL.box_ne hsb.box (by decide)) (hL.box_ne hc69 (by decide)), hown, hO.kept hgr h.d.sym, h.d.one hat (fun g hg => (hO.lt g hg).2), (h.bel.alloc hsz o).grown hgr (by simp; omega) (fun g hg => (h.L.lt g hg).1), h.low⟩
theorem XA.app (h : XA wa gs b c A8 A9 c8 c9 cl base k s' v1 wr) {o : Obj} (hx : cl[k]? = some x) (hs : stepS (fsiAt cl k) (expSt cl base k).1 x = (s', v1, v2)) (hown : Own wa.heap.size 5 .u8 w9 A4 (k + 1) c4 ((expSt cl base k).2.2 ++ [v2])) (hgr : (wr.alloc o).grownBy w9 (Value.slice A9 k c9).ownBlock)
    (hat : (Value.slice A4 (k + 1) c4).ownBlock = (Value.slice A9 k c9).ownBlock ∨ (Value.slice A4 (k + 1) c4).ownBlock = some (wr.alloc o).heap.size) : XR wa gs b c A8 A4 c8 c4 cl base (k + 1) w9 := by
  have hsb := h.sb.alloc o
  have hO := h.O.alloc o
  have hL := h.L.alloc o
  have hsz := h.bel.size
  obtain ⟨cur, hc69⟩ := hsb.cell.1
  have he : expSt cl base (k + 1) = (s', (expSt cl base k).2.1 ++ [v1], (expSt cl base k).2.2 ++ [v2]) := by
    simp only [expSt, getD_of hx, hs]
  exact ⟨by rw [he]; exact hsb.grown hgr (hO.box_ne hsb.box (by decide)) (hO.box_ne hc69 (by decide)), by rw [he]; exact hL.kept hgr h.d, by rw [he]; exact hown, h.d.two hat (fun g hg => (hL.lt g hg).2), (h.bel.alloc hsz o).grown hgr (by simp; omega) (fun g hg => (h.O.lt g hg).1), h.low⟩
end

theorem XM.top {wa wr : World} {gs b c : Nat} {A8 A9 : Option Addr} {c8 c9 : Nat} {cl : List Int} {base : Int} {k k' : Nat} {s : PS} (h : XM wa gs b c A8 A9 c8 c9 cl base k s wr) (hf : Fit s k') (hk : k' ≤ 100000) :
    Calls Try.prog 38 #[.agg #[.slice (some ⟨b, 0, none⟩) s.stk.length c, .int .i64 s.is, .int .i64 s.em, .int .i64 s.nw]] wr fun en w' => en = .returned (.agg #[.int .u8 s.top.lv, .int .u8 (mapE s.top).ov, .bool s.top.iso]) ∧ Below wr.heap.size wr w' :=
  reftop_any h.sb.rs hf hk
theorem still_val {P : Program} {o : Oper} {a : Act} {w : World} {next : Act → Prop} {v : Value} (h : (execOp a.eval o).run P w = .ok (.value v) w) (hn : next (a.put o.dst v)) : o.still P a w next := by
  unfold Oper.still; rw [h]; exact ⟨rfl, hn⟩
theorem still_move {P : Program} {o : Oper} {a : Act} {w : World} {next : Act → Prop} (x : Operand) (ho : o.op = .move x) (hn : next (a.put o.dst (a.eval x))) : o.still P a w next :=
  still_val (by unfold execOp; simp only [ho]; rfl) hn
theorem still_pick {P : Program} {o : Oper} {a : Act} {w : World} {next : Act → Prop} (c x y : Operand) (b : Bool) (ho : o.op = .pick c x y) (hc : a.eval c = .bool b) (hn : next (a.put o.dst (if b then a.eval x else a.eval y))) : o.still P a w next := by
  refine still_val ?_ hn
  unfold execOp
  simp only [ho, hc]
  cases b <;> rfl
theorem still_enter {P : Program} {o : Oper} {a : Act} {w : World} {next : Act → Prop} {v : Value} {f : FuncId} {args : Array Value} (h : (execOp a.eval o).run P w = .ok (.enter f args) w) (hc : Calls P f args w (fun e w'' => e = .returned v ∧ w'' = w)) (hn : next (a.put o.dst v)) : o.still P a w next := by
  unfold Oper.still; rw [h]; exact ⟨rfl, v, hc, hn⟩
end Go.Proofs.Ytaojjneajiobnaa

/-
  The stack of embeddings, overrides and isolates: the state's methods.
-/
import Derived.Test.YtaojjneajiobnaaPar
import Derived.RegionTactic
import Derived.BigRegion
namespace Go.Proofs.Ytaojjneajiobnaa
open Go.RowKit

/-- one of the stack: its level, its override (13: none), whether an isolate -/
structure Ent where
  lv : Int
  ov : Int
  iso : Bool
def Ent.cells (e : Ent) : List Value := [.int .u8 e.lv, .int .u8 e.ov, .bool e.iso]
def entC (es : List Ent) : List Value := es.flatMap Ent.cells
theorem entC_len (es : List Ent) : (entC es).length = es.length * 3 := by
  induction es with
  | nil => rfl
  | cons e es ih =>
    show ((Ent.cells e) ++ entC es).length = _
    rw [List.length_append, ih]
    simp [Ent.cells]
    omega
theorem entC_at {es : List Ent} {j : Nat} {e : Ent} (h : es[j]? = some e) (t : Nat) (ht : t < 3) : (entC es)[j * 3 + t]? = e.cells[t]? := by
  induction es generalizing j with
  | nil => simp at h
  | cons a es ih =>
    show ((Ent.cells a) ++ entC es)[j * 3 + t]? = _
    cases j with
    | zero =>
      have : a = e := by simpa using h
      subst this
      rw [Nat.zero_mul, Nat.zero_add, List.getElem?_append_left (by simp [Ent.cells]; omega)]
    | succ j =>
      have hl : (Ent.cells a).length = 3 := rfl
      rw [List.getElem?_append_right (by omega), hl, show (j + 1) * 3 + t - 3 = j * 3 + t by omega]
      exact ih (by simpa using h)

/-- the state in block gs: its stack of m entries (from block B on), and its other fields -/
structure Sta (B : Nat) (w : World) (gs : Nat) (A : Option Addr) (m cap : Nat) (es : List Ent) (is em nw : Int) (c mv : Value) : Prop where
  box : w.heap[gs]? = some (.cells #[.slice A m cap, .int .i64 is, .int .i64 em, .int .i64 nw, c, mv] 61 (0, 0))
  own : w.ownsRow B 58 3 (.slice A m cap) m (entC es)
section
variable {B : Nat} {w w' : World} {gs : Nat} {A : Option Addr} {m cap : Nat} {es : List Ent} {is em nw : Int} {c mv : Value}
theorem Sta.len (h : Sta B w gs A m cap es is em nw c mv) : es.length = m := by
  have := h.own.1
  rw [entC_len] at this
  omega
theorem Sta.lt (h : Sta B w gs A m cap es is em nw c mv) : gs < w.heap.size := lt_of_block h.box
theorem Sta.cell (h : Sta B w gs A m cap es is em nw c mv) : w.cell? ⟨gs, 0, none⟩ = some (.slice A m cap) ∧ w.cell? ⟨gs, 1, none⟩ = some (.int .i64 is) ∧ w.cell? ⟨gs, 2, none⟩ = some (.int .i64 em) ∧
    w.cell? ⟨gs, 3, none⟩ = some (.int .i64 nw) ∧ w.cell? ⟨gs, 4, none⟩ = some c ∧ w.cell? ⟨gs, 5, none⟩ = some mv ∧ ∀ j, w.frozen? ⟨gs, j, none⟩ = false := by
  refine ⟨?_, ?_, ?_, ?_, ?_, ?_, fun j => by simp [World.frozen?, h.box]⟩ <;> (rw [cell_of_row _ _ _ _ _ _ h.box]; rfl)
theorem Sta.alloc (h : Sta B w gs A m cap es is em nw c mv) (o : Obj) : Sta B (w.alloc o) gs A m cap es is em nw c mv := ⟨heap_at_old o h.box, h.own.alloc o⟩
theorem Sta.drewN (h : Sta B w gs A m cap es is em nw c mv) (k : Nat) : Sta B (w.drewN k) gs A m cap es is em nw c mv := ⟨h.box, h.own⟩
theorem Sta.below (h : Sta B w gs A m cap es is em nw c mv) (hb : Below w.heap.size w w') : Sta B w' gs A m cap es is em nw c mv :=
  ⟨(hb.block gs h.lt).trans h.box, h.own.kept (row := none) ⟨hb.os, hb.tape, hb.output, hb.size, fun i hi _ => hb.block i hi⟩ (by cases (Value.slice A m cap).ownBlock <;> simp)⟩
theorem Sta.entry (h : Sta B w gs A m cap es is em nw c mv) {j : Nat} {e : Ent} (he : es[j]? = some e) : ∃ g, A = some ⟨g, 0, none⟩ ∧ g < w.heap.size ∧ w.cell? ⟨g, j * 3, none⟩ = some (.int .u8 e.lv) ∧ w.cell? ⟨g, j * 3 + 1, none⟩ = some (.int .u8 e.ov) ∧ w.cell? ⟨g, j * 3 + 2, none⟩ = some (.bool e.iso) := by
  have hj : j < es.length := (List.getElem?_eq_some_iff.1 he).1
  have hl := h.len
  rcases h.own.2 with ⟨hv, h0⟩ | ⟨g, cp, cur, hv, _, hg, _⟩
  · omega
  · injection hv with hA _ hc
    subst hA
    have hk := fun t ht => h.own.cells (g := g) rfl (j * 3 + t) _ ((entC_at he t ht).trans (List.getElem?_eq_getElem (l := e.cells) ht))
    refine ⟨g, rfl, lt_of_block hg, ?_, ?_, ?_⟩
    · have := hk 0 (by decide); rw [addr_add, Nat.zero_add] at this; exact this
    · have := hk 1 (by decide); rw [addr_add, Nat.zero_add] at this; exact this
    · have := hk 2 (by decide); rw [addr_add, Nat.zero_add] at this; exact this
end

/-- the call answers an entry -/
def RetEnt (e : Ent) (w : World) (en : Ending) (w' : World) : Prop := en = .returned (.agg #[.int .u8 e.lv, .int .u8 e.ov, .bool e.iso]) ∧ Below w.heap.size w w'

set_option maxRecDepth 100000 in
set_option maxHeartbeats 4000000 in
theorem top_any (B gs : Nat) (A : Option Addr) (j cap : Nat) (es : List Ent) (e : Ent) (is em nw : Int) (c mv : Value) (w : World) (h : Sta B w gs A (j + 1) cap es is em nw c mv) (he : es[j]? = some e) (hj : j ≤ 1000000) :
    Calls Try.prog 65 #[.pointer (some ⟨gs, 0, none⟩)] w (RetEnt e w) := by
  have hgs := h.lt
  obtain ⟨g, rfl, hg, k0, k1, k2⟩ := h.entry he
  have c0 := h.cell.1
  obtain ⟨e1, e2, e3⟩ := e
  have a1 : IntKind.i64.wrap ((j : Int) + 1 - 1) = (j : Int) := by rw [show (j : Int) + 1 - 1 = j by omega]; exact IntWalk.i64_in _ (by omega)
  have a2 : (0 : Int) ≤ (j : Int) := by omega
  have a3 : (j : Int) < (j : Int) + 1 := by omega
  simp only at k0 k1 k2
  clear h he
  go_enter Try.func65, Try.ntmps65
  go_wp2_with fail
  go_region
  go_wp2_with fail
  refine bodyPost_ret (results_cell_row rfl _ _ w.heap.size 58 #[.int .u8 e1, .int .u8 e2, .bool e3] (0, 0) _ rfl (heap_alloc_new _ _) Try.underlying58 rfl (by kernel_rfl)) rfl ⟨rfl, ?_⟩
  first
    | exact hB_drewN ((Below.refl _ _).alloc (Nat.le_refl _) _) 1
    | exact (Below.refl _ _).alloc (Nat.le_refl _) _

/-! ### what a method may turn: the state's block gs, and the stack's block r -/
structure Fr (gs : Nat) (r : Option Nat) (w w' : World) : Prop where
  os : w'.os = w.os
  tape : w'.tape = w.tape
  output : w'.output = w.output
  size : w.heap.size ≤ w'.heap.size
  block : ∀ i, i < w.heap.size → i ≠ gs → some i ≠ r → w'.heap[i]? = w.heap[i]?
section
variable {gs : Nat} {r r' : Option Nat} {w w' w'' : World}
theorem Fr.refl (gs : Nat) (r : Option Nat) (w : World) : Fr gs r w w := ⟨rfl, rfl, rfl, Nat.le_refl _, fun _ _ _ _ => rfl⟩
theorem Fr.more (h : Fr gs none w w') (r : Option Nat) : Fr gs r w w' := ⟨h.os, h.tape, h.output, h.size, fun i hi h1 _ => h.block i hi h1 (by simp)⟩
theorem Fr.trans (h : Fr gs r w w') (k : Fr gs r' w' w'') (hr : r' = r ∨ ∃ q, w.heap.size ≤ q ∧ r' = some q) : Fr gs r w w'' :=
  ⟨k.os.trans h.os, k.tape.trans h.tape, k.output.trans h.output, Nat.le_trans h.size k.size, fun i hi h1 h2 => (k.block i (Nat.lt_of_lt_of_le hi h.size) h1 (by
    rcases hr with rfl | ⟨q, hq, rfl⟩
    · exact h2
    · intro e; injection e with e; omega)).trans (h.block i hi h1 h2)⟩
theorem Fr.of_below (h : Below w.heap.size w w') (gs : Nat) (r : Option Nat) : Fr gs r w w' := ⟨h.os, h.tape, h.output, h.size, fun i hi _ _ => h.block i hi⟩
theorem Fr.set_ (h : Fr gs r w w') (j : Nat) (u : Value) : Fr gs r w (w'.setCell ⟨gs, j, none⟩ u) :=
  ⟨h.os, h.tape, h.output, by simpa [World.setCell] using h.size, fun i hi h1 h2 => (Below.heap_setCell w' ⟨gs, j, none⟩ u i (fun e => h1 e)).trans (h.block i hi h1 h2)⟩
theorem Fr.drewN (h : Fr gs r w w') (k : Nat) : Fr gs r w (w'.drewN k) := ⟨h.os, h.tape, h.output, h.size, h.block⟩
theorem Fr.below {B : Nat} {w0 : World} (h : Fr gs r w w') (hb : Below B w0 w) (hB : B ≤ w.heap.size) (h1 : B ≤ gs) (h2 : ∀ g, r = some g → B ≤ g) : Below B w0 w' :=
  hb.trans ⟨h.os, h.tape, h.output, h.size, fun i hi => h.block i (Nat.lt_of_lt_of_le hi hB) (by omega) (fun e => by have := h2 i e.symm; omega)⟩
end
theorem Sta.ne {B : Nat} {w : World} {gs : Nat} {A : Option Addr} {m cap : Nat} {es : List Ent} {is em nw : Int} {c mv : Value} (h : Sta B w gs A m cap es is em nw c mv) : (Value.slice A m cap).ownBlock ≠ some gs := by
  rcases h.own.2 with ⟨hv, _⟩ | ⟨g', cp, cur, hv, _, hh, _⟩
  · rw [hv]; simp [Value.ownBlock]
  · rw [hv]
    intro he
    simp only [Value.ownBlock, Option.some.injEq] at he
    subst he
    rw [h.box] at hh
    injection hh with hh
    injection hh with _ ht
    exact absurd ht (by decide)
theorem box_set {w : World} {gs : Nat} {v0 v1 v2 v3 v4 v5 : Value} (h : w.heap[gs]? = some (.cells #[v0, v1, v2, v3, v4, v5] 61 (0, 0))) (i : Nat) (u : Value) :
    (w.setCell ⟨gs, i, none⟩ u).heap[gs]? = some (.cells (#[v0, v1, v2, v3, v4, v5].setIfInBounds i u) 61 (0, 0)) := by
  simp [World.setCell, Array.getElem?_modify, h]
section
variable {B : Nat} {w : World} {gs : Nat} {A : Option Addr} {m cap : Nat} {es : List Ent} {is em nw : Int} {c mv : Value}
theorem Sta.cap_ (h : Sta B w gs A m cap es is em nw c mv) : m ≤ cap := by
  rcases h.own.2 with ⟨hv, _⟩ | ⟨g, cp, cur, hv, _, _, hnc, _⟩
  · injection hv; omega
  · injection hv; omega
theorem Sta.pop_ {j : Nat} (h : Sta B w gs A (j + 1) cap es is em nw c mv) : Sta B (w.setCell ⟨gs, 0, none⟩ (.slice A j cap)) gs A j cap (es.take j) is em nw c mv := by
  refine ⟨box_set h.box 0 _, ?_⟩
  have ho := ownsRow_setCell_other (a := ⟨gs, 0, none⟩) h.own h.ne (.slice A j cap)
  have hl := h.len
  refine ⟨by rw [entC_len, List.length_take, hl]; omega, ?_⟩
  rcases ho.2 with ⟨hv, h0⟩ | ⟨g, cp, cur, hv, hb, hg, hnc, hcm, hs, ht⟩
  · injection hv; omega
  · injection hv with h1 h2 h3
    subst h1; subst h3
    refine .inr ⟨g, cap, cur, rfl, hb, hg, by omega, hcm, hs, ?_⟩
    have : entC (es.take j) = (entC es).take (j * 3) := by
      have e : entC es = entC (es.take j) ++ entC (es.drop j) := by
        unfold entC; rw [← List.flatMap_append, List.take_append_drop]
      have hlt : (entC (es.take j)).length = j * 3 := by rw [entC_len, List.length_take, hl]; omega
      rw [e, ← hlt, List.take_left]
    rw [this, ← ht, List.take_take, Nat.min_eq_left (by omega)]
theorem Sta.seti (h : Sta B w gs A m cap es is em nw c mv) (v : Int) : Sta B (w.setCell ⟨gs, 1, none⟩ (.int .i64 v)) gs A m cap es v em nw c mv := ⟨box_set h.box 1 _, ownsRow_setCell_other (a := ⟨gs, 1, none⟩) h.own h.ne _⟩
theorem Sta.sete (h : Sta B w gs A m cap es is em nw c mv) (v : Int) : Sta B (w.setCell ⟨gs, 2, none⟩ (.int .i64 v)) gs A m cap es is v nw c mv := ⟨box_set h.box 2 _, ownsRow_setCell_other (a := ⟨gs, 2, none⟩) h.own h.ne _⟩
theorem Sta.setn (h : Sta B w gs A m cap es is em nw c mv) (v : Int) : Sta B (w.setCell ⟨gs, 3, none⟩ (.int .i64 v)) gs A m cap es is em v c mv := ⟨box_set h.box 3 _, ownsRow_setCell_other (a := ⟨gs, 3, none⟩) h.own h.ne _⟩
end

/-- a method has left the stack in its row, m entries -/
def PopPost (B gs : Nat) (A : Option Addr) (m cap : Nat) (es : List Ent) (is em nw : Int) (c mv : Value) (w : World) (e : Ending) (w' : World) : Prop :=
  e = .returned (.tuple #[]) ∧ Sta B w' gs A m cap es is em nw c mv ∧ Fr gs none w w'

set_option maxRecDepth 100000 in
set_option maxHeartbeats 4000000 in
theorem pop_any (B gs : Nat) (A : Option Addr) (j cap : Nat) (es : List Ent) (is em nw : Int) (c mv : Value) (w : World) (h : Sta B w gs A (j + 1) cap es is em nw c mv) (hj : j ≤ 1000000) :
    Calls Try.prog 78 #[.pointer (some ⟨gs, 0, none⟩)] w (PopPost B gs A j cap (es.take j) is em nw c mv w) := by
  have hgs := h.lt
  have hp := hide h.pop_
  have c0 := h.cell.1
  have f0 := h.cell.2.2.2.2.2.2 0
  have hcap := h.cap_
  obtain ⟨e, he⟩ : ∃ e, es[j]? = some e := ⟨_, List.getElem?_eq_getElem (by rw [h.len]; omega)⟩
  obtain ⟨g, rfl, hg, _, _, _⟩ := h.entry he
  have a1 : IntKind.i64.wrap ((j : Int) + 1 - 1) = (j : Int) := by rw [show (j : Int) + 1 - 1 = j by omega]; exact IntWalk.i64_in _ (by omega)
  have a2 : (0 : Int) ≤ (j : Int) := by omega
  have a3 : (j : Int) ≤ (cap : Int) := by omega
  clear h he
  go_enter Try.func78, Try.ntmps78
  go_region
  go_end0
  exact ⟨rfl, hp.out.drewN 1, ((Fr.refl gs none w).set_ 0 _).drewN 1⟩
end Go.Proofs.Ytaojjneajiobnaa

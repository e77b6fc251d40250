/-
  The sequences, step by step, and what holds in memory while they are made.
-/
import Derived.Test.YtaojjneajiobnaaRunM
import Derived.RangeFuncWrites
namespace Go.Proofs.Ytaojjneajiobnaa
open Go.RowKit Go.Maps

structure QS where
  out : List QR
  goes : Nat → Option Nat
def newR (lv kp : List Int) (base : Int) (a p : Nat) : QR := ⟨[], lv.getD p 0, sideS (lv.getD p 0) (atS lv kp base ((a : Int) - 1)), 0⟩
def onR (q : QR) (ys : List Int) (en : Int) : QR := ⟨q.ps ++ ys, q.lv, q.st, en⟩
def nilR : QR := ⟨[], 0, 0, 0⟩
/-- the run of the kept places from a to b -/
def stepQ (lv kp own m : List Int) (base : Int) (s : QS) (a b : Nat) : QS :=
  let p := (kp.getD a 0).toNat
  let r := (kp.getD (b - 1) 0).toNat
  let x := (s.goes p).getD s.out.length
  let out1 := if (s.goes p).isSome then s.out else s.out ++ [newR lv kp base a p]
  let q := out1.getD x nilR
  let op := opS (own.getD r 0)
  ⟨out1.set x (onR q ((kp.take b).drop a) (sideS q.lv (if op then base else atS lv kp base b))), if op then fun j => if j = (m.getD r 0).toNat then some x else s.goes j else s.goes⟩
def sqSt (lv kp own m : List Int) (base : Int) : Nat → QS
  | 0 => ⟨[], fun _ => none⟩
  | k + 1 => stepQ lv kp own m base (sqSt lv kp own m base k) (cut (lvAt lv kp) kp.length k) (cut (lvAt lv kp) kp.length (k + 1))

/-! ### the map -/
def RO (v : Value) : Option (DataW Unit × List MemPlace) :=
  match v with
  | .agg a => match a.toList with
    | [.int .i64 n] => some (.lit (.int .i64 n), [])
    | _ => none
  | _ => none
theorem RO_inv {v : Value} {n : Int} {ps : List MemPlace} (h : RO v = some (.lit (.int .i64 n), ps)) : v = .agg #[.int .i64 n] := by
  unfold RO at h
  split at h
  · rename_i a
    split at h
    · rename_i n' ha
      simp only [Option.some.injEq, Prod.mk.injEq, DataW.lit.injEq, Lit.int.injEq, true_and] at h
      obtain ⟨rfl, _⟩ := h
      congr
      exact Array.toList_inj.1 ha
    · cases h
  · cases h
theorem key3 : Keyed Try.prog 3 := int_keyed Try.underlying3
theorem keyOf3 (p : Nat) (h : p ≤ 1000000) : keyOf Try.prog 3 (.int .i64 (p : Int)) = some (.int .i64 (p : Int)) :=
  keyOf_int_mk Try.underlying3 (by simp [Lit.wf, IntKind.min, IntKind.max, IntKind.signed, IntKind.bits]; omega)
theorem zero94 (w : World) : (zeroValue 94).run Try.prog w = .ok (.agg #[.int .i64 0]) w := by kernel_rfl
def Goes (D : DataW Unit) (g : Nat → Option Nat) : Prop :=
  ∀ p : Nat, p ≤ 1000000 → has D (.int .i64 (p : Int)) = (g p).isSome ∧ ∀ x, g p = some x → D.atKey (.int .i64 (p : Int)) (.lit (.int .i64 0)) = .lit (.int .i64 (x : Nat))
/-- what a look finds -/
theorem goes_look {w : World} {b n : Nat} {D : DataW Unit} {g : Nat → Option Nat} (h : w.ownsMap Try.prog 3 RO b n D) (hg : Goes D g) (p : Nat) (hp : p ≤ 1000000) :
    (Instr.lookup 89 (.map (some b)) (.int .i64 (p : Int)) true).run Try.prog w = .ok (.tuple #[.agg #[.int .i64 (((g p).getD 0 : Nat) : Int)], .bool (g p).isSome]) w := by
  obtain ⟨v, ps, hrun, hv⟩ := h.look_ok key3 Try.underlying89 (zero94 w) (zd := .lit (.int .i64 0)) (zp := []) rfl (keyOf3 p hp)
  obtain ⟨h1, h2⟩ := hg p hp
  rw [hrun, h1]
  cases hgp : g p with
  | none =>
    rw [hgp] at h1
    rw [atKey_of_not_has h1] at hv
    rw [RO_inv hv]; rfl
  | some x =>
    rw [h2 x hgp] at hv
    rw [RO_inv hv]; rfl
theorem Goes.put {D : DataW Unit} {g : Nat → Option Nat} (hg : Goes D g) (hm : IsMap D) (p x : Nat) (hp : p ≤ 1000000) : Goes (D.put (.int .i64 (p : Int)) (.lit (.int .i64 (x : Nat)))) (fun j => if j = p then some x else g j) := by
  intro j hj
  have hk : WideAt.IsKeyLit (.int .i64 (p : Int)) := trivial
  by_cases e : j = p
  · subst e
    refine ⟨by rw [has_put_same hm hk]; simp, fun y hy => ?_⟩
    simp at hy
    subst hy
    exact atKey_put_same hm hk _ _
  · have hne : (Lit.int .i64 (j : Int)) ≠ .int .i64 (p : Int) := by simp; omega
    rw [has_put_other hne, atKey_put_other hne]
    simpa [e] using hg j hj
theorem Goes.nil : Goes (.map []) (fun _ => none) := by
  intro p _
  exact ⟨rfl, fun x h => by cases h⟩

/-! ### what holds in memory -/
theorem own_keep {w w' : World} {B size n : Nat} {e : TypeId} {v : Value} {ys : List Value} (h : w.ownsRow B e size v n ys) (hk : ∀ g, v.ownBlock = some g → w'.heap[g]? = w.heap[g]?) : w'.ownsRow B e size v n ys := by
  refine ⟨h.1, ?_⟩
  rcases h.2 with h0 | ⟨g, cap, cur, rfl, h1, h2, h3⟩
  · exact .inl h0
  · exact .inr ⟨g, cap, cur, rfl, h1, (hk g rfl).trans h2, h3⟩
structure RInv (w0 : World) (bx mb k : Nat) (v : Value) (xs : List QV) (g : Nat → Option Nat) (W : World) : Prop where
  size : w0.heap.size ≤ W.heap.size
  os : W.os = w0.os
  tape : W.tape = w0.tape
  output : W.output = w0.output
  hbx : bx < w0.heap.size
  hmb : mb < w0.heap.size
  low : ∀ i, i < w0.heap.size → i ≠ bx → i ≠ mb → W.heap[i]? = w0.heap[i]?
  var : Var W bx 43 v
  sq : Sq w0.heap.size W v xs
  mp : ∃ D, W.ownsMap Try.prog 3 RO mb k D ∧ Goes D g
section
variable {w0 W W' : World} {bx mb k : Nat} {v : Value} {xs : List QV} {g : Nat → Option Nat}
theorem RInv.keep (h : RInv w0 bx mb k v xs g W) (hs : W.heap.size ≤ W'.heap.size) (ho : W'.os = W.os) (ht : W'.tape = W.tape) (hu : W'.output = W.output)
    (hb : ∀ i, (i < w0.heap.size ∨ ∃ cs t, W.heap[i]? = some (.cells cs t (0, 0))) → W'.heap[i]? = W.heap[i]?) : RInv w0 bx mb k v xs g W' := by
  have hrow : ∀ {e size n} {u : Value} {ys : List Value}, W.ownsRow w0.heap.size e size u n ys → W'.ownsRow w0.heap.size e size u n ys := fun hr =>
    own_keep hr fun i hi => by
      obtain ⟨c, hc⟩ := own_kind hr i hi
      exact hb i (.inr ⟨_, _, hc⟩)
  refine ⟨Nat.le_trans h.size hs, ho.trans h.os, ht.trans h.tape, hu.trans h.output, h.hbx, h.hmb, fun i hi h1 h2 => (hb i (.inl hi)).trans (h.low i hi h1 h2), (hb bx (.inl h.hbx)).trans h.var,
    ⟨hrow h.sq.row, fun i x hx => ⟨hrow (h.sq.own i x hx).1, (h.sq.own i x hx).2⟩, h.sq.dist⟩, ?_⟩
  obtain ⟨D, ⟨es, clock, h1, h2⟩, hg⟩ := h.mp
  exact ⟨D, ⟨es, clock, (hb mb (.inl h.hmb)).trans h1, h2⟩, hg⟩
theorem RInv.alloc (h : RInv w0 bx mb k v xs g W) (o : Obj) : RInv w0 bx mb k v xs g (W.alloc o) :=
  h.keep (by simp) rfl rfl rfl fun i hi => Below.heap_alloc W o i (by
    rcases hi with hi | ⟨cs, t, hi⟩
    · exact Nat.lt_of_lt_of_le hi h.size
    · exact lt_of_block hi)
theorem RInv.putObj (h : RInv w0 bx mb k v xs g W) {l : Nat} {r r' : Loop} (hwl : w0.heap.size ≤ l) (hl : W.heap[l]? = some (.loop r)) : RInv w0 bx mb k v xs g (W.putObj l (.loop r')) :=
  h.keep (by simp) rfl rfl rfl fun i hi => World.putObj_heap_other (by
    rintro rfl
    rcases hi with hi | ⟨cs, t, hi⟩
    · omega
    · rw [hl] at hi; cases hi)
theorem RInv.drewN (h : RInv w0 bx mb k v xs g W) (m : Nat) : RInv w0 bx mb k v xs g (W.drewN m) := h.keep (Nat.le_refl _) rfl rfl rfl fun _ _ => rfl
theorem RInv.below (h : RInv w0 bx mb k v xs g W) (hb : Below W.heap.size W W') : RInv w0 bx mb k v xs g W' :=
  h.keep hb.size hb.os hb.tape hb.output fun i hi => hb.block i (by
    rcases hi with hi | ⟨cs, t, hi⟩
    · exact Nat.lt_of_lt_of_le hi h.size
    · exact lt_of_block hi)
theorem RInv.cell (h : RInv w0 bx mb k v xs g W) {p : Addr} (hp : p.block < w0.heap.size) (h1 : p.block ≠ bx) (h2 : p.block ≠ mb) : W.cell? p = w0.cell? p := World.cell?_of_block (h.low _ hp h1 h2)
theorem RInv.rd {B : Nat} {e : TypeId} {kd : IntKind} {A : Option Addr} {n c : Nat} {zs : List Int} (h : RInv w0 bx mb k v xs g W) (ho : Own B e kd w0 A n c zs) (h1 : (Value.slice A n c).ownBlock ≠ some bx) (h2 : (Value.slice A n c).ownBlock ≠ some mb) : Rd kd W A n zs :=
  Own.rd (B := B) (e := e) (c := c) ⟨own_keep ho.1 fun i hi => h.low i (ho.1.lt i hi).2 (fun e => h1 (by rw [hi, e])) (fun e => h2 (by rw [hi, e])), ho.2⟩
/-- the sequences are turned -/
theorem RInv.turn {v' : Value} {xs' : List QV} (h : RInv w0 bx mb k v xs g W) (hs : W.heap.size ≤ W'.heap.size) (ho : W'.os = W.os) (ht : W'.tape = W.tape) (hu : W'.output = W.output)
    (hb : ∀ i, i < w0.heap.size → i ≠ bx → W'.heap[i]? = W.heap[i]?) (hv : Var W' bx 43 v') (hq : Sq w0.heap.size W' v' xs') : RInv w0 bx mb k v' xs' g W' := by
  obtain ⟨D, ⟨es, clock, h1, h2⟩, hg⟩ := h.mp
  have hne : mb ≠ bx := by
    rintro rfl
    have := h.var
    unfold Var at this
    rw [h1] at this; cases this
  exact ⟨Nat.le_trans h.size hs, ho.trans h.os, ht.trans h.tape, hu.trans h.output, h.hbx, h.hmb, fun i hi h1 h2 => (hb i hi h1).trans (h.low i hi h1 h2), hv, hq, D, ⟨es, clock, (hb mb h.hmb hne).trans h1, h2⟩, hg⟩
theorem RInv.vlt (h : RInv w0 bx mb k v xs g W) : ∀ i, v.ownBlock = some i → w0.heap.size ≤ i ∧ i < W.heap.size := h.sq.lt
/-- a new sequence -/
theorem RInv.new_ {v' : Value} {q : QR} (h : RInv w0 bx mb k v xs g W) (hq : q.ps = []) (hrow : W'.ownsRow w0.heap.size 49 4 v' (xs.length + 1) (cellsOf xs ++ (QV.mk none 0 q).cells)) (hg : W.grownBy W' v.ownBlock) :
    RInv w0 bx mb k v' (xs ++ [⟨none, 0, q⟩]) g (W'.setCell ⟨bx, 0, none⟩ v') := by
  have hv1 : Var W' bx 43 v := h.var.grown hg (fun e => by have := (h.vlt bx e.symm).1; have := h.hbx; omega)
  have hs := h.sq.new_ hq hrow hg
  have hne : ∀ i, v'.ownBlock = some i → bx ≠ i := fun i hi e => by
    have := (hs.lt i hi).1; have := h.hbx; omega
  refine h.turn (by simpa [World.setCell] using hg.size) hg.os hg.tape hg.output (fun i hi hne => (Below.heap_setCell W' ⟨bx, 0, none⟩ _ i (fun e => hne e)).trans (hg.block i (Nat.lt_of_lt_of_le hi h.size) (fun e => by have := (h.vlt i e.symm).1; omega))) hv1.set_ ?_
  have hk : ∀ {e size n} {u : Value} {ys : List Value}, W'.ownsRow w0.heap.size e size u n ys → (W'.setCell ⟨bx, 0, none⟩ v').ownsRow w0.heap.size e size u n ys := fun hr =>
    own_keep hr fun i hi => Below.heap_setCell W' ⟨bx, 0, none⟩ _ i (fun e => by have := (hr.lt i hi).1; have := h.hbx; simp only at e; omega)
  exact ⟨hk hs.row, fun i x hx => ⟨hk (hs.own i x hx).1, (hs.own i x hx).2⟩, hs.dist⟩
theorem RInv.out_ne {ob n cap : Nat} (h : RInv w0 bx mb k (.slice (some ⟨ob, 0, none⟩) n cap) xs g W) : w0.heap.size ≤ ob := (h.vlt ob rfl).1
/-- more places -/
theorem RInv.more {ob cap i : Nat} {x : QV} (h : RInv w0 bx mb k (.slice (some ⟨ob, 0, none⟩) xs.length cap) xs g W) (hx : xs[i]? = some x) {A2 : Option Addr} {c2 m : Nat} {ys : List Int} (hm : ys.length = m)
    (hown : Own w0.heap.size 3 .i64 W' A2 (x.q.ps.length + m) c2 (x.q.ps ++ ys)) (hg : W.grownBy W' x.sl.ownBlock) (hat : (Value.slice A2 (x.q.ps.length + m) c2).ownBlock = x.sl.ownBlock ∨ (Value.slice A2 (x.q.ps.length + m) c2).ownBlock = some W.heap.size) :
    RInv w0 bx mb k (.slice (some ⟨ob, 0, none⟩) (xs.set i ⟨A2, c2, ⟨x.q.ps ++ ys, x.q.lv, x.q.st, x.q.en⟩⟩).length cap) (xs.set i ⟨A2, c2, ⟨x.q.ps ++ ys, x.q.lv, x.q.st, x.q.en⟩⟩) g (W'.setCell ⟨ob, 4 * i, none⟩ (.slice A2 (x.q.ps.length + m) c2)) := by
  have hob := h.out_ne
  have hr : ∀ j, x.sl.ownBlock = some j → w0.heap.size ≤ j := fun j hj => ((h.sq.own i x hx).lt j hj).1
  have hv1 : Var W' bx 43 (.slice (some ⟨ob, 0, none⟩) xs.length cap) := h.var.grown hg (fun e => by have := hr bx e.symm; have := h.hbx; omega)
  refine h.turn (by simpa [World.setCell] using hg.size) hg.os hg.tape hg.output (fun j hj _ => (Below.heap_setCell W' ⟨ob, 4 * i, none⟩ _ j (fun e => by simp only at e; omega)).trans (hg.block j (Nat.lt_of_lt_of_le hj h.size) (fun e => by have := hr j e.symm; omega))) ?_ (h.sq.more hx hm hown hg hat)
  rw [List.length_set]
  exact hv1.other (p := ⟨ob, 4 * i, none⟩) (fun e => by have := h.hbx; simp only at e; omega) _
/-- an end -/
theorem RInv.setEn {ob cap i : Nat} {x : QV} (h : RInv w0 bx mb k (.slice (some ⟨ob, 0, none⟩) xs.length cap) xs g W) (hx : xs[i]? = some x) (e : Int) :
    RInv w0 bx mb k (.slice (some ⟨ob, 0, none⟩) (xs.set i ⟨x.A, x.c, ⟨x.q.ps, x.q.lv, x.q.st, e⟩⟩).length cap) (xs.set i ⟨x.A, x.c, ⟨x.q.ps, x.q.lv, x.q.st, e⟩⟩) g (W.setCell ⟨ob, 4 * i + 3, none⟩ (.int .u8 e)) := by
  have hob := h.out_ne
  refine h.turn (by simp [World.setCell]) rfl rfl rfl (fun j hj _ => Below.heap_setCell W ⟨ob, 4 * i + 3, none⟩ _ j (fun e => by simp only at e; omega)) ?_ (h.sq.setEn hx e)
  rw [List.length_set]
  exact h.var.other (p := ⟨ob, 4 * i + 3, none⟩) (fun e => by have := h.hbx; simp only at e; omega) _
/-- a place is told where it goes -/
theorem RInv.map_ {k' : Nat} {g' : Nat → Option Nat} {D' : DataW Unit} (h : RInv w0 bx mb k v xs g W) (hown : W'.ownsMap Try.prog 3 RO mb k' D') (hg : W.grownBy W' (some mb)) (hG : Goes D' g') : RInv w0 bx mb k' v xs g' W' := by
  have hne : mb ≠ bx := by
    rintro rfl
    obtain ⟨D, ⟨es, clock, h1, h2⟩, _⟩ := h.mp
    have := h.var
    unfold Var at this
    rw [h1] at this; cases this
  have hk : ∀ {e size n} {u : Value} {ys : List Value}, W.ownsRow w0.heap.size e size u n ys → W'.ownsRow w0.heap.size e size u n ys := fun hr =>
    own_keep hr fun i hi => hg.block i (hr.lt i hi).2 (fun e => by have := (hr.lt i hi).1; have := h.hmb; injection e with e; omega)
  exact ⟨Nat.le_trans h.size hg.size, hg.os.trans h.os, hg.tape.trans h.tape, hg.output.trans h.output, h.hbx, h.hmb, fun i hi h1 h2 => (hg.block i (Nat.lt_of_lt_of_le hi h.size) (fun e => by injection e with e; exact h2 e)).trans (h.low i hi h1 h2),
    h.var.grown hg (fun e => by injection e with e; exact hne e.symm), ⟨hk h.sq.row, fun i x hx => ⟨hk (h.sq.own i x hx).1, (h.sq.own i x hx).2⟩, h.sq.dist⟩, D', hown, hG⟩
theorem RInv.more_k {k' : Nat} (h : RInv w0 bx mb k v xs g W) (hk : k ≤ k') : RInv w0 bx mb k' v xs g W := by
  obtain ⟨D, h1, h2⟩ := h.mp
  exact ⟨h.size, h.os, h.tape, h.output, h.hbx, h.hmb, h.low, h.var, h.sq, D, h1.mono hk, h2⟩

/-- the boxes of Sequences' variables, and what they hold, when the loop begins -/
structure Bxs (B : Nat) (w0 : World) (bb bl br bo bm bg bs bx mb : Nat) (base : Int) (A1 A2 A3 A4 : Option Addr) (n N c1 c2 c3 c4 : Nat) (lv kp own m : List Int) : Prop where
  b : Var w0 bb 5 (.int .u8 base)
  l : Var w0 bl 22 (.slice A1 n c1)
  r : w0.heap[br]? = some (.cells #[.slice A1 n c1, .slice A2 N c2] 88 (0, 0))
  o : Var w0 bo 22 (.slice A3 n c3)
  m_ : Var w0 bm 28 (.slice A4 n c4)
  g : Var w0 bg 89 (.map (some mb))
  s : w0.heap[bs]? = some (.cells #[.slice A1 n c1, .slice A2 N c2] 88 (0, 0))
  x : Var w0 bx 43 (.slice none 0 0)
  mb_ : ∃ es cl, w0.heap[mb]? = some (.map es cl)
  own1 : Own B 5 .u8 w0 A1 n c1 lv
  own2 : Own B 3 .i64 w0 A2 N c2 kp
  own3 : Own B 5 .u8 w0 A3 n c3 own
  own4 : Own B 3 .i64 w0 A4 n c4 m
structure AtW (W : World) (bb bl br bo bm bg bs bx mb : Nat) (base : Int) (A1 A2 A3 A4 : Option Addr) (n N c1 c2 c3 c4 : Nat) (lv kp own m : List Int) (v : Value) : Prop where
  b : W.cell? ⟨bb, 0, none⟩ = some (.int .u8 base)
  l : W.cell? ⟨bl, 0, none⟩ = some (.slice A1 n c1)
  r0 : W.cell? ⟨br, 0, none⟩ = some (.slice A1 n c1)
  r1 : W.cell? ⟨br, 1, none⟩ = some (.slice A2 N c2)
  o : W.cell? ⟨bo, 0, none⟩ = some (.slice A3 n c3)
  m_ : W.cell? ⟨bm, 0, none⟩ = some (.slice A4 n c4)
  g : W.cell? ⟨bg, 0, none⟩ = some (.map (some mb))
  s0 : W.cell? ⟨bs, 0, none⟩ = some (.slice A1 n c1)
  s1 : W.cell? ⟨bs, 1, none⟩ = some (.slice A2 N c2)
  x : W.cell? ⟨bx, 0, none⟩ = some v
  xf : W.frozen? ⟨bx, 0, none⟩ = false
  rd1 : Rd .u8 W A1 n lv
  rd2 : Rd .i64 W A2 N kp
  rd3 : Rd .u8 W A3 n own
  rd4 : Rd .i64 W A4 n m
theorem Bxs.at_ {B bb bl br bo bm bg bs : Nat} {base : Int} {A1 A2 A3 A4 : Option Addr} {n N c1 c2 c3 c4 : Nat} {lv kp own m : List Int} (hB : Bxs B w0 bb bl br bo bm bg bs bx mb base A1 A2 A3 A4 n N c1 c2 c3 c4 lv kp own m) (h : RInv w0 bx mb k v xs g W) :
    AtW W bb bl br bo bm bg bs bx mb base A1 A2 A3 A4 n N c1 c2 c3 c4 lv kp own m v := by
  obtain ⟨es, cl, hm⟩ := hB.mb_
  have ne1 : ∀ {i : Nat} {cs : Array Value} {t : TypeId} {f : Nat × Nat}, w0.heap[i]? = some (.cells cs t f) → t ≠ 43 → i ≠ bx := fun hi ht e => by
    have := hB.x; unfold Var at this; rw [e, this] at hi; injection hi with hi; injection hi with _ h2; exact ht h2.symm
  have ne2 : ∀ {i : Nat} {cs : Array Value} {t : TypeId} {f : Nat × Nat}, w0.heap[i]? = some (.cells cs t f) → i ≠ mb := fun hi e => by
    rw [e, hm] at hi; cases hi
  have kc : ∀ {i j : Nat} {cs : Array Value} {t : TypeId} {u : Value}, w0.heap[i]? = some (.cells cs t (0, 0)) → t ≠ 43 → cs[j]? = some u → W.cell? ⟨i, j, none⟩ = some u := fun hi ht hu =>
    (h.cell (p := ⟨_, _, none⟩) (lt_of_block hi) (ne1 hi ht) (ne2 hi)).trans ((cell_of_row _ _ _ _ _ _ hi).trans hu)
  have kr : ∀ {e : TypeId} {kd : IntKind} {A : Option Addr} {n' c' : Nat} {zs : List Int}, Own B e kd w0 A n' c' zs → e ≠ 43 → Rd kd W A n' zs := fun ho he =>
    h.rd ho (row_ne ho.1 hB.x he) (fun e => by obtain ⟨c, hc⟩ := own_kind ho.1 mb e; rw [hm] at hc; cases hc)
  exact ⟨kc hB.b (by decide) rfl, kc hB.l (by decide) rfl, kc hB.r (by decide) rfl, kc hB.r (by decide) rfl, kc hB.o (by decide) rfl, kc hB.m_ (by decide) rfl, kc hB.g (by decide) rfl, kc hB.s (by decide) rfl, kc hB.s (by decide) rfl, h.var.cell, h.var.free,
    kr hB.own1 (by decide), kr hB.own2 (by decide), kr hB.own3 (by decide), kr hB.own4 (by decide)⟩
end
end Go.Proofs.Ytaojjneajiobnaa

/-
  The deeds, by classes: the map, and what it holds.
-/
import Derived.Test.YtaojjneajiobnaaClo
import Derived.Maps.Own
import Derived.Maps.OwnSet
namespace Go.Proofs.Ytaojjneajiobnaa
open Go.RowKit Go.Maps

/-- how a function reads: by its number -/
def RF (v : Value) : Option (DataW Unit × List MemPlace) :=
  match v with
  | .func (.func f) fs cs => if fs.size = 0 ∧ cs.size = 0 then some (.lit (.int .i64 f), []) else none
  | .nilFunc => some (.lit (.int .i64 (-1)), [])
  | _ => none
def dl (f : Nat) : DataW Unit := .lit (.int .i64 f)
def deedD0 : DataW Unit := .map []
def deedD : DataW Unit := (((((((((((DataW.map []).put (.int .u8 14) (dl 59)).put (.int .u8 15) (dl 59)).put (.int .u8 17) (dl 59)).put (.int .u8 18) (dl 59)).put (.int .u8 16) (dl 60)).put (.int .u8 19) (dl 61)).put (.int .u8 20) (dl 61)).put (.int .u8 21) (dl 61)).put (.int .u8 22) (dl 62)).put (.int .u8 10) (dl 63)).put (.int .u8 9) (dl 64)
theorem key5 : Keyed Try.prog 5 := int_keyed Try.underlying5
theorem keyOf5 (x : Int) (h : 0 ≤ x ∧ x ≤ 255) : keyOf Try.prog 5 (.int .u8 x) = some (.int .u8 x) :=
  keyOf_int_mk Try.underlying5 (by simp [Lit.wf, IntKind.min, IntKind.max, IntKind.signed, IntKind.bits]; omega)
theorem wpList_ins {w : World} {ops : Array Oper} {rest : List Oper} {o : Oper} {a : Act} {Q : Exit → Act → World → Prop} (hg : o.guard = none) (m x v : Operand) (hop : o.op = Op.insert 62 m x v)
    (b n : Nat) (D : DataW Unit) (hm : a.eval m = .map (some b)) (hown : w.ownsMap Try.prog 5 RF b n D) (hn : n < 1000) (key : Int) (f : Nat) (hx : a.eval x = .int .u8 key) (hv : a.eval v = .func (.func f) #[] #[]) (hkey : 0 ≤ key ∧ key ≤ 255)
    (hK : ∀ w', w'.ownsMap Try.prog 5 RF b (n + 1) (D.put (.int .u8 key) (dl f)) → w.grownBy w' (some b) → wpList Try.prog ops Q rest (a.put o.dst undef) w') : wpList Try.prog ops Q (o :: rest) a w := by
  refine wpList_plain hg fun K' hK' => ?_
  obtain ⟨w', hrun, r1, r2⟩ := hown.update key5 Try.underlying62 (by simp only [maxLen]; omega) (keyOf5 key hkey) (val := .func (.func f) #[] #[]) (d := dl f) (ps := []) rfl
  unfold Oper.wp
  simp [execOp, hop, hm, hx, hv, hrun, Result.andThen]
  exact hK' _ _ (hK w' r1 r2)
def DeedRet (w : World) (e : Ending) (w' : World) : Prop := e = .returned (.map (some w.heap.size)) ∧ w'.ownsMap Try.prog 5 RF w.heap.size 11 deedD ∧ Below w.heap.size w w'
set_option maxRecDepth 100000 in
set_option maxHeartbeats 4000000 in
theorem deeds_any (w : World) : Calls Try.prog 35 #[] w (DeedRet w) := by
  have h0 := World.ownsMap_made (H := Unit) w Try.prog 5 RF
  have hb0 : Below w.heap.size w (w.alloc (.map #[] 0)) := (Below.refl _ _).alloc (Nat.le_refl _) _
  have hmm := @run_makeMap Try.prog
  go_enter Try.func35, Try.ntmps35
  go_wp2_with (first
    | (refine wpList_ins rfl (.tmp 1) (.const (.int .u8 14)) (.func 59) rfl w.heap.size 0 _ rfl h0 (by decide) 14 59 rfl rfl (by decide) ?_; intro w1 h1 g1)
    | (refine wpList_ins rfl (.tmp 1) (.const (.int .u8 15)) (.func 59) rfl w.heap.size 1 _ rfl h1 (by decide) 15 59 rfl rfl (by decide) ?_; intro w2 h2 g2)
    | (refine wpList_ins rfl (.tmp 1) (.const (.int .u8 17)) (.func 59) rfl w.heap.size 2 _ rfl h2 (by decide) 17 59 rfl rfl (by decide) ?_; intro w3 h3 g3)
    | (refine wpList_ins rfl (.tmp 1) (.const (.int .u8 18)) (.func 59) rfl w.heap.size 3 _ rfl h3 (by decide) 18 59 rfl rfl (by decide) ?_; intro w4 h4 g4)
    | (refine wpList_ins rfl (.tmp 1) (.const (.int .u8 16)) (.func 60) rfl w.heap.size 4 _ rfl h4 (by decide) 16 60 rfl rfl (by decide) ?_; intro w5 h5 g5)
    | (refine wpList_ins rfl (.tmp 1) (.const (.int .u8 19)) (.func 61) rfl w.heap.size 5 _ rfl h5 (by decide) 19 61 rfl rfl (by decide) ?_; intro w6 h6 g6)
    | (refine wpList_ins rfl (.tmp 1) (.const (.int .u8 20)) (.func 61) rfl w.heap.size 6 _ rfl h6 (by decide) 20 61 rfl rfl (by decide) ?_; intro w7 h7 g7)
    | (refine wpList_ins rfl (.tmp 1) (.const (.int .u8 21)) (.func 61) rfl w.heap.size 7 _ rfl h7 (by decide) 21 61 rfl rfl (by decide) ?_; intro w8 h8 g8)
    | (refine wpList_ins rfl (.tmp 1) (.const (.int .u8 22)) (.func 62) rfl w.heap.size 8 _ rfl h8 (by decide) 22 62 rfl rfl (by decide) ?_; intro w9 h9 g9)
    | (refine wpList_ins rfl (.tmp 1) (.const (.int .u8 10)) (.func 63) rfl w.heap.size 9 _ rfl h9 (by decide) 10 63 rfl rfl (by decide) ?_; intro w10 h10 g10)
    | (refine wpList_ins rfl (.tmp 1) (.const (.int .u8 9)) (.func 64) rfl w.heap.size 10 _ rfl h10 (by decide) 9 64 rfl rfl (by decide) ?_; intro w11 h11 g11))
  go_ret
  have lt : ∀ g, some w.heap.size = some g → w.heap.size ≤ g := fun g hg => by cases hg; exact Nat.le_refl _
  have b1 := hb0.grown g1 (by simp) lt
  have b2 := b1.grown g2 b1.size lt
  have b3 := b2.grown g3 b2.size lt
  have b4 := b3.grown g4 b3.size lt
  have b5 := b4.grown g5 b4.size lt
  have b6 := b5.grown g6 b5.size lt
  have b7 := b6.grown g7 b6.size lt
  have b8 := b7.grown g8 b7.size lt
  have b9 := b8.grown g9 b8.size lt
  have b10 := b9.grown g10 b9.size lt
  exact ⟨rfl, h11, b10.grown g11 b10.size lt⟩

/-! ### a look into it -/
/-- the function of a class (0: none) -/
def deedF (x : Int) : Nat := if x = 14 ∨ x = 15 ∨ x = 17 ∨ x = 18 then 59 else if x = 16 then 60 else if x = 19 ∨ x = 20 ∨ x = 21 then 61 else if x = 22 then 62 else if x = 10 then 63 else if x = 9 then 64 else 0
theorem zero64 (w : World) : (zeroValue 64).run Try.prog w = .ok .nilFunc w := by kernel_rfl
theorem RF_inv {v : Value} {f : Nat} {ps : List MemPlace} (h : RF v = some (dl f, ps)) : v = .func (.func f) #[] #[] := by
  unfold RF at h
  split at h
  next f' fs cs =>
    split at h
    next hs =>
      simp only [dl, Option.some.injEq, Prod.mk.injEq, DataW.lit.injEq, Lit.int.injEq, true_and] at h
      have h1 : f' = f := Int.ofNat.inj h.1
      have h2 : fs = #[] := Array.eq_empty_of_size_eq_zero hs.1
      have h3 : cs = #[] := Array.eq_empty_of_size_eq_zero hs.2
      rw [h1, h2, h3]
    next => cases h
  next =>
    simp only [dl, Option.some.injEq, Prod.mk.injEq, DataW.lit.injEq, Lit.int.injEq, true_and] at h
    omega
  next => cases h
theorem RF_inv0 {v : Value} {ps : List MemPlace} (h : RF v = some (.lit (.int .i64 (-1)), ps)) : v = .nilFunc := by
  unfold RF at h
  split at h
  next f' fs cs =>
    split at h
    next =>
      simp only [Option.some.injEq, Prod.mk.injEq, DataW.lit.injEq, Lit.int.injEq, true_and] at h
      omega
    next => cases h
  next => rfl
  next => cases h
/-- what a look finds -/
def deedV (x : Int) : Value := if deedF x = 0 then .nilFunc else .func (.func (deedF x)) #[] #[]
theorem deed_at : ∀ x : Nat, x < 23 → (deedD.atKey (.int .u8 (x : Int)) (.lit (.int .i64 (-1))) = if deedF x = 0 then .lit (.int .i64 (-1)) else dl (deedF x)) ∧ Maps.has deedD (.int .u8 (x : Int)) = decide (deedF x ≠ 0)
  | 0, _ | 1, _ | 2, _ | 3, _ | 4, _ | 5, _ | 6, _ | 7, _ | 8, _ | 9, _ | 10, _ | 11, _ | 12, _ | 13, _ | 14, _ | 15, _ | 16, _ | 17, _ | 18, _ | 19, _ | 20, _ | 21, _ | 22, _ => ⟨rfl, rfl⟩
  | n + 23, h => absurd h (by omega)
theorem deed_look {w : World} {b : Nat} (h : w.ownsMap Try.prog 5 RF b 11 deedD) (x : Int) (hx : 0 ≤ x ∧ x ≤ 22) :
    (Instr.lookup 62 (.map (some b)) (.int .u8 x) true).run Try.prog w = .ok (.tuple #[deedV x, .bool (decide (deedF x ≠ 0))]) w := by
  obtain ⟨n, rfl⟩ := Int.eq_ofNat_of_zero_le hx.1
  obtain ⟨v, ps, hrun, hv⟩ := h.look_ok key5 Try.underlying62 (zero64 w) (zd := .lit (.int .i64 (-1))) (zp := []) rfl (keyOf5 n (by omega))
  obtain ⟨h1, h2⟩ := deed_at n (by omega)
  rw [hrun, h2]
  rw [h1] at hv
  have : v = deedV n := by
    unfold deedV
    by_cases h0 : deedF n = 0
    · rw [if_pos h0] at hv ⊢; exact RF_inv0 hv
    · rw [if_neg h0] at hv ⊢; exact RF_inv hv
  rw [this]
end Go.Proofs.Ytaojjneajiobnaa

/-
  The state's methods as and push.
-/
import Derived.Test.YtaojjneajiobnaaSta
namespace Go.Proofs.Ytaojjneajiobnaa
open Go.RowKit

/-- the state: the stack (its top ahead), what is lost, how many isolates are open -/
structure PS where
  stk : List Ent
  is : Nat
  em : Nat
  nw : Nat
def PS.top (s : PS) : Ent := s.stk.headD ⟨0, 13, false⟩
/-- a class under the top's override -/
def asS (s : PS) (c : Int) : Int := if s.top.ov = 13 then c else s.top.ov
/-- the next level -/
def nextS (lv : Int) (left : Bool) : Int := if left = decide ((lv + 1) % 2 = 1) then lv + 1 else lv + 1 + 1
def pushS (s : PS) (left : Bool) (ov : Int) (iso : Bool) : PS × Bool :=
  if 125 < nextS s.top.lv left ∨ 0 < s.is + s.em then (s, false) else ({ s with stk := ⟨nextS s.top.lv left, ov, iso⟩ :: s.stk }, true)
/-- the state lies in block gs, its stack in block r -/
def StA (B : Nat) (w : World) (gs : Nat) (r : Option Nat) (s : PS) (c mv : Value) : Prop :=
  ∃ A cap, (Value.slice A s.stk.length cap).ownBlock = r ∧ Sta B w gs A s.stk.length cap s.stk.reverse s.is s.em s.nw c mv
theorem rev_top (t : Ent) (rest : List Ent) : (t :: rest).reverse[rest.length]? = some t := by simp
theorem StA.below {B : Nat} {w w' : World} {gs : Nat} {r : Option Nat} {s : PS} {c mv : Value} (h : StA B w gs r s c mv) (hb : Below w.heap.size w w') : StA B w' gs r s c mv := by
  obtain ⟨A, cap, h1, h2⟩ := h
  exact ⟨A, cap, h1, h2.below hb⟩
/-- what holds of a state's parts -/
structure Fit (s : PS) (k : Nat) : Prop where
  ne : s.stk ≠ []
  lv : ∀ e ∈ s.stk, 0 ≤ e.lv ∧ e.lv ≤ 125
  ov : ∀ e ∈ s.stk, 0 ≤ e.ov ∧ e.ov ≤ 13
  len : s.stk.length ≤ k + 1
  is : s.is ≤ k
  em : s.em ≤ k
  nw : s.nw ≤ k
theorem Fit.parts {s : PS} {k : Nat} (h : Fit s k) : ∃ t rest, s.stk = t :: rest ∧ s.top = t ∧ 0 ≤ t.lv ∧ t.lv ≤ 125 ∧ 0 ≤ t.ov ∧ t.ov ≤ 13 := by
  cases hs : s.stk with
  | nil => exact absurd hs h.ne
  | cons t rest =>
    have hm : t ∈ s.stk := by rw [hs]; exact List.mem_cons_self ..
    exact ⟨t, rest, rfl, by unfold PS.top; rw [hs]; rfl, (h.lv t hm).1, (h.lv t hm).2, (h.ov t hm).1, (h.ov t hm).2⟩

theorem f58_0 (a b c : Value) (w : World) : (Instr.field 58 (.agg #[a, b, c]) 0).run Try.prog w = .ok a w := by kernel_rfl
theorem f58_1 (a b c : Value) (w : World) : (Instr.field 58 (.agg #[a, b, c]) 1).run Try.prog w = .ok b w := by kernel_rfl
theorem f58_2 (a b c : Value) (w : World) : (Instr.field 58 (.agg #[a, b, c]) 2).run Try.prog w = .ok c w := by kernel_rfl

theorem top_st {B gs : Nat} {r : Option Nat} {s : PS} {k : Nat} {c mv : Value} {w : World} (h : StA B w gs r s c mv) (hf : Fit s k) (hk : k ≤ 100000) :
    Calls Try.prog 65 #[.pointer (some ⟨gs, 0, none⟩)] w (RetEnt s.top w) := by
  obtain ⟨A, cap, _, hs⟩ := h
  obtain ⟨t, rest, e1, e2, _⟩ := hf.parts
  have hl := hf.len
  rw [e1] at hs hl
  rw [e2]
  exact top_any B gs A rest.length cap _ t s.is s.em s.nw c mv w hs (rev_top t rest) (by simp at hl; omega)

set_option maxRecDepth 100000 in
set_option maxHeartbeats 4000000 in
theorem as_any {B gs : Nat} {r : Option Nat} {s : PS} {k : Nat} {c mv : Value} {w : World} (x : Int) (h : StA B w gs r s c mv) (hf : Fit s k) (hk : k ≤ 100000) :
    Calls Try.prog 66 #[.pointer (some ⟨gs, 0, none⟩), .int .u8 x] w (RetU8 (asS s x) w) := by
  have ht := hide (top_st h hf hk)
  have hv0 : asS s x = if s.top.ov = 13 then x else s.top.ov := rfl
  have hv := hide hv0
  clear hv0
  generalize s.top = t at *
  generalize asS s x = y at *
  obtain ⟨lv, ov, iso⟩ := t
  have hfl := f58_1
  clear h hf
  by_cases h13 : ov = 13
  · subst h13
    go_enter Try.func66, Try.ntmps66
    go_wp2_with fail
    refine ht.out.mono ?_
    rintro e w1 ⟨rfl, hb⟩
    go_wp2_with fail
    go_ret
    exact ⟨by rw [hv.out]; rfl, hb⟩
  · have hb13 : (ov != 13) = true := by simpa using h13
    have hv2 := hide (hv.out.trans (if_neg h13))
    clear hv h13
    go_enter Try.func66, Try.ntmps66
    go_wp2_with fail
    refine ht.out.mono ?_
    rintro e w1 ⟨rfl, hb⟩
    go_wp2_with fail
    go_ret
    exact ⟨by rw [hv2.out]; rfl, hb⟩

/-! ### append of one entry -/
theorem info58 : (Try.prog.info? 58).map (fun i => (i.zero, i.size, i.bytes)) = some (some (.agg #[.int .u8 0, .int .u8 0, .bool false]), 3, 3) := by kernel_rfl
theorem own_val3 {B : Nat} {e : TypeId} {z : Nat} {w : World} {v : Value} {n : Nat} {xs : List Value} (h : w.ownsRow B e z v n xs) : ∃ A c, v = .slice A n c := by
  rcases h.2 with ⟨rfl, rfl⟩ | ⟨g, cap, cur, rfl, _⟩
  · exact ⟨none, 0, rfl⟩
  · exact ⟨_, _, rfl⟩
theorem run_app_ent (ty : TypeId) {w : World} {B : Nat} {A : Option Addr} {n c g c' : Nat} {es : List Ent} (e : Ent) (hown : w.ownsRow B 58 3 (.slice A n c) n (entC es))
    (hb : w.heap[g]? = some (.cells #[.int .u8 e.lv, .int .u8 e.ov, .bool e.iso] 58 (0, 0))) (hn : n ≤ 1000000) (hB : B ≤ w.heap.size) :
    ∃ A2 c2 w', (Builtin.append_ #[59, 59] ty #[.slice A n c, .slice (some ⟨g, 0, none⟩) 1 c']).run Try.prog w = .ok (.slice A2 (n + 1) c2) w' ∧ w'.ownsRow B 58 3 (.slice A2 (n + 1) c2) (n + 1) (entC (es ++ [e])) ∧
      w.grownBy w' (Value.slice A n c).ownBlock ∧ ((Value.slice A2 (n + 1) c2).ownBlock = (Value.slice A n c).ownBlock ∨ (Value.slice A2 (n + 1) c2).ownBlock = some w.heap.size) := by
  obtain ⟨i, hi, hz, hs, hby⟩ := info_parts info58
  have h63 : n + 1 ≤ maxLen := by simp only [maxLen]; omega
  obtain ⟨v', w', hrun, h2, h3, _, h5⟩ := run_append_own_at (P := Try.prog) w B 59 ty 58 i _ 3 3 Try.underlying59 hi hz hs hby rfl (by omega) (.slice A n c) n (entC es) hown ⟨g, 0, none⟩ 1 c' e.cells
    (by rfl) (fun j u hu => by
      rw [addr_add, Nat.zero_add, cell_of_row _ _ _ _ _ _ hb]
      have hj : j < 3 := by have := (List.getElem?_eq_some_iff.1 hu).1; simpa [Ent.cells] using this
      rw [← hu]
      match j, hj with
      | 0, _ | 1, _ | 2, _ => rfl) (fun u hu => by
      simp only [Ent.cells, List.mem_cons, List.not_mem_nil, or_false] at hu
      rcases hu with rfl | rfl | rfl <;> rfl) h63 (by omega) hB
  obtain ⟨A2, c2, rfl⟩ := own_val3 h2
  have e1 : entC es ++ e.cells = entC (es ++ [e]) := by unfold entC; rw [List.flatMap_append]; simp
  rw [e1] at h2
  exact ⟨A2, c2, w', hrun, h2, h3, h5⟩
theorem wpList_app_ent {w : World} {ops : Array Oper} {rest : List Oper} {o : Oper} {a : Act} {Q : Exit → Act → World → Prop} (hgd : o.guard = none) (s x : Operand)
    (ho : o.op = .call { callee := .builtin .append, args := #[s, x], argTypes := #[59, 59] }) {B : Nat} {A : Option Addr} {n c g c' : Nat} {es : List Ent} (e : Ent) (hs : a.eval s = .slice A n c) (hx : a.eval x = .slice (some ⟨g, 0, none⟩) 1 c')
    (hown : w.ownsRow B 58 3 (.slice A n c) n (entC es)) (hb : w.heap[g]? = some (.cells #[.int .u8 e.lv, .int .u8 e.ov, .bool e.iso] 58 (0, 0))) (hn : n ≤ 1000000) (hB : B ≤ w.heap.size)
    (h : ∀ A2 c2 w', w'.ownsRow B 58 3 (.slice A2 (n + 1) c2) (n + 1) (entC (es ++ [e])) → w.grownBy w' (Value.slice A n c).ownBlock →
      ((Value.slice A2 (n + 1) c2).ownBlock = (Value.slice A n c).ownBlock ∨ (Value.slice A2 (n + 1) c2).ownBlock = some w.heap.size) → wpList Try.prog ops Q rest (a.put o.dst (.slice A2 (n + 1) c2)) w') :
    wpList Try.prog ops Q (o :: rest) a w := by
  obtain ⟨A2, c2, w', hrun, h2, h3, h4⟩ := run_app_ent o.type (c' := c') e hown hb hn hB
  refine wpList_plain hgd fun K hK => ?_
  unfold Oper.wp execOp
  simp only [ho, resolve, invoke, builtin, Sem.run_bind, Sem.run_pure, Result.andThen_ok, List.map_toArray, List.map_cons, List.map_nil, hs, hx, hrun]
  exact hK _ _ (h A2 c2 w' h2 h3 h4)

/-! ### push -/
theorem and_one_nat : ∀ n : Fin 256, bits .and .u8 (n.val : Int) 1 = ((n.val % 2 : Nat) : Int) := by decide +kernel
theorem and_one {l : Int} (h0 : 0 ≤ l) (h1 : l ≤ 255) : bits .and .u8 l 1 = l % 2 := by
  obtain ⟨n, rfl⟩ := Int.eq_ofNat_of_zero_le h0
  have := and_one_nat ⟨n, by omega⟩
  simpa using this
theorem next_cases (lv : Int) (left : Bool) : (left = true ∧ (lv + 1) % 2 = 1 ∧ Hid (nextS lv left = lv + 1)) ∨ (left = true ∧ (lv + 1) % 2 = 0 ∧ Hid (nextS lv left = lv + 1 + 1)) ∨
    (left = false ∧ (lv + 1) % 2 = 0 ∧ Hid (nextS lv left = lv + 1)) ∨ (left = false ∧ (lv + 1) % 2 = 1 ∧ Hid (nextS lv left = lv + 1 + 1)) := by
  have h : (lv + 1) % 2 = 0 ∨ (lv + 1) % 2 = 1 := by omega
  unfold Hid nextS
  cases left <;> rcases h with h | h <;> simp [h]
/-- the state behind a method -/
def StB (B gs : Nat) (r : Option Nat) (s : PS) (c mv : Value) (w w' : World) : Prop :=
  (∃ r', StA B w' gs r' s c mv ∧ (r' = r ∨ ∃ q, w.heap.size ≤ q ∧ r' = some q)) ∧ Fr gs r w w'
def PushPost (B gs : Nat) (r : Option Nat) (p : PS × Bool) (c mv : Value) (w : World) (e : Ending) (w' : World) : Prop := e = .returned (.bool p.2) ∧ StB B gs r p.1 c mv w w'
theorem StB.of_below {B gs : Nat} {r : Option Nat} {s : PS} {c mv : Value} {w w' : World} (h : StA B w gs r s c mv) (hb : Below w.heap.size w w') : StB B gs r s c mv w w' :=
  ⟨⟨r, h.below hb, .inl rfl⟩, Fr.of_below hb gs r⟩
theorem Fr.alloc {gs : Nat} {r : Option Nat} {w w' : World} (h : Fr gs r w w') (o : Obj) : Fr gs r w (w'.alloc o) :=
  ⟨h.os, h.tape, h.output, Nat.le_trans h.size (by simp), fun i hi h1 h2 => (Below.heap_alloc w' o i (Nat.lt_of_lt_of_le hi h.size)).trans (h.block i hi h1 h2)⟩
theorem Fr.grown {gs : Nat} {r : Option Nat} {w w' w'' : World} (h : Fr gs r w w') (k : w'.grownBy w'' r) : Fr gs r w w'' :=
  ⟨k.os.trans h.os, k.tape.trans h.tape, k.output.trans h.output, Nat.le_trans h.size k.size, fun i hi h1 h2 => (k.block i (Nat.lt_of_lt_of_le hi h.size) h2).trans (h.block i hi h1 h2)⟩
theorem push_no {s : PS} {left : Bool} {ov : Int} {iso : Bool} (h : 125 < nextS s.top.lv left ∨ 0 < s.is + s.em) : pushS s left ov iso = (s, false) := by unfold pushS; rw [if_pos h]
theorem push_yes {s : PS} {left : Bool} {ov : Int} {iso : Bool} (h : ¬ (125 < nextS s.top.lv left ∨ 0 < s.is + s.em)) : pushS s left ov iso = ({ s with stk := ⟨nextS s.top.lv left, ov, iso⟩ :: s.stk }, true) := by unfold pushS; rw [if_neg h]

set_option maxRecDepth 100000 in
set_option maxHeartbeats 8000000 in
theorem push_any {B gs : Nat} {r : Option Nat} {s : PS} {k : Nat} {c mv : Value} {w : World} (left : Bool) (ov : Int) (iso : Bool) (h : StA B w gs r s c mv) (hf : Fit s k) (hk : k ≤ 100000) (hB : B ≤ w.heap.size) :
    Calls Try.prog 77 #[.pointer (some ⟨gs, 0, none⟩), .bool left, .int .u8 ov, .bool iso] w (PushPost B gs r (pushS s left ov iso) c mv w) := by
  have ht := hide (top_st h hf hk)
  obtain ⟨t, rest, e1, e2, l0, l1, _, _⟩ := hf.parts
  have his := hf.is
  have hem := hf.em
  have hlen := hf.len
  have hfl := f58_0
  have hH := hide h
  rw [e2] at ht
  have hno : ∀ X, 125 < nextS t.lv left ∨ 0 < s.is + s.em → X = pushS s left ov iso → X = (s, false) := fun X hX e => by rw [e]; exact push_no (by rw [e2]; exact hX)
  have hye : ∀ X, ¬ (125 < nextS t.lv left ∨ 0 < s.is + s.em) → X = pushS s left ov iso → X = ({ s with stk := ⟨nextS t.lv left, ov, iso⟩ :: s.stk }, true) := fun X hX e => by rw [e, ← e2]; exact push_yes (by rw [e2]; exact hX)
  generalize hP : pushS s left ov iso = P
  have hno' := hide (fun hX => hno P hX hP.symm)
  have hye' := hide (fun hX => hye P hX hP.symm)
  clear hno hye hP h e1 e2
  obtain ⟨lv, tov, tiso⟩ := t
  simp only at l0 l1 ht hno' hye'
  have hand := and_one (l := lv + 1) (by omega) (by omega)
  have q1 : (0 : Int) ≤ (s.is : Int) := by omega
  have q2 : (0 : Int) ≤ (s.em : Int) := by omega
  have q3 : IntKind.i64.wrap ((s.is : Int) + (s.em : Int)) = (s.is : Int) + (s.em : Int) := IntWalk.i64_in _ (by omega)
  rcases next_cases lv left with ⟨rfl, hp, hnx⟩ | ⟨rfl, hp, hnx⟩ | ⟨rfl, hp, hnx⟩ | ⟨rfl, hp, hnx⟩
  all_goals
    rw [hp] at hand
    have hp' := hide hp
    clear hp
    rw [hnx.out] at hno' hye'
  · by_cases hbig : 125 < lv + 1
    · have hP := hide (hno'.out (.inl hbig))
      have hbig' : decide (125 < lv + 1) = true := by simpa using hbig
      go_enter Try.func77, Try.ntmps77
      go_wp2_with fail
      refine ht.out.mono ?_
      rintro e w1 ⟨rfl, hb⟩
      have hs1 := hH.out.below hb
      go_wp2_with fail
      go_quiet (fail)
      go_wp2_with fail
      go_ret
      rw [hP.out]
      exact ⟨rfl, StB.of_below hH.out (hB_drewN hb _)⟩
    · have hbig' : decide (125 < lv + 1) = false := by simpa using hbig
      by_cases hov : 0 < s.is + s.em
      · have hP := hide (hno'.out (.inr hov))
        have hov' : decide (0 < (s.is : Int) + (s.em : Int)) = true := by simp; omega
        go_enter Try.func77, Try.ntmps77
        go_wp2_with fail
        refine ht.out.mono ?_
        rintro e w1 ⟨rfl, hb⟩
        obtain ⟨A1, cap1, hr1, hs1⟩ := hH.out.below hb
        obtain ⟨c0, c1, c2, _⟩ := hs1.cell
        go_wp2_with fail
        go_quiet (fail)
        go_wp2_with fail
        go_ret
        rw [hP.out]
        exact ⟨rfl, StB.of_below hH.out (hB_drewN hb _)⟩
      · have hP := hide (hye'.out (by omega))
        have hov' : decide (0 < (s.is : Int) + (s.em : Int)) = false := by simp; omega
        go_enter Try.func77, Try.ntmps77
        go_wp2_with fail
        refine ht.out.mono ?_
        rintro e w1 ⟨rfl, hb⟩
        obtain ⟨A1, cap1, hr1, hs1⟩ := hH.out.below hb
        obtain ⟨c0, c1, c2, _⟩ := hs1.cell
        go_wp2_with fail
        go_quiet (fail)
        have hsz := hb.size
        have hs2 := hs1.drewN nq
        have d0 := hs2.cell.1
        have hlen' := hide hlen
        go_wp2_with (at_builtin; refine wpList_app_ent rfl (.tmp 39) (.tmp 44) rfl ⟨lv + 1, ov, iso⟩ rfl rfl (hs2.alloc _).own (heap_at_new _ _ _ rfl) (by omega) (by simp <;> omega) ?_; intro A3 c3 w3 hown3 hgr3 hat3; have hb3 := (hgr3.block gs (by have := hs1.lt; simp <;> omega) (fun e => hs2.ne e.symm)).trans (hs2.alloc (.cells #[.int .u8 (lv + 1), .int .u8 ov, .bool iso] 58)).box; have hk0 := cell_of_row _ _ 0 _ _ _ hb3; have hf0 : w3.frozen? ⟨gs, 0, none⟩ = false := (by simp [World.frozen?, hb3]))
        have hne3 : (Value.slice A3 (s.stk.length + 1) c3).ownBlock ≠ some gs := by
          rcases hat3 with e | e
          · rw [e]; exact hs1.ne
          · rw [e]; intro e'; injection e' with e'; have := hs1.lt; simp at e'; omega
        have hown4 := ownsRow_setCell_other (a := ⟨gs, 0, none⟩) hown3 hne3 (.slice A3 (s.stk.length + 1) c3)
        have hbox4 := box_set hb3 0 (.slice A3 (s.stk.length + 1) c3)
        have hfr := (((Fr.of_below (hB_drewN hb nq) gs r).alloc (.cells #[.int .u8 (lv + 1), .int .u8 ov, .bool iso] 58)).grown (by rw [← hr1]; exact hgr3)).set_ 0 (.slice A3 (s.stk.length + 1) c3)
        go_ret
        rw [hP.out]
        rw [← List.reverse_cons] at hown4
        refine ⟨rfl, ⟨_, ⟨A3, c3, rfl, ⟨hbox4, hown4⟩⟩, ?_⟩, hfr⟩
        rcases hat3 with e | e
        · exact .inl (e.trans hr1)
        · exact .inr ⟨_, by simp <;> omega, e⟩
  · by_cases hbig : 125 < lv + 1 + 1
    · have hP := hide (hno'.out (.inl hbig))
      have hbig' : decide (125 < lv + 1 + 1) = true := by simpa using hbig
      go_enter Try.func77, Try.ntmps77
      go_wp2_with fail
      refine ht.out.mono ?_
      rintro e w1 ⟨rfl, hb⟩
      have hs1 := hH.out.below hb
      go_wp2_with fail
      go_quiet (fail)
      go_wp2_with fail
      go_ret
      rw [hP.out]
      exact ⟨rfl, StB.of_below hH.out (hB_drewN hb _)⟩
    · have hbig' : decide (125 < lv + 1 + 1) = false := by simpa using hbig
      by_cases hov : 0 < s.is + s.em
      · have hP := hide (hno'.out (.inr hov))
        have hov' : decide (0 < (s.is : Int) + (s.em : Int)) = true := by simp; omega
        go_enter Try.func77, Try.ntmps77
        go_wp2_with fail
        refine ht.out.mono ?_
        rintro e w1 ⟨rfl, hb⟩
        obtain ⟨A1, cap1, hr1, hs1⟩ := hH.out.below hb
        obtain ⟨c0, c1, c2, _⟩ := hs1.cell
        go_wp2_with fail
        go_quiet (fail)
        go_wp2_with fail
        go_ret
        rw [hP.out]
        exact ⟨rfl, StB.of_below hH.out (hB_drewN hb _)⟩
      · have hP := hide (hye'.out (by omega))
        have hov' : decide (0 < (s.is : Int) + (s.em : Int)) = false := by simp; omega
        go_enter Try.func77, Try.ntmps77
        go_wp2_with fail
        refine ht.out.mono ?_
        rintro e w1 ⟨rfl, hb⟩
        obtain ⟨A1, cap1, hr1, hs1⟩ := hH.out.below hb
        obtain ⟨c0, c1, c2, _⟩ := hs1.cell
        go_wp2_with fail
        go_quiet (fail)
        have hsz := hb.size
        have hs2 := hs1.drewN nq
        have d0 := hs2.cell.1
        have hlen' := hide hlen
        go_wp2_with (at_builtin; refine wpList_app_ent rfl (.tmp 39) (.tmp 44) rfl ⟨lv + 1 + 1, ov, iso⟩ rfl rfl (hs2.alloc _).own (heap_at_new _ _ _ rfl) (by omega) (by simp <;> omega) ?_; intro A3 c3 w3 hown3 hgr3 hat3; have hb3 := (hgr3.block gs (by have := hs1.lt; simp <;> omega) (fun e => hs2.ne e.symm)).trans (hs2.alloc (.cells #[.int .u8 (lv + 1 + 1), .int .u8 ov, .bool iso] 58)).box; have hk0 := cell_of_row _ _ 0 _ _ _ hb3; have hf0 : w3.frozen? ⟨gs, 0, none⟩ = false := (by simp [World.frozen?, hb3]))
        have hne3 : (Value.slice A3 (s.stk.length + 1) c3).ownBlock ≠ some gs := by
          rcases hat3 with e | e
          · rw [e]; exact hs1.ne
          · rw [e]; intro e'; injection e' with e'; have := hs1.lt; simp at e'; omega
        have hown4 := ownsRow_setCell_other (a := ⟨gs, 0, none⟩) hown3 hne3 (.slice A3 (s.stk.length + 1) c3)
        have hbox4 := box_set hb3 0 (.slice A3 (s.stk.length + 1) c3)
        have hfr := (((Fr.of_below (hB_drewN hb nq) gs r).alloc (.cells #[.int .u8 (lv + 1 + 1), .int .u8 ov, .bool iso] 58)).grown (by rw [← hr1]; exact hgr3)).set_ 0 (.slice A3 (s.stk.length + 1) c3)
        go_ret
        rw [hP.out]
        rw [← List.reverse_cons] at hown4
        refine ⟨rfl, ⟨_, ⟨A3, c3, rfl, ⟨hbox4, hown4⟩⟩, ?_⟩, hfr⟩
        rcases hat3 with e | e
        · exact .inl (e.trans hr1)
        · exact .inr ⟨_, by simp <;> omega, e⟩
  · by_cases hbig : 125 < lv + 1
    · have hP := hide (hno'.out (.inl hbig))
      have hbig' : decide (125 < lv + 1) = true := by simpa using hbig
      go_enter Try.func77, Try.ntmps77
      go_wp2_with fail
      refine ht.out.mono ?_
      rintro e w1 ⟨rfl, hb⟩
      have hs1 := hH.out.below hb
      go_wp2_with fail
      go_quiet (fail)
      go_wp2_with fail
      go_ret
      rw [hP.out]
      exact ⟨rfl, StB.of_below hH.out (hB_drewN hb _)⟩
    · have hbig' : decide (125 < lv + 1) = false := by simpa using hbig
      by_cases hov : 0 < s.is + s.em
      · have hP := hide (hno'.out (.inr hov))
        have hov' : decide (0 < (s.is : Int) + (s.em : Int)) = true := by simp; omega
        go_enter Try.func77, Try.ntmps77
        go_wp2_with fail
        refine ht.out.mono ?_
        rintro e w1 ⟨rfl, hb⟩
        obtain ⟨A1, cap1, hr1, hs1⟩ := hH.out.below hb
        obtain ⟨c0, c1, c2, _⟩ := hs1.cell
        go_wp2_with fail
        go_quiet (fail)
        go_wp2_with fail
        go_ret
        rw [hP.out]
        exact ⟨rfl, StB.of_below hH.out (hB_drewN hb _)⟩
      · have hP := hide (hye'.out (by omega))
        have hov' : decide (0 < (s.is : Int) + (s.em : Int)) = false := by simp; omega
        go_enter Try.func77, Try.ntmps77
        go_wp2_with fail
        refine ht.out.mono ?_
        rintro e w1 ⟨rfl, hb⟩
        obtain ⟨A1, cap1, hr1, hs1⟩ := hH.out.below hb
        obtain ⟨c0, c1, c2, _⟩ := hs1.cell
        go_wp2_with fail
        go_quiet (fail)
        have hsz := hb.size
        have hs2 := hs1.drewN nq
        have d0 := hs2.cell.1
        have hlen' := hide hlen
        go_wp2_with (at_builtin; refine wpList_app_ent rfl (.tmp 39) (.tmp 44) rfl ⟨lv + 1, ov, iso⟩ rfl rfl (hs2.alloc _).own (heap_at_new _ _ _ rfl) (by omega) (by simp <;> omega) ?_; intro A3 c3 w3 hown3 hgr3 hat3; have hb3 := (hgr3.block gs (by have := hs1.lt; simp <;> omega) (fun e => hs2.ne e.symm)).trans (hs2.alloc (.cells #[.int .u8 (lv + 1), .int .u8 ov, .bool iso] 58)).box; have hk0 := cell_of_row _ _ 0 _ _ _ hb3; have hf0 : w3.frozen? ⟨gs, 0, none⟩ = false := (by simp [World.frozen?, hb3]))
        have hne3 : (Value.slice A3 (s.stk.length + 1) c3).ownBlock ≠ some gs := by
          rcases hat3 with e | e
          · rw [e]; exact hs1.ne
          · rw [e]; intro e'; injection e' with e'; have := hs1.lt; simp at e'; omega
        have hown4 := ownsRow_setCell_other (a := ⟨gs, 0, none⟩) hown3 hne3 (.slice A3 (s.stk.length + 1) c3)
        have hbox4 := box_set hb3 0 (.slice A3 (s.stk.length + 1) c3)
        have hfr := (((Fr.of_below (hB_drewN hb nq) gs r).alloc (.cells #[.int .u8 (lv + 1), .int .u8 ov, .bool iso] 58)).grown (by rw [← hr1]; exact hgr3)).set_ 0 (.slice A3 (s.stk.length + 1) c3)
        go_ret
        rw [hP.out]
        rw [← List.reverse_cons] at hown4
        refine ⟨rfl, ⟨_, ⟨A3, c3, rfl, ⟨hbox4, hown4⟩⟩, ?_⟩, hfr⟩
        rcases hat3 with e | e
        · exact .inl (e.trans hr1)
        · exact .inr ⟨_, by simp <;> omega, e⟩
  · by_cases hbig : 125 < lv + 1 + 1
    · have hP := hide (hno'.out (.inl hbig))
      have hbig' : decide (125 < lv + 1 + 1) = true := by simpa using hbig
      go_enter Try.func77, Try.ntmps77
      go_wp2_with fail
      refine ht.out.mono ?_
      rintro e w1 ⟨rfl, hb⟩
      have hs1 := hH.out.below hb
      go_wp2_with fail
      go_quiet (fail)
      go_wp2_with fail
      go_ret
      rw [hP.out]
      exact ⟨rfl, StB.of_below hH.out (hB_drewN hb _)⟩
    · have hbig' : decide (125 < lv + 1 + 1) = false := by simpa using hbig
      by_cases hov : 0 < s.is + s.em
      · have hP := hide (hno'.out (.inr hov))
        have hov' : decide (0 < (s.is : Int) + (s.em : Int)) = true := by simp; omega
        go_enter Try.func77, Try.ntmps77
        go_wp2_with fail
        refine ht.out.mono ?_
        rintro e w1 ⟨rfl, hb⟩
        obtain ⟨A1, cap1, hr1, hs1⟩ := hH.out.below hb
        obtain ⟨c0, c1, c2, _⟩ := hs1.cell
        go_wp2_with fail
        go_quiet (fail)
        go_wp2_with fail
        go_ret
        rw [hP.out]
        exact ⟨rfl, StB.of_below hH.out (hB_drewN hb _)⟩
      · have hP := hide (hye'.out (by omega))
        have hov' : decide (0 < (s.is : Int) + (s.em : Int)) = false := by simp; omega
        go_enter Try.func77, Try.ntmps77
        go_wp2_with fail
        refine ht.out.mono ?_
        rintro e w1 ⟨rfl, hb⟩
        obtain ⟨A1, cap1, hr1, hs1⟩ := hH.out.below hb
        obtain ⟨c0, c1, c2, _⟩ := hs1.cell
        go_wp2_with fail
        go_quiet (fail)
        have hsz := hb.size
        have hs2 := hs1.drewN nq
        have d0 := hs2.cell.1
        have hlen' := hide hlen
        go_wp2_with (at_builtin; refine wpList_app_ent rfl (.tmp 39) (.tmp 44) rfl ⟨lv + 1 + 1, ov, iso⟩ rfl rfl (hs2.alloc _).own (heap_at_new _ _ _ rfl) (by omega) (by simp <;> omega) ?_; intro A3 c3 w3 hown3 hgr3 hat3; have hb3 := (hgr3.block gs (by have := hs1.lt; simp <;> omega) (fun e => hs2.ne e.symm)).trans (hs2.alloc (.cells #[.int .u8 (lv + 1 + 1), .int .u8 ov, .bool iso] 58)).box; have hk0 := cell_of_row _ _ 0 _ _ _ hb3; have hf0 : w3.frozen? ⟨gs, 0, none⟩ = false := (by simp [World.frozen?, hb3]))
        have hne3 : (Value.slice A3 (s.stk.length + 1) c3).ownBlock ≠ some gs := by
          rcases hat3 with e | e
          · rw [e]; exact hs1.ne
          · rw [e]; intro e'; injection e' with e'; have := hs1.lt; simp at e'; omega
        have hown4 := ownsRow_setCell_other (a := ⟨gs, 0, none⟩) hown3 hne3 (.slice A3 (s.stk.length + 1) c3)
        have hbox4 := box_set hb3 0 (.slice A3 (s.stk.length + 1) c3)
        have hfr := (((Fr.of_below (hB_drewN hb nq) gs r).alloc (.cells #[.int .u8 (lv + 1 + 1), .int .u8 ov, .bool iso] 58)).grown (by rw [← hr1]; exact hgr3)).set_ 0 (.slice A3 (s.stk.length + 1) c3)
        go_ret
        rw [hP.out]
        rw [← List.reverse_cons] at hown4
        refine ⟨rfl, ⟨_, ⟨A3, c3, rfl, ⟨hbox4, hown4⟩⟩, ?_⟩, hfr⟩
        rcases hat3 with e | e
        · exact .inl (e.trans hr1)
        · exact .inr ⟨_, by simp <;> omega, e⟩
end Go.Proofs.Ytaojjneajiobnaa

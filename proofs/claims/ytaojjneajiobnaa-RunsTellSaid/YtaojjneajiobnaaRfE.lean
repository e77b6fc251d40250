/-
  The reference of layer 19: the state by value, and its methods.
-/
import Derived.Test.YtaojjneajiobnaaRfD
namespace Go.Proofs.Ytaojjneajiobnaa
open Go.RowKit

/-- an entry as the reference has it: 255 says that there is no override -/
def mapE (e : Ent) : Ent := ⟨e.lv, if e.ov = 13 then 255 else e.ov, e.iso⟩
def entV (e : Ent) : Value := .agg #[.int .u8 e.lv, .int .u8 e.ov, .bool e.iso]
/-- the entries es lie in the block b, which is one of entries -/
def EC (w : World) (b : Nat) (es : List Ent) : Prop := (∃ cur, w.heap[b]? = some (.cells cur 69 (0, 0))) ∧ ∀ j u, (entC es)[j]? = some u → w.cell? ⟨b, j, none⟩ = some u
theorem EC.below {w w' : World} {b : Nat} {es : List Ent} (h : EC w b es) (hb : Below w.heap.size w w') : EC w' b es := by
  obtain ⟨⟨cur, h1⟩, h2⟩ := h
  have hlt := lt_of_block h1
  exact ⟨⟨cur, (hb.block b hlt).trans h1⟩, fun j u hu => (hb.cell (p := ⟨b, j, none⟩) hlt).trans (h2 j u hu)⟩
theorem EC.lt {w : World} {b : Nat} {es : List Ent} (h : EC w b es) : b < w.heap.size := by obtain ⟨⟨cur, h1⟩, _⟩ := h; exact lt_of_block h1
theorem EC.same {w w' : World} {b : Nat} {es : List Ent} (h : EC w b es) (hb : w'.heap[b]? = w.heap[b]?) : EC w' b es := by
  obtain ⟨⟨cur, h1⟩, h2⟩ := h
  exact ⟨⟨cur, hb.trans h1⟩, fun j u hu => (World.cell?_of_block (w := w) (w' := w') (a := ⟨b, j, none⟩) hb).trans (h2 j u hu)⟩
theorem EC.ne {w : World} {b g : Nat} {es : List Ent} {cs : Array Value} {t : TypeId} {fr : Nat × Nat} (h : EC w b es) (hg : w.heap[g]? = some (.cells cs t fr)) (ht : t ≠ 69) : b ≠ g := by
  rintro rfl
  obtain ⟨⟨cur, h1⟩, _⟩ := h
  rw [h1] at hg
  injection hg with hg
  injection hg with _ h2 _
  exact ht h2.symm
/-- the value v is the state s, its stack in memory -/
def RS (w : World) (v : Value) (s : PS) : Prop :=
  ∃ b c, v = .agg #[.slice (some ⟨b, 0, none⟩) s.stk.length c, .int .i64 s.is, .int .i64 s.em, .int .i64 s.nw] ∧ b < w.heap.size ∧ s.stk.length ≤ c ∧ EC w b (s.stk.reverse.map mapE)
theorem RS.below {w w' : World} {v : Value} {s : PS} (h : RS w v s) (hb : Below w.heap.size w w') : RS w' v s := by
  obtain ⟨b, c, h1, h2, h3, h4⟩ := h
  exact ⟨b, c, h1, by have := hb.size; omega, h3, h4.below hb⟩
theorem RS.top {w : World} {b : Nat} {s : PS} {k : Nat} (hf : Fit s k) (h : EC w b (s.stk.reverse.map mapE)) :
    ∃ m, s.stk.length = m + 1 ∧ ∀ (j : Nat) (u : Value), (mapE s.top).cells[j]? = some u → w.cell? ((⟨b, m * 3, none⟩ : Addr).add j) = some u := by
  obtain ⟨t, rest, e1, e2, _⟩ := hf.parts
  refine ⟨rest.length, by rw [e1]; rfl, fun j u hu => ?_⟩
  rw [addr_add]
  refine h.2 _ u ?_
  have hj : j < 3 := by have := (List.getElem?_eq_some_iff.1 hu).1; simpa [Ent.cells] using this
  rw [entC_at (j := rest.length) (e := mapE s.top) ?_ j hj]
  · exact hu
  · rw [e1, e2]; simp
theorem info69 : (Try.prog.info? 69).map (fun i => (i.zero, i.size, i.bytes)) = some (some (.agg #[.int .u8 0, .int .u8 0, .bool false]), 3, 3) := by kernel_rfl
def RetE (e : Ent) (w : World) (en : Ending) (w' : World) : Prop := en = .returned (entV e) ∧ Below w.heap.size w w'
set_option maxRecDepth 100000 in
set_option maxHeartbeats 4000000 in
theorem reftop_any {s : PS} {k : Nat} {v : Value} {w : World} (h : RS w v s) (hf : Fit s k) (hk : k ≤ 100000) : Calls Try.prog 38 #[v] w (RetE (mapE s.top) w) := by
  obtain ⟨b, c, rfl, hb, hc, hcell⟩ := h
  obtain ⟨m, hm, ht⟩ := RS.top (w := w) (b := b) hf hcell
  have hl := hf.len
  have a1 : IntKind.i64.wrap ((m : Int) + 1 - 1) = (m : Int) := by rw [show (m : Int) + 1 - 1 = m by omega]; exact IntWalk.i64_in _ (by omega)
  have a2 : (0 : Int) ≤ (m : Int) := by omega
  have a3 : (m : Int) < (m : Int) + 1 := by omega
  have am : m ≤ 100000 := by omega
  have k0 := ht 0 _ rfl
  have k1 := ht 1 _ rfl
  have k2 := ht 2 _ rfl
  rw [addr_add, Nat.add_zero] at k0
  rw [addr_add] at k1 k2
  clear ht hcell
  rw [hm] at hc ⊢
  generalize mapE s.top = t at *
  obtain ⟨tl, tv, ti⟩ := t
  simp only at k0 k1 k2
  clear hm hf hl
  go_enter Try.func38, Try.ntmps38
  go_wp2_with fail
  refine bodyPost_ret (results_cell_row rfl _ _ (w.heap.size + 1) 69 #[.int .u8 tl, .int .u8 tv, .bool ti] (0, 0) _ rfl (heap_at_new _ _ _ (by simp)) Try.underlying69 rfl (by kernel_rfl)) rfl ⟨rfl, ((Below.refl _ _).alloc (Nat.le_refl _) _).alloc (by simp) _⟩

/-! ### push -/
theorem entC_oneCell (es : List Ent) : ∀ u ∈ entC es, u.oneCell' = true := by
  intro u hu
  obtain ⟨e, _, h⟩ := List.mem_flatMap.1 hu
  simp only [Ent.cells, List.mem_cons, List.not_mem_nil, or_false] at h
  rcases h with rfl | rfl | rfl <;> rfl
theorem entC_app (es es' : List Ent) : entC es ++ entC es' = entC (es ++ es') := by unfold entC; rw [List.flatMap_append]
theorem run_app_es (ty : TypeId) {w : World} {B : Nat} {A : Option Addr} {n c g m c' : Nat} {es es' : List Ent} (hown : w.ownsRow B 69 3 (.slice A n c) n (entC es))
    (hm : es'.length = m) (hb : ∀ j u, (entC es')[j]? = some u → w.cell? ⟨g, j, none⟩ = some u) (hn : n + m ≤ 1000000) (hB : B ≤ w.heap.size) :
    ∃ A2 c2 w', (Builtin.append_ #[70, 70] ty #[.slice A n c, .slice (some ⟨g, 0, none⟩) m c']).run Try.prog w = .ok (.slice A2 (n + m) c2) w' ∧ w'.ownsRow B 69 3 (.slice A2 (n + m) c2) (n + m) (entC (es ++ es')) ∧
      w.grownBy w' (Value.slice A n c).ownBlock ∧ ((Value.slice A2 (n + m) c2).ownBlock = (Value.slice A n c).ownBlock ∨ (Value.slice A2 (n + m) c2).ownBlock = some w.heap.size) := by
  obtain ⟨i, hi, hz, hs, hby⟩ := info_parts info69
  have h63 : n + m ≤ maxLen := by simp only [maxLen]; omega
  obtain ⟨v', w', hrun, h2, h3, _, h5⟩ := run_append_own_at (P := Try.prog) w B 70 ty 69 i _ 3 3 Try.underlying70 hi hz hs hby rfl (by omega) (.slice A n c) n (entC es) hown ⟨g, 0, none⟩ m c' (entC es')
    (by rw [entC_len, hm]) (fun j u hu => by rw [addr_add, Nat.zero_add]; exact hb j u hu) (entC_oneCell es') h63 (by omega) hB
  obtain ⟨A2, c2, rfl⟩ := own_val3 h2
  rw [entC_app] at h2
  exact ⟨A2, c2, w', hrun, h2, h3, h5⟩
theorem wpList_app_es {w : World} {ops : Array Oper} {rest : List Oper} {o : Oper} {a : Act} {Q : Exit → Act → World → Prop} (hgd : o.guard = none) (s x : Operand)
    (ho : o.op = .call { callee := .builtin .append, args := #[s, x], argTypes := #[70, 70] }) {B : Nat} {A : Option Addr} {n c g m c' : Nat} {es es' : List Ent} (hs : a.eval s = .slice A n c) (hx : a.eval x = .slice (some ⟨g, 0, none⟩) m c')
    (hown : w.ownsRow B 69 3 (.slice A n c) n (entC es)) (hm : es'.length = m) (hb : ∀ j u, (entC es')[j]? = some u → w.cell? ⟨g, j, none⟩ = some u) (hn : n + m ≤ 1000000) (hB : B ≤ w.heap.size)
    (h : ∀ A2 c2 w', w'.ownsRow B 69 3 (.slice A2 (n + m) c2) (n + m) (entC (es ++ es')) → w.grownBy w' (Value.slice A n c).ownBlock →
      ((Value.slice A2 (n + m) c2).ownBlock = (Value.slice A n c).ownBlock ∨ (Value.slice A2 (n + m) c2).ownBlock = some w.heap.size) → wpList Try.prog ops Q rest (a.put o.dst (.slice A2 (n + m) c2)) w') :
    wpList Try.prog ops Q (o :: rest) a w := by
  obtain ⟨A2, c2, w', hrun, h2, h3, h4⟩ := run_app_es o.type (c' := c') hown hm hb hn hB
  refine wpList_plain hgd fun K hK => ?_
  unfold Oper.wp execOp
  simp only [ho, resolve, invoke, builtin, Sem.run_bind, Sem.run_pure, Result.andThen_ok, List.map_toArray, List.map_cons, List.map_nil, hs, hx, hrun]
  exact hK _ _ (h A2 c2 w' h2 h3 h4)
/-- the call answers a state -/
def RetS (s : PS) (w : World) (en : Ending) (w' : World) : Prop := ∃ v, en = .returned v ∧ RS w' v s ∧ Below w.heap.size w w'
theorem ent_one {w : World} {g : Nat} {e : Ent} (h : w.heap[g]? = some (.cells #[.int .u8 e.lv, .int .u8 e.ov, .bool e.iso] 69 (0, 0))) : ∀ j u, (entC [e])[j]? = some u → w.cell? ⟨g, j, none⟩ = some u := by
  intro j u hu
  rw [cell_of_row _ _ _ _ _ _ h]
  have hj : j < 3 := by have := (List.getElem?_eq_some_iff.1 hu).1; rw [entC_len] at this; simpa using this
  rw [← hu]
  match j, hj with
  | 0, _ | 1, _ | 2, _ => rfl
set_option maxRecDepth 100000 in
set_option maxHeartbeats 8000000 in
theorem refpush_any {s : PS} {k : Nat} {v : Value} {w : World} (h : RS w v s) (hf : Fit s k) (hk : k ≤ 100000) (e : Ent) : Calls Try.prog 69 #[v, entV (mapE e)] w (RetS { s with stk := e :: s.stk } w) := by
  obtain ⟨b, c, rfl, hb, hc, hcell⟩ := h
  have hl := hf.len
  obtain ⟨m, hm⟩ : ∃ m, s.stk.length = m := ⟨_, rfl⟩
  have hcc : ∀ j u, (entC (s.stk.reverse.map mapE))[j]? = some u → (((w.alloc (.cells #[.slice (some ⟨b, 0, none⟩) m c, .int .i64 s.is, .int .i64 s.em, .int .i64 s.nw] 72)).alloc (.cells #[.int .u8 (mapE e).lv, .int .u8 (mapE e).ov, .bool (mapE e).iso] 69)).alloc (.cells #[.slice none 0 0, .int .i64 0, .int .i64 0, .int .i64 0] 72)).cell? ⟨b, j, none⟩ = some u := fun j u hu => by
    rw [World.cell?_alloc_lt _ _ _ (by simp; omega), World.cell?_alloc_lt _ _ _ (by simp; omega), World.cell?_alloc_lt _ _ _ (by simpa using hb)]
    exact hcell.2 j u hu
  have v0 := heap_at_old (.cells #[.slice none 0 0, .int .i64 0, .int .i64 0, .int .i64 0] 72) (heap_at_old (.cells #[.int .u8 (mapE e).lv, .int .u8 (mapE e).ov, .bool (mapE e).iso] 69) (heap_at_new w _ (.cells #[.slice (some ⟨b, 0, none⟩) m c, .int .i64 s.is, .int .i64 s.em, .int .i64 s.nw] 72) rfl))
  have v1 := heap_at_old (.cells #[.slice none 0 0, .int .i64 0, .int .i64 0, .int .i64 0] 72) (heap_at_new (w.alloc (.cells #[.slice (some ⟨b, 0, none⟩) m c, .int .i64 s.is, .int .i64 s.em, .int .i64 s.nw] 72)) (w.heap.size + 1) (.cells #[.int .u8 (mapE e).lv, .int .u8 (mapE e).ov, .bool (mapE e).iso] 69) (by simp))
  have v2 := heap_at_new ((w.alloc (.cells #[.slice (some ⟨b, 0, none⟩) m c, .int .i64 s.is, .int .i64 s.em, .int .i64 s.nw] 72)).alloc (.cells #[.int .u8 (mapE e).lv, .int .u8 (mapE e).ov, .bool (mapE e).iso] 69)) (w.heap.size + 1 + 1) (.cells #[.slice none 0 0, .int .i64 0, .int .i64 0, .int .i64 0] 72) (by simp)
  have hbl := hide (((((Below.refl _ w).alloc (Nat.le_refl _) (.cells #[.slice (some ⟨b, 0, none⟩) m c, .int .i64 s.is, .int .i64 s.em, .int .i64 s.nw] 72)).alloc (by simp) (.cells #[.int .u8 (mapE e).lv, .int .u8 (mapE e).ov, .bool (mapE e).iso] 69)).alloc (by simp; omega) (.cells #[.slice none 0 0, .int .i64 0, .int .i64 0, .int .i64 0] 72)))
  have hml := hide (show (s.stk.reverse.map mapE).length = m by simp [hm])
  have hrev := hide (show s.stk.reverse.map mapE ++ [mapE e] = (e :: s.stk).reverse.map mapE by simp)
  rw [hm] at hc ⊢
  have hmm := hide hm
  have hm6 : m ≤ 100001 := by omega
  unfold entV
  generalize mapE e = me at *
  obtain ⟨x0, x1, x2⟩ := me
  simp only at hcc v0 v1 v2 hbl ⊢
  have H0 := hide v0
  have H1 := hide v1
  have H2 := hide v2
  have HC := hide hcc
  clear hm hf hl hcell v0 v1 v2 hcc
  go_enter Try.func69, Try.ntmps69
  go_wp2_with (first
    | (at_builtin; refine wpList_app_es (A := none) (n := 0) (c := 0) (es := []) (B := w.heap.size + 1 + 1 + 1) rfl (.tmp 6) (.tmp 8) rfl rfl rfl (World.ownsRow_nil _ _ _ _) hml.out HC.out (by omega) (by simp) ?_
       intro A2 c2 w2 hown2 hgr2 _
       simp only [Nat.zero_add, List.nil_append] at hown2
       have hb2 := below_of_grown hgr2 (B := w.heap.size + 1 + 1 + 1) (by simp) (fun g hg => by simp [Value.ownBlock] at hg)
       have hs2 := hb2.size
       simp only [World.size_alloc] at hs2
       have g0 := (hb2.block w.heap.size (by omega)).trans H0.out
       have g1 := (hb2.block (w.heap.size + 1) (by omega)).trans H1.out
       have g2 := (hb2.block (w.heap.size + 1 + 1) (by omega)).trans H2.out
       have p0 : w2.cell? ⟨w.heap.size + 1, 0, none⟩ = some (.int .u8 x0) := cell_of_row _ _ _ _ _ _ g1
       have p1 : w2.cell? ⟨w.heap.size + 1, 1, none⟩ = some (.int .u8 x1) := cell_of_row _ _ _ _ _ _ g1
       have p2 : w2.cell? ⟨w.heap.size + 1, 2, none⟩ = some (.bool x2) := cell_of_row _ _ _ _ _ _ g1)
    | (at_builtin; refine wpList_app_es (A := A2) (n := m) (c := c2) (es := s.stk.reverse.map mapE) (es' := [⟨x0, x1, x2⟩]) (B := w.heap.size + 1 + 1 + 1) rfl (.tmp 10) (.tmp 12) rfl rfl rfl (hown2.alloc _) rfl (ent_one (heap_at_new _ _ _ rfl)) (by omega) (by simp; omega) ?_
       intro A3 c3 w3 hown3 hgr3 _
       have hb3 := (hb2.alloc (by omega) (.cells #[.int .u8 x0, .int .u8 x1, .bool x2] 69)).grown hgr3 (by simp; omega) (fun g hg => (hown2.lt g hg).1)
       have hs3 := hb3.size
       simp only [World.size_alloc] at hs3
       have f0 := (hb3.block w.heap.size (by omega)).trans H0.out
       have f2 := (hb3.block (w.heap.size + 1 + 1) (by omega)).trans H2.out
       have r0 : w3.cell? ⟨w.heap.size, 0, none⟩ = some (.slice (some ⟨b, 0, none⟩) m c) := cell_of_row _ _ _ _ _ _ f0
       have r1 : w3.cell? ⟨w.heap.size, 1, none⟩ = some (.int .i64 s.is) := cell_of_row _ _ _ _ _ _ f0
       have r2 : w3.cell? ⟨w.heap.size, 2, none⟩ = some (.int .i64 s.em) := cell_of_row _ _ _ _ _ _ f0
       have r3 : w3.cell? ⟨w.heap.size, 3, none⟩ = some (.int .i64 s.nw) := cell_of_row _ _ _ _ _ _ f0
       have r4 : ∀ j, w3.frozen? ⟨w.heap.size, j, none⟩ = false := fun j => by simp [World.frozen?, f0]
       have f5 : (w3.setCell ⟨w.heap.size, 0, none⟩ (.slice A3 (m + 1) c3)).heap[w.heap.size + 1 + 1]? = _ := (Below.heap_setCell w3 ⟨w.heap.size, 0, none⟩ (.slice A3 (m + 1) c3) (w.heap.size + 1 + 1) (by show w.heap.size + 1 + 1 ≠ w.heap.size; omega)).trans f2
       have hF := hide f5
       clear g0 g1 g2 p0 p1 p2)
    | (refine wpList_store_row rfl 72 (.tmp 4) (.tmp 15) rfl (w.heap.size + 1 + 1) #[.slice A3 (m + 1) c3, .int .i64 s.is, .int .i64 s.em, .int .i64 s.nw] rfl rfl 72 _ hF.out (by kernel_rfl) rfl (by simp [Value.oneCell']) ?_))
  refine bodyPost_ret (results_cell_row rfl _ _ (w.heap.size + 1 + 1) 72 #[.slice A3 (m + 1) c3, .int .i64 s.is, .int .i64 s.em, .int .i64 s.nw] (0, 0) _ rfl (setRow_heap _ _ _ _ _ _ hF.out) Try.underlying72 rfl (by kernel_rfl)) rfl ⟨_, rfl, ?_, ?_⟩
  · rcases hown3.2 with ⟨hv, h0⟩ | ⟨g, cap, cur, hv, hgB, hgg, hnc, _⟩
    · omega
    · injection hv with hA _ hcp
      subst hA; subst hcp
      have hne : g ≠ w.heap.size := by omega
      have hne2 : g ≠ w.heap.size + 1 + 1 := by omega
      refine ⟨g, c3, by rw [List.length_cons, hmm.out], ?_, by rw [List.length_cons, hmm.out]; exact hnc, ?_⟩
      · rw [setRow_size]; simpa [World.setCell] using lt_of_block hgg
      · have hec : EC w3 g ((e :: s.stk).reverse.map mapE) := ⟨⟨cur, hgg⟩, fun j u hu => by
          rw [← hrev.out] at hu
          have h1 := hown3.cells (g := g) rfl j u hu
          rw [addr_add, Nat.zero_add] at h1
          exact h1⟩
        exact hec.same ((setRow_other _ _ _ _ hne2).trans (Below.heap_setCell w3 ⟨w.heap.size, 0, none⟩ (.slice (some ⟨g, 0, none⟩) (m + 1) c3) g hne))
  · exact below_setRow (Below.setCell (hbl.out.trans (hb3.mono (by omega))) (p := ⟨w.heap.size, 0, none⟩) (Nat.le_refl _) _) (by omega) _
end Go.Proofs.Ytaojjneajiobnaa

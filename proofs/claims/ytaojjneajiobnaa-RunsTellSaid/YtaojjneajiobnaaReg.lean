/-
  A rule for a region that draws its order and makes memory in two rows: what holds behind each operation, whatever the order.
-/
import Derived.Test.YtaojjneajiobnaaNst
namespace Go.Proofs.Ytaojjneajiobnaa
open Go.RowKit

section
variable {P : Program} {ops : Array Oper} {Q : Exit → Act → World → Prop} {md : Region.Mode}
theorem count_set {L : Array Bool} {i : Nat} (h : L.getD i true = false) : (L.setIfInBounds i true).toList.count false + 1 = L.toList.count false := by
  have hi : i < L.size := by
    rcases Nat.lt_or_ge i L.size with h' | h'
    · exact h'
    · simp [Array.getElem?_eq_none h'] at h
  have hl : i < L.toList.length := by simpa using hi
  have e : L.toList[i] = false := by simpa [hi] using h
  rw [Array.toList_setIfInBounds, List.count_set hl, e]
  have hp : 0 < L.toList.count false := List.count_pos_iff.2 (by rw [← e]; exact List.getElem_mem hl)
  have e2 : (false == false) = true := rfl
  have e3 : (true == false) = false := rfl
  rw [e2, e3]
  simp only [if_true, Bool.false_eq_true, if_false]
  omega
theorem all_done {L : Array Bool} (hs : L.size = ops.size) (hacyc : ∀ (i : Nat) (o : Oper), ops[i]? = some o → ∀ e ∈ o.after, e.on < i) (hr : Region.ready md ops L = []) : ∀ i, i < ops.size → L.getD i false = true := by
  intro i
  induction i using Nat.strongRecOn with
  | ind i ih =>
    intro hi
    cases hd : L.getD i false with
    | true => rfl
    | false =>
      have ho : ops[i]? = some ops[i] := Array.getElem?_eq_getElem hi
      have hm : i ∈ Region.ready md ops L := mem_ready.2 ⟨by
        have : i < L.size := by omega
        simpa [this] using hd, ops[i], ho, fun e he _ => ih e.on (hacyc i _ ho e he) (by have := hacyc i _ ho e he; omega)⟩
      rw [hr] at hm
      cases hm
/-- an invariant that each operation, when it may come up, keeps -/
theorem wpAny_inv (I : Array Bool → Act → World → Prop)
    (hstep : ∀ (L : Array Bool) (a : Act) (w : World) (i : Nat) (o : Oper), L.size = ops.size → I L a w → ops[i]? = some o → L.getD i true = false → (∀ e ∈ o.after, Region.binds md e = true → L.getD e.on false = true) →
      wpOp P ops Q i (fun a' w' => I (L.setIfInBounds i true) a' w') a w)
    (hend : ∀ (L : Array Bool) (a : Act) (w : World), L.size = ops.size → I L a w → (∀ i, i < ops.size → L.getD i false = true) → Q .normal a w)
    (hacyc : ∀ (i : Nat) (o : Oper), ops[i]? = some o → ∀ e ∈ o.after, e.on < i) :
    ∀ (fuel : Nat) (L : Array Bool) (a : Act) (w : World), L.size = ops.size → L.toList.count false ≤ fuel → I L a w → wpAny P md ops Q fuel L a w
  | 0, L, a, w, hs, hc, hI => by
    have hd : ∀ i, i < ops.size → L.getD i false = true := fun i hi => by
      cases h : L.getD i false with
      | true => rfl
      | false =>
        have h2 : L.getD i true = false := by
          have : i < L.size := by omega
          simpa [this] using h
        have := count_set h2
        omega
    refine ⟨?_, hend L a w hs hI hd⟩
    cases hr : Region.ready md ops L with
    | nil => rfl
    | cons j rs =>
      have hj : j ∈ Region.ready md ops L := by rw [hr]; simp
      obtain ⟨h0, o, ho, _⟩ := mem_ready.1 hj
      have hlt : j < ops.size := (Array.getElem?_eq_some_iff.1 ho).1
      have := hd j hlt
      have hjs : j < L.size := by omega
      simp [hjs] at h0 this
      rw [h0] at this; cases this
  | fuel + 1, L, a, w, hs, hc, hI => by
    refine ⟨fun hr => hend L a w hs hI (all_done hs hacyc hr), fun i hi => ?_⟩
    obtain ⟨h0, o, ho, hall⟩ := mem_ready.1 hi
    refine wpOp_mono (fun a' w' h => ?_) (hstep L a w i o hs hI ho h0 hall)
    have := count_set h0
    exact wpAny_inv I hstep hend hacyc fuel _ a' w' (by simpa using hs) (by omega) h
/-- what stands behind another one comes up behind it -/
def Closed (md : Region.Mode) (ops : Array Oper) (L : Array Bool) : Prop := ∀ (j : Nat) (oj : Oper), ops[j]? = some oj → L.getD j false = true → ∀ e ∈ oj.after, Region.binds md e = true → L.getD e.on false = true
theorem Closed.next {L : Array Bool} (h : Closed md ops L) {i : Nat} {o : Oper} (ho : ops[i]? = some o) (hdep : ∀ e ∈ o.after, Region.binds md e = true → L.getD e.on false = true) : Closed md ops (L.setIfInBounds i true) := by
  intro j oj hoj hd e he hb
  by_cases hij : i = j
  · subst hij
    rw [ho] at hoj; injection hoj with hoj; subst hoj
    exact getD_set_true (hdep e he hb)
  · rw [getD_set_ne false hij] at hd
    exact getD_set_true (h j oj hoj hd e he hb)
theorem wp_region_inv {id : Nat} {l : List Oper} {a : Act} {w : World} (hm : P.follows .mixedOrders = true) (I : Array Bool → Act → World → Prop)
    (h0 : I (Array.replicate l.toArray.size false) a w.drew)
    (hstep : ∀ (L : Array Bool) (a : Act) (w : World) (i : Nat) (o : Oper), L.size = l.toArray.size → Closed .any l.toArray L → I L a w → l.toArray[i]? = some o → L.getD i true = false → (∀ e ∈ o.after, Region.binds .any e = true → L.getD e.on false = true) →
      wpOp P l.toArray Q i (fun a' w' => I (L.setIfInBounds i true) a' w') a w)
    (hend : ∀ (L : Array Bool) (a : Act) (w : World), L.size = l.toArray.size → I L a w → (∀ i, i < l.toArray.size → L.getD i false = true) → Q .normal a w)
    (hacyc : ∀ (i : Nat) (o : Oper), l.toArray[i]? = some o → ∀ e ∈ o.after, e.on < i) : (Code.region id l.toArray true).wp P Q a w := by
  refine wp_region_any hm (wpAny_inv (fun L a w => Closed .any l.toArray L ∧ I L a w) ?_ (fun L a w hs h hd => hend L a w hs h.2 hd) hacyc _ _ _ _ (by simp) (by simp) ⟨?_, h0⟩)
  · intro L a w i o hs hI ho hl hdep
    exact wpOp_mono (fun a' w' h => ⟨hI.1.next ho hdep, h⟩) (hstep L a w i o hs hI.1 hI.2 ho hl hdep)
  · intro j oj hoj hd
    have hj : j < (Array.replicate l.toArray.size false).size := by have := (Array.getElem?_eq_some_iff.1 hoj).1; simpa using this
    have : (Array.replicate l.toArray.size false).getD j false = false := by rw [Array.getD, dif_pos hj]; simp
    rw [hd] at this; cases this
end

/-! ### two rows -/
/-- what a row holds behind one of its operations: the operation, its slot, how many, what -/
structure Stg where
  idx : Nat
  dst : Nat
  n : Nat
  zs : List Int
/-- a slice of the call's own -/
structure Cur where
  A : Option Addr
  n : Nat
  c : Nat
  zs : List Int
def Cur.val (x : Cur) : Value := .slice x.A x.n x.c
/-- the row C is t operations far, and stands at x; it began at x0 -/
def At (C : List Stg) (x0 : Cur) (t : Nat) (L : Array Bool) (a : Act) (x : Cur) : Prop :=
  (∀ s c, C[s]? = some c → L.getD c.idx false = decide (s < t)) ∧ ((t = 0 ∧ x = x0) ∨ ∃ s c, t = s + 1 ∧ C[s]? = some c ∧ a.tmps.getD c.dst undef = x.val ∧ x.n = c.n ∧ x.zs = c.zs)
/-- an operation whose value no world changes: its number, slot, value -/
structure Fx where
  idx : Nat
  dst : Nat
  v : Value
structure Plan where
  w0 : World
  a0 : Act
  e : TypeId
  k : IntKind
  F : List Fx
  C1 : List Stg
  C2 : List Stg
  x1 : Cur
  x2 : Cur
def Plan.B (p : Plan) : Nat := p.w0.heap.size
def Plan.dsts (p : Plan) : List Nat := p.F.map Fx.dst ++ p.C1.map Stg.dst ++ p.C2.map Stg.dst
def Plan.idxs (p : Plan) : List Nat := p.F.map Fx.idx ++ p.C1.map Stg.idx ++ p.C2.map Stg.idx
def Plan.pairs (p : Plan) : List (Nat × Nat) := p.F.map (fun f => (f.idx, f.dst)) ++ p.C1.map (fun c => (c.idx, c.dst)) ++ p.C2.map (fun c => (c.idx, c.dst))
structure Plan.Inv (p : Plan) (B0 : Nat) (L : Array Bool) (a : Act) (w : World) : Prop where
  bel : Below B0 p.w0 w
  low : B0 ≤ w.heap.size
  dfr : a.defers = p.a0.defers
  size : a.tmps.size = p.a0.tmps.size
  keep0 : ∀ t, (∀ q ∈ p.pairs, q.2 = t → L.getD q.1 false = false) → a.tmps.getD t undef = p.a0.tmps.getD t undef
  fix : ∀ f ∈ p.F, L.getD f.idx false = true → a.tmps.getD f.dst undef = f.v
  rows : ∃ t1 t2 y1 y2, At p.C1 p.x1 t1 L a y1 ∧ At p.C2 p.x2 t2 L a y2 ∧ Own B0 p.e p.k w y1.A y1.n y1.c y1.zs ∧ Own B0 p.e p.k w y2.A y2.n y2.c y2.zs ∧ (y1.val.ownBlock = none ∨ y1.val.ownBlock ≠ y2.val.ownBlock)

theorem getD_put_ne {a : Act} {d t : Nat} {v : Value} (h : t ≠ d) : (a.put (some d) v).tmps.getD t undef = a.tmps.getD t undef := by
  simp [Act.put, Array.getElem?_setIfInBounds_ne (Ne.symm h)]
theorem getD_put_eq {a : Act} {d : Nat} {v : Value} (h : d < a.tmps.size) : (a.put (some d) v).tmps.getD d undef = v := by
  simp [Act.put, h]
theorem size_put {a : Act} {d : Nat} {v : Value} : (a.put (some d) v).tmps.size = a.tmps.size := by simp [Act.put]
theorem At.put {C : List Stg} {x0 x : Cur} {t : Nat} {L : Array Bool} {a : Act} (h : At C x0 t L a x) {i d : Nat} {v : Value} (hi : i ∉ C.map Stg.idx) (hd : d ∉ C.map Stg.dst) : At C x0 t (L.setIfInBounds i true) (a.put (some d) v) x := by
  obtain ⟨h1, h2⟩ := h
  have hne : ∀ (s : Nat) (c : Stg), C[s]? = some c → c.idx ≠ i ∧ c.dst ≠ d := fun s c hc => ⟨fun e => hi (List.mem_map.2 ⟨c, List.mem_of_getElem? hc, e⟩), fun e => hd (List.mem_map.2 ⟨c, List.mem_of_getElem? hc, e⟩)⟩
  refine ⟨fun s c hc => ?_, ?_⟩
  · rw [getD_set_ne false (hne s c hc).1.symm]; exact h1 s c hc
  · rcases h2 with h2 | ⟨s, c, e, hc, hv, hn, hz⟩
    · exact .inl h2
    · exact .inr ⟨s, c, e, hc, by rw [getD_put_ne (hne s c hc).2]; exact hv, hn, hz⟩
section
variable {p : Plan} {B0 : Nat} {L : Array Bool} {a : Act} {w w' : World}
theorem Plan.Inv.keep (h : p.Inv B0 L a w) (t : Nat) (ht : t ∉ p.dsts) : a.tmps.getD t undef = p.a0.tmps.getD t undef := by
  refine h.keep0 t fun q hq e => absurd ?_ ht
  unfold Plan.pairs at hq
  unfold Plan.dsts
  rw [← e]
  simp only [List.mem_append, List.mem_map] at hq ⊢
  rcases hq with (⟨f, h1, rfl⟩ | ⟨f, h1, rfl⟩) | ⟨f, h1, rfl⟩
  · exact .inl (.inl ⟨f, h1, rfl⟩)
  · exact .inl (.inr ⟨f, h1, rfl⟩)
  · exact .inr ⟨f, h1, rfl⟩
/-- a slot that is not written yet -/
theorem keep_put (h : p.Inv B0 L a w) {i d : Nat} {v : Value} (hl : L.getD i true = false) (hm : (i, d) ∈ p.pairs) : ∀ t, (∀ q ∈ p.pairs, q.2 = t → (L.setIfInBounds i true).getD q.1 false = false) → (a.put (some d) v).tmps.getD t undef = p.a0.tmps.getD t undef := by
  intro t ht
  have hil : i < L.size := by
    rcases Nat.lt_or_ge i L.size with h' | h'
    · exact h'
    · simp [Array.getElem?_eq_none h'] at hl
  have htd : t ≠ d := by
    rintro rfl
    have := ht _ hm rfl
    simp [hil] at this
  rw [getD_put_ne htd]
  refine h.keep0 t fun q hq e => ?_
  cases hd : L.getD q.1 false with
  | false => rfl
  | true =>
    have h1 := ht q hq e
    rw [getD_set_true hd] at h1
    cases h1
theorem Plan.Inv.fixed (h : p.Inv B0 L a w) (hnd : p.dsts.Nodup) (hni : p.idxs.Nodup) (hsz : ∀ d ∈ p.dsts, d < p.a0.tmps.size) {f : Fx} (hf : f ∈ p.F) (hl : L.getD f.idx true = false) : p.Inv B0 (L.setIfInBounds f.idx true) (a.put (some f.dst) f.v) w := by
  unfold Plan.dsts at hnd
  unfold Plan.idxs at hni
  have hdm : f.dst ∈ p.F.map Fx.dst := List.mem_map.2 ⟨f, hf, rfl⟩
  have him : f.idx ∈ p.F.map Fx.idx := List.mem_map.2 ⟨f, hf, rfl⟩
  rw [List.append_assoc, List.nodup_append] at hnd hni
  obtain ⟨d1, _, d3⟩ := hnd
  obtain ⟨i1, _, i3⟩ := hni
  have hds : f.dst < a.tmps.size := by rw [h.size]; exact hsz _ (by unfold Plan.dsts; simp [hdm])
  refine ⟨h.bel, h.low, h.dfr, size_put.trans h.size, keep_put h hl (by unfold Plan.pairs; simp only [List.mem_append, List.mem_map]; exact .inl (.inl ⟨f, hf, rfl⟩)), fun g hg hl => ?_, ?_⟩
  · by_cases e : g.dst = f.dst
    · have : g = f := by
        obtain ⟨x, hx, hgx⟩ := List.mem_iff_getElem.1 hg
        obtain ⟨y, hy, hfy⟩ := List.mem_iff_getElem.1 hf
        have hxy : x = y := by
          refine (List.getElem_inj (h₀ := by simpa using hx) (h₁ := by simpa using hy) d1).1 ?_
          simp [hgx, hfy, e]
        subst hxy
        rw [← hgx, hfy]
      rw [this, getD_put_eq hds]
    · rw [getD_put_ne e]
      refine h.fix g hg ?_
      by_cases e2 : g.idx = f.idx
      · exfalso
        obtain ⟨x, hx, hgx⟩ := List.mem_iff_getElem.1 hg
        obtain ⟨y, hy, hfy⟩ := List.mem_iff_getElem.1 hf
        have hxy : x = y := by
          refine (List.getElem_inj (h₀ := by simpa using hx) (h₁ := by simpa using hy) i1).1 ?_
          simp [hgx, hfy, e2]
        subst hxy
        exact e (by rw [← hgx, hfy])
      · rwa [getD_set_ne false (Ne.symm e2)] at hl
  · obtain ⟨t1, t2, y1, y2, a1, a2, r⟩ := h.rows
    exact ⟨t1, t2, y1, y2, a1.put (fun hm => i3 _ him _ (by simp only [List.mem_append]; exact .inl hm) rfl) (fun hm => d3 _ hdm _ (by simp only [List.mem_append]; exact .inl hm) rfl),
      a2.put (fun hm => i3 _ him _ (by simp only [List.mem_append]; exact .inr hm) rfl) (fun hm => d3 _ hdm _ (by simp only [List.mem_append]; exact .inr hm) rfl), r⟩
theorem Plan.Inv.adv1 (h : p.Inv B0 L a w) (hnd : p.dsts.Nodup) (hni : p.idxs.Nodup) (hsz : ∀ d ∈ p.dsts, d < p.a0.tmps.size) {s : Nat} {c : Stg} (hc : p.C1[s]? = some c) (hl : L.getD c.idx true = false)
    (hprev : ∀ s' c', s = s' + 1 → p.C1[s']? = some c' → L.getD c'.idx false = true) :
    ∃ x : Cur, Own B0 p.e p.k w x.A x.n x.c x.zs ∧ (s = 0 → x = p.x1) ∧ (∀ s' c', s = s' + 1 → p.C1[s']? = some c' → a.tmps.getD c'.dst undef = x.val ∧ x.n = c'.n ∧ x.zs = c'.zs) ∧
      ∀ (x' : Cur) (w' : World), Own B0 p.e p.k w' x'.A x'.n x'.c x'.zs → x'.n = c.n → x'.zs = c.zs → w.grownBy w' x.val.ownBlock → (x'.val.ownBlock = x.val.ownBlock ∨ x'.val.ownBlock = some w.heap.size ∨ x'.val.ownBlock = none) →
        p.Inv B0 (L.setIfInBounds c.idx true) (a.put (some c.dst) x'.val) w' := by
  unfold Plan.dsts at hnd
  unfold Plan.idxs at hni
  obtain ⟨t1, t2, y1, y2, a1, a2, o1, o2, hne⟩ := h.rows
  have hcm : c ∈ p.C1 := List.mem_of_getElem? hc
  have hslt : s < p.C1.length := (List.getElem?_eq_some_iff.1 hc).1
  have hdm : c.dst ∈ p.C1.map Stg.dst := List.mem_map.2 ⟨c, hcm, rfl⟩
  have him : c.idx ∈ p.C1.map Stg.idx := List.mem_map.2 ⟨c, hcm, rfl⟩
  rw [List.append_assoc, List.nodup_append] at hnd hni
  obtain ⟨_, d2, d3⟩ := hnd
  obtain ⟨_, i2, i3⟩ := hni
  rw [List.nodup_append] at d2 i2
  obtain ⟨dA, dB, d4⟩ := d2
  obtain ⟨iA, iB, i4⟩ := i2
  have hds : c.dst < a.tmps.size := by rw [h.size]; exact hsz _ (List.mem_append.2 (.inl (List.mem_append.2 (.inr hdm))))
  have hil : c.idx < L.size := by
    rcases Nat.lt_or_ge c.idx L.size with h' | h'
    · exact h'
    · simp [Array.getElem?_eq_none h'] at hl
  have hlf : L.getD c.idx false = false := by simpa [hil] using hl
  have hst : t1 ≤ s := by
    have := a1.1 s c hc
    rw [hlf] at this
    have := of_decide_eq_false this.symm
    omega
  obtain rfl : t1 = s := by
    cases s with
    | zero => omega
    | succ s' =>
      have hc' : p.C1[s']? = some p.C1[s'] := List.getElem?_eq_getElem (by omega)
      have h1 := a1.1 s' _ hc'
      rw [hprev s' _ rfl hc'] at h1
      have := of_decide_eq_true h1.symm
      omega
  refine ⟨y1, o1, fun e => ?_, fun s' c' e hc' => ?_, fun x' w' ho hn hz hgr hat => ?_⟩
  · rcases a1.2 with ⟨_, e2⟩ | ⟨s2, c2, e2, _⟩
    · exact e2
    · omega
  · rcases a1.2 with ⟨e2, _⟩ | ⟨s2, c2, e2, hc2, hv, hn, hz⟩
    · omega
    · obtain rfl : s2 = s' := by omega
      rw [hc'] at hc2
      injection hc2 with hc2
      subst hc2
      exact ⟨hv, hn, hz⟩
  · have hlow := h.low
    refine ⟨h.bel.grown hgr hlow (fun g hg => (o1.lt g hg).1), by have := hgr.size; omega, h.dfr, size_put.trans h.size, keep_put h hl (by unfold Plan.pairs; simp only [List.mem_append, List.mem_map]; exact .inl (.inr ⟨c, hcm, rfl⟩)), fun f hf hlf2 => ?_, ?_⟩
    · have hfd : f.dst ≠ c.dst := fun e => d3 _ (List.mem_map.2 ⟨f, hf, rfl⟩) _ (List.mem_append.2 (.inl hdm)) e
      have hfi : f.idx ≠ c.idx := fun e => i3 _ (List.mem_map.2 ⟨f, hf, rfl⟩) _ (List.mem_append.2 (.inl him)) e
      rw [getD_put_ne hfd]
      rw [getD_set_ne false (Ne.symm hfi)] at hlf2
      exact h.fix f hf hlf2
    · have hnew1 : At p.C1 p.x1 (t1 + 1) (L.setIfInBounds c.idx true) (a.put (some c.dst) x'.val) x' := by
        refine ⟨fun s' c' hc' => ?_, .inr ⟨t1, c, rfl, hc, getD_put_eq hds, hn, hz⟩⟩
        by_cases e : s' = t1
        · subst e
          rw [hc] at hc'
          injection hc' with hc'
          subst hc'
          rw [decide_eq_true (by omega)]
          simp [hil]
        · have hne2 : c'.idx ≠ c.idx := fun e2 => e (by
            have l1 := (List.getElem?_eq_some_iff.1 hc').1
            refine (List.getElem_inj (h₀ := by simpa using l1) (h₁ := by simpa using hslt) iA).1 ?_
            simp only [List.getElem_map, (List.getElem?_eq_some_iff.1 hc').2, (List.getElem?_eq_some_iff.1 hc).2, e2])
          rw [getD_set_ne false (Ne.symm hne2), a1.1 s' c' hc']
          congr 1
          exact propext ⟨fun h => by omega, fun h => by omega⟩
      have hother2 := a2.put (v := x'.val) (i := c.idx) (d := c.dst) (fun hm => i4 _ him _ hm rfl) (fun hm => d4 _ hdm _ hm rfl)
      have hkeep : y2.val.ownBlock = none ∨ y2.val.ownBlock ≠ y1.val.ownBlock := by
        rcases hne with e | e
        · cases hy : y2.val.ownBlock with
          | none => exact .inl rfl
          | some g => exact .inr (by rw [e]; simp)
        · exact .inr (Ne.symm e)
      have hlt2 := fun g hg => (o2.lt g hg).2
      have hnew : x'.val.ownBlock = none ∨ x'.val.ownBlock ≠ y2.val.ownBlock := by
        rcases hat with e | e | e
        · rw [e]; exact hne
        · exact .inr (fun e3 => by have := hlt2 _ (e3.symm.trans e); omega)
        · exact .inl e
      exact ⟨t1 + 1, t2, x', y2, hnew1, hother2, ho, o2.kept hgr hkeep, hnew⟩
theorem Plan.Inv.adv2 (h : p.Inv B0 L a w) (hnd : p.dsts.Nodup) (hni : p.idxs.Nodup) (hsz : ∀ d ∈ p.dsts, d < p.a0.tmps.size) {s : Nat} {c : Stg} (hc : p.C2[s]? = some c) (hl : L.getD c.idx true = false)
    (hprev : ∀ s' c', s = s' + 1 → p.C2[s']? = some c' → L.getD c'.idx false = true) :
    ∃ x : Cur, Own B0 p.e p.k w x.A x.n x.c x.zs ∧ (s = 0 → x = p.x2) ∧ (∀ s' c', s = s' + 1 → p.C2[s']? = some c' → a.tmps.getD c'.dst undef = x.val ∧ x.n = c'.n ∧ x.zs = c'.zs) ∧
      ∀ (x' : Cur) (w' : World), Own B0 p.e p.k w' x'.A x'.n x'.c x'.zs → x'.n = c.n → x'.zs = c.zs → w.grownBy w' x.val.ownBlock → (x'.val.ownBlock = x.val.ownBlock ∨ x'.val.ownBlock = some w.heap.size ∨ x'.val.ownBlock = none) →
        p.Inv B0 (L.setIfInBounds c.idx true) (a.put (some c.dst) x'.val) w' := by
  unfold Plan.dsts at hnd
  unfold Plan.idxs at hni
  obtain ⟨t1, t2, y1, y2, a1, a2, o1, o2, hne⟩ := h.rows
  have hcm : c ∈ p.C2 := List.mem_of_getElem? hc
  have hslt : s < p.C2.length := (List.getElem?_eq_some_iff.1 hc).1
  have hdm : c.dst ∈ p.C2.map Stg.dst := List.mem_map.2 ⟨c, hcm, rfl⟩
  have him : c.idx ∈ p.C2.map Stg.idx := List.mem_map.2 ⟨c, hcm, rfl⟩
  rw [List.append_assoc, List.nodup_append] at hnd hni
  obtain ⟨_, d2, d3⟩ := hnd
  obtain ⟨_, i2, i3⟩ := hni
  rw [List.nodup_append] at d2 i2
  obtain ⟨dA, dB, d4⟩ := d2
  obtain ⟨iA, iB, i4⟩ := i2
  have hds : c.dst < a.tmps.size := by rw [h.size]; exact hsz _ (List.mem_append.2 (.inr hdm))
  have hil : c.idx < L.size := by
    rcases Nat.lt_or_ge c.idx L.size with h' | h'
    · exact h'
    · simp [Array.getElem?_eq_none h'] at hl
  have hlf : L.getD c.idx false = false := by simpa [hil] using hl
  have hst : t2 ≤ s := by
    have := a2.1 s c hc
    rw [hlf] at this
    have := of_decide_eq_false this.symm
    omega
  obtain rfl : t2 = s := by
    cases s with
    | zero => omega
    | succ s' =>
      have hc' : p.C2[s']? = some p.C2[s'] := List.getElem?_eq_getElem (by omega)
      have h1 := a2.1 s' _ hc'
      rw [hprev s' _ rfl hc'] at h1
      have := of_decide_eq_true h1.symm
      omega
  refine ⟨y2, o2, fun e => ?_, fun s' c' e hc' => ?_, fun x' w' ho hn hz hgr hat => ?_⟩
  · rcases a2.2 with ⟨_, e2⟩ | ⟨s2, c2, e2, _⟩
    · exact e2
    · omega
  · rcases a2.2 with ⟨e2, _⟩ | ⟨s2, c2, e2, hc2, hv, hn, hz⟩
    · omega
    · obtain rfl : s2 = s' := by omega
      rw [hc'] at hc2
      injection hc2 with hc2
      subst hc2
      exact ⟨hv, hn, hz⟩
  · have hlow := h.low
    refine ⟨h.bel.grown hgr hlow (fun g hg => (o2.lt g hg).1), by have := hgr.size; omega, h.dfr, size_put.trans h.size, keep_put h hl (by unfold Plan.pairs; simp only [List.mem_append, List.mem_map]; exact .inr ⟨c, hcm, rfl⟩), fun f hf hlf2 => ?_, ?_⟩
    · have hfd : f.dst ≠ c.dst := fun e => d3 _ (List.mem_map.2 ⟨f, hf, rfl⟩) _ (List.mem_append.2 (.inr hdm)) e
      have hfi : f.idx ≠ c.idx := fun e => i3 _ (List.mem_map.2 ⟨f, hf, rfl⟩) _ (List.mem_append.2 (.inr him)) e
      rw [getD_put_ne hfd]
      rw [getD_set_ne false (Ne.symm hfi)] at hlf2
      exact h.fix f hf hlf2
    · have hnew2 : At p.C2 p.x2 (t2 + 1) (L.setIfInBounds c.idx true) (a.put (some c.dst) x'.val) x' := by
        refine ⟨fun s' c' hc' => ?_, .inr ⟨t2, c, rfl, hc, getD_put_eq hds, hn, hz⟩⟩
        by_cases e : s' = t2
        · subst e
          rw [hc] at hc'
          injection hc' with hc'
          subst hc'
          rw [decide_eq_true (by omega)]
          simp [hil]
        · have hne2 : c'.idx ≠ c.idx := fun e2 => e (by
            have l1 := (List.getElem?_eq_some_iff.1 hc').1
            refine (List.getElem_inj (h₀ := by simpa using l1) (h₁ := by simpa using hslt) iB).1 ?_
            simp only [List.getElem_map, (List.getElem?_eq_some_iff.1 hc').2, (List.getElem?_eq_some_iff.1 hc).2, e2])
          rw [getD_set_ne false (Ne.symm hne2), a2.1 s' c' hc']
          congr 1
          exact propext ⟨fun h => by omega, fun h => by omega⟩
      have hother1 := a1.put (v := x'.val) (i := c.idx) (d := c.dst) (fun hm => i4 _ hm _ him rfl) (fun hm => d4 _ hm _ hdm rfl)
      have hkeep : y1.val.ownBlock = none ∨ y1.val.ownBlock ≠ y2.val.ownBlock := by
        rcases hne with e | e
        · exact .inl e
        · exact .inr e
      have hlt1 := fun g hg => (o1.lt g hg).2
      have hnew : y1.val.ownBlock = none ∨ y1.val.ownBlock ≠ x'.val.ownBlock := by
        rcases hat with e | e | e
        · rw [e]; exact hne
        · exact .inr (fun e3 => by have := hlt1 _ (e3.trans e); omega)
        · cases hy : y1.val.ownBlock with
          | none => exact .inl rfl
          | some g => exact .inr (by rw [e]; simp)
      exact ⟨t1, t2 + 1, y1, x', hother1, hnew2, o1.kept hgr hkeep, ho, hnew⟩
theorem Plan.Inv.look1 (h : p.Inv B0 L a w) {s : Nat} {c : Stg} (hc : p.C1[s]? = some c) (hlast : s + 1 = p.C1.length) (hl : L.getD c.idx false = true) :
    ∃ x : Cur, Own B0 p.e p.k w x.A x.n x.c x.zs ∧ a.tmps.getD c.dst undef = x.val ∧ x.n = c.n ∧ x.zs = c.zs := by
  obtain ⟨t1, t2, y1, y2, a1, a2, o1, o2, hne⟩ := h.rows
  have h1 := a1.1 s c hc
  rw [hl] at h1
  have h2 := of_decide_eq_true h1.symm
  rcases a1.2 with ⟨e2, _⟩ | ⟨s2, c2, e2, hc2, hv, hn, hz⟩
  · omega
  · have l2 := (List.getElem?_eq_some_iff.1 hc2).1
    obtain rfl : s2 = s := by omega
    rw [hc] at hc2
    injection hc2 with hc2
    subst hc2
    exact ⟨y1, o1, hv, hn, hz⟩
theorem Plan.Inv.look2 (h : p.Inv B0 L a w) {s : Nat} {c : Stg} (hc : p.C2[s]? = some c) (hlast : s + 1 = p.C2.length) (hl : L.getD c.idx false = true) :
    ∃ x : Cur, Own B0 p.e p.k w x.A x.n x.c x.zs ∧ a.tmps.getD c.dst undef = x.val ∧ x.n = c.n ∧ x.zs = c.zs := by
  obtain ⟨t1, t2, y1, y2, a1, a2, o1, o2, hne⟩ := h.rows
  have h1 := a2.1 s c hc
  rw [hl] at h1
  have h2 := of_decide_eq_true h1.symm
  rcases a2.2 with ⟨e2, _⟩ | ⟨s2, c2, e2, hc2, hv, hn, hz⟩
  · omega
  · have l2 := (List.getElem?_eq_some_iff.1 hc2).1
    obtain rfl : s2 = s := by omega
    rw [hc] at hc2
    injection hc2 with hc2
    subst hc2
    exact ⟨y2, o2, hv, hn, hz⟩
end

theorem wpOp_of {P : Program} {ops : Array Oper} {Q : Exit → Act → World → Prop} {i : Nat} {K : Act → World → Prop} {a : Act} {w : World} {o : Oper} (ho : ops[i]? = some o) (hg : o.guard = none) (h : o.wp P a w K Q) : wpOp P ops Q i K a w := by
  unfold wpOp
  rw [ho]
  simp only [Region.wanted, hg, if_true]
  exact .inl h
theorem wp_val {P : Program} {Q : Exit → Act → World → Prop} {K : Act → World → Prop} {a : Act} {w w' : World} {o : Oper} {v : Value} (h : (execOp a.eval o).run P w = .ok (.value v) w') (hK : K (a.put o.dst v) w') : o.wp P a w K Q := by
  unfold Oper.wp; rw [h]; exact hK

def nilC : Cur := ⟨none, 0, 0, []⟩
theorem ne_nilC (x : Cur) : x.val.ownBlock = none ∨ x.val.ownBlock ≠ nilC.val.ownBlock := by
  cases h : x.val.ownBlock with
  | none => exact .inl rfl
  | some g => exact .inr (by simp [Cur.val, nilC, Value.ownBlock])
/-- no slot, and no operation, stands twice; the slots are there -/
def Plan.OK (p : Plan) : Prop := p.dsts.Nodup ∧ p.idxs.Nodup ∧ ∀ d ∈ p.dsts, d < p.a0.tmps.size
theorem Plan.Inv.fx {P : Program} {Q : Exit → Act → World → Prop} {p : Plan} {B0 : Nat} {L : Array Bool} {a : Act} {w : World} (h : p.Inv B0 L a w) (ok : p.OK) (f : Fx) (hf : f ∈ p.F) (hl : L.getD f.idx true = false) {o : Oper} (hdst : o.dst = some f.dst)
    (hrun : (execOp a.eval o).run P w = .ok (.value f.v) w) : o.wp P a w (fun a' w' => p.Inv B0 (L.setIfInBounds f.idx true) a' w') Q := by
  refine wp_val hrun ?_
  rw [hdst]
  exact h.fixed ok.1 ok.2.1 ok.2.2 hf hl

theorem Plan.Inv.new1 {P : Program} {Q : Exit → Act → World → Prop} {p : Plan} {B0 : Nat} {L : Array Bool} {a : Act} {w : World} (h : p.Inv B0 L a w) (ok : p.OK) {c : Stg} (hc : p.C1[0]? = some c) (hl : L.getD c.idx true = false)
    {o : Oper} (hdst : o.dst = some c.dst) {cs : Array Value} {cp : Nat} (hrun : (execOp a.eval o).run P w = .ok (.value (.slice (some ⟨w.heap.size, 0, none⟩) c.n cp)) (w.alloc (.cells cs p.e)))
    (hown : Own B0 p.e p.k (w.alloc (.cells cs p.e)) (some ⟨w.heap.size, 0, none⟩) c.n cp c.zs) : o.wp P a w (fun a' w' => p.Inv B0 (L.setIfInBounds c.idx true) a' w') Q := by
  obtain ⟨x, _, _, _, hgo⟩ := h.adv1 ok.1 ok.2.1 ok.2.2 hc hl (fun s' c' e => by omega)
  refine wp_val hrun ?_
  rw [hdst]
  exact hgo ⟨some ⟨w.heap.size, 0, none⟩, c.n, cp, c.zs⟩ _ hown rfl rfl (grown_of_below ((Below.refl _ _).alloc (Nat.le_refl _) _) _) (.inr (.inl rfl))
theorem Plan.Inv.app1 {P : Program} {Q : Exit → Act → World → Prop} {p : Plan} {B0 : Nat} {L : Array Bool} {a : Act} {w : World} (h : p.Inv B0 L a w) (ok : p.OK) {s : Nat} {c c' : Stg} (hc' : p.C1[s]? = some c') (hc : p.C1[s + 1]? = some c) (hl : L.getD c.idx true = false) (hd : L.getD c'.idx false = true)
    {o : Oper} (hdst : o.dst = some c.dst) {t : TypeId} {y : Operand} (hop : o.op = .call { callee := .builtin .append, args := #[.tmp c'.dst, y], argTypes := #[t, t] }) (he : Elt P t p.e p.k)
    {A' : Option Addr} {m cy : Nat} {ys : List Int} (hy : a.eval y = .slice A' m cy) (hr : Rd p.k w A' m ys) (hn : c.n = c'.n + m) (hz : c.zs = c'.zs ++ ys) (hle : c'.n + m ≤ 1000000000) : o.wp P a w (fun a' w' => p.Inv B0 (L.setIfInBounds c.idx true) a' w') Q := by
  obtain ⟨x, hown, _, hv, hgo⟩ := h.adv1 ok.1 ok.2.1 ok.2.2 hc hl (fun s' c2 e h2 => by
    obtain rfl : s = s' := by omega
    rw [hc'] at h2; injection h2 with h2; subst h2; exact hd)
  obtain ⟨v1, v2, v3⟩ := hv s c' rfl hc'
  rw [v2, v3] at hown
  obtain ⟨A2, c2, w', hrun, h2, h3, h4⟩ := run_app (P := P) he o.type (c' := cy) hown hr hle h.low
  have hs : a.eval (.tmp c'.dst) = .slice x.A c'.n x.c := by rw [← v2]; exact v1
  have hrun2 : (execOp a.eval o).run P w = .ok (.value (.slice A2 c.n c2)) w' := by
    unfold execOp
    simp only [hop, resolve, invoke, builtin, Sem.run_bind, Sem.run_pure, Result.andThen_ok, List.map_toArray, List.map_cons, List.map_nil, hs, hy, hrun, hn]
  refine wp_val hrun2 ?_
  rw [hdst]
  have hx : x.val.ownBlock = (Value.slice x.A c'.n x.c).ownBlock := by rw [← v2]; rfl
  refine hgo ⟨A2, c.n, c2, c.zs⟩ w' (by simp only [hn, hz]; exact h2) rfl rfl (by rw [hx]; exact h3) ?_
  rcases h4 with h4 | h4
  · exact .inl (by rw [hx, ← h4, ← hn]; rfl)
  · exact .inr (.inl (by rw [← h4, ← hn]; rfl))
theorem Plan.Inv.appz1 {P : Program} {Q : Exit → Act → World → Prop} {p : Plan} {B0 : Nat} {L : Array Bool} {a : Act} {w : World} (h : p.Inv B0 L a w) (ok : p.OK) {c : Stg} (hc : p.C1[0]? = some c) (hl : L.getD c.idx true = false)
    {o : Oper} (hdst : o.dst = some c.dst) {t : TypeId} {y y0 : Operand} (hop : o.op = .call { callee := .builtin .append, args := #[y0, y], argTypes := #[t, t] }) (he : Elt P t p.e p.k) (hy0 : a.eval y0 = p.x1.val)
    {A' : Option Addr} {m cy : Nat} {ys : List Int} (hy : a.eval y = .slice A' m cy) (hr : Rd p.k w A' m ys) (hn : c.n = p.x1.n + m) (hz : c.zs = p.x1.zs ++ ys) (hle : p.x1.n + m ≤ 1000000000) : o.wp P a w (fun a' w' => p.Inv B0 (L.setIfInBounds c.idx true) a' w') Q := by
  obtain ⟨x, hown, hx0, _, hgo⟩ := h.adv1 ok.1 ok.2.1 ok.2.2 hc hl (fun s' c2 e h2 => by omega)
  obtain rfl := hx0 rfl
  obtain ⟨A2, c2, w', hrun, h2, h3, h4⟩ := run_app (P := P) he o.type (c' := cy) hown hr hle h.low
  have hs : a.eval y0 = .slice p.x1.A p.x1.n p.x1.c := hy0
  have hrun2 : (execOp a.eval o).run P w = .ok (.value (.slice A2 c.n c2)) w' := by
    unfold execOp
    simp only [hop, resolve, invoke, builtin, Sem.run_bind, Sem.run_pure, Result.andThen_ok, List.map_toArray, List.map_cons, List.map_nil, hs, hy, hrun, hn]
  refine wp_val hrun2 ?_
  rw [hdst]
  refine hgo ⟨A2, c.n, c2, c.zs⟩ w' (by simp only [hn, hz]; exact h2) rfl rfl h3 ?_
  rcases h4 with h4 | h4
  · exact .inl (by rw [← hn] at h4; exact h4)
  · exact .inr (.inl (by rw [← hn] at h4; exact h4))
theorem Plan.Inv.cpy1 {P : Program} {Q : Exit → Act → World → Prop} {p : Plan} {B0 : Nat} {L : Array Bool} {a : Act} {w : World} (h : p.Inv B0 L a w) (ok : p.OK) {s : Nat} {c c' : Stg} (hc' : p.C1[s]? = some c') (hc : p.C1[s + 1]? = some c) (hl : L.getD c.idx true = false) (hd : L.getD c'.idx false = true)
    {o : Oper} (hdst : o.dst = some c.dst) (hop : o.op = .assign (.tmp c'.dst)) (hn : c.n = c'.n) (hz : c.zs = c'.zs) : o.wp P a w (fun a' w' => p.Inv B0 (L.setIfInBounds c.idx true) a' w') Q := by
  obtain ⟨x, hown, _, hv, hgo⟩ := h.adv1 ok.1 ok.2.1 ok.2.2 hc hl (fun s' c2 e h2 => by
    obtain rfl : s = s' := by omega
    rw [hc'] at h2; injection h2 with h2; subst h2; exact hd)
  obtain ⟨v1, v2, v3⟩ := hv s c' rfl hc'
  have hs : a.eval (.tmp c'.dst) = x.val := v1
  have hrun2 : (execOp a.eval o).run P w = .ok (.value x.val) w := by
    unfold execOp
    simp only [hop, hs]; rfl
  refine wp_val hrun2 ?_
  rw [hdst]
  exact hgo x w hown (by rw [v2, hn]) (by rw [v3, hz]) (World.grownBy.refl _ _) (.inl rfl)

theorem Plan.Inv.new2 {P : Program} {Q : Exit → Act → World → Prop} {p : Plan} {B0 : Nat} {L : Array Bool} {a : Act} {w : World} (h : p.Inv B0 L a w) (ok : p.OK) {c : Stg} (hc : p.C2[0]? = some c) (hl : L.getD c.idx true = false)
    {o : Oper} (hdst : o.dst = some c.dst) {cs : Array Value} {cp : Nat} (hrun : (execOp a.eval o).run P w = .ok (.value (.slice (some ⟨w.heap.size, 0, none⟩) c.n cp)) (w.alloc (.cells cs p.e)))
    (hown : Own B0 p.e p.k (w.alloc (.cells cs p.e)) (some ⟨w.heap.size, 0, none⟩) c.n cp c.zs) : o.wp P a w (fun a' w' => p.Inv B0 (L.setIfInBounds c.idx true) a' w') Q := by
  obtain ⟨x, _, _, _, hgo⟩ := h.adv2 ok.1 ok.2.1 ok.2.2 hc hl (fun s' c' e => by omega)
  refine wp_val hrun ?_
  rw [hdst]
  exact hgo ⟨some ⟨w.heap.size, 0, none⟩, c.n, cp, c.zs⟩ _ hown rfl rfl (grown_of_below ((Below.refl _ _).alloc (Nat.le_refl _) _) _) (.inr (.inl rfl))
theorem Plan.Inv.app2 {P : Program} {Q : Exit → Act → World → Prop} {p : Plan} {B0 : Nat} {L : Array Bool} {a : Act} {w : World} (h : p.Inv B0 L a w) (ok : p.OK) {s : Nat} {c c' : Stg} (hc' : p.C2[s]? = some c') (hc : p.C2[s + 1]? = some c) (hl : L.getD c.idx true = false) (hd : L.getD c'.idx false = true)
    {o : Oper} (hdst : o.dst = some c.dst) {t : TypeId} {y : Operand} (hop : o.op = .call { callee := .builtin .append, args := #[.tmp c'.dst, y], argTypes := #[t, t] }) (he : Elt P t p.e p.k)
    {A' : Option Addr} {m cy : Nat} {ys : List Int} (hy : a.eval y = .slice A' m cy) (hr : Rd p.k w A' m ys) (hn : c.n = c'.n + m) (hz : c.zs = c'.zs ++ ys) (hle : c'.n + m ≤ 1000000000) : o.wp P a w (fun a' w' => p.Inv B0 (L.setIfInBounds c.idx true) a' w') Q := by
  obtain ⟨x, hown, _, hv, hgo⟩ := h.adv2 ok.1 ok.2.1 ok.2.2 hc hl (fun s' c2 e h2 => by
    obtain rfl : s = s' := by omega
    rw [hc'] at h2; injection h2 with h2; subst h2; exact hd)
  obtain ⟨v1, v2, v3⟩ := hv s c' rfl hc'
  rw [v2, v3] at hown
  obtain ⟨A2, c2, w', hrun, h2, h3, h4⟩ := run_app (P := P) he o.type (c' := cy) hown hr hle h.low
  have hs : a.eval (.tmp c'.dst) = .slice x.A c'.n x.c := by rw [← v2]; exact v1
  have hrun2 : (execOp a.eval o).run P w = .ok (.value (.slice A2 c.n c2)) w' := by
    unfold execOp
    simp only [hop, resolve, invoke, builtin, Sem.run_bind, Sem.run_pure, Result.andThen_ok, List.map_toArray, List.map_cons, List.map_nil, hs, hy, hrun, hn]
  refine wp_val hrun2 ?_
  rw [hdst]
  have hx : x.val.ownBlock = (Value.slice x.A c'.n x.c).ownBlock := by rw [← v2]; rfl
  refine hgo ⟨A2, c.n, c2, c.zs⟩ w' (by simp only [hn, hz]; exact h2) rfl rfl (by rw [hx]; exact h3) ?_
  rcases h4 with h4 | h4
  · exact .inl (by rw [hx, ← h4, ← hn]; rfl)
  · exact .inr (.inl (by rw [← h4, ← hn]; rfl))
theorem Plan.Inv.appz2 {P : Program} {Q : Exit → Act → World → Prop} {p : Plan} {B0 : Nat} {L : Array Bool} {a : Act} {w : World} (h : p.Inv B0 L a w) (ok : p.OK) {c : Stg} (hc : p.C2[0]? = some c) (hl : L.getD c.idx true = false)
    {o : Oper} (hdst : o.dst = some c.dst) {t : TypeId} {y y0 : Operand} (hop : o.op = .call { callee := .builtin .append, args := #[y0, y], argTypes := #[t, t] }) (he : Elt P t p.e p.k) (hy0 : a.eval y0 = p.x2.val)
    {A' : Option Addr} {m cy : Nat} {ys : List Int} (hy : a.eval y = .slice A' m cy) (hr : Rd p.k w A' m ys) (hn : c.n = p.x2.n + m) (hz : c.zs = p.x2.zs ++ ys) (hle : p.x2.n + m ≤ 1000000000) : o.wp P a w (fun a' w' => p.Inv B0 (L.setIfInBounds c.idx true) a' w') Q := by
  obtain ⟨x, hown, hx0, _, hgo⟩ := h.adv2 ok.1 ok.2.1 ok.2.2 hc hl (fun s' c2 e h2 => by omega)
  obtain rfl := hx0 rfl
  obtain ⟨A2, c2, w', hrun, h2, h3, h4⟩ := run_app (P := P) he o.type (c' := cy) hown hr hle h.low
  have hs : a.eval y0 = .slice p.x2.A p.x2.n p.x2.c := hy0
  have hrun2 : (execOp a.eval o).run P w = .ok (.value (.slice A2 c.n c2)) w' := by
    unfold execOp
    simp only [hop, resolve, invoke, builtin, Sem.run_bind, Sem.run_pure, Result.andThen_ok, List.map_toArray, List.map_cons, List.map_nil, hs, hy, hrun, hn]
  refine wp_val hrun2 ?_
  rw [hdst]
  refine hgo ⟨A2, c.n, c2, c.zs⟩ w' (by simp only [hn, hz]; exact h2) rfl rfl h3 ?_
  rcases h4 with h4 | h4
  · exact .inl (by rw [← hn] at h4; exact h4)
  · exact .inr (.inl (by rw [← hn] at h4; exact h4))
theorem Plan.Inv.cpy2 {P : Program} {Q : Exit → Act → World → Prop} {p : Plan} {B0 : Nat} {L : Array Bool} {a : Act} {w : World} (h : p.Inv B0 L a w) (ok : p.OK) {s : Nat} {c c' : Stg} (hc' : p.C2[s]? = some c') (hc : p.C2[s + 1]? = some c) (hl : L.getD c.idx true = false) (hd : L.getD c'.idx false = true)
    {o : Oper} (hdst : o.dst = some c.dst) (hop : o.op = .assign (.tmp c'.dst)) (hn : c.n = c'.n) (hz : c.zs = c'.zs) : o.wp P a w (fun a' w' => p.Inv B0 (L.setIfInBounds c.idx true) a' w') Q := by
  obtain ⟨x, hown, _, hv, hgo⟩ := h.adv2 ok.1 ok.2.1 ok.2.2 hc hl (fun s' c2 e h2 => by
    obtain rfl : s = s' := by omega
    rw [hc'] at h2; injection h2 with h2; subst h2; exact hd)
  obtain ⟨v1, v2, v3⟩ := hv s c' rfl hc'
  have hs : a.eval (.tmp c'.dst) = x.val := v1
  have hrun2 : (execOp a.eval o).run P w = .ok (.value x.val) w := by
    unfold execOp
    simp only [hop, hs]; rfl
  refine wp_val hrun2 ?_
  rw [hdst]
  exact hgo x w hown (by rw [v2, hn]) (by rw [v3, hz]) (World.grownBy.refl _ _) (.inl rfl)

theorem act_ext {a b : Act} (h1 : a.tmps.size = b.tmps.size) (h2 : a.defers = b.defers) (h3 : ∀ t, a.tmps.getD t undef = b.tmps.getD t undef) : a = b := by
  cases a with | mk t1 d1 =>
  cases b with | mk t2 d2 =>
  simp only at h1 h2 h3
  subst h2
  congr 1
  refine Array.ext h1 fun i hi1 hi2 => ?_
  have := h3 i
  simpa [hi1, hi2] using this
/-- the frame behind all: what it was, and what stands in the slots -/
theorem act_puts {a a0 : Act} {ds : List Nat} (hs : a.tmps.size = a0.tmps.size) (hd : a.defers = a0.defers) (hk : ∀ t, t ∉ ds → a.tmps.getD t undef = a0.tmps.getD t undef) :
    a = ds.foldl (fun b d => b.put (some d) (a.tmps.getD d undef)) a0 := by
  have key : ∀ (ds : List Nat) (b : Act), b.tmps.size = a.tmps.size → b.defers = a.defers →
      (ds.foldl (fun b d => b.put (some d) (a.tmps.getD d undef)) b).tmps.size = a.tmps.size ∧ (ds.foldl (fun b d => b.put (some d) (a.tmps.getD d undef)) b).defers = a.defers ∧
      ∀ t, (ds.foldl (fun b d => b.put (some d) (a.tmps.getD d undef)) b).tmps.getD t undef = if t ∈ ds then a.tmps.getD t undef else b.tmps.getD t undef := by
    intro ds
    induction ds with
    | nil => intro b h1 h2; exact ⟨h1, h2, fun t => by simp⟩
    | cons d ds ih =>
      intro b h1 h2
      obtain ⟨i1, i2, i3⟩ := ih (b.put (some d) (a.tmps.getD d undef)) (size_put.trans h1) h2
      refine ⟨i1, i2, fun t => ?_⟩
      rw [List.foldl_cons, i3 t]
      by_cases h3 : t ∈ ds
      · rw [if_pos h3, if_pos (List.mem_cons_of_mem _ h3)]
      · rw [if_neg h3]
        by_cases h4 : t = d
        · subst h4
          rw [if_pos (by simp)]
          rcases Nat.lt_or_ge t b.tmps.size with h5 | h5
          · exact getD_put_eq h5
          · have h6 : a.tmps.size ≤ t := by omega
            simp [Act.put, Array.getElem?_eq_none h6]
        · rw [getD_put_ne h4, if_neg (by simp [h3, h4])]
  obtain ⟨k1, k2, k3⟩ := key ds a0 hs.symm hd.symm
  refine act_ext k1.symm k2.symm fun t => ?_
  rw [k3 t]
  split
  · rfl
  · rename_i h; exact hk t h
end Go.Proofs.Ytaojjneajiobnaa

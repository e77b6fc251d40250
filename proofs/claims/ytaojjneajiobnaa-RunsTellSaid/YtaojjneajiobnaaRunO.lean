/-
  A rule for a region that draws its order: what is read is fixed, one row is made, and the last two operations are an append and a store.
-/
import Derived.Test.YtaojjneajiobnaaRunN
namespace Go.Proofs.Ytaojjneajiobnaa
open Go.RowKit Go.Maps

section
variable {P : Program} {Q : Exit → Act → World → Prop}
theorem wpAny_region_inv {l : List Oper} {a : Act} {w : World} (I : Array Bool → Act → World → Prop)
    (h0 : I (Array.replicate l.toArray.size false) a w)
    (hstep : ∀ (L : Array Bool) (a : Act) (w : World) (i : Nat) (o : Oper), L.size = l.toArray.size → Closed .any l.toArray L → I L a w → l.toArray[i]? = some o → L.getD i true = false → (∀ e ∈ o.after, Region.binds .any e = true → L.getD e.on false = true) →
      wpOp P l.toArray Q i (fun a' w' => I (L.setIfInBounds i true) a' w') a w)
    (hend : ∀ (L : Array Bool) (a : Act) (w : World), L.size = l.toArray.size → I L a w → (∀ i, i < l.toArray.size → L.getD i false = true) → Q .normal a w)
    (hacyc : ∀ (i : Nat) (o : Oper), l.toArray[i]? = some o → ∀ e ∈ o.after, e.on < i) : wpAny P .any l.toArray Q l.toArray.size (Array.replicate l.toArray.size false) a w := by
  refine wpAny_inv (fun L a w => Closed .any l.toArray L ∧ I L a w) ?_ (fun L a w hs h hd => hend L a w hs h.2 hd) hacyc _ _ _ _ (by simp) (by simp) ⟨?_, h0⟩
  · intro L a w i o hs hI ho hl hdep
    exact wpOp_mono (fun a' w' h => ⟨hI.1.next ho hdep, h⟩) (hstep L a w i o hs hI.1 hI.2 ho hl hdep)
  · intro j oj hoj hd
    have hj : j < (Array.replicate l.toArray.size false).size := by have := (Array.getElem?_eq_some_iff.1 hoj).1; simpa using this
    have : (Array.replicate l.toArray.size false).getD j false = false := by rw [Array.getD, dif_pos hj]; simp
    rw [hd] at this; cases this
theorem wpAny_region_call {l : List Oper} {a : Act} {w : World} (n : Nat) (hlen : l.toArray.size = n + 2) (I0 : Array Bool → Act → World → Prop) (J : Act → World → Prop)
    (h0 : I0 (Array.replicate l.toArray.size false) a w)
    (hfix : ∀ (L : Array Bool) (a : Act) (w : World) (i : Nat) (o : Oper), i < n → L.size = l.toArray.size → I0 L a w → l.toArray[i]? = some o → L.getD i true = false → (∀ e ∈ o.after, Region.binds .any e = true → L.getD e.on false = true) →
      wpOp P l.toArray Q i (fun a' w' => I0 (L.setIfInBounds i true) a' w') a w)
    (hcall : ∀ (L : Array Bool) (a : Act) (w : World), I0 L a w → (∀ i, i < n → L.getD i false = true) → wpOp P l.toArray Q n J a w)
    (hstore : ∀ (a : Act) (w : World), J a w → wpOp P l.toArray Q (n + 1) (fun a' w' => Q .normal a' w') a w)
    (hcov : covB l.toArray n = true) (hdep : ∀ o, l.toArray[n + 1]? = some o → ∃ e ∈ o.after, Region.binds .any e = true ∧ e.on = n)
    (hacyc : ∀ (i : Nat) (o : Oper), l.toArray[i]? = some o → ∀ e ∈ o.after, e.on < i) : wpAny P .any l.toArray Q l.toArray.size (Array.replicate l.toArray.size false) a w := by
  refine wpAny_region_inv (fun L a w => (L.getD n false = false ∧ L.getD (n + 1) false = false ∧ I0 L a w) ∨ (L.getD n false = true ∧ L.getD (n + 1) false = false ∧ J a w) ∨ (L.getD (n + 1) false = true ∧ Q .normal a w)) ?_ ?_ ?_ hacyc
  · left
    exact ⟨rep_false _ _, rep_false _ _, h0⟩
  · intro L a w i o hs hcl hI ho hl hd
    have hi : i < n + 2 := by rw [← hlen]; exact (Array.getElem?_eq_some_iff.1 ho).1
    have hil : i < L.size := by omega
    have hlf : L.getD i false = false := by simpa [hil] using hl
    have hall : L.getD n false = true → ∀ i, i < n → L.getD i false = true := fun hn i hi => cov_all hcov hcl (fun o ho e he hb => hcl n o ho hn e he hb) _ i rfl hi
    have hlast : L.getD (n + 1) false = true → L.getD n false = true := fun h => by
      obtain ⟨o', ho'⟩ : ∃ o', l.toArray[n + 1]? = some o' := ⟨_, Array.getElem?_eq_getElem (by omega)⟩
      obtain ⟨e, he, hb, hon⟩ := hdep o' ho'
      rw [← hon]; exact hcl _ _ ho' h e he hb
    rcases Nat.lt_or_ge i n with h1 | h1
    · rcases hI with ⟨g1, g2, g3⟩ | ⟨g1, _⟩ | ⟨g1, _⟩
      · refine wpOp_mono (fun a' w' h => .inl ⟨?_, ?_, h⟩) (hfix L a w i o h1 hs g3 ho hl hd)
        · rw [getD_set_ne false (by omega)]; exact g1
        · rw [getD_set_ne false (by omega)]; exact g2
      · have := hall g1 i h1; rw [hlf] at this; cases this
      · have := hall (hlast g1) i h1; rw [hlf] at this; cases this
    · rcases Nat.lt_or_ge i (n + 1) with h2 | h2
      · obtain rfl : i = n := by omega
        rcases hI with ⟨g1, g2, g3⟩ | ⟨g1, _⟩ | ⟨g1, _⟩
        · refine wpOp_mono (fun a' w' h => .inr (.inl ⟨?_, ?_, h⟩)) (hcall L a w g3 (fun j hj => cov_all hcov hcl (fun o' ho' e he hb => by rw [ho] at ho'; injection ho' with ho'; subst ho'; exact hd e he hb) _ j rfl hj))
          · simp [hil]
          · rw [getD_set_ne false (by omega)]; exact g2
        · rw [hlf] at g1; cases g1
        · have := hlast g1; rw [hlf] at this; cases this
      · obtain rfl : i = n + 1 := by omega
        rcases hI with ⟨g1, _⟩ | ⟨_, _, g3⟩ | ⟨g1, _⟩
        · obtain ⟨e, he, hb, hon⟩ := hdep o ho
          have := hd e he hb
          rw [hon, g1] at this; cases this
        · exact wpOp_mono (fun a' w' h => .inr (.inr ⟨by simp [hil], h⟩)) (hstore a w g3)
        · rw [hlf] at g1; cases g1
  · intro L a w hs hI hall
    rcases hI with ⟨_, g, _⟩ | ⟨_, g, _⟩ | ⟨_, g⟩
    · rw [hall (n + 1) (by omega)] at g; cases g
    · rw [hall (n + 1) (by omega)] at g; cases g
    · exact g
theorem wp_enter_ {K : Act → World → Prop} {a : Act} {w : World} {o : Oper} {f : FuncId} {args : Array Value} (h : (execOp a.eval o).run P w = .ok (.enter f args) w) (hc : Calls P f args w (fun e w' => ∃ v, e = .returned v ∧ K (a.put o.dst v) w')) : o.wp P a w K Q := by
  unfold Oper.wp
  rw [h, Oper.upon_enter]
  refine hc.mono ?_
  rintro e w' ⟨v, rfl, hK⟩
  exact hK
end
theorem wp_skip_ {P : Program} {Q : Exit → Act → World → Prop} {K : Act → World → Prop} {a : Act} {w w' : World} {o : Oper} (h : (execOp a.eval o).run P w = .ok .skip w') (hK : K (a.put o.dst undef) w') : o.wp P a w K Q := by
  unfold Oper.wp
  rw [h]
  exact hK
theorem KeepsFrom.of_below {B : Nat} {W W' : World} (h : Below W.heap.size W W') : KeepsFrom B W W' := ⟨h.size, fun i _ _ hi _ => (h.block i (Array.getElem?_eq_some_iff.1 hi).1).trans hi⟩
theorem own_cells {B size n : Nat} {e : TypeId} {w : World} {v : Value} {ys : List Value} (h : w.ownsRow B e size v n ys) : ∀ (j : Nat) (o : Obj), v.ownBlock = some j → w.heap[j]? = some o → o.isCells = true := by
  intro j o hj ho
  obtain ⟨c, hc⟩ := own_kind h j hj
  rw [hc] at ho
  injection ho with ho
  subst ho
  rfl
/-- the slots of T are the region's; each operation of F that is done has left its value -/
structure FixI (F : List Fx) (T : List Nat) (a0 : Act) (L : Array Bool) (a : Act) : Prop where
  size : a.tmps.size = a0.tmps.size
  dfr : a.defers = a0.defers
  keep : ∀ t, t ∉ T → a.tmps.getD t undef = a0.tmps.getD t undef
  fix : ∀ f ∈ F, L.getD f.idx false = true → a.tmps.getD f.dst undef = f.v
section
variable {F : List Fx} {T : List Nat} {a0 a : Act} {L : Array Bool}
theorem FixI.start (m : Nat) : FixI F T a0 (Array.replicate m false) a0 :=
  ⟨rfl, rfl, fun _ _ => rfl, fun f _ h => absurd ((rep_false _ _).symm.trans h) (by decide)⟩
theorem FixI.put (h : FixI F T a0 L a) {i d : Nat} {v : Value} (hd : d ∈ T) (hs : d < a0.tmps.size) (h1 : ∀ f ∈ F, f.idx = i → f.dst = d ∧ f.v = v) (h2 : ∀ f ∈ F, f.idx ≠ i → f.dst ≠ d) : FixI F T a0 (L.setIfInBounds i true) (a.put (some d) v) := by
  refine ⟨by rw [size_put]; exact h.size, h.dfr, fun t ht => ?_, fun f hf hl => ?_⟩
  · rw [getD_put_ne (fun e => ht (by rw [e]; exact hd))]; exact h.keep t ht
  · by_cases e : f.idx = i
    · obtain ⟨e1, e2⟩ := h1 f hf e
      rw [e1, e2]
      exact getD_put_eq (by rw [h.size]; exact hs)
    · rw [getD_put_ne (h2 f hf e)]
      rw [getD_set_ne false (Ne.symm e)] at hl
      exact h.fix f hf hl
theorem FixI.fx (h : FixI F T a0 L a) (hn : (F.map Fx.idx).Nodup) (hm : (F.map Fx.dst).Nodup) (hT : ∀ d ∈ F.map Fx.dst, d ∈ T) (hs : ∀ d ∈ T, d < a0.tmps.size) (f : Fx) (hf : f ∈ F) : FixI F T a0 (L.setIfInBounds f.idx true) (a.put (some f.dst) f.v) := by
  have hinj : ∀ {α : Type} (g : Fx → α) (l : List Fx), (l.map g).Nodup → ∀ x ∈ l, ∀ y ∈ l, g x = g y → x = y := by
    intro α g l
    induction l with
    | nil => intro _ x hx; cases hx
    | cons z l ih =>
      intro hnd x hx y hy hxy
      rw [List.map_cons, List.nodup_cons] at hnd
      rcases List.mem_cons.1 hx with h1 | h1
      · rcases List.mem_cons.1 hy with h2 | h2
        · exact h1.trans h2.symm
        · exact absurd (List.mem_map.2 ⟨y, h2, (hxy.symm.trans (by rw [h1]))⟩) hnd.1
      · rcases List.mem_cons.1 hy with h2 | h2
        · exact absurd (List.mem_map.2 ⟨x, h1, (hxy.trans (by rw [h2]))⟩) hnd.1
        · exact ih hnd.2 x h1 y h2 hxy
  have hd := hT f.dst (List.mem_map.2 ⟨f, hf, rfl⟩)
  refine h.put hd (hs _ hd) (fun f' hf' e => ?_) (fun f' hf' e he => e ?_)
  · obtain rfl := hinj Fx.idx F hn f' hf' f hf e
    exact ⟨rfl, rfl⟩
  · obtain rfl := hinj Fx.dst F hm f' hf' f hf he
    rfl
end

theorem own_cap {B : Nat} {e : TypeId} {k : IntKind} {w : World} {A : Option Addr} {n c : Nat} {zs : List Int} (h : Own B e k w A n c zs) : n ≤ c := by
  rcases h.1.2 with ⟨hv, h0⟩ | ⟨g, cap, cur, hv, _, _, hc, _⟩
  · omega
  · injection hv with _ _ hv
    omega
theorem rd_part {k : IntKind} {w : World} {b o n : Nat} {zs : List Int} (h : Rd k w (some ⟨b, o, none⟩) n zs) {i j : Nat} (hij : i ≤ j) (hj : j ≤ n) : Rd k w (some ⟨b, o + i, none⟩) (j - i) ((zs.take j).drop i) := by
  have hl := h.len
  refine ⟨by rw [List.length_drop, List.length_take]; omega, by have := h.max; omega, fun hn => ?_⟩
  obtain ⟨b', o', hA, hb, hc⟩ := h.2.2 (by omega)
  injection hA with hA
  injection hA with h1 h2
  subst h1; subst h2
  refine ⟨b, o + i, rfl, hb, fun t ht => ?_⟩
  rw [show o + i + t = o + (i + t) by omega, hc (i + t) (by omega)]
  simp only [List.getD, List.getElem?_drop]
  rw [List.getElem?_take_of_lt (by omega)]
theorem Sq.ob_kept {B : Nat} {w w' : World} {xs : List QV} {ob cap i : Nat} {x : QV} (h : Sq B w (.slice (some ⟨ob, 0, none⟩) xs.length cap) xs) (hx : xs[i]? = some x) (hg : w.grownBy w' x.sl.ownBlock) (j : Nat) :
    w'.cell? ⟨ob, j, none⟩ = w.cell? ⟨ob, j, none⟩ ∧ w'.frozen? ⟨ob, j, none⟩ = w.frozen? ⟨ob, j, none⟩ := by
  have hob : some ob ≠ x.sl.ownBlock := fun e => by
    rcases row_apart (h.own i x hx).1 h.row (by decide) with h1 | h1
    · rw [show x.sl.ownBlock = none from h1] at e; cases e
    · exact h1 e.symm
  have hb := hg.block ob (h.lt ob rfl).2 hob
  exact ⟨World.cell?_of_block hb, World.frozen?_of_block hb⟩
theorem stepQ_ps {lv kp own m : List Int} {base : Int} {s : QS} {a b : Nat} (hab : a ≤ b) (h : ∀ q ∈ s.out, q.ps.length ≤ a) : ∀ q ∈ (stepQ lv kp own m base s a b).out, q.ps.length ≤ b := by
  intro q hq
  unfold stepQ at hq
  simp only at hq
  have h1 : ∀ q ∈ (if (s.goes (kp.getD a 0).toNat).isSome then s.out else s.out ++ [newR lv kp base a (kp.getD a 0).toNat]), q.ps.length ≤ a := by
    intro q hq
    split at hq
    · exact h q hq
    · rcases List.mem_append.1 hq with hq | hq
      · exact h q hq
      · rw [List.mem_singleton.1 hq]; exact Nat.zero_le _
  have h2 : ∀ (l : List QR), (∀ q ∈ l, q.ps.length ≤ a) → ∀ i, (l.getD i nilR).ps.length ≤ a := by
    intro l hl i
    cases hx : l[i]? with
    | none => rw [List.getD, hx]; exact Nat.zero_le _
    | some y => rw [List.getD, hx]; exact hl y (List.mem_of_getElem? hx)
  rcases List.mem_or_eq_of_mem_set hq with hq | rfl
  · have := h1 q hq; omega
  · have := h2 _ h1 ((s.goes (kp.getD a 0).toNat).getD s.out.length)
    unfold onR
    simp only [List.length_append, List.length_drop, List.length_take]
    omega
theorem runTo_ge (f : Nat → Int) (n a : Nat) : ∀ m t, t ≤ runTo f n a m t
  | 0, t => Nat.le_refl _
  | m + 1, t => by
    rw [runTo]
    split
    · have := runTo_ge f n a m (t + 1); omega
    · exact Nat.le_refl _
theorem cut_lt (f : Nat → Int) (n k : Nat) : cut f n k < cut f n (k + 1) := by
  show cut f n k < runEnd f n (cut f n k)
  have := runTo_ge f n (cut f n k) (n - (cut f n k + 1)) (cut f n k + 1)
  unfold runEnd; omega
theorem cut_ge (f : Nat → Int) (n : Nat) : ∀ k, k ≤ cut f n k
  | 0 => Nat.zero_le _
  | k + 1 => by have := cut_ge f n k; have := cut_lt f n k; omega
theorem stepQ_len (lv kp own m : List Int) (base : Int) (s : QS) (a b : Nat) : (stepQ lv kp own m base s a b).out.length ≤ s.out.length + 1 := by
  unfold stepQ
  simp only [List.length_set]
  split
  · omega
  · simp
theorem sqSt_len (lv kp own m : List Int) (base : Int) : ∀ k, (sqSt lv kp own m base k).out.length ≤ k
  | 0 => Nat.le_refl _
  | k + 1 => by
    have h1 := sqSt_len lv kp own m base k
    have h2 := stepQ_len lv kp own m base (sqSt lv kp own m base k) (cut (lvAt lv kp) kp.length k) (cut (lvAt lv kp) kp.length (k + 1))
    show (stepQ _ _ _ _ _ _ _ _).out.length ≤ k + 1
    omega
theorem sqSt_ps (lv kp own m : List Int) (base : Int) : ∀ k, ∀ q ∈ (sqSt lv kp own m base k).out, q.ps.length ≤ cut (lvAt lv kp) kp.length k
  | 0 => fun q hq => by cases hq
  | k + 1 => stepQ_ps (Nat.le_of_lt (cut_lt _ _ _)) (sqSt_ps lv kp own m base k)
theorem stepQ_lv {lv kp own m : List Int} {base : Int} {s : QS} {a b : Nat} (hl : ∀ x ∈ lv, 0 ≤ x ∧ x ≤ 125) (h : ∀ q ∈ s.out, 0 ≤ q.lv ∧ q.lv ≤ 125) : ∀ q ∈ (stepQ lv kp own m base s a b).out, 0 ≤ q.lv ∧ q.lv ≤ 125 := by
  intro q hq
  unfold stepQ at hq
  simp only at hq
  have h1 : ∀ q ∈ (if (s.goes (kp.getD a 0).toNat).isSome then s.out else s.out ++ [newR lv kp base a (kp.getD a 0).toNat]), 0 ≤ q.lv ∧ q.lv ≤ 125 := by
    intro q hq
    split at hq
    · exact h q hq
    · rcases List.mem_append.1 hq with hq | hq
      · exact h q hq
      · rw [List.mem_singleton.1 hq]
        unfold newR
        generalize (kp.getD a 0).toNat = i
        simp only
        cases hx : lv[i]? with
        | none => rw [List.getD, hx]; exact ⟨by decide, by decide⟩
        | some y => rw [List.getD, hx]; exact hl y (List.mem_of_getElem? hx)
  rcases List.mem_or_eq_of_mem_set hq with hq | rfl
  · exact h1 q hq
  · unfold onR
    simp only
    generalize (s.goes (kp.getD a 0).toNat).getD s.out.length = i
    generalize (if (s.goes (kp.getD a 0).toNat).isSome then s.out else s.out ++ [newR lv kp base a (kp.getD a 0).toNat]) = l at *
    cases hx : l[i]? with
    | none => rw [List.getD, hx]; exact ⟨by decide, by decide⟩
    | some y => rw [List.getD, hx]; exact h1 y (List.mem_of_getElem? hx)
theorem sqSt_lv {lv : List Int} (kp own m : List Int) (base : Int) (hl : ∀ x ∈ lv, 0 ≤ x ∧ x ≤ 125) : ∀ k, ∀ q ∈ (sqSt lv kp own m base k).out, 0 ≤ q.lv ∧ q.lv ≤ 125
  | 0 => fun q hq => by cases hq
  | k + 1 => stepQ_lv hl (sqSt_lv kp own m base hl k)
theorem RInv.own {w0 W : World} {bx mb k : Nat} {v : Value} {xs : List QV} {g : Nat → Option Nat} {B : Nat} {e : TypeId} {kd : IntKind} {A : Option Addr} {n c : Nat} {zs : List Int} (h : RInv w0 bx mb k v xs g W) (ho : Own B e kd w0 A n c zs) (h1 : (Value.slice A n c).ownBlock ≠ some bx) (h2 : (Value.slice A n c).ownBlock ≠ some mb) : Own B e kd W A n c zs :=
  ⟨own_keep ho.1 fun i hi => h.low i (ho.1.lt i hi).2 (fun e => h1 (by rw [hi, e])) (fun e => h2 (by rw [hi, e])), ho.2⟩
theorem own_mono {w : World} {B B' size n : Nat} {e : TypeId} {v : Value} {ys : List Value} (h : w.ownsRow B e size v n ys) (hb : B' ≤ B) : w.ownsRow B' e size v n ys := by
  refine ⟨h.1, ?_⟩
  rcases h.2 with h0 | ⟨g, cap, cur, rfl, h1, h2⟩
  · exact .inl h0
  · exact .inr ⟨g, cap, cur, rfl, Nat.le_trans hb h1, h2⟩
theorem Sq.mono {B B' : Nat} {w : World} {v : Value} {xs : List QV} (h : Sq B w v xs) (hb : B' ≤ B) : Sq B' w v xs := ⟨own_mono h.row hb, fun i x hx => (h.own i x hx).more hb, h.dist⟩
/-- what Sequences returns -/
def SeqRet (n : Nat) (base : Int) (lv cs zs mz : List Int) (w : World) (e : Ending) (w' : World) : Prop :=
  ∃ (A : Option Addr) (c g1 c1 K : Nat) (xs : List QV), e = .returned (.tuple #[.slice A xs.length c, .slice (some ⟨g1, 0, none⟩) n c1]) ∧ Sq w.heap.size w' (.slice A xs.length c) xs ∧
    cut (lvAt lv (keptTo cs n)) (keptTo cs n).length K = (keptTo cs n).length ∧ xs.map QV.q = (sqSt lv (keptTo cs n) zs mz base K).out ∧ Own w.heap.size 5 .u8 w' (some ⟨g1, 0, none⟩) n c1 lv ∧ Below w.heap.size w w'
theorem stepQ_goes {lv kp own m : List Int} {base : Int} {s : QS} {a b : Nat} (h : ∀ p x, s.goes p = some x → x < s.out.length) : ∀ p x, (stepQ lv kp own m base s a b).goes p = some x → x < (stepQ lv kp own m base s a b).out.length := by
  intro p x hx
  have hl : s.out.length ≤ (stepQ lv kp own m base s a b).out.length := by
    unfold stepQ
    simp only [List.length_set]
    split <;> simp
  have hn : (s.goes (kp.getD a 0).toNat).getD s.out.length < (stepQ lv kp own m base s a b).out.length := by
    unfold stepQ
    simp only [List.length_set]
    cases hg : s.goes (kp.getD a 0).toNat with
    | none => simp
    | some y => simpa using h _ _ hg
  have hold : ∀ p x, s.goes p = some x → x < (stepQ lv kp own m base s a b).out.length := fun p x hp => Nat.lt_of_lt_of_le (h p x hp) hl
  generalize hN : (stepQ lv kp own m base s a b).out.length = N at *
  unfold stepQ at hx
  simp only at hx
  split at hx
  · change (if p = (m.getD (kp.getD (b - 1) 0).toNat 0).toNat then some ((s.goes (kp.getD a 0).toNat).getD s.out.length) else s.goes p) = some x at hx
    split at hx
    · injection hx with hx
      rw [← hx]; exact hn
    · exact hold p x hx
  · exact hold p x hx
theorem sqSt_goes (lv kp own m : List Int) (base : Int) : ∀ k p x, (sqSt lv kp own m base k).goes p = some x → x < (sqSt lv kp own m base k).out.length
  | 0, _, _, h => by cases h
  | k + 1, p, x, h => stepQ_goes (sqSt_goes lv kp own m base k) p x h
theorem stepQ_eq {lv kp own m : List Int} {base : Int} {s : QS} {a b p q x : Nat} {Y : List QR} {q0 : QR} {oq : Int} (hp : kp[a]? = some (p : Int)) (hq : kp[b - 1]? = some (q : Int)) (hx : (s.goes p).getD s.out.length = x)
    (hY : Y = if (s.goes p).isSome then s.out else s.out ++ [newR lv kp base a p]) (h0 : Y[x]? = some q0) (ho : own[q]? = some oq) :
    stepQ lv kp own m base s a b = ⟨Y.set x (onR q0 ((kp.take b).drop a) (sideS q0.lv (if opS oq then base else atS lv kp base b))), if opS oq then fun j => if j = (m.getD q 0).toNat then some x else s.goes j else s.goes⟩ := by
  unfold stepQ
  simp only [getD_of' hp, getD_of' hq, getD_of' ho, Int.toNat_natCast]
  rw [hx, ← hY, show Y.getD x nilR = q0 by rw [List.getD, h0]; rfl]
theorem RInv.putD {w0 W : World} {bx mb k : Nat} {v : Value} {xs : List QV} {g : Nat → Option Nat} (h : RInv w0 bx mb k v xs g W) {D : Nat} (hD : w0.heap.size ≤ D) (hd : W.heap[D]? = some (.deferred (some []))) : RInv w0 bx mb k v xs g (W.putObj D (.deferred none)) :=
  h.keep (by simp) rfl rfl rfl fun i hi => World.putObj_heap_other (by
    rintro rfl
    rcases hi with hi | ⟨cs, t, hi⟩
    · omega
    · rw [hd] at hi; cases hi)
end Go.Proofs.Ytaojjneajiobnaa

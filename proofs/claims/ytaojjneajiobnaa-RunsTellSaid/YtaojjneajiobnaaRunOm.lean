/-
  What RunsOnce says of sequences: plain law.
-/
import Derived.Test.YtaojjneajiobnaaRunO
import Derived.Test.YtaojjneajiobnaaLBm
namespace Go.Proofs.Ytaojjneajiobnaa
open Go.RowKit

/-- what holds of the sequences when the kept places up to a are in them -/
structure OInv (lv kp cl m : List Int) (a : Nat) (s : QS) : Prop where
  ne : ∀ q ∈ s.out, q.ps ≠ []
  bd : ∀ q ∈ s.out, (0 ≤ q.st ∧ q.st ≤ 1) ∧ (0 ≤ q.en ∧ q.en ≤ 1)
  up : ∀ q ∈ s.out, q.ps.Pairwise (· < ·)
  lev : ∀ q ∈ s.out, ∀ p ∈ q.ps, lv[p.toNat]? = some q.lv
  first : s.out.Pairwise fun x y => x.ps.headD 0 < y.ps.headD 0
  all : (s.out.flatMap QR.ps).Perm (kp.take a)
  goes : ∀ p x, s.goes p = some x → (p : Int) ∈ kp.drop a → ∃ q o c, s.out[x]? = some q ∧ q.ps.getLast? = some o ∧ 0 ≤ o ∧ cl[o.toNat]? = some c ∧ m[o.toNat]? = some (p : Int)
theorem OInv.mem {lv kp cl m : List Int} {a : Nat} {s : QS} (h : OInv lv kp cl m a s) {q : QR} (hq : q ∈ s.out) {p : Int} (hp : p ∈ q.ps) : p ∈ kp.take a :=
  h.all.mem_iff.1 (List.mem_flatMap.2 ⟨q, hq, hp⟩)
/-- the run of the kept places from a to b -/
theorem part_take {kp : List Int} {a b : Nat} (h : a ≤ b) : kp.take b = kp.take a ++ (kp.take b).drop a := by
  conv => lhs; rw [← List.take_append_drop a (kp.take b)]
  rw [List.take_take, Nat.min_eq_left h]
theorem oinv_step {lv kp cl m : List Int} {base : Int} {s : QS} {a b : Nat} (hkp : kp.Pairwise (· < ·)) (hk0 : ∀ x ∈ kp, 0 ≤ x ∧ x.toNat < lv.length) (hab : a < b) (hb : b ≤ kp.length) (hrun : ∀ j, a ≤ j → j < b → lvAt lv kp j = lvAt lv kp a)
    (hm : ∀ (o : Nat) (c p : Int), cl[o]? = some c → m[o]? = some p → 0 ≤ p → p ∈ kp → lv[p.toNat]? = lv[o]?) (hop : ∀ (o : Nat) (c : Int), cl[o]? = some c → opS c = true → ∃ mi : Nat, m[o]? = some (mi : Int))
    (hcl : cl.length = lv.length) (h : OInv lv kp cl m a s) : OInv lv kp cl m b (stepQ lv kp cl m base s a b) := by
  obtain ⟨p0, hp0⟩ : ∃ p, kp[a]? = some p := ⟨_, List.getElem?_eq_getElem (by omega)⟩
  obtain ⟨r0, hr0⟩ : ∃ p, kp[b - 1]? = some p := ⟨_, List.getElem?_eq_getElem (by omega)⟩
  obtain ⟨hp1, hp2⟩ := hk0 p0 (List.mem_of_getElem? hp0)
  obtain ⟨hr1, hr2⟩ := hk0 r0 (List.mem_of_getElem? hr0)
  obtain ⟨p, rfl⟩ := Int.eq_ofNat_of_zero_le hp1
  obtain ⟨r, rfl⟩ := Int.eq_ofNat_of_zero_le hr1
  simp only [Int.toNat_natCast] at hp2 hr2
  obtain ⟨oq, hoq⟩ : ∃ c, cl[r]? = some c := ⟨_, List.getElem?_eq_getElem (by omega)⟩
  obtain ⟨lp, hlp⟩ : ∃ c, lv[p]? = some c := ⟨_, List.getElem?_eq_getElem hp2⟩
  have hlva : lvAt lv kp a = lp := lvAt_of hp0 hlp
  generalize hrn : (kp.take b).drop a = run
  have htk : kp.take b = kp.take a ++ run := by rw [← hrn]; exact part_take (by omega)
  -- the run
  have hrl : run.length = b - a := by rw [← hrn, List.length_drop, List.length_take]; omega
  have hrget : ∀ j x, run[j]? = some x → kp[a + j]? = some x ∧ a + j < b := fun j x hx => by
    have hj : j < run.length := (List.getElem?_eq_some_iff.1 hx).1
    rw [← hrn, List.getElem?_drop, List.getElem?_take_of_lt (by omega)] at hx
    exact ⟨hx, by omega⟩
  have hrne : run ≠ [] := fun e => by rw [e] at hrl; simp at hrl; omega
  have hrup : run.Pairwise (· < ·) := by rw [← hrn]; exact (hkp.sublist (List.take_sublist _ _)).sublist (List.drop_sublist _ _)
  have hrlev : ∀ x ∈ run, lv[x.toNat]? = some lp := fun x hx => by
    obtain ⟨j, hj⟩ := List.mem_iff_getElem?.1 hx
    obtain ⟨h1, h2⟩ := hrget j x hj
    have h3 := hk0 x (List.mem_of_getElem? h1)
    obtain ⟨y, hy⟩ : ∃ y, lv[x.toNat]? = some y := ⟨_, List.getElem?_eq_getElem h3.2⟩
    obtain ⟨xn, rfl⟩ := Int.eq_ofNat_of_zero_le h3.1
    have h4 := hrun (a + j) (by omega) h2
    rw [hlva, lvAt_of h1 hy] at h4
    rw [hy, h4]
  have hrhead : run.headD 0 = (p : Int) := by
    cases hrr : run with
    | nil => exact absurd hrr hrne
    | cons x t =>
      have := (hrget 0 x (by rw [hrr]; rfl)).1
      rw [Nat.add_zero, hp0] at this
      injection this with this
      exact this.symm
  have hrlast : run.getLast? = some (r : Int) := by
    rw [List.getLast?_eq_getElem?, hrl, ← hrn, List.getElem?_drop, List.getElem?_take_of_lt (by omega), show a + (b - a - 1) = b - 1 by omega]
    exact hr0
  -- what came ahead lies ahead
  have hahead : ∀ x ∈ kp.take a, ∀ y ∈ run, x < y := fun x hx y hy => by
    have := (hkp.sublist (List.take_sublist b kp))
    rw [htk, List.pairwise_append] at this
    exact this.2.2 x hx y hy
  have hbehind : ∀ x ∈ kp.take b, ∀ y ∈ kp.drop b, x < y := fun x hx y hy => by
    have := hkp
    rw [← List.take_append_drop b kp, List.pairwise_append] at this
    exact this.2.2 x hx y hy
  have hdropb : ∀ y ∈ kp.drop b, y ∈ kp.drop a := fun y hy => by
    have : kp.drop b = (kp.drop a).drop (b - a) := by rw [List.drop_drop]; congr 1; omega
    rw [this] at hy
    exact List.mem_of_mem_drop hy
  have hpa : (p : Int) ∈ kp.drop a := by
    rw [List.mem_iff_getElem?]
    exact ⟨0, by rw [List.getElem?_drop, Nat.add_zero]; exact hp0⟩
  cases hg : s.goes p with
  | none =>
    have he := stepQ_eq (lv := lv) (kp := kp) (own := cl) (m := m) (base := base) (s := s) (b := b) (Y := s.out ++ [newR lv kp base a p]) (x := s.out.length) (q0 := newR lv kp base a p) hp0 hr0 (by rw [hg]; rfl) (by rw [hg]; rfl) (by simp) hoq
    rw [hrn] at he
    have hset : (s.out ++ [newR lv kp base a p]).set s.out.length (onR (newR lv kp base a p) run (sideS (newR lv kp base a p).lv (if opS oq then base else atS lv kp base b))) = s.out ++ [onR (newR lv kp base a p) run (sideS (newR lv kp base a p).lv (if opS oq then base else atS lv kp base b))] := by
      rw [List.set_append_right _ _ (Nat.le_refl _), Nat.sub_self]; rfl
    rw [hset] at he
    have hnl : (newR lv kp base a p).lv = lp := getD_of' hlp
    generalize hen : sideS (newR lv kp base a p).lv (if opS oq then base else atS lv kp base b) = en at he
    have hqn : onR (newR lv kp base a p) run en = ⟨run, lp, (newR lv kp base a p).st, en⟩ := by unfold onR; rw [hnl]; rfl
    have hst : 0 ≤ (newR lv kp base a p).st ∧ (newR lv kp base a p).st ≤ 1 := side_bd _ _
    have henb : 0 ≤ en ∧ en ≤ 1 := by rw [← hen]; exact side_bd _ _
    rw [hqn] at he
    generalize (newR lv kp base a p).st = st at *
    rw [he]
    refine ⟨fun q hq => ?_, fun q hq => ?_, fun q hq => ?_, fun q hq => ?_, ?_, ?_, ?_⟩
    · rcases List.mem_append.1 hq with hq | hq
      · exact h.ne q hq
      · rw [List.mem_singleton.1 hq]; exact hrne
    · rcases List.mem_append.1 hq with hq | hq
      · exact h.bd q hq
      · rw [List.mem_singleton.1 hq]; exact ⟨hst, henb⟩
    · rcases List.mem_append.1 hq with hq | hq
      · exact h.up q hq
      · rw [List.mem_singleton.1 hq]; exact hrup
    · rcases List.mem_append.1 hq with hq | hq
      · exact h.lev q hq
      · rw [List.mem_singleton.1 hq]; exact hrlev
    · rw [List.pairwise_append]
      refine ⟨h.first, List.pairwise_singleton _ _, fun x hx y hy => ?_⟩
      rw [List.mem_singleton.1 hy]
      simp only
      rw [hrhead]
      cases hxp : x.ps with
      | nil => exact absurd hxp (h.ne x hx)
      | cons z t =>
        refine hahead z (h.mem hx (by rw [hxp]; exact List.mem_cons_self)) _ ?_
        cases hrr : run with
        | nil => exact absurd hrr hrne
        | cons x' t' => rw [hrr] at hrhead; simp only [List.headD_cons] at hrhead; rw [hrhead]; exact List.mem_cons_self
    · rw [List.flatMap_append, htk]
      simp only [List.flatMap_cons, List.flatMap_nil, List.append_nil]
      exact h.all.append_right run
    · intro p' x hx hp'
      simp only at hx
      have hold : s.goes p' = some x → ∃ q o c, (s.out ++ [(⟨run, lp, st, en⟩ : QR)])[x]? = some q ∧ q.ps.getLast? = some o ∧ 0 ≤ o ∧ cl[o.toNat]? = some c ∧ m[o.toNat]? = some (p' : Int) := fun hx => by
        obtain ⟨q, o, c, h1, h2⟩ := h.goes p' x hx (hdropb _ hp')
        exact ⟨q, o, c, by rw [List.getElem?_append_left (List.getElem?_eq_some_iff.1 h1).1]; exact h1, h2⟩
      cases ho : opS oq with
      | false => rw [ho] at hx; exact hold hx
      | true =>
        rw [ho] at hx
        simp only [if_true] at hx
        split at hx
        · rename_i e
          injection hx with hx
          subst hx
          obtain ⟨mi, hmi⟩ := hop r oq hoq ho
          rw [getD_of' hmi, Int.toNat_natCast] at e
          subst e
          exact ⟨⟨run, lp, st, en⟩, r, oq, by simp, hrlast, by omega, by simpa using hoq, by simpa using hmi⟩
        · exact hold hx
  | some x0 =>
    obtain ⟨q0, o, c, hq0, hlast, ho0, hco, hmo⟩ := h.goes p x0 hg hpa
    have hmem0 := List.mem_of_getElem? hq0
    have hoq0 : o ∈ q0.ps := List.mem_of_getLast? hlast
    have hlv0 : q0.lv = lp := by
      have h1 := h.lev q0 hmem0 o hoq0
      have h2 := hm o.toNat c p hco hmo (by omega) (List.mem_of_getElem? hp0)
      rw [Int.toNat_natCast, hlp, h1] at h2
      injection h2 with h2
      exact h2.symm
    have he := stepQ_eq (lv := lv) (kp := kp) (own := cl) (m := m) (base := base) (s := s) (b := b) (Y := s.out) (x := x0) (q0 := q0) hp0 hr0 (by rw [hg]; rfl) (by rw [hg]; rfl) hq0 hoq
    rw [hrn] at he
    generalize hen : sideS q0.lv (if opS oq then base else atS lv kp base b) = en at he
    have henb : 0 ≤ en ∧ en ≤ 1 := by rw [← hen]; exact side_bd _ _
    have hx0 : x0 < s.out.length := (List.getElem?_eq_some_iff.1 hq0).1
    have hget : ∀ q ∈ s.out.set x0 (onR q0 run en), q ∈ s.out ∨ q = onR q0 run en := fun q hq => List.mem_or_eq_of_mem_set hq
    rw [he]
    refine ⟨fun q hq => ?_, fun q hq => ?_, fun q hq => ?_, fun q hq => ?_, ?_, ?_, ?_⟩
    · rcases hget q hq with hq | rfl
      · exact h.ne q hq
      · unfold onR; simp only; intro e; exact hrne (List.append_eq_nil_iff.1 e).2
    · rcases hget q hq with hq | rfl
      · exact h.bd q hq
      · exact ⟨(h.bd q0 hmem0).1, henb⟩
    · rcases hget q hq with hq | rfl
      · exact h.up q hq
      · unfold onR
        rw [List.pairwise_append]
        exact ⟨h.up q0 hmem0, hrup, fun x hx y hy => hahead x (h.mem hmem0 hx) y hy⟩
    · rcases hget q hq with hq | rfl
      · exact h.lev q hq
      · intro x hx
        rcases List.mem_append.1 hx with hx | hx
        · exact h.lev q0 hmem0 x hx
        · show lv[x.toNat]? = some q0.lv
          rw [hlv0]; exact hrlev x hx
    · have hh : (s.out.set x0 (onR q0 run en)).map (fun q => q.ps.headD 0) = s.out.map fun q => q.ps.headD 0 := by
        rw [List.map_set]
        apply List.ext_getElem?
        intro i
        rw [List.getElem?_set]
        by_cases e : x0 = i
        · subst e
          rw [if_pos rfl, List.length_map, if_pos hx0, List.getElem?_map, hq0]
          show some _ = some _
          congr 1
          unfold onR
          cases hps : q0.ps with
          | nil => exact absurd hps (h.ne q0 hmem0)
          | cons z t =>
            show z = q0.ps.headD 0
            rw [hps]; rfl
        · rw [if_neg e]
      have h1 := h.first
      rw [← List.pairwise_map (f := fun q : QR => q.ps.headD 0) (R := (· < ·))] at h1 ⊢
      rw [hh]; exact h1
    · have h1 := h.all
      have hsp : s.out = s.out.take x0 ++ q0 :: s.out.drop (x0 + 1) := by
        conv => lhs; rw [← List.take_append_drop x0 s.out]
        congr 1
        rw [List.drop_eq_getElem_cons hx0]
        congr 1
        exact (List.getElem?_eq_some_iff.1 hq0).2
      rw [htk, List.set_eq_take_append_cons_drop, if_pos hx0]
      rw [hsp] at h1
      simp only [List.flatMap_append, List.flatMap_cons] at h1 ⊢
      generalize (s.out.take x0).flatMap QR.ps = A at *
      generalize (s.out.drop (x0 + 1)).flatMap QR.ps = D at *
      refine List.Perm.trans ?_ (h1.append_right run)
      show (A ++ ((q0.ps ++ run) ++ D)).Perm ((A ++ (q0.ps ++ D)) ++ run)
      rw [List.append_assoc A, List.append_assoc, List.append_assoc]
      exact (List.perm_append_comm.append_left q0.ps).append_left A
    · intro p' x hx hp'
      simp only at hx
      have hold : s.goes p' = some x → ∃ q o c, (s.out.set x0 (onR q0 run en))[x]? = some q ∧ q.ps.getLast? = some o ∧ 0 ≤ o ∧ cl[o.toNat]? = some c ∧ m[o.toNat]? = some (p' : Int) := fun hx => by
        obtain ⟨q, o', c', h1, h2, h3, h4, h5⟩ := h.goes p' x hx (hdropb _ hp')
        by_cases e : x = x0
        · subst e
          rw [hq0] at h1
          injection h1 with h1
          subst h1
          rw [hlast] at h2
          injection h2 with h2
          subst h2
          rw [hmo] at h5
          injection h5 with h5
          -- the key is the run's first place
          exfalso
          have h6 : (p : Int) ∈ kp.take b := by
            rw [List.mem_iff_getElem?]
            exact ⟨a, by rw [List.getElem?_take_of_lt hab]; exact hp0⟩
          have := hbehind _ h6 _ hp'
          omega
        · exact ⟨q, o', c', by rw [List.getElem?_set, if_neg (Ne.symm e)]; exact h1, h2, h3, h4, h5⟩
      cases ho : opS oq with
      | false => rw [ho] at hx; exact hold hx
      | true =>
        rw [ho] at hx
        simp only [if_true] at hx
        split at hx
        · rename_i e
          injection hx with hx
          subst hx
          obtain ⟨mi, hmi⟩ := hop r oq hoq ho
          rw [getD_of' hmi, Int.toNat_natCast] at e
          subst e
          refine ⟨onR q0 run en, r, oq, by rw [List.getElem?_set, if_pos rfl, if_pos hx0], ?_, by omega, by simpa using hoq, by simpa using hmi⟩
          unfold onR
          rw [List.getLast?_append, hrlast]; rfl
        · exact hold hx

theorem keptTo_sorted (cs : List Int) (k : Nat) : (keptTo cs k).Pairwise (· < ·) := by
  unfold keptTo
  rw [List.pairwise_map]
  refine List.Pairwise.imp (R := fun i j : Nat => i < j) (fun h => by omega) ?_
  exact List.Pairwise.filter _ List.pairwise_lt_range
theorem keptTo_in {cs : List Int} {k : Nat} {i : Nat} : (i : Int) ∈ keptTo cs k ↔ i < k ∧ cs.getD i 0 ≠ 9 := by
  unfold keptTo
  constructor
  · intro h
    obtain ⟨j, hj, e⟩ := List.mem_map.1 h
    have : j = i := by omega
    subst this
    have h1 := List.mem_filter.1 hj
    exact ⟨List.mem_range.1 h1.1, by simpa using h1.2⟩
  · rintro ⟨h1, h2⟩
    exact List.mem_map.2 ⟨i, List.mem_filter.2 ⟨List.mem_range.2 h1, by simpa using h2⟩, rfl⟩
theorem oinv_all {cl : List Int} {base : Int} (kp : List Int) (hkp : kp = keptTo (classesS cl base) cl.length) : ∀ k, cut (lvAt (levelsS cl base) kp) kp.length k ≤ kp.length → OInv (levelsS cl base) kp cl (matchS cl) (cut (lvAt (levelsS cl base) kp) kp.length k) (sqSt (levelsS cl base) kp cl (matchS cl) base k)
  | 0, _ => ⟨(fun _ h => by cases h), (fun _ h => by cases h), (fun _ h => by cases h), (fun _ h => by cases h), List.Pairwise.nil, (by simp [sqSt, cut]), (fun _ _ h => by cases h)⟩
  | k + 1, hk => by
    have hlt := cut_lt (lvAt (levelsS cl base) kp) kp.length k
    have ih := oinv_all kp hkp k (by omega)
    have hsp := runEnd_spec (f := lvAt (levelsS cl base) kp) (n := kp.length) (a := cut (lvAt (levelsS cl base) kp) kp.length k) (by omega)
    refine oinv_step (base := base) (by rw [hkp]; exact keptTo_sorted _ _) (fun x hx => ?_) hlt hk hsp.2.2.1 (fun o c p hc hm h0 hp => ?_) (fun o c hc ho => ?_) (levels_len cl base).symm ih
    · rw [hkp] at hx
      have := keptTo_mem x hx
      rw [levels_len]; omega
    · rw [hkp] at hp
      have := keptTo_mem p hp
      obtain ⟨e, he, hel, hl⟩ := bd_match base hc hm h0 this.2
      rw [he, Int.toNat_natCast]; exact hl
    · obtain ⟨mi, h1, _⟩ := open_match hc ho
      exact ⟨mi, h1⟩
end Go.Proofs.Ytaojjneajiobnaa

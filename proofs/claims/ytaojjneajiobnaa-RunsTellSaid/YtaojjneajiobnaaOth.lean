/-
  The state's methods other, open, close.
-/
import Derived.Test.YtaojjneajiobnaaEmb
namespace Go.Proofs.Ytaojjneajiobnaa
open Go.RowKit

/-- a world in which all that stood in W stands -/
structure BW (W : World) where
  world : World
  below : Below W.heap.size W world
instance (W : World) : Nonempty (BW W) := ⟨⟨W, Below.refl _ _⟩⟩
theorem wp_region_below {P : Program} {id : Nat} {Q : Exit → Act → World → Prop} {a : Act} {w : World} {l : List Oper} (hm : P.follows .mixedOrders = true) (hB : Region.lexB .any l.toArray = true)
    (h : wpQuiet P l.toArray (fun w' => ∃ x : BW w, w' = x.world) (fun a' => ∀ w', (∃ x : BW w, w' = x.world) → Q .normal a' w') l a) : (Code.region id l.toArray true).wp P Q a w :=
  wp_region_quiet (C := fun w' => ∃ x : BW w, w' = x.world) hm hB ⟨⟨_, (Below.refl _ _).drew⟩, rfl⟩ (by simpa using h)
theorem Calls.below_of {P : Program} {f : FuncId} {args : Array Value} {W : World} {x : BW W} {v : Value}
    (h : Calls P f args x.world fun e w' => e = .returned v ∧ Below x.world.heap.size x.world w') : Calls P f args x.world fun e w'' => e = .returned v ∧ ∃ y : BW W, w'' = y.world :=
  h.mono fun _ w' ⟨he, hb⟩ => ⟨he, ⟨w', x.below.trans (hb.mono x.below.size)⟩, rfl⟩
theorem Calls.below_same {P : Program} {f : FuncId} {args : Array Value} {W : World} {x : BW W} {v : Value}
    (h : Calls P f args x.world fun e w' => e = .returned v ∧ x.world = w') : Calls P f args x.world fun e w'' => e = .returned v ∧ ∃ y : BW W, w'' = y.world :=
  h.mono fun _ _ ⟨he, hb⟩ => ⟨he, x, hb.symm⟩

set_option maxRecDepth 100000 in
set_option maxHeartbeats 8000000 in
theorem other_any {B gs : Nat} {r : Option Nat} {s : PS} {k n i : Nat} {c mv : Value} {w : World} {x : Int} (h : StA B w gs r s c mv) (hf : Fit s k) (hk : k ≤ 100000)
    (hc : CellIn .u8 w gs r c n i x) (hi : i < n) :
    Calls Try.prog 36 #[.pointer (some ⟨gs, 0, none⟩), .int .i64 i] w (Meth B gs r s s.top.lv (asS s x) c mv w) := by
  have hfl := f58_0
  have q1 : (i : Int) < (n : Int) := by omega
  have q2 : (0 : Int) ≤ (i : Int) := by omega
  have hH := hide h
  have ht := hide (fun y : BW w => top_st (h.below y.below) hf hk)
  have ha := hide (fun y : BW w => as_any x (h.below y.below) hf hk)
  have h4 : ∀ y : BW w, y.world.cell? ⟨gs, 4, none⟩ = some c := fun y => (StB.refl (h.below y.below)).cells.2.2.2.1
  have hx : ∀ y : BW w, ∃ b o cc, c = .slice (some ⟨b, o, none⟩) n cc ∧ y.world.cell? ⟨b, o + i, none⟩ = some (.int .u8 x) := fun y => by
    obtain ⟨b, o, cc, h1, h2, _⟩ := hc.below y.below
    exact ⟨b, o, cc, h1, h2⟩
  obtain ⟨b, o, cc, rfl, _⟩ := hc
  have hx' : ∀ y : BW w, y.world.cell? ⟨b, o + i, none⟩ = some (.int .u8 x) := fun y => by
    obtain ⟨b', o', cc', e, h2⟩ := hx y
    injection e with e; injection e with e; injection e with e1 e2
    subst e1; subst e2; exact h2
  clear hx h hf
  generalize s.top = t at *
  generalize asS s x = v at *
  obtain ⟨lv, ov, iso⟩ := t
  go_enter Try.func36, Try.ntmps36
  go_wp2_with fail
  refine wp_region_below (by kernel_rfl) (by kernel_rfl) ?_
  repeat (go_big_quiet_step ((first | (go_at_call 65; exact Calls.below_of (ht.out _)) | (go_at_call 66; exact Calls.below_of (ha.out _)))))
  refine wpQuiet_nil ?_
  rintro _ ⟨y, rfl⟩
  go_wp2_with fail
  go_ret2
  exact ⟨rfl, StB.of_below hH.out y.below⟩

/-- a slice v that reads as zs, in a block that no method turns -/
def RowIn (kd : IntKind) (w : World) (gs : Nat) (r : Option Nat) (v : Value) (n : Nat) (zs : List Int) : Prop :=
  ∃ b o cc, v = .slice (some ⟨b, o, none⟩) n cc ∧ Rd kd w (some ⟨b, o, none⟩) n zs ∧ b < w.heap.size ∧ b ≠ gs ∧ some b ≠ r ∧ n ≤ cc
theorem RowIn.below {kd : IntKind} {w w' : World} {gs : Nat} {r : Option Nat} {v : Value} {n : Nat} {zs : List Int} (h : RowIn kd w gs r v n zs) (hb : Below w.heap.size w w') : RowIn kd w' gs r v n zs := by
  obtain ⟨b, o, cc, h1, h2, h3, h4, h5, h6⟩ := h
  exact ⟨b, o, cc, h1, h2.below hb, by have := hb.size; omega, h4, h5, h6⟩
theorem RowIn.fr {kd : IntKind} {w w' : World} {gs : Nat} {r : Option Nat} {v : Value} {n : Nat} {zs : List Int} (h : RowIn kd w gs r v n zs) (hf : Fr gs r w w') : RowIn kd w' gs r v n zs := by
  obtain ⟨b, o, cc, h1, h2, h3, h4, h5, h6⟩ := h
  refine ⟨b, o, cc, h1, ⟨h2.1, h2.2.1, fun hn => ?_⟩, by have := hf.size; omega, h4, h5, h6⟩
  obtain ⟨b', o', e, _, hc⟩ := h2.2.2 hn
  injection e with e; injection e with e1 e2
  subst e1; subst e2
  exact ⟨b, o, rfl, by have := hf.size; omega, fun j hj => (World.cell?_of_block (hf.block b h3 h4 h5)).trans (hc j hj)⟩
theorem RowIn.at_ {kd : IntKind} {w : World} {gs : Nat} {r : Option Nat} {v : Value} {n i : Nat} {zs : List Int} {x : Int} (h : RowIn kd w gs r v n zs) (hx : zs[i]? = some x) : CellIn kd w gs r v n i x := by
  obtain ⟨b, o, cc, h1, h2, h3, h4, h5, h6⟩ := h
  have hi : i < n := by have := (List.getElem?_eq_some_iff.1 hx).1; have := h2.len; omega
  obtain ⟨z, hz, hc⟩ := h2.cell hi
  rw [hz.out] at hx; injection hx with hx; subst hx
  exact ⟨b, o, cc, h1, hc, h3, h4, h5, h6⟩
theorem RowIn.rd_v {kd : IntKind} {w : World} {gs : Nat} {r : Option Nat} {b o cc n : Nat} {zs : List Int} (h : RowIn kd w gs r (.slice (some ⟨b, o, none⟩) n cc) n zs) : Rd kd w (some ⟨b, o, none⟩) n zs := by
  obtain ⟨b', o', cc', e, h2, _⟩ := h
  injection e with e; injection e with e; injection e with e1 e2
  subst e1; subst e2; exact h2
theorem CellIn.at_v {kd : IntKind} {w : World} {gs : Nat} {r : Option Nat} {b o cc n i : Nat} {x : Int} (h : CellIn kd w gs r (.slice (some ⟨b, o, none⟩) n cc) n i x) : w.cell? ⟨b, o + i, none⟩ = some (.int kd x) := by
  obtain ⟨b', o', cc', e, h2, _⟩ := h
  injection e with e; injection e with e; injection e with e1 e2
  subst e1; subst e2; exact h2

/-- LRI, RLI, FSI -/
def openS (s : PS) (left : Bool) : PS :=
  let p := pushS s left 13 true
  if p.2 then { p.1 with nw := p.1.nw + 1 } else { p.1 with is := p.1.is + 1 }
theorem open_no {s : PS} {left : Bool} (h : 125 < nextS s.top.lv left ∨ 0 < s.is + s.em) : openS s left = { s with is := s.is + 1 } := by unfold openS; rw [push_no h]; rfl
theorem open_yes {s : PS} {left : Bool} (h : ¬ (125 < nextS s.top.lv left ∨ 0 < s.is + s.em)) : openS s left = { (pushS s left 13 true).1 with nw := s.nw + 1 } := by unfold openS; rw [push_yes h]; rfl

set_option maxRecDepth 100000 in
set_option maxHeartbeats 8000000 in
theorem open_any {B gs : Nat} {r : Option Nat} {s : PS} {k n i mi : Nat} {c mv : Value} {w : World} {x : Int} {cl : List Int} {left : Bool} (h : StA B w gs r s c mv) (hf : Fit s k) (hk : k ≤ 100000) (hB : B ≤ w.heap.size)
    (hc : RowIn .u8 w gs r c n cl) (hm : CellIn .i64 w gs r mv n i mi) (hx : cl[i]? = some x) (hi : i < n) (hn : n ≤ 100000) (him : i < mi ∧ mi ≤ n)
    (hxl : (x = 19 ∧ left = false) ∨ (x = 20 ∧ left = true) ∨ (x = 21 ∧ left = (strongS 0 ((cl.take mi).drop (i + 1))).1)) :
    Calls Try.prog 61 #[.pointer (some ⟨gs, 0, none⟩), .int .i64 i] w (Meth B gs r (openS s left) s.top.lv (asS s x) c mv w) := by
  have hfl := f58_0
  have q1 : (i : Int) < (n : Int) := by omega
  have q2 : (0 : Int) ≤ (i : Int) := by omega
  have hH := hide h
  have hF := hide hf
  have hCR := hide hc
  have hMR := hide hm
  have hNi := hf.is
  have hNn := hf.nw
  have ht := hide (fun y : BW w => top_st (h.below y.below) hf hk)
  have ha := hide (fun y : BW w => as_any x (h.below y.below) hf hk)
  have h4 : ∀ y : BW w, y.world.cell? ⟨gs, 4, none⟩ = some c := fun y => (StB.refl (h.below y.below)).cells.2.2.2.1
  have h5 : ∀ y : BW w, y.world.cell? ⟨gs, 5, none⟩ = some mv := fun y => (StB.refl (h.below y.below)).cells.2.2.2.2.1
  obtain ⟨b, o, cc, rfl, _, _, _, _, hcc⟩ := hc
  have hx' : ∀ y : BW w, y.world.cell? ⟨b, o + i, none⟩ = some (.int .u8 x) := fun y => ((hCR.out.below y.below).at_ hx).at_v
  have hN : Hid (125 < nextS s.top.lv left ∨ 0 < s.is + s.em → pushS s left 13 true = (s, false)) := push_no
  have hN2 : Hid (125 < nextS s.top.lv left ∨ 0 < s.is + s.em → openS s left = { s with is := s.is + 1 }) := open_no
  have hY : Hid (¬ (125 < nextS s.top.lv left ∨ 0 < s.is + s.em) → openS s left = { (pushS s left 13 true).1 with nw := s.nw + 1 }) := open_yes
  have hY2 : Hid (¬ (125 < nextS s.top.lv left ∨ 0 < s.is + s.em) → (pushS s left 13 true).2 = true ∧ (pushS s left 13 true).1.nw = s.nw) := fun h => by rw [push_yes h]; exact ⟨rfl, rfl⟩
  have hcond := Classical.em (125 < nextS s.top.lv left ∨ 0 < s.is + s.em)
  have hCond := hide hcond
  clear h hf hm hcond
  have hvt : Hid (s.top.lv = s.top.lv) := rfl
  generalize hv : asS s x = v at *
  generalize htt : s.top = t at ht ⊢
  have hTT := hide htt
  clear htt hv hvt
  obtain ⟨lv, ov, iso⟩ := t
  rcases hxl with ⟨rfl, rfl⟩ | ⟨rfl, rfl⟩ | ⟨rfl, hleft⟩
  · go_enter Try.func61, Try.ntmps61
    go_wp2_with fail
    refine wp_region_below (by kernel_rfl) (by kernel_rfl) ?_
    repeat (go_big_quiet_step ((first | (go_at_call 65; exact Calls.below_of (ht.out _)) | (go_at_call 66; exact Calls.below_of (ha.out _)))))
    refine wpQuiet_nil ?_
    rintro _ ⟨y, rfl⟩
    go_wp2_with fail
    refine (push_any (k := k) false 13 true (hH.out.below y.below) hF.out hk (by have := (y.below).size; omega)).mono ?_
    rintro e w2 ⟨rfl, hst2⟩
    have hst := hide (StB.trans (Fr.of_below y.below gs r) (.inl rfl) hst2)
    clear hst2
    rcases hCond.out with hno | hyes
    · have hpn := hide (hN.out hno)
      have hOpen := hide (hN2.out hno)
      clear hno
      rw [hpn.out] at hst
      rw [hpn.out]
      obtain ⟨c1, _, _, _, _, hfz⟩ := hst.out.cells
      go_wp2_with fail
      go_ret2
      rw [hOpen.out]
      exact ⟨rfl, hst.out.setI (s.is + 1) _ (by omega)⟩
    · obtain ⟨hp2, hpn⟩ := hY2.out hyes
      have hOpen := hide (hY.out hyes)
      rw [hp2]
      have hPn := hide hpn
      clear hp2 hpn hyes hN hN2 hY hY2 hCond
      generalize pushS s false 13 true = P at *
      obtain ⟨P1, P2⟩ := P
      simp only at hPn hst hOpen
      obtain ⟨_, _, c3, _, _, hfz⟩ := hst.out.cells
      rw [hPn.out] at c3
      go_wp2_with fail
      go_ret2
      rw [hOpen.out]
      exact ⟨rfl, hst.out.setN (s.nw + 1) _ (by omega)⟩
  · go_enter Try.func61, Try.ntmps61
    go_wp2_with fail
    refine wp_region_below (by kernel_rfl) (by kernel_rfl) ?_
    repeat (go_big_quiet_step ((first | (go_at_call 65; exact Calls.below_of (ht.out _)) | (go_at_call 66; exact Calls.below_of (ha.out _)))))
    refine wpQuiet_nil ?_
    rintro _ ⟨y, rfl⟩
    go_wp2_with fail
    refine (push_any (k := k) true 13 true (hH.out.below y.below) hF.out hk (by have := (y.below).size; omega)).mono ?_
    rintro e w2 ⟨rfl, hst2⟩
    have hst := hide (StB.trans (Fr.of_below y.below gs r) (.inl rfl) hst2)
    clear hst2
    rcases hCond.out with hno | hyes
    · have hpn := hide (hN.out hno)
      have hOpen := hide (hN2.out hno)
      clear hno
      rw [hpn.out] at hst
      rw [hpn.out]
      obtain ⟨c1, _, _, _, _, hfz⟩ := hst.out.cells
      go_wp2_with fail
      go_ret2
      rw [hOpen.out]
      exact ⟨rfl, hst.out.setI (s.is + 1) _ (by omega)⟩
    · obtain ⟨hp2, hpn⟩ := hY2.out hyes
      have hOpen := hide (hY.out hyes)
      rw [hp2]
      have hPn := hide hpn
      clear hp2 hpn hyes hN hN2 hY hY2 hCond
      generalize pushS s true 13 true = P at *
      obtain ⟨P1, P2⟩ := P
      simp only at hPn hst hOpen
      obtain ⟨_, _, c3, _, _, hfz⟩ := hst.out.cells
      rw [hPn.out] at c3
      go_wp2_with fail
      go_ret2
      rw [hOpen.out]
      exact ⟨rfl, hst.out.setN (s.nw + 1) _ (by omega)⟩
  · obtain ⟨bm, om, cm, rfl, _⟩ := hMR.out
    by_cases hcap : i + 1 = cc
    · obtain rfl : cc = i + 1 := hcap.symm
      obtain rfl : mi = i + 1 := by omega
      have hdl := hide (show (cl.take (i + 1)).drop (i + 1) = [] from List.drop_eq_nil_of_le (by rw [List.length_take]; omega))
      go_enter Try.func61, Try.ntmps61
      go_wp2_with fail
      refine wp_region_below (by kernel_rfl) (by kernel_rfl) ?_
      repeat (go_big_quiet_step ((first | (go_at_call 65; exact Calls.below_of (ht.out _)) | (go_at_call 66; exact Calls.below_of (ha.out _)))))
      refine wpQuiet_nil ?_
      rintro _ ⟨y, rfl⟩
      go_wp2_with fail
      have h4z : ∀ z : BW y.world, z.world.cell? ⟨gs, 4, none⟩ = some (.slice (some ⟨b, o, none⟩) n (i + 1)) := fun z => h4 ⟨z.world, y.below.trans (z.below.mono y.below.size)⟩
      have h5z : ∀ z : BW y.world, z.world.cell? ⟨gs, 5, none⟩ = some (.slice (some ⟨bm, om, none⟩) n cm) := fun z => h5 ⟨z.world, y.below.trans (z.below.mono y.below.size)⟩
      have hmz : ∀ z : BW y.world, z.world.cell? ⟨bm, om + i, none⟩ = some (.int .i64 (i + 1)) := fun z => (hMR.out.below (y.below.trans (z.below.mono y.below.size))).at_v
      have hstr := hide (fun z : BW y.world => strong_any (some ⟨b, o, none⟩) (0) (0) ((cl.take (i + 1)).drop (i + 1)) z.world (by rw [hdl.out]; exact Rd.nil _ _ _) (by omega))
      have e1 : IntKind.i64.wrap ((i : Int) + 1) = (i : Int) + 1 := IntWalk.i64_in _ (by omega)
      have e2 : (0 : Int) ≤ (i : Int) + 1 := by omega
      have e3 : ((i : Int) + 1).toNat = i + 1 := by omega
      have e4 : (i : Int) + 1 ≤ ((i + 1) : Int) := by omega
      have e5 : ((i + 1) : Int) ≤ ((i + 1 : Nat) : Int) := by omega
      have e6 : (0 : Int) ≤ ((i + 1) : Int) := by omega
      generalize hSS : strongS 0 ((cl.take (i + 1)).drop (i + 1)) = SS at *
      obtain ⟨s1, s2⟩ := SS
      simp only at hleft
      subst hleft
      refine wp_region_below (by kernel_rfl) (by kernel_rfl) ?_
      repeat (go_big_quiet_step ((go_at_call 46; exact Calls.below_same (hstr.out _))))
      refine wpQuiet_nil ?_
      rintro _ ⟨z, rfl⟩
      have hyz := y.below.trans (z.below.mono y.below.size)
      clear e1 e2 e3 e4 e5 e6
      go_wp2_with fail
      refine (push_any (k := k) left 13 true (hH.out.below hyz) hF.out hk (by have := (hyz).size; omega)).mono ?_
      rintro e w2 ⟨rfl, hst2⟩
      have hst := hide (StB.trans (Fr.of_below hyz gs r) (.inl rfl) hst2)
      clear hst2
      rcases hCond.out with hno | hyes
      · have hpn := hide (hN.out hno)
        have hOpen := hide (hN2.out hno)
        clear hno
        rw [hpn.out] at hst
        rw [hpn.out]
        obtain ⟨c1, _, _, _, _, hfz⟩ := hst.out.cells
        go_wp2_with fail
        go_ret2
        rw [hOpen.out]
        exact ⟨rfl, hst.out.setI (s.is + 1) _ (by omega)⟩
      · obtain ⟨hp2, hpn⟩ := hY2.out hyes
        have hOpen := hide (hY.out hyes)
        rw [hp2]
        have hPn := hide hpn
        clear hp2 hpn hyes hN hN2 hY hY2 hCond
        generalize pushS s left 13 true = P at *
        obtain ⟨P1, P2⟩ := P
        simp only at hPn hst hOpen
        obtain ⟨_, _, c3, _, _, hfz⟩ := hst.out.cells
        rw [hPn.out] at c3
        go_wp2_with fail
        go_ret2
        rw [hOpen.out]
        exact ⟨rfl, hst.out.setN (s.nw + 1) _ (by omega)⟩

    · have hcap2 : ¬ cc = i + 1 := fun h => hcap h.symm
      go_enter Try.func61, Try.ntmps61
      go_wp2_with fail
      refine wp_region_below (by kernel_rfl) (by kernel_rfl) ?_
      repeat (go_big_quiet_step ((first | (go_at_call 65; exact Calls.below_of (ht.out _)) | (go_at_call 66; exact Calls.below_of (ha.out _)))))
      refine wpQuiet_nil ?_
      rintro _ ⟨y, rfl⟩
      go_wp2_with fail
      have h4z : ∀ z : BW y.world, z.world.cell? ⟨gs, 4, none⟩ = some (.slice (some ⟨b, o, none⟩) n cc) := fun z => h4 ⟨z.world, y.below.trans (z.below.mono y.below.size)⟩
      have h5z : ∀ z : BW y.world, z.world.cell? ⟨gs, 5, none⟩ = some (.slice (some ⟨bm, om, none⟩) n cm) := fun z => h5 ⟨z.world, y.below.trans (z.below.mono y.below.size)⟩
      have hmz : ∀ z : BW y.world, z.world.cell? ⟨bm, om + i, none⟩ = some (.int .i64 mi) := fun z => (hMR.out.below (y.below.trans (z.below.mono y.below.size))).at_v
      have hstr := hide (fun z : BW y.world => strong_any (some ⟨b, o + (i + 1), none⟩) (mi - (i + 1)) (cc - (i + 1)) ((cl.take mi).drop (i + 1)) z.world (rd_from (rd_to ((hCR.out.below (y.below.trans (z.below.mono y.below.size))).rd_v) him.2) (show i + 1 ≤ mi by omega)) (by omega))
      have e1 : IntKind.i64.wrap ((i : Int) + 1) = (i : Int) + 1 := IntWalk.i64_in _ (by omega)
      have e2 : (0 : Int) ≤ (i : Int) + 1 := by omega
      have e3 : ((i : Int) + 1).toNat = i + 1 := by omega
      have e4 : (i : Int) + 1 ≤ (mi : Int) := by omega
      have e5 : (mi : Int) ≤ (cc : Int) := by omega
      have e6 : (0 : Int) ≤ (mi : Int) := by omega
      generalize hSS : strongS 0 ((cl.take mi).drop (i + 1)) = SS at *
      obtain ⟨s1, s2⟩ := SS
      simp only at hleft
      subst hleft
      refine wp_region_below (by kernel_rfl) (by kernel_rfl) ?_
      repeat (go_big_quiet_step ((go_at_call 46; exact Calls.below_same (hstr.out _))))
      refine wpQuiet_nil ?_
      rintro _ ⟨z, rfl⟩
      have hyz := y.below.trans (z.below.mono y.below.size)
      clear e1 e2 e3 e4 e5 e6
      go_wp2_with fail
      refine (push_any (k := k) left 13 true (hH.out.below hyz) hF.out hk (by have := (hyz).size; omega)).mono ?_
      rintro e w2 ⟨rfl, hst2⟩
      have hst := hide (StB.trans (Fr.of_below hyz gs r) (.inl rfl) hst2)
      clear hst2
      rcases hCond.out with hno | hyes
      · have hpn := hide (hN.out hno)
        have hOpen := hide (hN2.out hno)
        clear hno
        rw [hpn.out] at hst
        rw [hpn.out]
        obtain ⟨c1, _, _, _, _, hfz⟩ := hst.out.cells
        go_wp2_with fail
        go_ret2
        rw [hOpen.out]
        exact ⟨rfl, hst.out.setI (s.is + 1) _ (by omega)⟩
      · obtain ⟨hp2, hpn⟩ := hY2.out hyes
        have hOpen := hide (hY.out hyes)
        rw [hp2]
        have hPn := hide hpn
        clear hp2 hpn hyes hN hN2 hY hY2 hCond
        generalize pushS s left 13 true = P at *
        obtain ⟨P1, P2⟩ := P
        simp only at hPn hst hOpen
        obtain ⟨_, _, c3, _, _, hfz⟩ := hst.out.cells
        rw [hPn.out] at c3
        go_wp2_with fail
        go_ret2
        rw [hOpen.out]
        exact ⟨rfl, hst.out.setN (s.nw + 1) _ (by omega)⟩
end Go.Proofs.Ytaojjneajiobnaa

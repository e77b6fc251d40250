/-
  The state's methods embed, end, separator, nothing, other.
-/
import Derived.Test.YtaojjneajiobnaaPsh
namespace Go.Proofs.Ytaojjneajiobnaa
open Go.RowKit

/-- a method has answered a level and a class -/
def Meth (B gs : Nat) (r : Option Nat) (s : PS) (v1 v2 : Int) (c mv : Value) (w : World) (e : Ending) (w' : World) : Prop :=
  e = .returned (.tuple #[.int .u8 v1, .int .u8 v2]) ∧ StB B gs r s c mv w w'
/-- place i of a slice v of n integers holds x; nothing that a method turns -/
def CellIn (kd : IntKind) (w : World) (gs : Nat) (r : Option Nat) (v : Value) (n i : Nat) (x : Int) : Prop :=
  ∃ b o cc, v = .slice (some ⟨b, o, none⟩) n cc ∧ w.cell? ⟨b, o + i, none⟩ = some (.int kd x) ∧ b < w.heap.size ∧ b ≠ gs ∧ some b ≠ r ∧ n ≤ cc
theorem CellIn.below {kd : IntKind} {w w' : World} {gs : Nat} {r : Option Nat} {v : Value} {n i : Nat} {x : Int} (h : CellIn kd w gs r v n i x) (hb : Below w.heap.size w w') : CellIn kd w' gs r v n i x := by
  obtain ⟨b, o, cc, h1, h2, h3, h4, h5, h6⟩ := h
  exact ⟨b, o, cc, h1, (hb.cell (p := ⟨b, o + i, none⟩) h3).trans h2, by have := hb.size; omega, h4, h5, h6⟩
theorem CellIn.fr {kd : IntKind} {w w' : World} {gs : Nat} {r : Option Nat} {v : Value} {n i : Nat} {x : Int} (h : CellIn kd w gs r v n i x) (hf : Fr gs r w w') : CellIn kd w' gs r v n i x := by
  obtain ⟨b, o, cc, h1, h2, h3, h4, h5, h6⟩ := h
  exact ⟨b, o, cc, h1, (World.cell?_of_block (hf.block b h3 h4 h5)).trans h2, by have := hf.size; omega, h4, h5, h6⟩

/-- LRE, RLE, LRO, RLO -/
def embedS (s : PS) (x : Int) : PS :=
  let p := pushS s (x == 15 || x == 18) (if x = 17 then 0 else if x = 18 then 1 else 13) false
  if p.2 = false ∧ p.1.is = 0 then { p.1 with em := p.1.em + 1 } else p.1
theorem embed_no0 {s : PS} {x : Int} (h : 125 < nextS s.top.lv (x == 15 || x == 18) ∨ 0 < s.is + s.em) (hi : s.is = 0) : embedS s x = { s with em := s.em + 1 } := by
  unfold embedS; rw [push_no h]; simp [hi]
theorem embed_no1 {s : PS} {x : Int} (h : 125 < nextS s.top.lv (x == 15 || x == 18) ∨ 0 < s.is + s.em) (hi : s.is ≠ 0) : embedS s x = s := by
  unfold embedS; rw [push_no h]; simp [hi]
theorem embed_yes {s : PS} {x : Int} (h : ¬ (125 < nextS s.top.lv (x == 15 || x == 18) ∨ 0 < s.is + s.em)) : embedS s x = (pushS s (x == 15 || x == 18) (if x = 17 then 0 else if x = 18 then 1 else 13) false).1 := by
  unfold embedS; rw [push_yes h]; simp
theorem StB.trans {B gs : Nat} {r r' : Option Nat} {s : PS} {c mv : Value} {w w' w'' : World} (hf : Fr gs r w w') (hr : r' = r ∨ ∃ q, w.heap.size ≤ q ∧ r' = some q) (h : StB B gs r' s c mv w' w'') : StB B gs r s c mv w w'' := by
  obtain ⟨⟨r2, h1, h2⟩, h3⟩ := h
  refine ⟨⟨r2, h1, ?_⟩, hf.trans h3 hr⟩
  rcases h2 with rfl | ⟨q, hq, rfl⟩
  · exact hr
  · exact .inr ⟨q, by have := hf.size; omega, rfl⟩

theorem StB.setE {B gs : Nat} {r : Option Nat} {s : PS} {c mv : Value} {w w' : World} (h : StB B gs r s c mv w w') (v : Nat) (x : Int) (hx : x = v) : StB B gs r { s with em := v } c mv w (w'.setCell ⟨gs, 2, none⟩ (.int .i64 x)) := by
  subst hx
  obtain ⟨⟨r', ⟨A, cap, h1, h2⟩, h3⟩, h4⟩ := h
  exact ⟨⟨r', ⟨A, cap, h1, h2.sete v⟩, h3⟩, h4.set_ 2 _⟩
theorem StB.setI {B gs : Nat} {r : Option Nat} {s : PS} {c mv : Value} {w w' : World} (h : StB B gs r s c mv w w') (v : Nat) (x : Int) (hx : x = v) : StB B gs r { s with is := v } c mv w (w'.setCell ⟨gs, 1, none⟩ (.int .i64 x)) := by
  subst hx
  obtain ⟨⟨r', ⟨A, cap, h1, h2⟩, h3⟩, h4⟩ := h
  exact ⟨⟨r', ⟨A, cap, h1, h2.seti v⟩, h3⟩, h4.set_ 1 _⟩
theorem StB.setN {B gs : Nat} {r : Option Nat} {s : PS} {c mv : Value} {w w' : World} (h : StB B gs r s c mv w w') (v : Nat) (x : Int) (hx : x = v) : StB B gs r { s with nw := v } c mv w (w'.setCell ⟨gs, 3, none⟩ (.int .i64 x)) := by
  subst hx
  obtain ⟨⟨r', ⟨A, cap, h1, h2⟩, h3⟩, h4⟩ := h
  exact ⟨⟨r', ⟨A, cap, h1, h2.setn v⟩, h3⟩, h4.set_ 3 _⟩
theorem StB.step {B gs : Nat} {r : Option Nat} {s s' : PS} {c mv : Value} {w w' w'' : World} (h : StB B gs r s c mv w w') (k : ∀ r', StA B w' gs r' s c mv → StB B gs r' s' c mv w' w'') : StB B gs r s' c mv w w'' := by
  obtain ⟨⟨r', h1, h2⟩, h3⟩ := h
  exact StB.trans h3 h2 (k r' h1)
theorem StB.cells {B gs : Nat} {r : Option Nat} {s : PS} {c mv : Value} {w w' : World} (h : StB B gs r s c mv w w') : w'.cell? ⟨gs, 1, none⟩ = some (.int .i64 s.is) ∧ w'.cell? ⟨gs, 2, none⟩ = some (.int .i64 s.em) ∧
    w'.cell? ⟨gs, 3, none⟩ = some (.int .i64 s.nw) ∧ w'.cell? ⟨gs, 4, none⟩ = some c ∧ w'.cell? ⟨gs, 5, none⟩ = some mv ∧ ∀ j, w'.frozen? ⟨gs, j, none⟩ = false := by
  obtain ⟨⟨r', ⟨A, cap, h1, h2⟩, h3⟩, h4⟩ := h
  obtain ⟨_, h⟩ := h2.cell
  exact h

set_option maxRecDepth 100000 in
set_option maxHeartbeats 8000000 in
theorem embed_any {B gs : Nat} {r : Option Nat} {s : PS} {k n i : Nat} {c mv : Value} {w : World} {x : Int} (h : StA B w gs r s c mv) (hf : Fit s k) (hk : k ≤ 100000) (hB : B ≤ w.heap.size)
    (hc : CellIn .u8 w gs r c n i x) (hi : i < n) (_hn : n ≤ 1000000) (hx : x = 14 ∨ x = 15 ∨ x = 17 ∨ x = 18) :
    Calls Try.prog 59 #[.pointer (some ⟨gs, 0, none⟩), .int .i64 i] w (Meth B gs r (embedS s x) s.top.lv 9 c mv w) := by
  have ht := hide (top_st h hf hk)
  have hH := hide h
  have hC := hide hc
  have hem := hf.em
  have hF := hide hf
  have hfl := f58_0
  have hE : Hid (125 < nextS s.top.lv (x == 15 || x == 18) ∨ 0 < s.is + s.em → s.is = 0 → embedS s x = { s with em := s.em + 1 }) := embed_no0
  have hE1 : Hid (125 < nextS s.top.lv (x == 15 || x == 18) ∨ 0 < s.is + s.em → s.is ≠ 0 → embedS s x = s) := embed_no1
  have hE2 : Hid (¬ (125 < nextS s.top.lv (x == 15 || x == 18) ∨ 0 < s.is + s.em) → embedS s x = (pushS s (x == 15 || x == 18) (if x = 17 then 0 else if x = 18 then 1 else 13) false).1) := embed_yes
  have q1 : (i : Int) < (n : Int) := by omega
  have q2 : (0 : Int) ≤ (i : Int) := by omega
  clear h hf hc
  obtain ⟨t, htop⟩ : ∃ t, t = s.top := ⟨_, rfl⟩
  have hT := hide htop
  rw [← htop] at ht
  have hlv : s.top.lv = t.lv := by rw [htop]
  rw [hlv]
  clear htop hlv
  obtain ⟨lv, ov, iso⟩ := t
  rcases hx with rfl | rfl | rfl | rfl
  · by_cases hno : 125 < nextS s.top.lv ((14 : Int) == 15 || (14 : Int) == 18) ∨ 0 < s.is + s.em
    · have hNo := hide hno
      have hpn := hide (show pushS s false 13 false = (s, false) from push_no hno)
      clear hno
      by_cases hi0 : s.is = 0
      · have hI := hide hi0
        have hi0' : (((s.is : Nat) : Int) == 0) = true := by simp [hi0]
        clear hi0
        go_enter Try.func59, Try.ntmps59
        go_wp2_with fail
        refine ht.out.mono ?_
        rintro e w1 ⟨rfl, hb⟩
        have hs1 := hide (hH.out.below hb)
        obtain ⟨A1, cap1, hr1, hs1'⟩ := hs1.out
        obtain ⟨c0, c1, c2, _, c4, _⟩ := hs1'.cell
        obtain ⟨bc, oc, cc, rfl, hcx, _⟩ := hC.out.below hb
        go_wp2_with fail
        refine (push_any (k := k) _ _ _ hs1.out hF.out hk (by have := hb.size; omega)).mono ?_
        rintro e w2 ⟨rfl, hst2⟩
        have hst := hide (StB.trans (Fr.of_below hb gs r) (.inl rfl) hst2)
        clear hst2 c0 c1 c2 c4 hcx hs1'
        rw [hpn.out] at hst
        rw [hpn.out]
        obtain ⟨c1, c2, _, _, _, hfz⟩ := hst.out.cells
        go_wp2_with fail
        go_ret2
        rw [hE.out hNo.out hI.out]
        exact ⟨rfl, hst.out.setE (s.em + 1) _ (by omega)⟩
      · have hI := hide hi0
        have hi0' : (((s.is : Nat) : Int) == 0) = false := by simp; omega
        clear hi0
        go_enter Try.func59, Try.ntmps59
        go_wp2_with fail
        refine ht.out.mono ?_
        rintro e w1 ⟨rfl, hb⟩
        have hs1 := hide (hH.out.below hb)
        obtain ⟨A1, cap1, hr1, hs1'⟩ := hs1.out
        obtain ⟨c0, c1, c2, _, c4, _⟩ := hs1'.cell
        obtain ⟨bc, oc, cc, rfl, hcx, _⟩ := hC.out.below hb
        go_wp2_with fail
        refine (push_any (k := k) _ _ _ hs1.out hF.out hk (by have := hb.size; omega)).mono ?_
        rintro e w2 ⟨rfl, hst2⟩
        have hst := hide (StB.trans (Fr.of_below hb gs r) (.inl rfl) hst2)
        clear hst2 c0 c1 c2 c4 hcx hs1'
        rw [hpn.out] at hst
        rw [hpn.out]
        obtain ⟨c1, c2, _, _, _, hfz⟩ := hst.out.cells
        go_wp2_with fail
        go_ret2
        rw [hE1.out hNo.out hI.out]
        exact ⟨rfl, hst.out⟩
    · have hNo := hide hno
      have hp2 := hide (show (pushS s false 13 false).2 = true from congrArg Prod.snd (push_yes (s := s) (left := false) (ov := 13) (iso := false) hno))
      clear hno
      go_enter Try.func59, Try.ntmps59
      go_wp2_with fail
      refine ht.out.mono ?_
      rintro e w1 ⟨rfl, hb⟩
      have hs1 := hide (hH.out.below hb)
      obtain ⟨A1, cap1, hr1, hs1'⟩ := hs1.out
      obtain ⟨c0, c1, c2, _, c4, _⟩ := hs1'.cell
      obtain ⟨bc, oc, cc, rfl, hcx, _⟩ := hC.out.below hb
      go_wp2_with fail
      refine (push_any (k := k) _ _ _ hs1.out hF.out hk (by have := hb.size; omega)).mono ?_
      rintro e w2 ⟨rfl, hst2⟩
      have hst := hide (StB.trans (Fr.of_below hb gs r) (.inl rfl) hst2)
      clear hst2 c0 c1 c2 c4 hcx hs1'
      rw [hp2.out]
      obtain ⟨c1, c2, _, _, _, hfz⟩ := hst.out.cells
      go_wp2_with fail
      go_ret2
      rw [hE2.out hNo.out]
      exact ⟨rfl, hst.out⟩
  · by_cases hno : 125 < nextS s.top.lv ((15 : Int) == 15 || (15 : Int) == 18) ∨ 0 < s.is + s.em
    · have hNo := hide hno
      have hpn := hide (show pushS s true 13 false = (s, false) from push_no hno)
      clear hno
      by_cases hi0 : s.is = 0
      · have hI := hide hi0
        have hi0' : (((s.is : Nat) : Int) == 0) = true := by simp [hi0]
        clear hi0
        go_enter Try.func59, Try.ntmps59
        go_wp2_with fail
        refine ht.out.mono ?_
        rintro e w1 ⟨rfl, hb⟩
        have hs1 := hide (hH.out.below hb)
        obtain ⟨A1, cap1, hr1, hs1'⟩ := hs1.out
        obtain ⟨c0, c1, c2, _, c4, _⟩ := hs1'.cell
        obtain ⟨bc, oc, cc, rfl, hcx, _⟩ := hC.out.below hb
        go_wp2_with fail
        refine (push_any (k := k) _ _ _ hs1.out hF.out hk (by have := hb.size; omega)).mono ?_
        rintro e w2 ⟨rfl, hst2⟩
        have hst := hide (StB.trans (Fr.of_below hb gs r) (.inl rfl) hst2)
        clear hst2 c0 c1 c2 c4 hcx hs1'
        rw [hpn.out] at hst
        rw [hpn.out]
        obtain ⟨c1, c2, _, _, _, hfz⟩ := hst.out.cells
        go_wp2_with fail
        go_ret2
        rw [hE.out hNo.out hI.out]
        exact ⟨rfl, hst.out.setE (s.em + 1) _ (by omega)⟩
      · have hI := hide hi0
        have hi0' : (((s.is : Nat) : Int) == 0) = false := by simp; omega
        clear hi0
        go_enter Try.func59, Try.ntmps59
        go_wp2_with fail
        refine ht.out.mono ?_
        rintro e w1 ⟨rfl, hb⟩
        have hs1 := hide (hH.out.below hb)
        obtain ⟨A1, cap1, hr1, hs1'⟩ := hs1.out
        obtain ⟨c0, c1, c2, _, c4, _⟩ := hs1'.cell
        obtain ⟨bc, oc, cc, rfl, hcx, _⟩ := hC.out.below hb
        go_wp2_with fail
        refine (push_any (k := k) _ _ _ hs1.out hF.out hk (by have := hb.size; omega)).mono ?_
        rintro e w2 ⟨rfl, hst2⟩
        have hst := hide (StB.trans (Fr.of_below hb gs r) (.inl rfl) hst2)
        clear hst2 c0 c1 c2 c4 hcx hs1'
        rw [hpn.out] at hst
        rw [hpn.out]
        obtain ⟨c1, c2, _, _, _, hfz⟩ := hst.out.cells
        go_wp2_with fail
        go_ret2
        rw [hE1.out hNo.out hI.out]
        exact ⟨rfl, hst.out⟩
    · have hNo := hide hno
      have hp2 := hide (show (pushS s true 13 false).2 = true from congrArg Prod.snd (push_yes (s := s) (left := true) (ov := 13) (iso := false) hno))
      clear hno
      go_enter Try.func59, Try.ntmps59
      go_wp2_with fail
      refine ht.out.mono ?_
      rintro e w1 ⟨rfl, hb⟩
      have hs1 := hide (hH.out.below hb)
      obtain ⟨A1, cap1, hr1, hs1'⟩ := hs1.out
      obtain ⟨c0, c1, c2, _, c4, _⟩ := hs1'.cell
      obtain ⟨bc, oc, cc, rfl, hcx, _⟩ := hC.out.below hb
      go_wp2_with fail
      refine (push_any (k := k) _ _ _ hs1.out hF.out hk (by have := hb.size; omega)).mono ?_
      rintro e w2 ⟨rfl, hst2⟩
      have hst := hide (StB.trans (Fr.of_below hb gs r) (.inl rfl) hst2)
      clear hst2 c0 c1 c2 c4 hcx hs1'
      rw [hp2.out]
      obtain ⟨c1, c2, _, _, _, hfz⟩ := hst.out.cells
      go_wp2_with fail
      go_ret2
      rw [hE2.out hNo.out]
      exact ⟨rfl, hst.out⟩
  · by_cases hno : 125 < nextS s.top.lv ((17 : Int) == 15 || (17 : Int) == 18) ∨ 0 < s.is + s.em
    · have hNo := hide hno
      have hpn := hide (show pushS s false 0 false = (s, false) from push_no hno)
      clear hno
      by_cases hi0 : s.is = 0
      · have hI := hide hi0
        have hi0' : (((s.is : Nat) : Int) == 0) = true := by simp [hi0]
        clear hi0
        go_enter Try.func59, Try.ntmps59
        go_wp2_with fail
        refine ht.out.mono ?_
        rintro e w1 ⟨rfl, hb⟩
        have hs1 := hide (hH.out.below hb)
        obtain ⟨A1, cap1, hr1, hs1'⟩ := hs1.out
        obtain ⟨c0, c1, c2, _, c4, _⟩ := hs1'.cell
        obtain ⟨bc, oc, cc, rfl, hcx, _⟩ := hC.out.below hb
        go_wp2_with fail
        refine (push_any (k := k) _ _ _ hs1.out hF.out hk (by have := hb.size; omega)).mono ?_
        rintro e w2 ⟨rfl, hst2⟩
        have hst := hide (StB.trans (Fr.of_below hb gs r) (.inl rfl) hst2)
        clear hst2 c0 c1 c2 c4 hcx hs1'
        rw [hpn.out] at hst
        rw [hpn.out]
        obtain ⟨c1, c2, _, _, _, hfz⟩ := hst.out.cells
        go_wp2_with fail
        go_ret2
        rw [hE.out hNo.out hI.out]
        exact ⟨rfl, hst.out.setE (s.em + 1) _ (by omega)⟩
      · have hI := hide hi0
        have hi0' : (((s.is : Nat) : Int) == 0) = false := by simp; omega
        clear hi0
        go_enter Try.func59, Try.ntmps59
        go_wp2_with fail
        refine ht.out.mono ?_
        rintro e w1 ⟨rfl, hb⟩
        have hs1 := hide (hH.out.below hb)
        obtain ⟨A1, cap1, hr1, hs1'⟩ := hs1.out
        obtain ⟨c0, c1, c2, _, c4, _⟩ := hs1'.cell
        obtain ⟨bc, oc, cc, rfl, hcx, _⟩ := hC.out.below hb
        go_wp2_with fail
        refine (push_any (k := k) _ _ _ hs1.out hF.out hk (by have := hb.size; omega)).mono ?_
        rintro e w2 ⟨rfl, hst2⟩
        have hst := hide (StB.trans (Fr.of_below hb gs r) (.inl rfl) hst2)
        clear hst2 c0 c1 c2 c4 hcx hs1'
        rw [hpn.out] at hst
        rw [hpn.out]
        obtain ⟨c1, c2, _, _, _, hfz⟩ := hst.out.cells
        go_wp2_with fail
        go_ret2
        rw [hE1.out hNo.out hI.out]
        exact ⟨rfl, hst.out⟩
    · have hNo := hide hno
      have hp2 := hide (show (pushS s false 0 false).2 = true from congrArg Prod.snd (push_yes (s := s) (left := false) (ov := 0) (iso := false) hno))
      clear hno
      go_enter Try.func59, Try.ntmps59
      go_wp2_with fail
      refine ht.out.mono ?_
      rintro e w1 ⟨rfl, hb⟩
      have hs1 := hide (hH.out.below hb)
      obtain ⟨A1, cap1, hr1, hs1'⟩ := hs1.out
      obtain ⟨c0, c1, c2, _, c4, _⟩ := hs1'.cell
      obtain ⟨bc, oc, cc, rfl, hcx, _⟩ := hC.out.below hb
      go_wp2_with fail
      refine (push_any (k := k) _ _ _ hs1.out hF.out hk (by have := hb.size; omega)).mono ?_
      rintro e w2 ⟨rfl, hst2⟩
      have hst := hide (StB.trans (Fr.of_below hb gs r) (.inl rfl) hst2)
      clear hst2 c0 c1 c2 c4 hcx hs1'
      rw [hp2.out]
      obtain ⟨c1, c2, _, _, _, hfz⟩ := hst.out.cells
      go_wp2_with fail
      go_ret2
      rw [hE2.out hNo.out]
      exact ⟨rfl, hst.out⟩
  · by_cases hno : 125 < nextS s.top.lv ((18 : Int) == 15 || (18 : Int) == 18) ∨ 0 < s.is + s.em
    · have hNo := hide hno
      have hpn := hide (show pushS s true 1 false = (s, false) from push_no hno)
      clear hno
      by_cases hi0 : s.is = 0
      · have hI := hide hi0
        have hi0' : (((s.is : Nat) : Int) == 0) = true := by simp [hi0]
        clear hi0
        go_enter Try.func59, Try.ntmps59
        go_wp2_with fail
        refine ht.out.mono ?_
        rintro e w1 ⟨rfl, hb⟩
        have hs1 := hide (hH.out.below hb)
        obtain ⟨A1, cap1, hr1, hs1'⟩ := hs1.out
        obtain ⟨c0, c1, c2, _, c4, _⟩ := hs1'.cell
        obtain ⟨bc, oc, cc, rfl, hcx, _⟩ := hC.out.below hb
        go_wp2_with fail
        refine (push_any (k := k) _ _ _ hs1.out hF.out hk (by have := hb.size; omega)).mono ?_
        rintro e w2 ⟨rfl, hst2⟩
        have hst := hide (StB.trans (Fr.of_below hb gs r) (.inl rfl) hst2)
        clear hst2 c0 c1 c2 c4 hcx hs1'
        rw [hpn.out] at hst
        rw [hpn.out]
        obtain ⟨c1, c2, _, _, _, hfz⟩ := hst.out.cells
        go_wp2_with fail
        go_ret2
        rw [hE.out hNo.out hI.out]
        exact ⟨rfl, hst.out.setE (s.em + 1) _ (by omega)⟩
      · have hI := hide hi0
        have hi0' : (((s.is : Nat) : Int) == 0) = false := by simp; omega
        clear hi0
        go_enter Try.func59, Try.ntmps59
        go_wp2_with fail
        refine ht.out.mono ?_
        rintro e w1 ⟨rfl, hb⟩
        have hs1 := hide (hH.out.below hb)
        obtain ⟨A1, cap1, hr1, hs1'⟩ := hs1.out
        obtain ⟨c0, c1, c2, _, c4, _⟩ := hs1'.cell
        obtain ⟨bc, oc, cc, rfl, hcx, _⟩ := hC.out.below hb
        go_wp2_with fail
        refine (push_any (k := k) _ _ _ hs1.out hF.out hk (by have := hb.size; omega)).mono ?_
        rintro e w2 ⟨rfl, hst2⟩
        have hst := hide (StB.trans (Fr.of_below hb gs r) (.inl rfl) hst2)
        clear hst2 c0 c1 c2 c4 hcx hs1'
        rw [hpn.out] at hst
        rw [hpn.out]
        obtain ⟨c1, c2, _, _, _, hfz⟩ := hst.out.cells
        go_wp2_with fail
        go_ret2
        rw [hE1.out hNo.out hI.out]
        exact ⟨rfl, hst.out⟩
    · have hNo := hide hno
      have hp2 := hide (show (pushS s true 1 false).2 = true from congrArg Prod.snd (push_yes (s := s) (left := true) (ov := 1) (iso := false) hno))
      clear hno
      go_enter Try.func59, Try.ntmps59
      go_wp2_with fail
      refine ht.out.mono ?_
      rintro e w1 ⟨rfl, hb⟩
      have hs1 := hide (hH.out.below hb)
      obtain ⟨A1, cap1, hr1, hs1'⟩ := hs1.out
      obtain ⟨c0, c1, c2, _, c4, _⟩ := hs1'.cell
      obtain ⟨bc, oc, cc, rfl, hcx, _⟩ := hC.out.below hb
      go_wp2_with fail
      refine (push_any (k := k) _ _ _ hs1.out hF.out hk (by have := hb.size; omega)).mono ?_
      rintro e w2 ⟨rfl, hst2⟩
      have hst := hide (StB.trans (Fr.of_below hb gs r) (.inl rfl) hst2)
      clear hst2 c0 c1 c2 c4 hcx hs1'
      rw [hp2.out]
      obtain ⟨c1, c2, _, _, _, hfz⟩ := hst.out.cells
      go_wp2_with fail
      go_ret2
      rw [hE2.out hNo.out]
      exact ⟨rfl, hst.out⟩

/-! ### PDF, B, BN, and all others -/
theorem StB.refl {B gs : Nat} {r : Option Nat} {s : PS} {c mv : Value} {w : World} (h : StA B w gs r s c mv) : StB B gs r s c mv w w := ⟨⟨r, h, .inl rfl⟩, Fr.refl gs r w⟩
/-- PDF -/
def endS (s : PS) : PS := if 0 < s.is then s else if 0 < s.em then { s with em := s.em - 1 } else if s.top.iso = false ∧ 1 < s.stk.length then { s with stk := s.stk.tail } else s
theorem Fit.tail {s : PS} {k : Nat} (h : Fit s k) (hl : 1 < s.stk.length) (is em nw : Nat) (h1 : is ≤ k) (h2 : em ≤ k) (h3 : nw ≤ k) : Fit { stk := s.stk.tail, is := is, em := em, nw := nw } k := by
  have hm : ∀ e ∈ s.stk.tail, e ∈ s.stk := fun e he => List.mem_of_mem_tail he
  exact ⟨by intro e; have : s.stk.tail.length = 0 := by rw [show s.stk.tail = [] from e]; rfl
            rw [List.length_tail] at this; omega, fun e he => h.lv e (hm e he), fun e he => h.ov e (hm e he), by have := h.len; rw [List.length_tail]; omega, h1, h2, h3⟩
theorem Fit.with {s : PS} {k : Nat} (h : Fit s k) (is em nw : Nat) (h1 : is ≤ k) (h2 : em ≤ k) (h3 : nw ≤ k) : Fit { stk := s.stk, is := is, em := em, nw := nw } k := ⟨h.ne, h.lv, h.ov, h.len, h1, h2, h3⟩
theorem end_fit {s : PS} {k : Nat} (h : Fit s k) : Fit (endS s) k := by
  unfold endS
  split
  · exact h
  · split
    · exact h.with _ _ _ h.is (by have := h.em; omega) h.nw
    · split
      next hc => exact h.tail hc.2 _ _ _ h.is h.em h.nw
      next => exact h
theorem meth_top {B gs : Nat} {r : Option Nat} {s : PS} {k : Nat} {c mv : Value} {w w' : World} (h : StB B gs r s c mv w w') (hf : Fit s k) (hk : k ≤ 100000) :
    Calls Try.prog 65 #[.pointer (some ⟨gs, 0, none⟩)] w' (RetEnt s.top w') := by
  obtain ⟨⟨r', h1, _⟩, _⟩ := h
  exact top_st h1 hf hk
theorem StB.below {B gs : Nat} {r : Option Nat} {s : PS} {c mv : Value} {w w' w'' : World} (h : StB B gs r s c mv w w') (hb : Below w'.heap.size w' w'') : StB B gs r s c mv w w'' := by
  obtain ⟨⟨r', h1, h2⟩, h3⟩ := h
  exact ⟨⟨r', h1.below hb, h2⟩, h3.trans (Fr.of_below hb gs r) (.inl rfl)⟩

set_option maxRecDepth 100000 in
set_option maxHeartbeats 8000000 in
theorem sep_any {B gs : Nat} {r : Option Nat} {s : PS} {k : Nat} {c mv : Value} {w : World} (i : Int) (h : StA B w gs r s c mv) (hf : Fit s k) (hk : k ≤ 100000) :
    Calls Try.prog 63 #[.pointer (some ⟨gs, 0, none⟩), .int .i64 i] w (Meth B gs r s s.top.lv 10 c mv w) := by
  have ht := hide (top_st h hf hk)
  have hH := hide h
  have hfl := f58_0
  clear h hf
  generalize s.top = t at *
  go_enter Try.func63, Try.ntmps63
  go_wp2_with fail
  refine ht.out.mono ?_
  rintro e w1 ⟨rfl, hb⟩
  go_wp2_with fail
  go_ret2
  exact ⟨rfl, StB.of_below hH.out hb⟩
set_option maxRecDepth 100000 in
set_option maxHeartbeats 8000000 in
theorem nothing_any {B gs : Nat} {r : Option Nat} {s : PS} {k : Nat} {c mv : Value} {w : World} (i : Int) (h : StA B w gs r s c mv) (hf : Fit s k) (hk : k ≤ 100000) :
    Calls Try.prog 64 #[.pointer (some ⟨gs, 0, none⟩), .int .i64 i] w (Meth B gs r s s.top.lv 9 c mv w) := by
  have ht := hide (top_st h hf hk)
  have hH := hide h
  have hfl := f58_0
  clear h hf
  generalize s.top = t at *
  go_enter Try.func64, Try.ntmps64
  go_wp2_with fail
  refine ht.out.mono ?_
  rintro e w1 ⟨rfl, hb⟩
  go_wp2_with fail
  go_ret2
  exact ⟨rfl, StB.of_below hH.out hb⟩
theorem end_a {s : PS} (h : 0 < s.is) : endS s = s := by unfold endS; rw [if_pos h]
theorem end_b {s : PS} (h : ¬ 0 < s.is) (h' : 0 < s.em) : endS s = { s with em := s.em - 1 } := by unfold endS; rw [if_neg h, if_pos h']
theorem end_c {s : PS} (h : ¬ 0 < s.is) (h' : ¬ 0 < s.em) (hc : ¬ (s.top.iso = false ∧ 1 < s.stk.length)) : endS s = s := by unfold endS; rw [if_neg h, if_neg h', if_neg hc]
theorem end_e {s : PS} (h : ¬ 0 < s.is) (h' : ¬ 0 < s.em) (hc : s.top.iso = false ∧ 1 < s.stk.length) : endS s = { s with stk := s.stk.tail } := by unfold endS; rw [if_neg h, if_neg h', if_pos hc]
theorem pop_st {B gs : Nat} {r : Option Nat} {s : PS} {k : Nat} {c mv : Value} {w : World} (h : StA B w gs r s c mv) (hf : Fit s k) (hk : k ≤ 100000) :
    Calls Try.prog 78 #[.pointer (some ⟨gs, 0, none⟩)] w fun e w' => e = .returned (.tuple #[]) ∧ StB B gs r { s with stk := s.stk.tail } c mv w w' := by
  obtain ⟨A, cap, h1, h2⟩ := h
  obtain ⟨t, rest, e1, _⟩ := hf.parts
  have hl := hf.len
  have h2' : Sta B w gs A (rest.length + 1) cap (rest.reverse ++ [t]) s.is s.em s.nw c mv := by
    have := h2; rw [e1, List.reverse_cons] at this; exact this
  refine (pop_any B gs A rest.length cap _ _ _ _ _ _ w h2' (by rw [e1] at hl; simp at hl; omega)).mono fun e w' ⟨he, hs, hfr⟩ => ⟨he, ?_⟩
  have ht : (rest.reverse ++ [t]).take rest.length = rest.reverse := by
    have := List.take_left (l₁ := rest.reverse) (l₂ := [t])
    rwa [List.length_reverse] at this
  rw [ht] at hs
  rw [e1]
  have hr : (Value.slice A rest.length cap).ownBlock = r := by
    rw [← h1]
    rcases A with _ | ⟨b, o, sp⟩ <;> rfl
  exact ⟨⟨r, ⟨A, cap, hr, hs⟩, .inl rfl⟩, hfr.more r⟩
set_option maxRecDepth 100000 in
set_option maxHeartbeats 8000000 in
theorem end_any {B gs : Nat} {r : Option Nat} {s : PS} {k : Nat} {c mv : Value} {w : World} (i : Int) (h : StA B w gs r s c mv) (hf : Fit s k) (hk : k ≤ 100000) :
    Calls Try.prog 60 #[.pointer (some ⟨gs, 0, none⟩), .int .i64 i] w (Meth B gs r (endS s) (endS s).top.lv 9 c mv w) := by
  have hfe := hide (end_fit hf)
  have hF := hide hf
  have hem := hf.em
  have hlen := hf.len
  have hfl := f58_0
  have hfl2 := f58_2
  have hst := hide (StB.refl h)
  have ht := hide (top_st h hf hk)
  clear hf
  obtain ⟨c1, c2, _, _, _, hfz⟩ := hst.out.cells
  by_cases his : 0 < s.is
  · have hE := hide (end_a his)
    have his' : decide (0 < ((s.is : Nat) : Int)) = true := by simp; omega
    go_enter Try.func60, Try.ntmps60
    go_wp2_with fail
    refine ht.out.mono ?_
    rintro e w1 ⟨rfl, hb⟩
    go_wp2_with fail
    go_ret2
    rw [hE.out]
    exact ⟨rfl, hst.out.below hb⟩
  · have his' : decide (0 < ((s.is : Nat) : Int)) = false := by simp; omega
    by_cases hemp : 0 < s.em
    · have hE := hide (end_b his hemp)
      have hemp' : decide (0 < ((s.em : Nat) : Int)) = true := by simp; omega
      have q1 : IntKind.i64.wrap ((s.em : Int) - 1) = (s.em : Int) - 1 := IntWalk.i64_in _ (by omega)
      have hst1 := hide (hst.out.setE (s.em - 1) ((s.em : Int) - 1) (by omega))
      have ht1 := hide (meth_top hst1.out (by rw [← hE.out]; exact hfe.out) hk)
      go_enter Try.func60, Try.ntmps60
      go_wp2_with fail
      refine ht1.out.mono ?_
      rintro e w1 ⟨rfl, hb⟩
      go_wp2_with fail
      go_ret2
      rw [hE.out]
      exact ⟨rfl, hst1.out.below hb⟩
    · have hemp' : decide (0 < ((s.em : Nat) : Int)) = false := by simp; omega
      have hEc := hide (end_c (s := s) his hemp)
      have hEe := hide (end_e (s := s) his hemp)
      have hH := hide h
      clear h
      obtain ⟨t, htop⟩ : ∃ t, s.top = t := ⟨_, rfl⟩
      rw [htop] at ht hEc hEe
      have hT := hide htop
      clear htop
      obtain ⟨lv, ov, iso⟩ := t
      simp only at hEc hEe
      cases iso
      · by_cases hl1 : 1 < s.stk.length
        · have hE := hide (hEe.out ⟨rfl, hl1⟩)
          have hl1' : decide (1 < ((s.stk.length : Nat) : Int)) = true := by simp; omega
          clear hl1
          go_enter Try.func60, Try.ntmps60
          go_wp2_with fail
          refine ht.out.mono ?_
          rintro e w1 ⟨rfl, hb⟩
          have hs1 := hide (hH.out.below hb)
          obtain ⟨A, cap, _, hs1'⟩ := hs1.out
          have c0 := hs1'.cell.1
          go_wp2_with fail
          refine (pop_st hs1.out hF.out hk).mono ?_
          rintro e w2 ⟨rfl, hst2⟩
          have hst2' := hide (StB.trans (Fr.of_below hb gs r) (.inl rfl) hst2)
          have ht2 := hide (meth_top hst2'.out (by rw [← hE.out]; exact hfe.out) hk)
          clear hst2 c0 hs1'
          go_wp2_with fail
          refine ht2.out.mono ?_
          rintro e w3 ⟨rfl, hb3⟩
          go_wp2_with fail
          go_ret2
          rw [hE.out]
          exact ⟨rfl, hst2'.out.below hb3⟩
        · have hE := hide (hEc.out (by omega))
          have hl1' : decide (1 < ((s.stk.length : Nat) : Int)) = false := by simp; omega
          clear hl1
          go_enter Try.func60, Try.ntmps60
          go_wp2_with fail
          refine ht.out.mono ?_
          rintro e w1 ⟨rfl, hb⟩
          have hs1 := hide (hH.out.below hb)
          obtain ⟨A, cap, _, hs1'⟩ := hs1.out
          have c0 := hs1'.cell.1
          go_wp2_with fail
          refine (top_st hs1.out hF.out hk).mono ?_
          rintro e w2 ⟨rfl, hb2⟩
          have hst2 := hide ((hst.out.below hb).below hb2)
          clear c0 hs1'
          go_wp2_with fail
          go_ret2
          rw [hE.out]
          exact ⟨rfl, hst2.out⟩
      · have hE := hide (hEc.out (by simp))
        go_enter Try.func60, Try.ntmps60
        go_wp2_with fail
        refine ht.out.mono ?_
        rintro e w1 ⟨rfl, hb⟩
        have hs1 := hide (hH.out.below hb)
        go_wp2_with fail
        refine (top_st hs1.out hF.out hk).mono ?_
        rintro e w2 ⟨rfl, hb2⟩
        have hst2 := hide ((hst.out.below hb).below hb2)
        go_wp2_with fail
        go_ret2
        rw [hE.out]
        exact ⟨rfl, hst2.out⟩
end Go.Proofs.Ytaojjneajiobnaa

/-
  The walk of level.Explicit.
-/
import Derived.Test.YtaojjneajiobnaaExpI
namespace Go.Proofs.Ytaojjneajiobnaa
open Go.RowKit

/-- which method a class asks for -/
theorem deed_cases {x : Int} (_h : 0 ≤ x ∧ x ≤ 22) : ((x = 14 ∨ x = 15 ∨ x = 17 ∨ x = 18) ∧ deedF x = 59) ∨ (x = 16 ∧ deedF x = 60) ∨ ((x = 19 ∨ x = 20 ∨ x = 21) ∧ deedF x = 61) ∨ (x = 22 ∧ deedF x = 62) ∨ (x = 10 ∧ deedF x = 63) ∨ (x = 9 ∧ deedF x = 64) ∨
    ((¬ (x = 14 ∨ x = 15 ∨ x = 17 ∨ x = 18) ∧ x ≠ 16 ∧ ¬ (x = 19 ∨ x = 20 ∨ x = 21) ∧ x ≠ 22 ∧ x ≠ 10 ∧ x ≠ 9) ∧ deedF x = 0) := by
  unfold deedF
  by_cases h1 : x = 14 ∨ x = 15 ∨ x = 17 ∨ x = 18
  · exact .inl ⟨h1, if_pos h1⟩
  · rw [if_neg h1]
    by_cases h2 : x = 16
    · exact .inr (.inl ⟨h2, if_pos h2⟩)
    · rw [if_neg h2]
      by_cases h3 : x = 19 ∨ x = 20 ∨ x = 21
      · exact .inr (.inr (.inl ⟨h3, if_pos h3⟩))
      · rw [if_neg h3]
        by_cases h4 : x = 22
        · exact .inr (.inr (.inr (.inl ⟨h4, if_pos h4⟩)))
        · rw [if_neg h4]
          by_cases h5 : x = 10
          · exact .inr (.inr (.inr (.inr (.inl ⟨h5, if_pos h5⟩))))
          · rw [if_neg h5]
            by_cases h6 : x = 9
            · exact .inr (.inr (.inr (.inr (.inr (.inl ⟨h6, if_pos h6⟩)))))
            · exact .inr (.inr (.inr (.inr (.inr (.inr ⟨⟨h1, h2, h3, h4, h5, h6⟩, if_neg h6⟩)))))
theorem step_59 {f : Bool} {s : PS} {x : Int} (h : x = 14 ∨ x = 15 ∨ x = 17 ∨ x = 18) : stepS f s x = (embedS s x, s.top.lv, 9) := by unfold stepS; rw [if_pos h]
theorem step_60 {f : Bool} {s : PS} : stepS f s 16 = (endS s, (endS s).top.lv, 9) := rfl
theorem step_61 {f : Bool} {s : PS} {x : Int} (h : x = 19 ∨ x = 20 ∨ x = 21) : stepS f s x = (openS s (x == 20 || (x == 21 && f)), s.top.lv, asS s x) := by
  unfold stepS; rw [if_neg (by omega), if_neg (by omega), if_pos h]
theorem step_62 {f : Bool} {s : PS} : stepS f s 22 = (closeS s, (closeS s).top.lv, asS (closeS s) 22) := rfl
theorem step_63 {f : Bool} {s : PS} : stepS f s 10 = (s, s.top.lv, 10) := rfl
theorem step_64 {f : Bool} {s : PS} : stepS f s 9 = (s, s.top.lv, 9) := rfl
theorem step_0 {f : Bool} {s : PS} {x : Int} (h : ¬ (x = 14 ∨ x = 15 ∨ x = 17 ∨ x = 18) ∧ x ≠ 16 ∧ ¬ (x = 19 ∨ x = 20 ∨ x = 21) ∧ x ≠ 22 ∧ x ≠ 10 ∧ x ≠ 9) : stepS f s x = (s, s.top.lv, asS s x) := by
  obtain ⟨h1, h2, h3, h4, h5, h6⟩ := h
  unfold stepS; rw [if_neg h1, if_neg h2, if_neg h3, if_neg h4, if_neg h5, if_neg h6]
theorem open_match {cl : List Int} {k : Nat} {x : Int} (hx : cl[k]? = some x) (ho : opS x = true) : ∃ mi : Nat, (matchS cl)[k]? = some (mi : Int) ∧ k < mi ∧ mi ≤ cl.length := by
  have hk : k < cl.length := (List.getElem?_eq_some_iff.1 hx).1
  have hg : cl.getD k 0 = x := by simp [List.getD, hx]
  have hI := mInv cl cl.length (Nat.le_refl _)
  have hl : k < (matchS cl).length := by show k < (mSt cl cl.length).1.length; rw [hI.len]; exact hk
  have hm : (matchS cl)[k]? = some ((matchS cl).getD k 0) := by simp [List.getD, List.getElem?_eq_getElem hl]
  by_cases hop : (k : Int) ∈ (mSt cl cl.length).2
  · obtain ⟨a, ha, he⟩ := List.mem_iff_getElem.1 hop
    obtain ⟨j, e, h1, h2, h3⟩ := hI.op a k (by rw [← he]; exact List.getElem?_eq_getElem ha)
    obtain rfl : k = j := by omega
    exact ⟨cl.length, by rw [hm]; show some ((mSt cl cl.length).1.getD k 0) = _; rw [h3], hk, Nat.le_refl _⟩
  · obtain ⟨e, h1, h2, h3, _⟩ := hI.closed k hk (by rw [hg]; exact ho) hop
    exact ⟨e, by rw [hm]; show some ((mSt cl cl.length).1.getD k 0) = _; rw [h1], h2, by omega⟩

/-- the function that a class calls -/
def deedG (x : Int) : Nat := if deedF x = 0 then 36 else deedF x
theorem deed_enters (x : Int) (h : 0 ≤ x ∧ x ≤ 22) : ∀ args w, (callFunc (deedG x) args).run Try.prog w = .ok (.enter (deedG x) args) w := by
  have h36 : ∀ args w, (callFunc 36 args).run Try.prog w = .ok (.enter 36 args) w := enters_of Try.func36 (by kernel_rfl) rfl
  have h59 : ∀ args w, (callFunc 59 args).run Try.prog w = .ok (.enter 59 args) w := enters_of Try.func59 (by kernel_rfl) rfl
  have h60 : ∀ args w, (callFunc 60 args).run Try.prog w = .ok (.enter 60 args) w := enters_of Try.func60 (by kernel_rfl) rfl
  have h61 : ∀ args w, (callFunc 61 args).run Try.prog w = .ok (.enter 61 args) w := enters_of Try.func61 (by kernel_rfl) rfl
  have h62 : ∀ args w, (callFunc 62 args).run Try.prog w = .ok (.enter 62 args) w := enters_of Try.func62 (by kernel_rfl) rfl
  have h63 : ∀ args w, (callFunc 63 args).run Try.prog w = .ok (.enter 63 args) w := enters_of Try.func63 (by kernel_rfl) rfl
  have h64 : ∀ args w, (callFunc 64 args).run Try.prog w = .ok (.enter 64 args) w := enters_of Try.func64 (by kernel_rfl) rfl
  unfold deedG
  rcases deed_cases h with ⟨_, e⟩ | ⟨_, e⟩ | ⟨_, e⟩ | ⟨_, e⟩ | ⟨_, e⟩ | ⟨_, e⟩ | ⟨_, e⟩ <;> rw [e] <;> assumption
theorem deed_call {w1 : World} {gs gL gO gm : Nat} {A2 : Option Addr} {n c2 : Nat} {cl : List Int} {base : Int} {k : Nat} {r : Option Nat} {wr : World} {B' cp : Nat} {A1 : Option Addr}
    (h : XInv w1 gs gL gO gm A2 n c2 cl base (.slice A1 n cp) k r wr) (hb : 0 ≤ base ∧ base ≤ 1) (hn : n ≤ 100000) (hk : k < n) {x : Int} (hx : cl[k]? = some x) (hC : Own B' 5 .u8 wr A1 n cp cl) (hr : 0 ≤ x ∧ x ≤ 22) :
    Calls Try.prog (deedG x) #[.pointer (some ⟨gs, 0, none⟩), .int .i64 k] wr
      (Meth w1.heap.size gs r (stepS (fsiAt cl k) (expSt cl base k).1 x).1 (stepS (fsiAt cl k) (expSt cl base k).1 x).2.1 (stepS (fsiAt cl k) (expSt cl base k).1 x).2.2 (.slice A1 n cp) (.slice A2 n c2) wr) := by
  obtain ⟨hf, hf2⟩ := exp_fit cl hb k
  have hkk : k ≤ 100000 := by omega
  have hB := h.bel.size
  have hrow := hC.rowIn h.st (by decide) (by decide) (by omega)
  have hcell := hrow.at_ hx
  unfold deedG
  rcases deed_cases hr with ⟨hc, e⟩ | ⟨rfl, e⟩ | ⟨hc, e⟩ | ⟨rfl, e⟩ | ⟨rfl, e⟩ | ⟨rfl, e⟩ | ⟨hc, e⟩ <;> rw [e]
  · rw [step_59 hc]; exact embed_any h.st hf hkk hB hcell hk (by omega) hc
  · rw [step_60]; exact end_any _ h.st hf hkk
  · rw [step_61 hc]
    have hop : opS x = true := by rcases hc with rfl | rfl | rfl <;> rfl
    obtain ⟨mi, hm1, hm2, hm3⟩ := open_match hx hop
    have hmr := h.M.rowIn h.st (by decide) (by decide) (by omega)
    have hmc := hmr.at_ hm1
    have hcl : cl.length = n := hC.len
    refine open_any h.st hf hkk hB hrow hmc hx hk hn ⟨hm2, by omega⟩ ?_
    have hg : ((matchS cl).getD k 0) = (mi : Int) := by simp [List.getD, hm1]
    rcases hc with rfl | rfl | rfl
    · exact .inl ⟨rfl, rfl⟩
    · exact .inr (.inl ⟨rfl, rfl⟩)
    · refine .inr (.inr ⟨rfl, ?_⟩)
      show (false || (true && fsiAt cl k)) = _
      simp only [Bool.false_or, Bool.true_and, fsiAt, hg, Int.toNat_natCast]
  · rw [step_62]; exact close_any h.st hf hf2 hkk hcell hk
  · rw [step_63]; exact sep_any _ h.st hf hkk
  · rw [step_64]; exact nothing_any _ h.st hf hkk
  · rw [step_0 hc]; exact other_any h.st hf hkk hcell hk
theorem look0 {w : World} {b : Nat} (h : w.ownsMap Try.prog 5 RF b 11 deedD) (x : Int) (hx : 0 ≤ x ∧ x ≤ 22) (h0 : deedF x = 0) :
    (Instr.lookup 62 (.map (some b)) (.int .u8 x) true).run Try.prog w = .ok (.tuple #[.nilFunc, .bool false]) w := by
  have := deed_look h x hx
  unfold deedV at this
  rw [if_pos h0, h0] at this
  exact this
theorem look1 {w : World} {b : Nat} (h : w.ownsMap Try.prog 5 RF b 11 deedD) (x : Int) (hx : 0 ≤ x ∧ x ≤ 22) (h0 : deedF x ≠ 0) :
    (Instr.lookup 62 (.map (some b)) (.int .u8 x) true).run Try.prog w = .ok (.tuple #[.func (.func (deedG x)) #[] #[], .bool true]) w := by
  have := deed_look h x hx
  unfold deedV at this
  rw [if_neg h0] at this
  unfold deedG
  rw [if_neg h0, this]
  simp [h0]

theorem set_far (w : World) {p q : Addr} (h : q.block ≠ p.block) (u : Value) : (w.setCell p u).cell? q = w.cell? q ∧ (w.setCell p u).frozen? q = w.frozen? q := by
  have e := Below.heap_setCell w p u q.block h
  exact ⟨World.cell?_of_block e, by unfold World.frozen?; rw [e]⟩
theorem XInv.cells5 {w1 : World} {gs gL gO gm : Nat} {A2 : Option Addr} {n c2 : Nat} {cl : List Int} {base : Int} {cV : Value} {k : Nat} {r : Option Nat} {wr w5 : World}
    (h : XInv w1 gs gL gO gm A2 n c2 cl base cV k r wr) (hk : k < n) {s' : PS} (hst : StB w1.heap.size gs r s' cV (.slice A2 n c2) wr w5) :
    (∃ z, w5.cell? ⟨gL, k, none⟩ = some (.int .u8 z) ∧ w5.frozen? ⟨gL, k, none⟩ = false) ∧ (∃ z, w5.cell? ⟨gO, k, none⟩ = some (.int .u8 z) ∧ w5.frozen? ⟨gO, k, none⟩ = false) := by
  obtain ⟨a, b, _⟩ := h.meth hst
  exact ⟨a.cellG hk, b.cellG hk⟩
set_option maxRecDepth 100000 in
set_option maxHeartbeats 8000000 in
theorem exp_any (A : Option Addr) (n c : Nat) (l : List Int) (base : Int) (w : World) (hr : Rd .i32 w A n l) (hn : n ≤ 100000) (hb0 : 0 ≤ base ∧ base ≤ 1) :
    Calls Try.prog 14 #[.slice A n c, .int .u8 base] w (ExpRet n (levelsS (l.map cls) base) (classesS (l.map cls) base) w) := by
  have hln := hide hr.len
  have hcl := hide (show (l.map cls).length = n by rw [List.length_map, hr.len])
  have hml := hide (show (matchS (l.map cls)).length = n by unfold matchS; rw [mSt_len, List.length_map, hr.len])
  have hb1 := hb0.1
  have hb2 := hb0.2
  have hmk := run_mk elt8 n (by omega)
  go_enter Try.func14, Try.ntmps14
  go_wp2_with fail
  refine (classes_any A n c l w hr (by omega)).mono ?_
  rintro e w1 ⟨A1, c1, rfl, hownC, hbel1⟩
  rw [hcl.out] at hownC ⊢
  go_wp2_with fail
  refine (match_any A1 n c1 (l.map cls) _ (hownC.rd.alloc _) (by omega)).mono ?_
  rintro e w2 ⟨A2, c2, rfl, hownM, hbel2⟩
  rw [hml.out] at hownM ⊢
  go_wp2_with fail
  refine (deeds_any _).mono ?_
  rintro e w3 ⟨rfl, hmap, hbel3⟩
  have hsz2 := hbel2.size
  have hsz3 := hbel3.size
  -- the state as it lies
  have hsta : StA w1.heap.size w3 w2.heap.size (some w1.heap.size) (start base) (.slice A1 n c1) (.slice A2 n c2) := by
    have h1 : (w1.alloc (.cells #[.int .u8 base, .int .u8 13, .bool false] 58)).ownsRow w1.heap.size 58 3 (.slice (some ⟨w1.heap.size, 0, none⟩) 1 1) 1 (entC [⟨base, 13, false⟩]) :=
      ⟨rfl, .inr ⟨w1.heap.size, 1, #[.int .u8 base, .int .u8 13, .bool false], rfl, Nat.le_refl _, heap_alloc_new w1 _, Nat.le_refl _, by decide, rfl, rfl⟩⟩
    have h2 := h1.kept (row := none) ⟨hbel2.os, hbel2.tape, hbel2.output, hbel2.size, fun i hi _ => hbel2.block i hi⟩ (by simp [Value.ownBlock])
    have h3 : Sta w1.heap.size (w2.alloc (.cells #[.slice (some ⟨w1.heap.size, 0, none⟩) 1 1, .int .i64 0, .int .i64 0, .int .i64 0, .slice A1 n c1, .slice A2 n c2] 61)) w2.heap.size (some ⟨w1.heap.size, 0, none⟩) 1 1 [⟨base, 13, false⟩] 0 0 0 (.slice A1 n c1) (.slice A2 n c2) :=
      ⟨heap_alloc_new w2 _, h2.alloc _⟩
    exact ⟨_, 1, rfl, h3.below hbel3⟩
  have hH := hide hsta
  have hM3 := hide ((hownM.alloc _).below hbel3)
  have hb13 := hide ((show Below w1.heap.size w1 w3 from (((((Below.refl _ _).alloc (Nat.le_refl _) _).trans (hbel2.mono (by simp))).alloc (by have := hbel2.size; simp at this; omega) _).trans (hbel3.mono (by have := hbel2.size; simp at this; simp; omega)))))
  have hMap := hide hmap
  clear hsta hmap
  have hL1 := own_mk w1.heap.size 5 .u8 n w3 w3.heap.size rfl (by have := hb13.out.size; omega) (by omega)
  have hL2 := own_mk w1.heap.size 5 .u8 n (w3.alloc (.cells (madeCells #[.int .u8 0] n) 5)) (w3.heap.size + 1) (by simp) (by have := hb13.out.size; omega) (by omega)
  have hXX : ∀ gL gO, (gL = w3.heap.size ∧ gO = w3.heap.size + 1) ∨ (gL = w3.heap.size + 1 ∧ gO = w3.heap.size) →
      XInv w1 w2.heap.size gL gO (w2.heap.size + 1) A2 n c2 (l.map cls) base (.slice A1 n c1) 0 (some w1.heap.size) ((w3.alloc (.cells (madeCells #[.int .u8 0] n) 5)).alloc (.cells (madeCells #[.int .u8 0] n) 5)).drew := by
    intro gL gO hg
    have hlo := hb13.out.size
    have hwle : w1.heap.size ≤ w2.heap.size := by have := hsz2; simp at this; omega
    have hst1 : StA w1.heap.size ((w3.alloc (.cells (madeCells #[.int .u8 0] n) 5)).alloc (.cells (madeCells #[.int .u8 0] n) 5)).drew w2.heap.size (some w1.heap.size) (start base) (.slice A1 n c1) (.slice A2 n c2) := by
      refine hH.out.below ?_
      exact (((Below.refl _ _).alloc (Nat.le_refl _) _).alloc (by simp) _).drew
    have hM1 := ((hM3.out.alloc (.cells (madeCells #[.int .u8 0] n) 5)).alloc (.cells (madeCells #[.int .u8 0] n) 5)).drew.more (B' := w1.heap.size) (by simp)
    have hbl : Below w1.heap.size w1 ((w3.alloc (.cells (madeCells #[.int .u8 0] n) 5)).alloc (.cells (madeCells #[.int .u8 0] n) 5)).drew := ((hb13.out.alloc hlo _).alloc (by simp; omega) _).drew
    have hmp : ((w3.alloc (.cells (madeCells #[.int .u8 0] n) 5)).alloc (.cells (madeCells #[.int .u8 0] n) 5)).drew.ownsMap Try.prog 5 RF (w2.heap.size + 1) 11 deedD := by
      have h0 := hMap.out
      rw [show (w2.alloc (Obj.cells #[.slice (some ⟨w1.heap.size, 0, none⟩) 1 1, .int .i64 0, .int .i64 0, .int .i64 0, .slice A1 n c1, .slice A2 n c2] 61)).heap.size = w2.heap.size + 1 by simp] at h0
      obtain ⟨es, clock, hb, hr⟩ := h0
      exact ⟨es, clock, heap_at_old _ (heap_at_old _ hb), hr⟩
    rcases hg with ⟨rfl, rfl⟩ | ⟨rfl, rfl⟩
    · exact ⟨hst1, (hL1.alloc _).drew, hL2.drew, hM1, hmp, hbl, by omega, hwle⟩
    · exact ⟨hst1, hL2.drew, (hL1.alloc _).drew, hM1, hmp, hbl, by omega, hwle⟩
  have hX1 := hide (hXX _ _ (.inl ⟨rfl, rfl⟩))
  have hX2 := hide (hXX _ _ (.inr ⟨rfl, rfl⟩))
  have hC1 := hide ((hownC.below (hb13.out)))
  clear hXX hL1 hL2 hownM hH hM3 hMap
  go_wp2_with fail
  go_region
  all_goals (go_wp2_with fail)
  all_goals clear hmk
  focus
    have hX := hide hX1.out; clear hX1 hX2
    generalize ((w3.alloc (.cells (madeCells #[.int .u8 0] n) 5)).alloc (.cells (madeCells #[.int .u8 0] n) 5)).drew = w4 at *
    generalize hgO : w3.heap.size + 1 = gO at *
    generalize hgL : w3.heap.size = gL at *
  rotate_left
  focus
    have hX := hide hX2.out; clear hX1 hX2
    generalize ((w3.alloc (.cells (madeCells #[.int .u8 0] n) 5)).alloc (.cells (madeCells #[.int .u8 0] n) 5)).drew = w4 at *
    generalize hgL : w3.heap.size + 1 = gL at *
    generalize hgO : w3.heap.size = gO at *
  rotate_left
  all_goals clear hgL hgO hsz2 hsz3 hbel3 hbel2
  all_goals generalize w2.heap.size = gs at *
  all_goals (
    go_loopw [36] (fun i wr => ∃ (k : Nat) (r : Option Nat), k ≤ n ∧ i = .int .i64 ((k : Nat) : Int) ∧ XInv w1 gs gL gO (gs + 1) A2 n c2 (l.map cls) base (.slice A1 n c1) k r wr) (fun i _ => n - (intOf i).toNat)
    case atStart => exact ⟨0, _, Nat.zero_le _, rfl, hX.out⟩
    case round =>
      obtain ⟨k, r, hk, rfl, hx⟩ := hrel
      obtain ⟨wo, rfl⟩ : ∃ wo : World, wo = wr := ⟨_, rfl⟩
      have hCw := hownC.below hx.bel
      by_cases hkn : k < n
      · obtain ⟨b, off, x, rfl, hbw, hz, hck⟩ := hCw.rd.at_ hkn
        have hxr : 0 ≤ x ∧ x ≤ 22 := by
          have hlk : k < l.length := by rw [hln.out]; exact hkn
          have hzz := hz.out
          simp only [List.getElem?_map, List.getElem?_eq_getElem hlk, Option.map_some, Option.some.injEq] at hzz
          subst hzz
          exact cls_range _
        obtain ⟨xa, xb⟩ := hxr
        have hX' := hide hx
        have hcall := hide (deed_call hx hb0 hn hkn hz.out hCw ⟨xa, xb⟩)
        obtain ⟨⟨s', v1, v2⟩, hp⟩ : ∃ p, stepS (fsiAt (l.map cls) k) (expSt (l.map cls) base k).1 x = p := ⟨_, rfl⟩
        rw [hp] at hcall
        simp only at hcall
        have heg := deed_enters x ⟨xa, xb⟩
        have hp' := hide hp
        have hne := hide hx.ne
        have hmap := hx.map
        clear hx hX hp
        have hq1 : (k : Int) < (n : Int) := by omega
        have hq2 : (0 : Int) ≤ (k : Int) := by omega
        by_cases hd : deedF x = 0
        · have hlk := look0 hmap x ⟨xa, xb⟩ hd
          have hdg : deedG x = 36 := by unfold deedG; rw [if_pos hd]
          have hd' := hide hd
          rw [hdg] at hcall heg
          clear hd hdg hmap
          go_wp2_with fail
          refine hcall.out.mono ?_
          rintro e w5 ⟨rfl, hst⟩
          obtain ⟨⟨zL, hcL, hfL⟩, ⟨zO, hcO, hfO⟩⟩ := hX'.out.cells5 hkn hst
          obtain ⟨hcO', hfO'⟩ := set_far w5 (p := ⟨gL, k, none⟩) (q := ⟨gO, k, none⟩) (fun e => hne.out e.symm) (.int .u8 v1)
          rw [hcO] at hcO'
          rw [hfO] at hfO'
          have hS := hide hst
          clear hst
          go_wp2_with fail
          go_roundw
          case rel =>
            obtain ⟨r', hx5⟩ := hX'.out.next hkn hz.out hS.out hp'.out
            exact ⟨k + 1, r', by omega, by go_num, hx5⟩
          case measure => simp [intOf]; omega
        · have hlk := look1 hmap x ⟨xa, xb⟩ hd
          have hd' := hide hd
          clear hd hmap
          generalize deedG x = fn at *
          go_wp2_with fail
          refine hcall.out.mono ?_
          rintro e w5 ⟨rfl, hst⟩
          obtain ⟨⟨zL, hcL, hfL⟩, ⟨zO, hcO, hfO⟩⟩ := hX'.out.cells5 hkn hst
          obtain ⟨hcO', hfO'⟩ := set_far w5 (p := ⟨gL, k, none⟩) (q := ⟨gO, k, none⟩) (fun e => hne.out e.symm) (.int .u8 v1)
          rw [hcO] at hcO'
          rw [hfO] at hfO'
          have hS := hide hst
          clear hst
          go_wp2_with fail
          go_roundw
          case rel =>
            obtain ⟨r', hx5⟩ := hX'.out.next hkn hz.out hS.out hp'.out
            exact ⟨k + 1, r', by omega, by go_num, hx5⟩
          case measure => simp [intOf]; omega
      · obtain rfl : k = n := by omega
        clear hkn hX
        have hX' := hide hx
        clear hx
        go_wp2_with fail
        go_ret2
        have hx := hX'.out
        have e1 : (expSt (l.map cls) base k).2.1 ++ List.replicate (k - k) 0 = levelsS (l.map cls) base := by
          unfold levelsS; rw [hcl.out, Nat.sub_self]; simp
        have e2 : (expSt (l.map cls) base k).2.2 ++ List.replicate (k - k) 0 = classesS (l.map cls) base := by
          unfold classesS; rw [hcl.out, Nat.sub_self]; simp
        have hL := hx.L
        have hO := hx.O
        rw [e1] at hL
        rw [e2] at hO
        exact ⟨gL, k, gO, k, rfl, hL.more hbel1.size, hO.more hbel1.size, hx.ne, hbel1.trans (hx.bel.mono hbel1.size)⟩)
end Go.Proofs.Ytaojjneajiobnaa

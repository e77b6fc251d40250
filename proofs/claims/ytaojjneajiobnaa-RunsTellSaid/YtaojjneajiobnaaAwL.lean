/-
  The examples of layer 19: 'awake' returns true.
-/
import Derived.Test.YtaojjneajiobnaaExpW
namespace Go.Proofs.Ytaojjneajiobnaa
open Go.RowKit

/-! ### bytes stay bytes -/
theorem as_u8 {s : PS} {k : Nat} (h : Fit s k) {x : Int} (hx : 0 ≤ x ∧ x ≤ 255) : 0 ≤ asS s x ∧ asS s x ≤ 255 := by
  obtain ⟨t, rest, e1, e2, _⟩ := h.parts
  have := h.ov s.top (by rw [e1, ← e2]; simp)
  unfold asS; split <;> omega
theorem top_u8 {s : PS} {k : Nat} (h : Fit s k) : 0 ≤ s.top.lv ∧ s.top.lv ≤ 125 := by
  obtain ⟨t, rest, e1, e2, _⟩ := h.parts
  exact h.lv s.top (by rw [e1, ← e2]; simp)
theorem step_u8 {s : PS} {k : Nat} (h : Fit s k) (h2 : Fit2 s) (f : Bool) {x : Int} (hx : 0 ≤ x ∧ x ≤ 255) : (0 ≤ (stepS f s x).2.1 ∧ (stepS f s x).2.1 ≤ 125) ∧ (0 ≤ (stepS f s x).2.2 ∧ (stepS f s x).2.2 ≤ 255) := by
  have ht := top_u8 h
  have ha := as_u8 h hx
  have he := top_u8 (end_fit h)
  have hc := close_fit h h2
  have hcl := top_u8 hc
  have hca := as_u8 hc hx
  unfold stepS
  split
  · exact ⟨ht, by simp only; omega⟩
  · split
    · exact ⟨he, by simp only; omega⟩
    · split
      · exact ⟨ht, ha⟩
      · split
        · exact ⟨hcl, hca⟩
        · split
          · exact ⟨ht, by simp only; omega⟩
          · split
            · exact ⟨ht, by simp only; omega⟩
            · exact ⟨ht, ha⟩
theorem exp_u8 {cl : List Int} {base : Int} (hb : 0 ≤ base ∧ base ≤ 1) (hc : U8 cl) : ∀ k, k ≤ cl.length → (∀ x ∈ (expSt cl base k).2.1, 0 ≤ x ∧ x ≤ 125) ∧ U8 (expSt cl base k).2.2
  | 0, _ => ⟨fun x hx => by simp [expSt] at hx, fun x hx => by simp [expSt] at hx⟩
  | k + 1, hk => by
    obtain ⟨h1, h2⟩ := exp_u8 hb hc k (by omega)
    obtain ⟨f1, f2⟩ := exp_fit cl hb k
    have hg : 0 ≤ cl.getD k 0 ∧ cl.getD k 0 ≤ 255 := by
      have : cl[k]? = some cl[k] := List.getElem?_eq_getElem (by omega)
      simp only [List.getD, this, Option.getD_some]
      exact hc _ (List.getElem_mem _)
    obtain ⟨s1, s2⟩ := step_u8 f1 f2 (fsiAt cl k) hg
    constructor
    · intro x hx
      rcases List.mem_append.1 hx with hx | hx
      · exact h1 x hx
      · rw [List.mem_singleton.1 hx]; exact s1
    · intro x hx
      rcases List.mem_append.1 hx with hx | hx
      · exact h2 x hx
      · rw [List.mem_singleton.1 hx]; exact s2
theorem map_cls_u8 (l : List Int) : U8 (l.map cls) := by
  intro x hx
  obtain ⟨r, _, rfl⟩ := List.mem_map.1 hx
  have := cls_range r
  omega
theorem levels_bd {cl : List Int} {base : Int} (hb : 0 ≤ base ∧ base ≤ 1) (hc : U8 cl) : ∀ x ∈ levelsS cl base, 0 ≤ x ∧ x ≤ 125 := (exp_u8 hb hc _ (Nat.le_refl _)).1
theorem levels_u8 {cl : List Int} {base : Int} (hb : 0 ≤ base ∧ base ≤ 1) (hc : U8 cl) : U8 (levelsS cl base) := fun x hx => by have := levels_bd hb hc x hx; omega
theorem classes_u8 {cl : List Int} {base : Int} (hb : 0 ≤ base ∧ base ≤ 1) (hc : U8 cl) : U8 (classesS cl base) := (exp_u8 hb hc _ (Nat.le_refl _)).2

set_option maxHeartbeats 400000 in
theorem levels_any (base : Int) (A1 A2 : Option Addr) (n m c1 c2 : Nat) (l want : List Int) (w : World) (hs : 0 ≤ base ∧ base ≤ 1) (r1 : Rd .i32 w A1 n l) (r2 : Rd .u8 w A2 m want)
    (hn' : n ≤ 100000) (u2 : U8 want) :
    Calls Try.prog 33 #[.int .u8 base, .slice A1 n c1, .slice A2 m c2] w fun e w' => e = .returned (.bool (sameB (levelsS (l.map cls) base) want)) ∧ Below w.heap.size w w' := by
  have u3 := levels_u8 hs (map_cls_u8 l)
  go_enter Try.func33, Try.ntmps33
  go_wp2_with fail
  refine (exp_any A1 n c1 l base w r1 hn' hs).mono ?_
  rintro e w1 ⟨g1, c3, g2, c4, rfl, hL, hO, hne, hb1⟩
  go_wp2_with fail
  refine (same_any _ _ _ _ _ _ _ want _ hL.rd (r2.below hb1) u3 u2).mono ?_
  rintro e w2 ⟨rfl, rfl⟩
  go_wp2_with fail
  go_ret
  exact ⟨rfl, hb1⟩

/-! ### two rows of places -/
theorem bne_false {a b : Nat} (h : a = b) : ((a : Int) != (b : Int)) = false := by subst h; simp
theorem bne_true {a b : Nat} (h : a ≠ b) : ((a : Int) != (b : Int)) = true := by simp; omega
theorem take_succ_eq {xs ys : List Int} {k : Nat} {x : Int} (h : xs.take k = ys.take k) (h1 : xs[k]? = some x) (h2 : ys[k]? = some x) : xs.take (k + 1) = ys.take (k + 1) := by
  rw [List.take_add_one, List.take_add_one, h1, h2, h]
set_option maxHeartbeats 4000000 in
theorem places_any (A1 A2 : Option Addr) (n m c1 c2 : Nat) (l want : List Int) (w : World) (r1 : Rd .i64 w A1 n l) (r2 : Rd .i64 w A2 m want) (hn' : n ≤ 1000000) :
    Calls Try.prog 16 #[.slice A1 n c1, .slice A2 m c2] w fun e w' => e = .returned (.bool (sameB l want)) ∧ Below w.heap.size w w' := by
  have hl1 := hide r1.len
  have hl2 := hide r2.len
  by_cases hnm : n = m
  · subst hnm
    have hq := bne_false (rfl : n = n)
    go_enter Try.func16, Try.ntmps16
    go_wp2_with fail
    go_loopw [13] (fun i wr => ∃ k : Nat, k ≤ n ∧ i = .int .i64 ((k : Nat) : Int) ∧ Below w.heap.size w wr ∧ Hid (l.take k = want.take k)) (fun i _ => n - (intOf i).toNat)
    case atStart => exact ⟨0, Nat.zero_le _, rfl, Below.refl _ _, hide rfl⟩
    case round =>
      obtain ⟨k, hk, rfl, hbel, hI⟩ := hrel
      have r1 := r1.below hbel
      have r2 := r2.below hbel
      by_cases hkn : k < n
      · obtain ⟨b, off, x, rfl, hbw, hz, hck⟩ := r1.at_ hkn
        obtain ⟨b2, off2, y, rfl, hbw2, hz2, hck2⟩ := r2.at_ hkn
        have hq1 : (k : Int) < (n : Int) := by omega
        have hq2 : (0 : Int) ≤ (k : Int) := by omega
        by_cases hxy : x = y
        · subst hxy
          have hb : (x != x) = false := by simp
          have hst := hide (take_succ_eq hI.out hz.out hz2.out)
          clear hI
          go_wp2_with fail
          go_quiet (fail)
          go_wp2_with fail
          go_roundw
          case rel => exact ⟨k + 1, by omega, by go_num, hB_drewN hbel _, hst⟩
          case measure => simp [intOf]; omega
        · have hb : (x != y) = true := by simpa using hxy
          have hxy' := hide hxy
          clear hxy
          go_wp2_with fail
          go_quiet (fail)
          go_wp2_with fail
          go_ret
          refine ⟨?_, hB_drewN hbel _⟩
          have : sameB l want = false := by
            simp only [sameB, decide_eq_false_iff_not]
            rintro rfl
            have h1 := hz.out
            rw [hz2.out] at h1
            injection h1 with h1
            exact hxy'.out h1.symm
          rw [this]; rfl
      · obtain rfl : k = n := by omega
        clear hkn
        go_wp2_with fail
        go_ret
        refine ⟨?_, hbel⟩
        have h1 := hI.out
        rw [List.take_of_length_le (by rw [hl1.out]; exact Nat.le_refl _), List.take_of_length_le (by rw [hl2.out]; exact Nat.le_refl _)] at h1
        have : sameB l want = true := by simp [sameB, h1]
        rw [this]; rfl
  · have hq := bne_true hnm
    have hs : sameB l want = false := by
      simp only [sameB, decide_eq_false_iff_not]
      rintro rfl
      have h1 := hl1.out
      rw [hl2.out] at h1
      exact hnm h1.symm
    have hnm' := hide hnm
    clear hnm
    go_enter Try.func16, Try.ntmps16
    go_wp2_with fail
    go_ret
    exact ⟨by rw [hs]; rfl, Below.refl _ _⟩

/-! ### blocks that hold what a literal says -/
def LitK (k : IntKind) (t : TypeId) (w : World) (b : Nat) (zs : List Int) : Prop := w.heap[b]? = some (.cells (zs.map (Value.int k)).toArray t (0, 0))
theorem LitK.rd {k : IntKind} {t : TypeId} {w : World} {b : Nat} {zs : List Int} {n : Nat} (h : LitK k t w b zs) (hn : zs.length = n) (hm : n ≤ 1000000) : Rd k w (some ⟨b, 0, none⟩) n zs :=
  Rd.of_block h hn (by omega) fun j hj => by
    have : j < zs.length := by omega
    simp [List.getD, List.getElem?_eq_getElem this]
theorem LitK.new (k : IntKind) (t : TypeId) (w : World) (b : Nat) (zs : List Int) {cs : Array Value} (hb : b = w.heap.size) (e : cs = (zs.map (Value.int k)).toArray) : LitK k t (w.alloc (.cells cs t)) b zs := by
  subst hb; subst e; exact heap_alloc_new w _
theorem LitK.alloc {k : IntKind} {t : TypeId} {w : World} {b : Nat} {zs : List Int} (h : LitK k t w b zs) (o : Obj) : LitK k t (w.alloc o) b zs := (Below.heap_alloc w o b (lt_of_block h)).trans h
theorem LitK.below {k : IntKind} {t : TypeId} {w w' : World} {b : Nat} {zs : List Int} (h : LitK k t w b zs) (hb : Below w.heap.size w w') : LitK k t w' b zs := (hb.block b (lt_of_block h)).trans h
theorem par_lit (b n c : Nat) (l : List Int) (auto rtl : Bool) (v : Int) (w : World) (h : LitK .i32 21 w b l) (hn : l.length = n) (hn' : n ≤ 1000000) (he : parS l auto rtl = v) :
    Calls Try.prog 19 #[.slice (some ⟨b, 0, none⟩) n c, .bool auto, .bool rtl] w (RetU8 v w) := by
  subst he; exact par_any _ n c l auto rtl w (h.rd hn hn') hn'
theorem levels_lit (b1 b2 n m c1 c2 : Nat) (base : Int) (l want : List Int) (w : World) (hs : 0 ≤ base ∧ base ≤ 1) (h1 : LitK .i32 21 w b1 l) (h2 : LitK .u8 5 w b2 want) (hn : l.length = n) (hm : want.length = m) (hn' : n ≤ 100000) (hm' : m ≤ 1000000) (u2 : U8 want)
    (he : levelsS (l.map cls) base = want) :
    Calls Try.prog 33 #[.int .u8 base, .slice (some ⟨b1, 0, none⟩) n c1, .slice (some ⟨b2, 0, none⟩) m c2] w fun e w' => e = .returned (.bool true) ∧ Below w.heap.size w w' :=
  (levels_any base _ _ n m c1 c2 l want w hs (h1.rd hn (by omega)) (h2.rd hm hm') hn' u2).mono fun e w' ⟨h, hb⟩ => ⟨by rw [h, he]; simp [sameB], hb⟩

set_option maxHeartbeats 4000000 in
theorem awake_l (w : World) : Calls Try.prog 13 #[] w fun e w' => e = .returned (.bool true) ∧ Below w.heap.size w w' := by
  go_enter Try.func13, Try.ntmps13
  have hb : Below w.heap.size w w := Below.refl _ _
  go_wp2_with fail
  refine (exp_any _ _ _ [8238, 97, 8236, 98] 0 _ ((LitK.new .i32 21 _ _ _ rfl rfl).rd rfl (by decide)) (by decide) (by decide)).mono ?_
  rintro e w1 ⟨g1, c3, g2, c4, rfl, hL, hO, hne, hb1⟩
  replace hO := hide (show Own _ 5 .u8 w1 (some ⟨g2, 0, none⟩) 4 c4 [9, 1, 9, 0] by rw [show [9, 1, 9, 0] = classesS ([8238, 97, 8236, 98].map cls) 0 by decide +kernel]; exact hO)
  replace hb : Below w.heap.size w w1 := (hb.alloc (Nat.le_refl _) _).trans (hb1.mono (by simp))
  clear hb1 hL
  go_wp2_with fail
  refine (par_lit _ _ _ [49, 1488] true false 1 _ (LitK.new .i32 21 _ _ _ rfl rfl) rfl (by decide) (by decide +kernel)).mono ?_
  rintro e w2 ⟨rfl, hb1⟩
  have hO2 := hide ((hO.out.alloc _).below hb1)
  replace hb : Below w.heap.size w w2 := (hb.alloc hb.size _).trans (hb1.mono (by have := hb.size; simp <;> omega))
  clear hb1 hO
  go_wp2_with fail
  refine (par_lit _ _ _ [8295, 1488, 8297, 97] true true 0 _ (LitK.new .i32 21 _ _ _ rfl rfl) rfl (by decide) (by decide +kernel)).mono ?_
  rintro e w3 ⟨rfl, hb1⟩
  have hO3 := hide ((hO2.out.alloc _).below hb1)
  replace hb : Below w.heap.size w w3 := (hb.alloc hb.size _).trans (hb1.mono (by have := hb.size; simp <;> omega))
  clear hb1 hO2
  go_wp2_with fail
  refine (par_lit _ _ _ [8295, 1488] true true 0 _ (LitK.new .i32 21 _ _ _ rfl rfl) rfl (by decide) (by decide +kernel)).mono ?_
  rintro e w4 ⟨rfl, hb1⟩
  have hO4 := hide ((hO3.out.alloc _).below hb1)
  replace hb : Below w.heap.size w w4 := (hb.alloc hb.size _).trans (hb1.mono (by have := hb.size; simp <;> omega))
  clear hb1 hO3
  go_wp2_with fail
  refine (levels_lit _ _ _ _ _ _ 0 [97, 8295, 98, 8297, 99] [0, 0, 1, 0, 0] _ (by decide) (LitK.alloc (LitK.new .i32 21 _ _ _ rfl rfl) _) (LitK.new .u8 5 _ _ _ (by simp) rfl) rfl rfl (by decide) (by decide) (by unfold U8; decide) (by decide +kernel)).mono ?_
  rintro e w5 ⟨rfl, hb1⟩
  have hO5 := hide (((hO4.out.alloc _).alloc _).below hb1)
  replace hb : Below w.heap.size w w5 := ((hb.alloc (by have := hb.size; omega) _).alloc (by have := hb.size; simp <;> omega) _).trans (hb1.mono (by have := hb.size; simp <;> omega))
  clear hb1 hO4
  go_wp2_with fail
  refine (levels_lit _ _ _ _ _ _ 0 [8238, 97, 8236, 98] [0, 1, 0, 0] _ (by decide) (LitK.alloc (LitK.new .i32 21 _ _ _ rfl rfl) _) (LitK.new .u8 5 _ _ _ (by simp) rfl) rfl rfl (by decide) (by decide) (by unfold U8; decide) (by decide +kernel)).mono ?_
  rintro e w6 ⟨rfl, hb1⟩
  have hO6 := hide (((hO5.out.alloc _).alloc _).below hb1)
  replace hb : Below w.heap.size w w6 := ((hb.alloc (by have := hb.size; omega) _).alloc (by have := hb.size; simp <;> omega) _).trans (hb1.mono (by have := hb.size; simp <;> omega))
  clear hb1 hO5
  go_wp2_with fail
  refine ((same_any _ _ _ _ _ _ [9, 1, 9, 0] [9, 1, 9, 0] _ (hO6.out.alloc _).rd ((LitK.new .u8 5 _ _ _ rfl rfl).rd rfl (by decide)) (by unfold U8; decide) (by unfold U8; decide)).mono (fun e w' (h : _ ∧ _) => (⟨h.1, h.2⟩ : e = .returned (.bool true) ∧ _))).mono ?_
  rintro e w' ⟨rfl, rfl⟩
  replace hb := hb.alloc hb.size (.cells #[.int .u8 9, .int .u8 1, .int .u8 9, .int .u8 0] 5)
  clear hO6
  go_wp2_with fail
  refine (levels_lit _ _ _ _ _ _ 0 [8235, 97, 8294, 98, 8236, 99, 8297, 100] [0, 1, 1, 2, 2, 2, 1, 1] _ (by decide) (LitK.alloc (LitK.new .i32 21 _ _ _ (by simp) rfl) _) (LitK.new .u8 5 _ _ _ (by simp) rfl) rfl rfl (by decide) (by decide) (by unfold U8; decide) (by decide +kernel)).mono ?_
  rintro e w7 ⟨rfl, hb1⟩
  replace hb : Below w.heap.size w w7 := ((hb.alloc (by have := hb.size; omega) _).alloc (by have := hb.size; simp at this ⊢; omega) _).trans (hb1.mono (by have := hb.size; simp at this ⊢; omega))
  clear hb1
  go_wp2_with fail
  refine (match_any _ _ _ [19, 0, 22, 22] _ ((LitK.new .u8 5 _ _ _ rfl rfl).rd rfl (by decide)) (by decide)).mono ?_
  rintro e w8 ⟨A1, c5, rfl, hM, hb1⟩
  replace hb : Below w.heap.size w w8 := (hb.alloc hb.size _).trans (hb1.mono (by have := hb.size; simp <;> omega))
  clear hb1
  go_wp2_with fail
  have hs2 : sameB (matchS [19, 0, 22, 22]) [2, -1, 0, -1] = true := by decide +kernel
  refine ((places_any _ _ _ _ _ _ (matchS [19, 0, 22, 22]) [2, -1, 0, -1] _ (hM.rd.alloc _) ((LitK.new .i64 3 _ _ _ rfl rfl).rd rfl (by decide)) (by decide)).mono (fun e w' (h : _ ∧ _) => (⟨by rw [h.1, hs2], h.2⟩ : e = .returned (.bool true) ∧ _))).mono ?_
  rintro e w9 ⟨rfl, hb1⟩
  replace hb : Below w.heap.size w w9 := (hb.alloc hb.size _).trans (hb1.mono (by have := hb.size; simp <;> omega))
  go_wp2_with fail
  go_ret
  exact ⟨rfl, hb⟩
end Go.Proofs.Ytaojjneajiobnaa

/-
  Classes of code points, as the program finds them.
-/
import Derived.Test.YtaojjneajiobnaaUcdC
import Derived.Deep.OwnRows
namespace Go.Proofs.Ytaojjneajiobnaa
open Go.RowKit

/-! ### make -/
theorem Elt.parts {P : Program} {t e : TypeId} {k : IntKind} (h : Elt P t e k) : ∃ b, b ≤ 8 ∧ (P.info? e).map (fun i => (i.zero, i.size, i.bytes)) = some (some (.int k 0), 1, b) := by
  obtain ⟨_, i, z, b, hi, hz, hs, hb, hb8, rfl⟩ := h
  exact ⟨b, hb8, by rw [hi]; simp [hz, hs, hb]⟩
theorem run_mk {P : Program} {t e : TypeId} {k : IntKind} (h : Elt P t e k) (n : Nat) (hn : n ≤ 1000000000) (w : World) :
    (Instr.makeSlice t (.int .i64 (n : Int)) (.int .i64 (n : Int))).run P w = .ok (.slice (some ⟨w.heap.size, 0, none⟩) n n) (w.alloc (.cells (madeCells #[.int k 0] n) e)) := by
  obtain ⟨b, hb8, hi⟩ := h.parts
  exact run_make_row' t e (.int k 0) b h.ht hi rfl .i64 .i64 n (by have := Nat.mul_le_mul hb8 hn; omega) (by omega) w
theorem run_mk0 {P : Program} {t e : TypeId} {k : IntKind} (h : Elt P t e k) (n : Nat) (hn : n ≤ 1000000000) (w : World) :
    (Instr.makeSlice t (.int .i64 0) (.int .i64 (n : Int))).run P w = .ok (.slice (some ⟨w.heap.size, 0, none⟩) 0 n) (w.alloc (.cells (madeCells #[.int k 0] n) e)) := by
  obtain ⟨ht, i, z, b, hi, hz, hs, hb, hb8, rfl⟩ := h
  have hb' : (i.bytes : Int) * (n : Int) ≤ 281474976710656 := by
    have h : ((i.bytes * n : Nat) : Int) ≤ 281474976710656 := by have := Nat.mul_le_mul hb8 hn; rw [hb]; omega
    rwa [Int.natCast_mul] at h
  have hr := run_make (P := P) w t e i (.int k 0) ht hi hz .i64 .i64 0 n (Int.le_refl _) (by omega) hb' (by omega)
  simp only [Int.toNat_zero, Int.toNat_natCast, hs, Nat.mul_one] at hr
  exact hr
theorem own_mk0 (B : Nat) (e : TypeId) (k : IntKind) (n : Nat) (w : World) (g : Nat) (hg : g = w.heap.size) (hB : B ≤ g) (hn : n ≤ 1000000000) : Own B e k (w.alloc (.cells (madeCells #[.int k 0] n) e)) (some ⟨g, 0, none⟩) 0 n [] := by
  subst hg
  exact ⟨World.ownsRow_made w _ n hB (by simp only [maxLen]; omega) (by rw [size_madeCells, Nat.mul_one]), by omega⟩
theorem madeCells_list (k : IntKind) (n : Nat) : (madeCells #[.int k 0] n).toList = (List.replicate n 0).map (Value.int k) := by
  apply List.ext_getElem
  · simp [size_madeCells]
  · intro i h1 h2
    simp [madeCells]
    have : i % 1 = 0 := by omega
    simp [this]
theorem own_mk (B : Nat) (e : TypeId) (k : IntKind) (n : Nat) (w : World) (g : Nat) (hg : g = w.heap.size) (hB : B ≤ g) (hn : n ≤ 1000000000) : Own B e k (w.alloc (.cells (madeCells #[.int k 0] n) e)) (some ⟨g, 0, none⟩) n n (List.replicate n 0) := by
  subst hg
  refine ⟨⟨by simp, .inr ⟨w.heap.size, n, madeCells #[.int k 0] n, rfl, hB, heap_alloc_new w _, Nat.le_refl _, by simp only [maxLen]; omega, by rw [size_madeCells, Nat.mul_one], ?_⟩⟩, by omega⟩
  rw [madeCells_list, Nat.mul_one, List.take_of_length_le (by simp)]

/-! ### classes -/
theorem props_of (r : Int) : ∃ p0 p2 p3 p4 p5 p6, propS r = [p0, cls r, p2, p3, p4, p5, p6] := by
  unfold cls
  have h := propS_len r
  generalize propS r = l at *
  match l, h with
  | [p0, p1, p2, p3, p4, p5, p6], _ => exact ⟨p0, p2, p3, p4, p5, p6, rfl⟩
theorem cls_range (r : Int) : 0 ≤ cls r ∧ cls r ≤ 22 := by
  have ht : ∀ t ∈ [tab1, tab2, tab3, tab4, tab5], (t.all fun x => decide (0 ≤ (x.drop 2).getD 1 0) && decide ((x.drop 2).getD 1 0 ≤ 22)) = true := by decide +kernel
  have hm : tabOf r ∈ [tab1, tab2, tab3, tab4, tab5] := by
    unfold tabOf
    split
    · simp
    · split
      · simp
      · split
        · simp
        · split <;> simp
  have h := ht _ hm
  unfold cls propS propT
  split
  next row hf =>
    split
    · decide
    · have := List.all_eq_true.1 h row (List.mem_of_find?_eq_some hf)
      simpa using this
  next => decide
theorem cls_u8 (l : List Int) : U8 (l.map cls) := fun x hx => by
  obtain ⟨r, _, rfl⟩ := List.mem_map.1 hx
  have := cls_range r
  omega
theorem fld1 (f0 f1 f2 f3 f4 f5 f6 : Value) (w : World) : (Instr.field 36 (.agg #[f0, f1, f2, f3, f4, f5, f6]) 1).run Try.prog w = .ok f1 w := by kernel_rfl
theorem map_take_step {zs : List Int} {k : Nat} {z : Int} (f : Int → Int) (hz : zs[k]? = some z) : (zs.take k).map f ++ [f z] = (zs.take (k + 1)).map f := by
  obtain ⟨hk, rfl⟩ := List.getElem?_eq_some_iff.1 hz
  rw [List.take_succ_eq_append_getElem hk, List.map_append]
  rfl

set_option maxRecDepth 100000 in
set_option maxHeartbeats 4000000 in
theorem classes_any (A : Option Addr) (n c : Nat) (l : List Int) (w : World) (hr : Rd .i32 w A n l) (hn : n ≤ 1000000) :
    Calls Try.prog 34 #[.slice A n c] w (RetSl w.heap.size 5 .u8 (l.map cls) w) := by
  have hm := hr.max
  have hln := hide hr.len
  have hmk := run_mk0 elt8 n (by omega)
  have hown0 := own_mk0 w.heap.size 5 .u8 n w _ rfl (Nat.le_refl _) (by omega)
  go_enter Try.func34, Try.ntmps34
  go_wp2
  clear hmk
  go_loopw [3, 11] (fun o i wr => ∃ k A1 c1, k ≤ n ∧ i = .int .i64 ((k : Nat) : Int) ∧ o = .slice A1 k c1 ∧ Own w.heap.size 5 .u8 wr A1 k c1 ((l.take k).map cls) ∧ Below w.heap.size w wr) (fun _ i _ => n - (intOf i).toNat)
  case atStart => exact ⟨0, _, _, Nat.zero_le _, rfl, rfl, hown0, (Below.refl _ _).alloc (Nat.le_refl _) _⟩
  case round =>
    obtain ⟨k, A1, c1, hk, rfl, rfl, hown, hbel⟩ := hrel
    obtain ⟨wo, rfl⟩ : ∃ wo : World, wo = wr := ⟨_, rfl⟩
    have hsz := hbel.size
    by_cases hkn : k < n
    · obtain ⟨b, off, z, rfl, hbw, hz, hck⟩ := (hr.below hbel).at_ hkn
      obtain ⟨p0, p2, p3, p4, p5, p6, hps⟩ := props_of z
      have hst := hide (map_take_step cls hz.out)
      have hof := hide (of_any z wo)
      rw [hps] at hof
      clear hps
      generalize cls z = p1 at *
      have hfl := fld1
      go_wp2_with fail
      refine hof.out.mono ?_
      rintro e w2 ⟨rfl, hb2⟩
      have hown2 := hown.below hb2
      have hb2' := hbel.trans (hb2.mono hsz)
      have hsz2 := hb2'.size
      clear hof hb2 hown
      go_wp2_with (at_builtin; refine wpList_app elt8 rfl (.tmp 15) (.tmp 19) rfl rfl rfl (hown2.alloc _) (own_one _ _ _ _ _ _ rfl (Nat.le_refl _)).rd (by omega) (by simp <;> omega) ?_; intro A3 c3 w3 hown3 hgr3 _)
      have hb3 := hide ((hb2'.alloc hsz2 (.cells #[.int .u8 p1] 5)).grown hgr3 (by simp <;> omega) (fun g hg => (hown2.lt g hg).1))
      clear hgr3
      rw [hst.out] at hown3
      go_wp2
      go_roundw
      case rel => exact ⟨k + 1, A3, c3, by omega, by go_num, rfl, hown3, hb3.out⟩
      case measure => simp [intOf]; omega
    · obtain rfl : k = n := by omega
      clear hkn
      go_wp2
      go_ret
      have e : l.take k = l := List.take_of_length_le (by rw [hln.out]; exact Nat.le_refl _)
      rw [e] at hown
      have e2 : (l.map cls).length = k := by rw [List.length_map, hln.out]
      exact ⟨A1, c1, by rw [e2]; rfl, by rw [e2]; exact hown, hbel⟩
end Go.Proofs.Ytaojjneajiobnaa

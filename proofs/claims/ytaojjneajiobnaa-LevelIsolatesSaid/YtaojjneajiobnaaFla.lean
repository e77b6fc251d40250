/-
  flat: code points, those left out that open, or end, isolates.
-/
import Derived.Test.YtaojjneajiobnaaLIm
namespace Go.Proofs.Ytaojjneajiobnaa
open Go.RowKit

def flatB (r : Int) : Bool := !opS (cls r) && (cls r != 22)
def flatS (l : List Int) : List Int := l.filter flatB
theorem flat_cls {l : List Int} : ∀ x ∈ (flatS l).map cls, opS x = false ∧ x ≠ 22 := by
  intro x hx
  obtain ⟨r, hr, rfl⟩ := List.mem_map.1 hx
  have h := (List.mem_filter.1 hr).2
  simpa [flatB] using h
theorem flat_take {l : List Int} {k : Nat} {z : Int} (hz : l[k]? = some z) : flatS (l.take (k + 1)) = if flatB z = true then flatS (l.take k) ++ [z] else flatS (l.take k) := by
  obtain ⟨hk, rfl⟩ := List.getElem?_eq_some_iff.1 hz
  rw [List.take_succ_eq_append_getElem hk]
  unfold flatS
  rw [List.filter_append]
  by_cases h : flatB l[k] = true
  · simp [h]
  · simp [h]
theorem flat_len (l : List Int) : (flatS l).length ≤ l.length := List.length_filter_le _ _
theorem flat_cases (z p1 : Int) (h : cls z = p1) : (opS p1 = true ∧ Hid (¬ flatB z = true)) ∨ (opS p1 = false ∧ (p1 != 22) = false ∧ Hid (¬ flatB z = true)) ∨ (opS p1 = false ∧ (p1 != 22) = true ∧ Hid (flatB z = true)) := by
  unfold Hid flatB
  rw [h]
  cases opS p1 <;> cases p1 != 22 <;> simp

set_option maxRecDepth 100000 in
set_option maxHeartbeats 4000000 in
theorem flat_any (A : Option Addr) (n c : Nat) (l : List Int) (w : World) (hr : Rd .i32 w A n l) (hn : n ≤ 1000000) :
    Calls Try.prog 24 #[.slice A n c] w (RetSl w.heap.size 21 .i32 (flatS l) w) := by
  have hm := hr.max
  have hln := hide hr.len
  have hfl := fld1
  go_enter Try.func24, Try.ntmps24
  go_wp2_with fail
  go_loopw [3, 9] (fun o i wr => ∃ (k m c1 : Nat) (A1 : Option Addr), k ≤ n ∧ i = .int .i64 ((k : Nat) : Int) ∧ o = .slice A1 m c1 ∧ m ≤ k ∧ Own w.heap.size 21 .i32 wr A1 m c1 (flatS (l.take k)) ∧ Below w.heap.size w wr) (fun _ i _ => n - (intOf i).toNat)
  case atStart => exact ⟨0, 0, 0, none, Nat.zero_le _, rfl, rfl, Nat.le_refl _, Own.none_ _ _ _ _, Below.refl _ _⟩
  case round =>
    obtain ⟨k, m, c1, A1, hk, rfl, rfl, hmk, hown, hbel⟩ := hrel
    obtain ⟨wo, rfl⟩ : ∃ wo : World, wo = wr := ⟨_, rfl⟩
    have hsz := hbel.size
    by_cases hkn : k < n
    · obtain ⟨b, off, z, rfl, hbw, hz, hck⟩ := (hr.below hbel).at_ hkn
      obtain ⟨p0, p2, p3, p4, p5, p6, hps⟩ := props_of z
      have hst := hide (flat_take hz.out)
      have hof := hide (of_any z wo)
      rw [hps] at hof
      clear hps
      generalize hcz : cls z = p1 at *
      have hfc := flat_cases z p1 hcz
      clear hcz
      rcases hfc with ⟨h1, h2⟩ | ⟨h1, h2, h3⟩ | ⟨h1, h2, h3⟩
      · have hO := hide h1
        have hst' := hide (hst.out.trans (if_neg h2.out))
        clear h1 hst
        go_wp2_with fail
        refine hof.out.mono ?_
        rintro e w2 ⟨rfl, hb2⟩
        go_wp2_with fail
        refine (op22 p1 w2).mono ?_
        rintro e w3 ⟨rfl, rfl⟩
        rw [hO.out]
        go_wp2_with fail
        go_roundw
        case rel => exact ⟨k + 1, m, c1, A1, by omega, by go_num, rfl, by omega, by rw [hst'.out]; exact hown.below hb2, hbel.trans (hb2.mono hsz)⟩
        case measure => simp [intOf]; omega
      · have hO := hide h1
        have hst' := hide (hst.out.trans (if_neg h3.out))
        clear h1 hst
        go_wp2_with fail
        refine hof.out.mono ?_
        rintro e w2 ⟨rfl, hb2⟩
        go_wp2_with fail
        refine (op22 p1 w2).mono ?_
        rintro e w3 ⟨rfl, rfl⟩
        rw [hO.out]
        go_wp2_with fail
        go_roundw
        case rel => exact ⟨k + 1, m, c1, A1, by omega, by go_num, rfl, by omega, by rw [hst'.out]; exact hown.below hb2, hbel.trans (hb2.mono hsz)⟩
        case measure => simp [intOf]; omega
      · have hO := hide h1
        have hst' := hide (hst.out.trans (if_pos h3.out))
        clear h1 hst
        go_wp2_with fail
        refine hof.out.mono ?_
        rintro e w2 ⟨rfl, hb2⟩
        have hown2 := hown.below hb2
        have hb2' := hbel.trans (hb2.mono hsz)
        have hsz2 := hb2'.size
        go_wp2_with fail
        refine (op22 p1 w2).mono ?_
        rintro e w3 ⟨rfl, rfl⟩
        rw [hO.out]
        go_wp2_with (at_builtin; refine wpList_app elt32 rfl (.tmp 23) (.tmp 25) rfl rfl rfl (hown2.alloc _) (own_one _ _ _ _ _ _ rfl (Nat.le_refl _)).rd (by omega) (by simp <;> omega) ?_; intro A3 c3 w3 hown3 hgr3 _)
        have hb3 := hide ((hb2'.alloc hsz2 (.cells #[.int .i32 z] 21)).grown hgr3 (by simp <;> omega) (fun g hg => (hown2.lt g hg).1))
        clear hgr3
        go_wp2_with fail
        go_roundw
        case rel => exact ⟨k + 1, m + 1, c3, A3, by omega, by go_num, rfl, by omega, by rw [hst'.out]; exact hown3, hb3.out⟩
        case measure => simp [intOf]; omega
    · obtain rfl : k = n := by omega
      clear hkn
      go_wp2_with fail
      go_ret
      have e : l.take k = l := List.take_of_length_le (by rw [hln.out]; exact Nat.le_refl _)
      rw [e] at hown
      have hl := hown.len
      exact ⟨A1, c1, by rw [hl]; rfl, by rw [hl]; exact hown, hbel⟩
end Go.Proofs.Ytaojjneajiobnaa

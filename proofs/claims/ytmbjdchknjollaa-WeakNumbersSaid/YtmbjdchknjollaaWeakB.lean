/-
  The walk of weak's rule for signs between numbers.
-/
import Derived.Test.YtmbjdchknjollaaWeakA
import Derived.Deep.QuietTactic
import Derived.BigQuiet
namespace Go.Proofs.Ytmbjdchknjollaa
open Go.RowKit

/-- the row when the places 1 to m have been gone over -/
def sgN (l : List Int) : Nat → List Int
  | 0 => l
  | m + 1 => (sgN l m).set (m + 1) (sign1 ((sgN l m).getD m 0) ((sgN l m).getD (m + 1) 0) ((sgN l m).getD (m + 2) 0))
theorem sgN_len (l : List Int) : ∀ m, (sgN l m).length = l.length
  | 0 => rfl
  | m + 1 => by rw [sgN, List.length_set]; exact sgN_len l m
theorem sgN_step {l : List Int} {m : Nat} {a z b : Int} (ha : (sgN l m)[m]? = some a) (hz : (sgN l m)[m + 1]? = some z) (hb : (sgN l m)[m + 2]? = some b) :
    sgN l (m + 1) = (sgN l m).set (m + 1) (sign1 a z b) := by
  rw [sgN]; simp [List.getD, ha, hz, hb]
theorem sgN_same {l : List Int} {m : Nat} {a z b : Int} (ha : (sgN l m)[m]? = some a) (hz : (sgN l m)[m + 1]? = some z) (hb : (sgN l m)[m + 2]? = some b) (h : sign1 a z b = z) :
    sgN l (m + 1) = sgN l m := by
  rw [sgN_step ha hz hb, h]
  obtain ⟨hk, he⟩ := List.getElem?_eq_some_iff.1 hz
  conv => lhs; rw [← he]
  exact List.set_getElem_self _

theorem sign_cases (a z b : Int) :
    ((a == b) = false ∧ Hid (sign1 a z b = z)) ∨ ((a == b) = true ∧ (a == 3) = true ∧ (z == 4) = true ∧ Hid (sign1 a z b = a)) ∨ ((a == b) = true ∧ (a == 3) = true ∧ (z == 4) = false ∧ (z == 7) = true ∧ Hid (sign1 a z b = a)) ∨
    ((a == b) = true ∧ (a == 3) = true ∧ (a == 6) = false ∧ (z == 4) = false ∧ (z == 7) = false ∧ Hid (sign1 a z b = z)) ∨
    ((a == b) = true ∧ (a == 3) = false ∧ (a == 6) = true ∧ (z == 7) = true ∧ Hid (sign1 a z b = a)) ∨ ((a == b) = true ∧ (a == 3) = false ∧ (a == 6) = true ∧ (z == 7) = false ∧ Hid (sign1 a z b = z)) ∨
    ((a == b) = true ∧ (a == 3) = false ∧ (a == 6) = false ∧ Hid (sign1 a z b = z)) := by
  simp only [beq_iff_eq, beq_eq_false_iff_ne, Hid, sign1]
  by_cases h1 : a = b
  · subst h1
    by_cases h2 : a = 3
    · subst h2
      by_cases h3 : z = 4
      · subst h3; simp
      · by_cases h4 : z = 7
        · subst h4; simp
        · simp [h3, h4]
    · by_cases h5 : a = 6
      · subst h5
        by_cases h4 : z = 7
        · subst h4; simp
        · simp [h4]
      · simp [h2, h5]
  · simp [h1]

theorem grown_drewN {a w : World} {row : Option Nat} (h : a.grownBy w row) (k : Nat) : a.grownBy (w.drewN k) row := ⟨h.os, h.tape, h.output, h.size, h.block⟩

set_option maxRecDepth 100000 in
set_option maxHeartbeats 4000000 in
theorem signs_any (B : Nat) (A : Option Addr) (n c : Nat) (zs : List Int) (s : Int) (w : World) (hown : Own B 5 .u8 w A n c zs) (hn : n ≤ 1000000) :
    Calls Try.prog 40 #[.agg #[.slice A n c, .int .u8 s]] w (RowPost B w A n c (sgN zs (n - 2))) := by
  have hm := hown.2
  have hown0 := hown.alloc (.cells #[.slice A n c, .int .u8 s] 45)
  have hbox0 : Hid ((w.alloc (.cells #[.slice A n c, .int .u8 s] 45)).heap[w.heap.size]? = some (.cells #[.slice A n c, .int .u8 s] 45 (0, 0))) := heap_alloc_new w _
  have hne : Hid (some w.heap.size ≠ (Value.slice A n c).ownBlock) := by
    intro h
    have := hown.lt _ h.symm
    omega
  have hsz : Hid (w.heap.size < (w.alloc (.cells #[.slice A n c, .int .u8 s] 45)).heap.size) := by show _ < _; simp
  obtain ⟨hc0, hc1⟩ := box_cells hbox0.out
  go_enter Try.func40, Try.ntmps40
  go_wp2
  clear hc0 hc1
  go_loopw [2] (fun i wr => ∃ m : Nat, m ≤ n - 2 ∧ i = .int .i64 ((m : Nat) + 1 : Int) ∧ Own B 5 .u8 wr A n c (sgN zs m) ∧ World.grownBy (w.alloc (.cells #[.slice A n c, .int .u8 s] 45)) wr (Value.slice A n c).ownBlock) (fun i _ => n - (intOf i).toNat)
  case atStart => exact ⟨0, Nat.zero_le _, rfl, hown0, World.grownBy.refl _ _⟩
  case round =>
    obtain ⟨m, hmn, rfl, hownr, hgr⟩ := hrel
    obtain ⟨hc0, hc1⟩ := box_cells ((hgr.block _ hsz.out hne.out).trans hbox0.out)
    by_cases hlt : m + 2 < n
    · obtain ⟨g, a, rfl, _, hgl, ha, hca, _⟩ := hownr.at_ (show m < n by omega)
      obtain ⟨g', z, hgg, _, _, hz, hcz, hfz⟩ := hownr.at_ (show m + 1 < n by omega)
      obtain rfl : g = g' := by injection hgg with h; injection h
      obtain ⟨g', b, hgg', _, _, hb, hcb, _⟩ := hownr.at_ (show m + 2 < n by omega)
      obtain rfl : g = g' := by injection hgg' with h; injection h
      clear hgg hgg'
      have hst := hide (sgN_step ha.out hz.out hb.out)
      have hsm := hide (sgN_same ha.out hz.out hb.out)
      have hg1 : ¬ g = w.heap.size := fun h => hne.out (by rw [← h]; rfl)
      have hg2 : ¬ w.heap.size = g := fun h => hg1 h.symm
      have hcb' : wr.cell? ⟨g, m + 1 + 1, none⟩ = some (.int .u8 b) := hcb
      clear hcb
      have j0 : (0 : Int) ≤ (m : Int) := by omega
      have j1 : (m : Int) < (n : Int) := by omega
      have j2 : (0 : Int) ≤ (m : Int) + 1 := by omega
      have j3 : (m : Int) + 1 < (n : Int) := by omega
      have j4 : (0 : Int) ≤ (m : Int) + 1 + 1 := by omega
      have j5 : (m : Int) + 1 + 1 < (n : Int) := by omega
      have w1 : IntKind.i64.wrap (m : Int) = (m : Int) := IntWalk.i64_in _ (by omega)
      have w2 : IntKind.i64.wrap ((m : Int) + 1 + 1) = (m : Int) + 1 + 1 := IntWalk.i64_in _ (by omega)
      have w3 : ((m : Int) + 1 + 1).toNat = m + 1 + 1 := by omega
      have w4 : ((m : Int) + 1).toNat = m + 1 := by omega
      go_wp2_with fail
      go_quiet (fail)
      clear w1 w2 w3 w4
      rcases sign_cases a z b with ⟨h1, hs⟩ | ⟨h1, h2, h3, hs⟩ | ⟨h1, h2, h3, h4, hs⟩ | ⟨h1, h2, h3, h4, h5, hs⟩ | ⟨h1, h2, h3, h4, hs⟩ | ⟨h1, h2, h3, h4, hs⟩ | ⟨h1, h2, h3, hs⟩
      case' inr.inl => obtain rfl : a = 3 := by simpa using h2
      case' inr.inr.inl => obtain rfl : a = 3 := by simpa using h2
      case' inr.inr.inr.inr.inl => obtain rfl : a = 6 := by simpa using h3
      all_goals
        go_wp2
        go_roundw
        case rel => first
          | exact ⟨m + 1, by omega, by go_num, by rw [hsm.out hs.out]; exact hownr, grown_drewN hgr _⟩
          | exact ⟨m + 1, by omega, by go_num, by rw [hst.out, hs.out]; exact Own.set_ (w := wr.drewN _) hownr (m + 1) _, grown_setCell (p := ⟨g, m + 1, none⟩) (grown_drewN hgr _) (.inl rfl) _⟩
        case measure => simp [intOf]; omega
    · have hmn' : m = n - 2 := by omega
      have hM := hide hmn'
      clear hmn'
      have hge : n ≤ m + 2 := by omega
      go_wp2
      go_end0
      rw [← hM.out]
      exact ⟨rfl, hownr, grown_alloc_left hgr⟩
end Go.Proofs.Ytmbjdchknjollaa

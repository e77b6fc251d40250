/-
  The walk of the document's rule for signs between numbers.
-/
import Derived.Test.YtmbjdchknjollaaWeakR
namespace Go.Proofs.Ytmbjdchknjollaa
open Go.RowKit

theorem w4_cases (a z b : Int) :
    ((z == 4) = true ∧ (a == 3) = true ∧ (b == 3) = true ∧ Hid (sign1 a z b = 3)) ∨ ((z == 4) = true ∧ (a == 3) = true ∧ (b == 3) = false ∧ Hid (sign1 a z b = z)) ∨ ((z == 4) = true ∧ (a == 3) = false ∧ Hid (sign1 a z b = z)) ∨
    ((z == 4) = false ∧ (z == 7) = true ∧ (a == 3) = true ∧ (b == 3) = true ∧ Hid (sign1 a z b = 3)) ∨ ((z == 4) = false ∧ (z == 7) = true ∧ (a == 3) = true ∧ (b == 3) = false ∧ Hid (sign1 a z b = z)) ∨
    ((z == 4) = false ∧ (z == 7) = true ∧ (a == 3) = false ∧ (a == 6) = true ∧ (b == 6) = true ∧ Hid (sign1 a z b = 6)) ∨ ((z == 4) = false ∧ (z == 7) = true ∧ (a == 3) = false ∧ (a == 6) = true ∧ (b == 6) = false ∧ Hid (sign1 a z b = z)) ∨
    ((z == 4) = false ∧ (z == 7) = true ∧ (a == 3) = false ∧ (a == 6) = false ∧ Hid (sign1 a z b = z)) ∨ ((z == 4) = false ∧ (z == 7) = false ∧ Hid (sign1 a z b = z)) := by
  simp only [beq_iff_eq, beq_eq_false_iff_ne, Hid, sign1]
  by_cases h4 : z = 4
  · subst h4
    by_cases ha : a = 3
    · subst ha
      by_cases hb : b = 3
      · subst hb; simp
      · have : ¬ (3 : Int) = b := fun e => hb e.symm
        simp [hb, this]
    · simp [ha]
  · by_cases h7 : z = 7
    · subst h7
      by_cases ha : a = 3
      · subst ha
        by_cases hb : b = 3
        · subst hb; simp
        · have : ¬ (3 : Int) = b := fun e => hb e.symm
          simp [hb, this]
      · by_cases ha6 : a = 6
        · subst ha6
          by_cases hb : b = 6
          · subst hb; simp
          · have : ¬ (6 : Int) = b := fun e => hb e.symm
            simp [hb, this]
        · simp [ha, ha6]
    · simp [h4, h7]

/-- the row when k places have been gone over by the document's w4 -/
def sgD (l : List Int) (k : Nat) : List Int := sgN l (min (k - 1) (l.length - 2))
theorem sgD_step {l : List Int} {k : Nat} {z : Int} (hz : (sgD l k)[k]? = some z) : sgD l (k + 1) = (sgD l k).set k (sign1 (atN (sgD l k) ((k : Int) - 1)) z (atN (sgD l k) ((k : Int) + 1))) := by
  have hlen : (sgD l k).length = l.length := sgN_len _ _
  obtain ⟨hk, hv⟩ := List.getElem?_eq_some_iff.1 hz
  have hself : (sgD l k).set k z = sgD l k := by conv => lhs; rw [← hv]
                                                 exact List.set_getElem_self _
  rcases Nat.eq_zero_or_pos k with rfl | hk0
  · have e : sign1 (atN (sgD l 0) (((0 : Nat) : Int) - 1)) z (atN (sgD l 0) (((0 : Nat) : Int) + 1)) = z := by
      rw [atN_lo (by omega)]; unfold sign1; rw [if_neg (by omega)]
    rw [e, hself]; rfl
  · obtain ⟨j, rfl⟩ : ∃ j, k = j + 1 := ⟨k - 1, by omega⟩
    rw [hlen] at hk
    by_cases hlt : j + 2 < l.length
    · have e1 : sgD l (j + 1) = sgN l j := by unfold sgD; congr 1; omega
      have e2 : sgD l (j + 1 + 1) = sgN l (j + 1) := by unfold sgD; congr 1; omega
      rw [e1] at hz ⊢
      rw [e2]
      have ha := List.getElem?_eq_getElem (show j < (sgN l j).length by rw [sgN_len]; omega)
      have hb := List.getElem?_eq_getElem (show j + 2 < (sgN l j).length by rw [sgN_len]; omega)
      rw [sgN_step ha hz hb]
      have i1 : ((j + 1 : Nat) : Int) - 1 = (j : Nat) := by omega
      have i2 : ((j + 1 : Nat) : Int) + 1 = ((j + 2 : Nat) : Int) := by omega
      rw [i1, i2, atN_at ha, atN_at hb]
    · have e : sign1 (atN (sgD l (j + 1)) (((j + 1 : Nat) : Int) - 1)) z (atN (sgD l (j + 1)) (((j + 1 : Nat) : Int) + 1)) = z := by
        rw [atN_hi hlen (i := ((j + 1 : Nat) : Int) + 1) (by omega)]
        unfold sign1; rw [if_neg (by omega)]
      rw [e, hself]
      unfold sgD; congr 1; omega

set_option maxHeartbeats 4000000 in
theorem w4_any (B : Nat) (A : Option Addr) (n c : Nat) (zs : List Int) (w : World) (hown : Own B 5 .u8 w A n c zs) :
    Calls Try.prog 34 #[.slice A n c] w (RowPost B w A n c (sgN zs (n - 2))) := by
  have hm := hown.2
  have hln := hide hown.len
  go_enter Try.func34, Try.ntmps34
  go_wp2
  go_loopw [2] (fun i wr => ∃ k : Nat, k ≤ n ∧ i = .int .i64 k ∧ Own B 5 .u8 wr A n c (sgD zs k) ∧ w.grownBy wr (Value.slice A n c).ownBlock) (fun i _ => n - (intOf i).toNat)
  case atStart => exact ⟨0, Nat.zero_le _, rfl, by show Own B 5 .u8 w A n c (sgN zs (min (0 - 1) _)); rw [show min (0 - 1) (zs.length - 2) = 0 by omega]; exact hown, World.grownBy.refl _ _⟩
  case round =>
    obtain ⟨k, hk, rfl, hownr, hgr⟩ := hrel
    by_cases hkn : k < n
    · obtain ⟨g, z, rfl, _, hgl, hz, hck, hfk⟩ := hownr.at_ hkn
      have hst := hide (sgD_step hz.out)
      have hsame : Hid ((sgD zs k).set k z = sgD zs k) := by
        obtain ⟨h1, h2⟩ := List.getElem?_eq_some_iff.1 hz.out
        show _ = _
        conv => lhs; rw [← h2]
        exact List.set_getElem_self _
      have c1 := hide (at_any (some ⟨g, 0, none⟩) n c (sgD zs k) ((k : Int) - 1) wr hownr.rd)
      have c2 := hide (at_any (some ⟨g, 0, none⟩) n c (sgD zs k) ((k : Int) + 1) wr hownr.rd)
      generalize atN (sgD zs k) ((k : Int) - 1) = a at *
      generalize atN (sgD zs k) ((k : Int) + 1) = b at *
      rcases w4_cases a z b with ⟨h1, h2, h3, hs⟩ | ⟨h1, h2, h3, hs⟩ | ⟨h1, h2, hs⟩ | ⟨h1, h2, h3, h4, hs⟩ | ⟨h1, h2, h3, h4, hs⟩ | ⟨h1, h2, h3, h4, h5, hs⟩ | ⟨h1, h2, h3, h4, h5, hs⟩ | ⟨h1, h2, h3, h4, hs⟩ | ⟨h1, h2, hs⟩
      all_goals try (have e4 : z = 4 := eq_of_beq h1; subst e4)
      all_goals try (have e7 : z = 7 := eq_of_beq h2; subst e7)
      all_goals
        go_wp2_with fail
        refine c1.out.mono ?_
        rintro e w' ⟨rfl, rfl⟩
        go_wp2_with fail
        refine c2.out.mono ?_
        rintro e w' ⟨rfl, rfl⟩
        go_wp2_with fail
        go_roundw
        case rel => first
          | exact ⟨k + 1, by omega, by go_num, by rw [hst.out, hs.out, hsame.out]; exact hownr, hgr⟩
          | exact ⟨k + 1, by omega, by go_num, by rw [hst.out, hs.out]; exact hownr.set_ k _, grown_setCell (p := ⟨g, k, none⟩) hgr (.inl rfl) _⟩
        case measure => simp [intOf]; omega
    · obtain rfl : k = n := by omega
      clear hkn
      go_wp2
      go_end0
      have e : sgD zs k = sgN zs (k - 2) := by unfold sgD; rw [hln.out]; congr 1; omega
      rw [e] at hownr
      exact ⟨rfl, hownr, hgr⟩
end Go.Proofs.Ytmbjdchknjollaa

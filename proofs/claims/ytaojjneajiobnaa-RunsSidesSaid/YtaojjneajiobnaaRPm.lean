/-
  What RunsPlain says of sequences: plain law.
-/
import Derived.Test.YtaojjneajiobnaaRunQ
import Derived.Test.YtaojjneajiobnaaLPm
namespace Go.Proofs.Ytaojjneajiobnaa
open Go.RowKit

theorem runTo_all {f : Nat → Int} {n a : Nat} (h : ∀ j, j < n → f j = f a) : ∀ m t, m = n - t → t ≤ n → runTo f n a m t = n
  | 0, t, hm, ht => by show t = n; omega
  | m + 1, t, hm, ht => by
    rw [runTo, if_pos ⟨by omega, h t (by omega)⟩]
    exact runTo_all h m (t + 1) (by omega) (by omega)
theorem opS_bare {x : Int} (h : x < 14) : opS x = false := by unfold opS; simp; omega
theorem side_self {b : Int} (h : 0 ≤ b ∧ b ≤ 1) : sideS b b = b := by unfold sideS; rw [Int.max_self]; omega
/-- without what opens and closes there is one sequence, of all that is kept -/
theorem seqs_bare {cl : List Int} {base : Int} (hb : 0 ≤ base ∧ base ≤ 1) (h : ∀ x ∈ cl, x < 14) :
    seqsS cl base = if keptTo cl cl.length = [] then [] else [⟨keptTo cl cl.length, base, base, base⟩] := by
  have h1 := levels_bare base h
  have h2 := classes_bare base h
  have hm : ∀ x ∈ keptTo cl cl.length, 0 ≤ x ∧ x < (cl.length : Int) := keptTo_mem
  unfold seqsS
  rw [h2]
  generalize keptTo cl cl.length = kp at *
  cases hk : kp with
  | nil =>
    rw [if_pos rfl]
    rw [show runsN (lvAt (levelsS cl base) []) ([] : List Int).length = 0 from runsN_of (K := 0) rfl]
    rfl
  | cons z t =>
    rw [if_neg (by simp), ← hk]
    have hlen : 0 < kp.length := by rw [hk]; simp
    have hlv : ∀ j, j < kp.length → lvAt (levelsS cl base) kp j = base := fun j hj => by
      obtain ⟨x, hx⟩ : ∃ x, kp[j]? = some x := ⟨_, List.getElem?_eq_getElem hj⟩
      obtain ⟨h3, h4⟩ := hm x (List.mem_of_getElem? hx)
      obtain ⟨y, rfl⟩ := Int.eq_ofNat_of_zero_le h3
      refine lvAt_of hx ?_
      rw [h1, List.getElem?_replicate, if_pos (by omega)]
    have hcut : cut (lvAt (levelsS cl base) kp) kp.length 1 = kp.length := by
      show runTo _ _ 0 _ _ = _
      exact runTo_all (fun j hj => by rw [hlv j hj, hlv 0 hlen]) _ _ rfl (by show 0 + 1 ≤ _; omega)
    rw [runsN_of hcut]
    show (stepQ _ _ _ _ _ ⟨[], fun _ => none⟩ 0 (cut (lvAt (levelsS cl base) kp) kp.length 1)).out = _
    rw [hcut]
    obtain ⟨p, hp⟩ : ∃ x, kp[0]? = some x := ⟨_, List.getElem?_eq_getElem hlen⟩
    obtain ⟨r, hr⟩ : ∃ x, kp[kp.length - 1]? = some x := ⟨_, List.getElem?_eq_getElem (by omega)⟩
    obtain ⟨p1, p2⟩ := hm p (List.mem_of_getElem? hp)
    obtain ⟨r1, r2⟩ := hm r (List.mem_of_getElem? hr)
    obtain ⟨p, rfl⟩ := Int.eq_ofNat_of_zero_le p1
    obtain ⟨r, rfl⟩ := Int.eq_ofNat_of_zero_le r1
    obtain ⟨oq, hoq⟩ : ∃ x, cl[r]? = some x := ⟨_, List.getElem?_eq_getElem (by omega)⟩
    rw [stepQ_eq (p := p) (q := r) (x := 0) (Y := [newR (levelsS cl base) kp base 0 p]) (q0 := newR (levelsS cl base) kp base 0 p) (oq := oq) hp hr rfl rfl rfl hoq]
    have hl : (levelsS cl base).getD p 0 = base := getD_of' (by rw [h1, List.getElem?_replicate, if_pos (by omega)])
    rw [opS_bare (h oq (List.mem_of_getElem? hoq))]
    have ha1 : atS (levelsS cl base) kp base ((0 : Nat) - 1 : Int) = base := if_pos (.inl (by decide))
    have ha2 : atS (levelsS cl base) kp base (kp.length : Int) = base := if_pos (.inr (Int.le_refl _))
    simp only [Bool.false_eq_true, if_false, List.set_cons_zero, newR, onR, hl, ha1, ha2, side_self hb, List.nil_append, List.drop_zero, List.take_length]
end Go.Proofs.Ytaojjneajiobnaa

/-
  The walks of the document's rules of layer 21: at, strong, w1, w2, w7.
-/
import Derived.Test.YtmbjdchknjollaaWeakE
namespace Go.Proofs.Ytmbjdchknjollaa
open Go.RowKit

/-- the class at a place; 99, if there is none -/
def atN (zs : List Int) (i : Int) : Int := if i < 0 then 99 else zs[i.toNat]?.getD 99
theorem atN_lo {zs : List Int} {i : Int} (h : i < 0) : atN zs i = 99 := by unfold atN; rw [if_pos h]
theorem atN_at {zs : List Int} {j : Nat} {z : Int} (h : zs[j]? = some z) : atN zs (j : Int) = z := by
  unfold atN; rw [if_neg (by omega), Int.toNat_natCast, h]; rfl
theorem atN_hi {zs : List Int} {n : Nat} {i : Int} (hl : zs.length = n) (h : (n : Int) ≤ i) : atN zs i = 99 := by
  unfold atN; rw [if_neg (by omega), List.getElem?_eq_none (by omega)]; rfl

set_option maxHeartbeats 1000000 in
theorem at_any (A : Option Addr) (n c : Nat) (zs : List Int) (i : Int) (w : World) (hr : Rd .u8 w A n zs) :
    Calls Try.prog 45 #[.slice A n c, .int .i64 i] w fun e w' => e = .returned (.int .u8 (atN zs i)) ∧ w = w' := by
  have hm := hr.max
  have hln := hide hr.len
  by_cases h0 : i < 0
  · have e := hide (atN_lo (zs := zs) h0)
    go_enter Try.func45, Try.ntmps45
    go_wp2
    go_ret
    exact ⟨ret_int e.out.symm, rfl⟩
  · by_cases h1 : (n : Int) ≤ i
    · have e := hide (atN_hi hln.out h1)
      have h0' : decide (i < 0) = false := by simpa using h0
      go_enter Try.func45, Try.ntmps45
      go_wp2
      go_ret
      exact ⟨ret_int e.out.symm, rfl⟩
    · obtain ⟨j, rfl⟩ := Int.eq_ofNat_of_zero_le (by omega : 0 ≤ i)
      have hj : j < n := by omega
      obtain ⟨b, off, z, rfl, _, hz, hc⟩ := hr.at_ hj
      have e := hide (atN_at hz.out)
      clear h0 h1
      go_enter Try.func45, Try.ntmps45
      go_wp2
      go_ret
      exact ⟨ret_int e.out.symm, rfl⟩

/-- the last strong one of a row that is handed over the other way about -/
def strS (s : Int) : List Int → Int
  | [] => s
  | c :: cs => if c = 0 ∨ c = 1 ∨ c = 2 then c else strS s cs
theorem strS_take (s : Int) {l : List Int} {k : Nat} {z : Int} (hz : l[k]? = some z) : strS s (l.take (k + 1)).reverse = if z = 0 ∨ z = 1 ∨ z = 2 then z else strS s (l.take k).reverse := by
  obtain ⟨hk, rfl⟩ := List.getElem?_eq_some_iff.1 hz
  rw [List.take_succ_eq_append_getElem hk, List.reverse_append]; rfl

theorem str_cases (z : Int) : z = 0 ∨ z = 1 ∨ z = 2 ∨ ((z == 0) = false ∧ (z == 1) = false ∧ (z == 2) = false ∧ Hid (¬ (z = 0 ∨ z = 1 ∨ z = 2))) := by
  simp only [beq_eq_false_iff_ne, Hid]; omega

set_option maxHeartbeats 4000000 in
theorem strong_any (A : Option Addr) (n c : Nat) (zs : List Int) (k : Nat) (s : Int) (w : World) (hr : Rd .u8 w A n zs) (hk : k ≤ n) :
    Calls Try.prog 46 #[.slice A n c, .int .i64 k, .int .u8 s] w fun e w' => e = .returned (.int .u8 (strS s (zs.take k).reverse)) ∧ w = w' := by
  have hm := hr.max
  go_enter Try.func46, Try.ntmps46
  go_wp2
  go_loop [7] (fun i => ∃ m : Nat, m ≤ k ∧ i = .int .i64 ((m : Nat) - 1 : Int) ∧ Hid (strS s (zs.take k).reverse = strS s (zs.take m).reverse)) (fun i => (intOf i + 1).toNat)
  case atStart => exact ⟨k, Nat.le_refl _, rfl, hide rfl⟩
  case round =>
    obtain ⟨m, hmk, rfl, he⟩ := hrel
    rcases Nat.eq_zero_or_pos m with rfl | hm0
    · have e := hide (show strS s (zs.take 0).reverse = s from rfl)
      go_wp2
      go_ret
      exact ⟨ret_int (he.out.trans e.out).symm, rfl⟩
    · obtain ⟨j, rfl⟩ : ∃ j, m = j + 1 := ⟨m - 1, by omega⟩
      obtain ⟨b, off, z, rfl, _, hz, hc⟩ := hr.at_ (show j < n by omega)
      have ht := hide (strS_take s hz.out)
      rcases str_cases z with rfl | rfl | rfl | ⟨h0, h1, h2, h3⟩
      case inr.inr.inr =>
        go_wp2
        go_round
        case rel => exact ⟨j, by omega, by go_num, hide (he.out.trans (by rw [ht.out, if_neg h3.out]))⟩
        case measure => simp [intOf]
      all_goals
        go_wp2
        go_ret
        exact ⟨ret_int (he.out.trans (by rw [ht.out]; simp)).symm, rfl⟩

theorem inPl_take {σ : Type} (f : σ → Int → Int × σ) (s : σ) {l : List Int} {k : Nat} (hk : k ≤ l.length) : (inPl f s l k).take k = scan f s (l.take k) := by
  unfold inPl
  have h1 : (scan f s (l.take k)).length = k := by rw [scan_len, List.length_take]; omega
  rw [List.take_append, h1, Nat.sub_self, List.take_zero, List.append_nil, List.take_of_length_le (by omega)]
theorem strS_app (s : Int) : ∀ a b : List Int, strS s (a ++ b) = strS (strS s b) a
  | [], _ => rfl
  | c :: cs, b => by simp only [List.cons_append, strS]; rw [strS_app s cs b]
/-- over a row that numF has changed, the last strong one is what numF bears -/
theorem strS_num {b t : Int} (hbt : (t = 0 ∨ t = 1 ∨ t = 2) → t = b) : ∀ (l : List Int) (s : Int), strS s (scan (numF b t) s l).reverse = scanSt (numF b t) s l
  | [], _ => rfl
  | c :: cs, s => by
    simp only [scan, scanSt, List.reverse_cons, strS_app]
    have hs : strS s [(numF b t s c).1] = (numF b t s c).2 := by
      unfold numF
      split
      next h => simp [strS, h]
      next h =>
        split
        next h3 =>
          split
          next hb =>
            simp only [strS]
            split
            next ht => rw [hbt ht, hb]
            next => rfl
          next => simp [strS]
        next h3 =>
          simp only [strS]
          rw [if_neg h]
    rw [hs]
    exact strS_num hbt cs _
theorem numF_x {b t s z : Int} (h3 : (z == 3) = false) : (numF b t s z).1 = z := by
  simp at h3; unfold numF; split; rfl; simp
theorem numF_y {b t s : Int} (h : (s == b) = true) : (numF b t s 3).1 = t := by simp at h; simp [numF, h]
theorem numF_z {b t s : Int} (h : (s == b) = false) : (numF b t s 3).1 = 3 := by simp at h; simp [numF, h]

set_option maxHeartbeats 4000000 in
theorem w2_any (B : Nat) (A : Option Addr) (n c : Nat) (zs : List Int) (s : Int) (w : World) (hown : Own B 5 .u8 w A n c zs) :
    Calls Try.prog 33 #[.slice A n c, .int .u8 s] w (RowPost B w A n c (numS 2 6 s zs)) := by
  have hm := hown.2
  have hln := hide hown.len
  go_enter Try.func33, Try.ntmps33
  go_wp2
  go_loopw [4] (fun i wr => ∃ k : Nat, k ≤ n ∧ i = .int .i64 k ∧ Own B 5 .u8 wr A n c (inPl (numF 2 6) s zs k) ∧ w.grownBy wr (Value.slice A n c).ownBlock) (fun i _ => n - (intOf i).toNat)
  case atStart => exact ⟨0, Nat.zero_le _, rfl, by rw [inPl_zero]; exact hown, World.grownBy.refl _ _⟩
  case round =>
    obtain ⟨k, hk, rfl, hownr, hgr⟩ := hrel
    by_cases hkn : k < n
    · obtain ⟨g, z, rfl, _, hgl, hz, hck, hfk⟩ := hownr.at_ hkn
      have hz' := inPl_of (numF 2 6) hz.out
      have hin := hide (inPl_step (numF 2 6) s hz')
      have hsm := hide (fun h => inPl_same (numF 2 6) s hz' h)
      have hst : Hid (strS s ((inPl (numF 2 6) s zs k).take k).reverse = scanSt (numF 2 6) s (zs.take k)) := by
        show _ = _
        rw [inPl_take _ _ (by rw [hln.out]; omega)]
        exact strS_num (by omega) _ _
      clear hz'
      by_cases h3 : (z == 3) = true
      · obtain rfl : z = 3 := by simpa using h3
        have hc46 := hide (strong_any (some ⟨g, 0, none⟩) n c (inPl (numF 2 6) s zs k) k s wr hownr.rd hk)
        rw [hst.out] at hc46
        generalize scanSt (numF 2 6) s (zs.take k) = L at *
        by_cases hb : (L == 2) = true
        · have hmf := hide (numF_y (t := 6) hb)
          go_wp2_with (go_at_call 46; refine hc46.out.mono ?_; rintro e w' ⟨rfl, rfl⟩)
          go_roundw
          case rel => exact ⟨k + 1, by omega, by go_num, by rw [hin.out, hmf.out]; exact hownr.set_ k 6, grown_setCell (p := ⟨g, k, none⟩) hgr (.inl rfl) _⟩
          case measure => simp [intOf]; omega
        · have hb' : (L == 2) = false := by simpa using hb
          clear hb
          have hmf := hide (numF_z (t := 6) hb')
          go_wp2_with (go_at_call 46; refine hc46.out.mono ?_; rintro e w' ⟨rfl, rfl⟩)
          go_roundw
          case rel => exact ⟨k + 1, by omega, by go_num, by rw [hsm.out hmf.out]; exact hownr, hgr⟩
          case measure => simp [intOf]; omega
      · have h3' : (z == 3) = false := by simpa using h3
        clear h3
        go_wp2_with fail
        go_roundw
        case rel => exact ⟨k + 1, by omega, by go_num, by rw [hsm.out (numF_x h3')]; exact hownr, hgr⟩
        case measure => simp [intOf]; omega
    · obtain rfl : k = n := by omega
      clear hkn
      go_wp2
      go_end0
      rw [inPl_all (numF 2 6) s zs hln.out] at hownr
      exact ⟨rfl, hownr, hgr⟩

set_option maxHeartbeats 4000000 in
theorem w7_any (B : Nat) (A : Option Addr) (n c : Nat) (zs : List Int) (s : Int) (w : World) (hown : Own B 5 .u8 w A n c zs) :
    Calls Try.prog 36 #[.slice A n c, .int .u8 s] w (RowPost B w A n c (numS 0 0 s zs)) := by
  have hm := hown.2
  have hln := hide hown.len
  go_enter Try.func36, Try.ntmps36
  go_wp2
  go_loopw [4] (fun i wr => ∃ k : Nat, k ≤ n ∧ i = .int .i64 k ∧ Own B 5 .u8 wr A n c (inPl (numF 0 0) s zs k) ∧ w.grownBy wr (Value.slice A n c).ownBlock) (fun i _ => n - (intOf i).toNat)
  case atStart => exact ⟨0, Nat.zero_le _, rfl, by rw [inPl_zero]; exact hown, World.grownBy.refl _ _⟩
  case round =>
    obtain ⟨k, hk, rfl, hownr, hgr⟩ := hrel
    by_cases hkn : k < n
    · obtain ⟨g, z, rfl, _, hgl, hz, hck, hfk⟩ := hownr.at_ hkn
      have hz' := inPl_of (numF 0 0) hz.out
      have hin := hide (inPl_step (numF 0 0) s hz')
      have hsm := hide (fun h => inPl_same (numF 0 0) s hz' h)
      have hst : Hid (strS s ((inPl (numF 0 0) s zs k).take k).reverse = scanSt (numF 0 0) s (zs.take k)) := by
        show _ = _
        rw [inPl_take _ _ (by rw [hln.out]; omega)]
        exact strS_num (by omega) _ _
      clear hz'
      by_cases h3 : (z == 3) = true
      · obtain rfl : z = 3 := by simpa using h3
        have hc46 := hide (strong_any (some ⟨g, 0, none⟩) n c (inPl (numF 0 0) s zs k) k s wr hownr.rd hk)
        rw [hst.out] at hc46
        generalize scanSt (numF 0 0) s (zs.take k) = L at *
        by_cases hb : (L == 0) = true
        · have hmf := hide (numF_y (t := 0) hb)
          go_wp2_with (go_at_call 46; refine hc46.out.mono ?_; rintro e w' ⟨rfl, rfl⟩)
          go_roundw
          case rel => exact ⟨k + 1, by omega, by go_num, by rw [hin.out, hmf.out]; exact hownr.set_ k 0, grown_setCell (p := ⟨g, k, none⟩) hgr (.inl rfl) _⟩
          case measure => simp [intOf]; omega
        · have hb' : (L == 0) = false := by simpa using hb
          clear hb
          have hmf := hide (numF_z (t := 0) hb')
          go_wp2_with (go_at_call 46; refine hc46.out.mono ?_; rintro e w' ⟨rfl, rfl⟩)
          go_roundw
          case rel => exact ⟨k + 1, by omega, by go_num, by rw [hsm.out hmf.out]; exact hownr, hgr⟩
          case measure => simp [intOf]; omega
      · have h3' : (z == 3) = false := by simpa using h3
        clear h3
        go_wp2_with fail
        go_roundw
        case rel => exact ⟨k + 1, by omega, by go_num, by rw [hsm.out (numF_x h3')]; exact hownr, hgr⟩
        case measure => simp [intOf]; omega
    · obtain rfl : k = n := by omega
      clear hkn
      go_wp2
      go_end0
      rw [inPl_all (numF 0 0) s zs hln.out] at hownr
      exact ⟨rfl, hownr, hgr⟩

theorem markF_snd (l c : Int) : (markF l c).2 = if isoB (markF l c).1 then 13 else (markF l c).1 := by unfold markF; split <;> rfl
theorem mark_prev (s : Int) {l : List Int} {j : Nat} {p : Int} (hl : j < l.length) (hp : (inPl markF s l (j + 1))[j]? = some p) : scanSt markF s (l.take (j + 1)) = if isoB p then 13 else p := by
  have hz := List.getElem?_eq_getElem hl
  rw [scanSt_take markF s hz, markF_snd]
  have h1 := inPl_step markF s hz
  have h2 := inPl_at markF s hz
  rw [h1, List.getElem?_set] at hp
  obtain ⟨hk, _⟩ := List.getElem?_eq_some_iff.1 h2
  rw [if_pos rfl, if_pos hk] at hp
  injection hp with hp
  rw [hp]
theorem iso_five (p : Int) : (p = 19 ∨ p = 20 ∨ p = 21 ∨ p = 22) ∨ ((p == 19) = false ∧ (p == 20) = false ∧ (p == 21) = false ∧ (p == 22) = false ∧ Hid (isoB p = false)) := by
  simp only [beq_eq_false_iff_ne, Hid]
  by_cases h : p = 19 ∨ p = 20 ∨ p = 21 ∨ p = 22
  · exact .inl h
  · refine .inr ⟨by omega, by omega, by omega, by omega, ?_⟩
    unfold isoB
    by_cases h1 : 19 ≤ p
    · simp; omega
    · simp; omega
theorem markF_8 (l : Int) : (markF l 8).1 = l := by simp [markF]
theorem markF_x {l z : Int} (h : (z == 8) = false) : (markF l z).1 = z := by simp at h; simp [markF, h]

set_option maxHeartbeats 4000000 in
theorem w1_any (B : Nat) (A : Option Addr) (n c : Nat) (zs : List Int) (s : Int) (w : World) (hown : Own B 5 .u8 w A n c zs) (h01 : s = 0 ∨ s = 1) :
    Calls Try.prog 32 #[.slice A n c, .int .u8 s] w (RowPost B w A n c (marksS s zs)) := by
  have hm := hown.2
  have hln := hide hown.len
  have H01 := hide h01
  clear h01
  go_enter Try.func32, Try.ntmps32
  go_wp2
  go_loopw [4] (fun i wr => ∃ k : Nat, k ≤ n ∧ i = .int .i64 k ∧ Own B 5 .u8 wr A n c (inPl markF s zs k) ∧ w.grownBy wr (Value.slice A n c).ownBlock) (fun i _ => n - (intOf i).toNat)
  case atStart => exact ⟨0, Nat.zero_le _, rfl, by rw [inPl_zero]; exact hown, World.grownBy.refl _ _⟩
  case round =>
    obtain ⟨k, hk, rfl, hownr, hgr⟩ := hrel
    by_cases hkn : k < n
    · obtain ⟨g, z, rfl, _, hgl, hz, hck, hfk⟩ := hownr.at_ hkn
      have hz' := inPl_of markF hz.out
      have hin := hide (inPl_step markF s hz')
      have hsm := hide (fun h => inPl_same markF s hz' h)
      clear hz'
      by_cases h8 : (z == 8) = true
      · obtain rfl : z = 8 := by simpa using h8
        clear h8
        rcases Nat.eq_zero_or_pos k with rfl | hk0
        · rcases H01.out with rfl | rfl
          all_goals
            go_wp2_with (go_at_call 45; refine (at_any _ _ _ _ _ _ hownr.rd).mono ?_; rintro e w' ⟨rfl, rfl⟩)
            go_roundw
            case rel => exact ⟨1, by omega, by go_num, by have := hin.out; rw [markF_8] at this; rw [this]; exact hownr.set_ 0 _, grown_setCell (p := ⟨g, 0, none⟩) hgr (.inl rfl) _⟩
            case measure => simp [intOf]; omega
        · obtain ⟨j, rfl⟩ : ∃ j, k = j + 1 := ⟨k - 1, by omega⟩
          obtain ⟨g', p, hgg, _, _, hp, _, _⟩ := hownr.at_ (show j < n by omega)
          clear hgg
          have hpv := hide (mark_prev s (by rw [hln.out]; omega) hp.out)
          have hat := hide (at_any (some ⟨g, 0, none⟩) n c (inPl markF s zs (j + 1)) (j : Nat) wr hownr.rd)
          rw [atN_at hp.out] at hat
          have hz0 : decide ((j : Int) + 1 = 0) = false := by simp; omega
          have hz1 : ((j : Int) + 1 == 0) = false := by simp; omega
          rcases iso_five p with hp4 | ⟨q1, q2, q3, q4, q5⟩
          · rcases hp4 with rfl | rfl | rfl | rfl
            all_goals
              go_wp2_with (go_at_call 45; refine hat.out.mono ?_; rintro e w' ⟨rfl, rfl⟩)
              go_roundw
              case rel => exact ⟨j + 1 + 1, by omega, by go_num, by rw [hin.out, markF_8, hpv.out]; exact hownr.set_ (j + 1) 13, grown_setCell (p := ⟨g, j + 1, none⟩) hgr (.inl rfl) _⟩
              case measure => simp [intOf]; omega
          · go_wp2_with (go_at_call 45; refine hat.out.mono ?_; rintro e w' ⟨rfl, rfl⟩)
            go_roundw
            case rel => exact ⟨j + 1 + 1, by omega, by go_num, by rw [hin.out, markF_8, hpv.out, q5.out]; exact hownr.set_ (j + 1) p, grown_setCell (p := ⟨g, j + 1, none⟩) hgr (.inl rfl) _⟩
            case measure => simp [intOf]; omega
      · have h8' : (z == 8) = false := by simpa using h8
        clear h8
        go_wp2_with fail
        go_roundw
        case rel => exact ⟨k + 1, by omega, by go_num, by rw [hsm.out (markF_x h8')]; exact hownr, hgr⟩
        case measure => simp [intOf]; omega
    · obtain rfl : k = n := by omega
      clear hkn
      go_wp2
      go_end0
      rw [inPl_all markF s zs hln.out] at hownr
      exact ⟨rfl, hownr, hgr⟩
end Go.Proofs.Ytmbjdchknjollaa

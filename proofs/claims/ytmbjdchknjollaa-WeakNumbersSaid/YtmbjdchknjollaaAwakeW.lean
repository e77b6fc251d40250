/-
  The examples of layer 21: 'awake' returns true.
-/
import Derived.Test.YtmbjdchknjollaaWeakE
import Derived.Test.YtmbjdchknjollaaAwakeP
namespace Go.Proofs.Ytmbjdchknjollaa
open Go.RowKit

/-! ### bytes stay bytes -/
theorem scan_u8 {σ : Type} {f : σ → Int → Int × σ} (P : σ → Prop) (hf : ∀ s c, P s → (0 ≤ c ∧ c ≤ 255) → (0 ≤ (f s c).1 ∧ (f s c).1 ≤ 255) ∧ P (f s c).2) : ∀ (l : List Int) (s : σ), P s → U8 l → U8 (scan f s l)
  | [], _, _, _ => U8.nil
  | c :: cs, s, hs, h => by
    have hc := hf s c hs (h c (by simp))
    exact U8.cons hc.1 (scan_u8 P hf cs _ hc.2 (fun x hx => h x (by simp [hx])))
theorem marksS_u8 {s : Int} {l : List Int} (hs : 0 ≤ s ∧ s ≤ 255) (h : U8 l) : U8 (marksS s l) :=
  scan_u8 (fun s => 0 ≤ s ∧ s ≤ 255) (fun s c hs hc => by unfold markF; split <;> (simp only; constructor; assumption; split <;> first | assumption | omega)) l s hs h
theorem numS_u8 {b t s : Int} {l : List Int} (ht : 0 ≤ t ∧ t ≤ 255) (h : U8 l) : U8 (numS b t s l) :=
  scan_u8 (fun _ => True) (fun s c _ hc => by unfold numF; split; exact ⟨hc, trivial⟩; split; exact ⟨by split <;> omega, trivial⟩; exact ⟨hc, trivial⟩) l s trivial h
theorem arabS_u8 {s : Int} {l : List Int} (h : U8 l) : U8 (arabS s l) :=
  scan_u8 (fun _ => True) (fun s c _ hc => by unfold alF; exact ⟨by simp only; split <;> omega, trivial⟩) _ () trivial (numS_u8 (by omega) h)
theorem restS_u8 {l : List Int} (h : U8 l) : U8 (restS l) :=
  scan_u8 (fun _ => True) (fun s c _ hc => by unfold restF; exact ⟨by simp only; split <;> omega, trivial⟩) _ () trivial h
theorem endF_u8 : ∀ (s : Bool) (c : Int), True → (0 ≤ c ∧ c ≤ 255) → (0 ≤ (endF s c).1 ∧ (endF s c).1 ≤ 255) ∧ True := fun s c _ hc => by
  unfold endF; split; exact ⟨by simp only; omega, trivial⟩; exact ⟨hc, trivial⟩
theorem rev_u8 {l : List Int} (h : U8 l) : U8 l.reverse := fun x hx => h x (List.mem_reverse.1 hx)
theorem endsS_u8 {l : List Int} (h : U8 l) : U8 (endsS l) :=
  rev_u8 (scan_u8 (fun _ => True) endF_u8 _ _ trivial (rev_u8 (scan_u8 (fun _ => True) endF_u8 _ _ trivial h)))
theorem getD_u8 {l : List Int} (h : U8 l) (k : Nat) : 0 ≤ l.getD k 0 ∧ l.getD k 0 ≤ 255 := by
  cases e : l[k]? with
  | none => simp [List.getD, e]
  | some z => simp only [List.getD, e, Option.getD_some]; exact h z (List.mem_of_getElem? e)
theorem sgN_u8 {l : List Int} (h : U8 l) : ∀ m, U8 (sgN l m)
  | 0 => h
  | m + 1 => by
    intro x hx
    rw [sgN] at hx
    rcases List.mem_or_eq_of_mem_set hx with hx | rfl
    · exact sgN_u8 h m x hx
    · unfold sign1; split
      · exact getD_u8 (sgN_u8 h m) _
      · exact getD_u8 (sgN_u8 h m) _
theorem weakP_u8 {l : List Int} {start : Int} (hs : 0 ≤ start) (h : U8 l) : U8 (weakP l start) :=
  numS_u8 (by omega) (restS_u8 (endsS_u8 (sgN_u8 (arabS_u8 (marksS_u8 (by omega) h)) _)))

set_option maxHeartbeats 400000 in
theorem c_any21 (A : Option Addr) (n c : Nat) (w : World) : Calls Try.prog 37 #[.slice A n c] w fun e w' => e = .returned (.slice A n c) ∧ w = w' := by
  go_enter Try.func37, Try.ntmps37
  go_wp2
  go_ret
  exact ⟨rfl, rfl⟩

set_option maxHeartbeats 400000 in
theorem is21_any (start : Int) (A1 A2 : Option Addr) (n m c1 c2 : Nat) (l want : List Int) (w : World) (hs : 0 ≤ start ∧ start ≤ 255) (r1 : Rd .u8 w A1 n l) (r2 : Rd .u8 w A2 m want)
    (hn' : n ≤ 1000000) (u1 : U8 l) (u2 : U8 want) :
    Calls Try.prog 22 #[.int .u8 start, .slice A1 n c1, .slice A2 m c2] w fun e w' => e = .returned (.bool (sameB (weakP l start) want)) ∧ Below w.heap.size w w' := by
  have u3 := weakP_u8 hs.1 u1
  go_enter Try.func22, Try.ntmps22
  go_wp2_with fail
  refine (weak_any _ n c1 l start w r1 hn').mono ?_
  rintro e w1 ⟨A3, c3, rfl, hown, hb1⟩
  go_wp2_with fail
  refine (same_any _ _ _ _ _ _ _ want _ hown.rd (r2.below hb1) u3 u2).mono ?_
  rintro e w2 ⟨rfl, rfl⟩
  go_wp2_with fail
  go_ret
  exact ⟨rfl, hb1⟩
theorem is21_yes (start : Int) (b1 b2 n m c1 c2 : Nat) (l want : List Int) (w : World) (hs : 0 ≤ start ∧ start ≤ 255) (h1 : Lit8 w b1 l) (h2 : Lit8 w b2 want) (hn : l.length = n) (hm : want.length = m)
    (hn' : n ≤ 1000000) (hm' : m ≤ 1000000) (u1 : U8 l) (u2 : U8 want) (he : weakP l start = want) :
    Calls Try.prog 22 #[.int .u8 start, .slice (some ⟨b1, 0, none⟩) n c1, .slice (some ⟨b2, 0, none⟩) m c2] w fun e w' => e = .returned (.bool true) ∧ Below w.heap.size w w' :=
  (is21_any start _ _ n m c1 c2 l want w hs (h1.rd hn hn') (h2.rd hm hm') hn' u1 u2).mono fun e w' ⟨h, hb⟩ => ⟨by rw [h, he]; simp [sameB], hb⟩

set_option maxHeartbeats 4000000 in
theorem awake_w (w : World) : Calls Try.prog 24 #[] w fun e w' => e = .returned (.bool true) ∧ Below w.heap.size w w' := by
  go_enter Try.func24, Try.ntmps24
  have hb : Below w.heap.size w w := Below.refl _ _
  go_wp2_with fail
  refine (c_any21 _ _ _ _).mono ?_
  rintro e w' ⟨rfl, rfl⟩
  go_wp2_with fail
  refine (c_any21 _ _ _ _).mono ?_
  rintro e w' ⟨rfl, rfl⟩
  go_wp2_with fail
  refine (is21_yes 1 _ _ _ _ _ _ [2, 3] [1, 6] _ (by omega) (Lit8.alloc (Lit8.new _ _ _ rfl rfl) _) (Lit8.new _ _ _ (by simp) rfl) rfl rfl (by decide) (by decide) (by unfold U8; decide) (by unfold U8; decide) (by decide +kernel)).mono ?_
  rintro e w1 ⟨rfl, hb1⟩
  replace hb : Below w.heap.size w w1 := ((hb.alloc (by have := hb.size; omega) _).alloc (by have := hb.size; simp <;> omega) _).trans (hb1.mono (by have := hb.size; simp <;> omega))
  clear hb1
  go_wp2_with fail
  refine (c_any21 _ _ _ _).mono ?_
  rintro e w' ⟨rfl, rfl⟩
  go_wp2_with fail
  refine (c_any21 _ _ _ _).mono ?_
  rintro e w' ⟨rfl, rfl⟩
  go_wp2_with fail
  refine (is21_yes 1 _ _ _ _ _ _ [0, 8, 3] [0, 0, 0] _ (by omega) (Lit8.alloc (Lit8.new _ _ _ rfl rfl) _) (Lit8.new _ _ _ (by simp) rfl) rfl rfl (by decide) (by decide) (by unfold U8; decide) (by unfold U8; decide) (by decide +kernel)).mono ?_
  rintro e w2 ⟨rfl, hb1⟩
  replace hb : Below w.heap.size w w2 := ((hb.alloc (by have := hb.size; omega) _).alloc (by have := hb.size; simp <;> omega) _).trans (hb1.mono (by have := hb.size; simp <;> omega))
  clear hb1
  go_wp2_with fail
  refine (c_any21 _ _ _ _).mono ?_
  rintro e w' ⟨rfl, rfl⟩
  go_wp2_with fail
  refine (c_any21 _ _ _ _).mono ?_
  rintro e w' ⟨rfl, rfl⟩
  go_wp2_with fail
  refine (is21_yes 1 _ _ _ _ _ _ [3, 4, 3] [3, 3, 3] _ (by omega) (Lit8.alloc (Lit8.new _ _ _ rfl rfl) _) (Lit8.new _ _ _ (by simp) rfl) rfl rfl (by decide) (by decide) (by unfold U8; decide) (by unfold U8; decide) (by decide +kernel)).mono ?_
  rintro e w3 ⟨rfl, hb1⟩
  replace hb : Below w.heap.size w w3 := ((hb.alloc (by have := hb.size; omega) _).alloc (by have := hb.size; simp <;> omega) _).trans (hb1.mono (by have := hb.size; simp <;> omega))
  clear hb1
  go_wp2_with fail
  refine (c_any21 _ _ _ _).mono ?_
  rintro e w' ⟨rfl, rfl⟩
  go_wp2_with fail
  refine (c_any21 _ _ _ _).mono ?_
  rintro e w' ⟨rfl, rfl⟩
  go_wp2_with fail
  refine (is21_yes 0 _ _ _ _ _ _ [3, 7, 3] [0, 0, 0] _ (by omega) (Lit8.alloc (Lit8.new _ _ _ rfl rfl) _) (Lit8.new _ _ _ (by simp) rfl) rfl rfl (by decide) (by decide) (by unfold U8; decide) (by unfold U8; decide) (by decide +kernel)).mono ?_
  rintro e w4 ⟨rfl, hb1⟩
  replace hb : Below w.heap.size w w4 := ((hb.alloc (by have := hb.size; omega) _).alloc (by have := hb.size; simp <;> omega) _).trans (hb1.mono (by have := hb.size; simp <;> omega))
  clear hb1
  go_wp2_with fail
  refine (c_any21 _ _ _ _).mono ?_
  rintro e w' ⟨rfl, rfl⟩
  go_wp2_with fail
  refine (c_any21 _ _ _ _).mono ?_
  rintro e w' ⟨rfl, rfl⟩
  go_wp2_with fail
  refine (is21_yes 1 _ _ _ _ _ _ [6, 7, 6] [6, 6, 6] _ (by omega) (Lit8.alloc (Lit8.new _ _ _ rfl rfl) _) (Lit8.new _ _ _ (by simp) rfl) rfl rfl (by decide) (by decide) (by unfold U8; decide) (by unfold U8; decide) (by decide +kernel)).mono ?_
  rintro e w5 ⟨rfl, hb1⟩
  replace hb : Below w.heap.size w w5 := ((hb.alloc (by have := hb.size; omega) _).alloc (by have := hb.size; simp <;> omega) _).trans (hb1.mono (by have := hb.size; simp <;> omega))
  clear hb1
  go_wp2_with fail
  refine (c_any21 _ _ _ _).mono ?_
  rintro e w' ⟨rfl, rfl⟩
  go_wp2_with fail
  refine (c_any21 _ _ _ _).mono ?_
  rintro e w' ⟨rfl, rfl⟩
  go_wp2_with fail
  refine (is21_yes 1 _ _ _ _ _ _ [5, 5, 3, 5] [3, 3, 3, 3] _ (by omega) (Lit8.alloc (Lit8.new _ _ _ rfl rfl) _) (Lit8.new _ _ _ (by simp) rfl) rfl rfl (by decide) (by decide) (by unfold U8; decide) (by unfold U8; decide) (by decide +kernel)).mono ?_
  rintro e w6 ⟨rfl, hb1⟩
  replace hb : Below w.heap.size w w6 := ((hb.alloc (by have := hb.size; omega) _).alloc (by have := hb.size; simp <;> omega) _).trans (hb1.mono (by have := hb.size; simp <;> omega))
  clear hb1
  go_wp2_with fail
  refine (c_any21 _ _ _ _).mono ?_
  rintro e w' ⟨rfl, rfl⟩
  go_wp2_with fail
  refine (c_any21 _ _ _ _).mono ?_
  rintro e w' ⟨rfl, rfl⟩
  go_wp2_with fail
  refine (is21_yes 1 _ _ _ _ _ _ [6, 5, 3] [6, 3, 3] _ (by omega) (Lit8.alloc (Lit8.new _ _ _ rfl rfl) _) (Lit8.new _ _ _ (by simp) rfl) rfl rfl (by decide) (by decide) (by unfold U8; decide) (by unfold U8; decide) (by decide +kernel)).mono ?_
  rintro e w7 ⟨rfl, hb1⟩
  replace hb : Below w.heap.size w w7 := ((hb.alloc (by have := hb.size; omega) _).alloc (by have := hb.size; simp <;> omega) _).trans (hb1.mono (by have := hb.size; simp <;> omega))
  clear hb1
  go_wp2_with fail
  refine (c_any21 _ _ _ _).mono ?_
  rintro e w' ⟨rfl, rfl⟩
  go_wp2_with fail
  refine (c_any21 _ _ _ _).mono ?_
  rintro e w' ⟨rfl, rfl⟩
  go_wp2_with fail
  refine (is21_yes 1 _ _ _ _ _ _ [3, 4, 4, 3] [3, 13, 13, 3] _ (by omega) (Lit8.alloc (Lit8.new _ _ _ rfl rfl) _) (Lit8.new _ _ _ (by simp) rfl) rfl rfl (by decide) (by decide) (by unfold U8; decide) (by unfold U8; decide) (by decide +kernel)).mono ?_
  rintro e w8 ⟨rfl, hb1⟩
  replace hb : Below w.heap.size w w8 := ((hb.alloc (by have := hb.size; omega) _).alloc (by have := hb.size; simp <;> omega) _).trans (hb1.mono (by have := hb.size; simp <;> omega))
  clear hb1
  go_wp2_with fail
  refine (c_any21 _ _ _ _).mono ?_
  rintro e w' ⟨rfl, rfl⟩
  go_wp2_with fail
  refine (c_any21 _ _ _ _).mono ?_
  rintro e w' ⟨rfl, rfl⟩
  go_wp2_with fail
  refine (is21_yes 1 _ _ _ _ _ _ [20, 8] [20, 13] _ (by omega) (Lit8.alloc (Lit8.new _ _ _ rfl rfl) _) (Lit8.new _ _ _ (by simp) rfl) rfl rfl (by decide) (by decide) (by unfold U8; decide) (by unfold U8; decide) (by decide +kernel)).mono ?_
  rintro e w9 ⟨rfl, hb1⟩
  replace hb : Below w.heap.size w w9 := ((hb.alloc (by have := hb.size; omega) _).alloc (by have := hb.size; simp <;> omega) _).trans (hb1.mono (by have := hb.size; simp <;> omega))
  clear hb1
  go_wp2_with fail
  refine (c_any21 _ _ _ _).mono ?_
  rintro e w' ⟨rfl, rfl⟩
  go_wp2_with fail
  refine (c_any21 _ _ _ _).mono ?_
  rintro e w' ⟨rfl, rfl⟩
  go_wp2_with fail
  refine (is21_yes 1 _ _ _ _ _ _ [8] [1] _ (by omega) (Lit8.alloc (Lit8.new _ _ _ rfl rfl) _) (Lit8.new _ _ _ (by simp) rfl) rfl rfl (by decide) (by decide) (by unfold U8; decide) (by unfold U8; decide) (by decide +kernel)).mono ?_
  rintro e w10 ⟨rfl, hb1⟩
  replace hb : Below w.heap.size w w10 := ((hb.alloc (by have := hb.size; omega) _).alloc (by have := hb.size; simp <;> omega) _).trans (hb1.mono (by have := hb.size; simp <;> omega))
  clear hb1
  go_wp2
  go_ret
  exact ⟨ret_bool (by decide), hb⟩

end Go.Proofs.Ytmbjdchknjollaa

/-
  The examples of layer 23: 'awake' returns true.
-/
import Derived.Test.YtmbjdchknjollaaPlainB
namespace Go.Proofs.Ytmbjdchknjollaa
open Go.RowKit

/-! ### bytes stay bytes -/
theorem fillS_u8 {zs : List Int} {f : Nat} {v : Int} (h : U8 zs) (hv : 0 ≤ v ∧ v ≤ 255) : ∀ k, U8 (fillS zs f v k)
  | 0 => h
  | k + 1 => by
    intro x hx
    rw [fillS] at hx
    rcases List.mem_or_eq_of_mem_set hx with hx | rfl
    · exact fillS_u8 h hv k x hx
    · exact hv
theorem wayS_u8 (c : Int) : 0 ≤ wayS c ∧ wayS c ≤ 255 := by unfold wayS; split; omega; split <;> omega
theorem pickS_u8 {b a l : Int} (hb : 0 ≤ b ∧ b ≤ 255) : 0 ≤ pickS b a l ∧ pickS b a l ≤ 255 := by unfold pickS; split <;> omega
theorem stP_u8 {l : List Int} {level start : Int} (h : U8 l) : ∀ k, U8 (stP l level start k).1
  | 0 => h
  | k + 1 => by
    unfold stP
    split
    · exact stP_u8 h k
    · exact fillS_u8 (stP_u8 h k) (pickS_u8 (wayS_u8 _)) _
theorem plainP_u8 {l : List Int} {level start fin : Int} (h : U8 l) (hf : 0 ≤ fin) : U8 (plainP l level start fin) :=
  fillS_u8 (stP_u8 h _) (pickS_u8 (by omega)) _

/-- a block that holds just these bytes -/
def Lit8 (w : World) (b : Nat) (zs : List Int) : Prop := w.heap[b]? = some (.cells (zs.map (Value.int .u8)).toArray 5 (0, 0))
theorem Lit8.rd {w : World} {b : Nat} {zs : List Int} {n : Nat} (h : Lit8 w b zs) (hn : zs.length = n) (hm : n ≤ 1000000) : Rd .u8 w (some ⟨b, 0, none⟩) n zs :=
  Rd.of_block h hn (by omega) fun j hj => by
    have : j < zs.length := by omega
    simp [List.getD, List.getElem?_eq_getElem this]
theorem Lit8.of {w : World} {b : Nat} {zs : List Int} {cs : Array Value} (h : w.heap[b]? = some (.cells cs 5 (0, 0))) (e : cs = (zs.map (Value.int .u8)).toArray) : Lit8 w b zs := by
  subst e; exact h
theorem Lit8.new (w : World) (b : Nat) (zs : List Int) {cs : Array Value} (hb : b = w.heap.size) (e : cs = (zs.map (Value.int .u8)).toArray) : Lit8 (w.alloc (.cells cs 5)) b zs := by
  subst hb; exact Lit8.of (heap_alloc_new w _) e
theorem Lit8.alloc {w : World} {b : Nat} {zs : List Int} (h : Lit8 w b zs) (o : Obj) : Lit8 (w.alloc o) b zs := (Below.heap_alloc w o b (lt_of_block h)).trans h

set_option maxHeartbeats 400000 in
theorem c_any (A : Option Addr) (n c : Nat) (w : World) : Calls Try.prog 31 #[.slice A n c] w fun e w' => e = .returned (.slice A n c) ∧ w = w' := by
  go_enter Try.func31, Try.ntmps31
  go_wp2
  go_ret
  exact ⟨rfl, rfl⟩

theorem rem2 {l : Int} (_h : 0 ≤ l) : 0 ≤ l % 2 ∧ l % 2 ≤ 255 := by omega

set_option maxHeartbeats 400000 in
theorem is_yes (level : Int) (b1 b2 n m c1 c2 : Nat) (l want : List Int) (w : World) (hl : 0 ≤ level ∧ level ≤ 255) (h1 : Lit8 w b1 l) (h2 : Lit8 w b2 want) (hn : l.length = n) (hm : want.length = m)
    (hn' : n ≤ 1000000) (hm' : m ≤ 1000000) (u1 : U8 l) (u2 : U8 want) (he : plainP l level (level % 2) (level % 2) = want) :
    Calls Try.prog 30 #[.int .u8 level, .slice (some ⟨b1, 0, none⟩) n c1, .slice (some ⟨b2, 0, none⟩) m c2] w fun e w' => e = .returned (.bool true) ∧ Below w.heap.size w w' := by
  have hl1 := hl.1
  have hl2 := hl.2
  have r1 := h1.rd hn hn'
  have r2 := h2.rd hm hm'
  have u3 := plainP_u8 (level := level) (start := level % 2) u1 (rem2 hl1).1
  have He := hide he
  clear hn hm he
  go_enter Try.func30, Try.ntmps30
  go_wp2_with fail
  refine (plain_any _ n c1 l level _ _ w r1 hn' hl).mono ?_
  rintro e w1 ⟨A1, c3, rfl, hown, hb1⟩
  go_wp2_with fail
  refine (same_any _ _ _ _ _ _ _ want _ hown.rd (r2.below hb1) u3 u2).mono ?_
  rintro e w2 ⟨rfl, rfl⟩
  have hs : sameB (plainP l level (level % 2) (level % 2)) want = true := by rw [He.out]; simp [sameB]
  go_wp2_with fail
  go_ret
  exact ⟨rfl, hb1⟩

set_option maxHeartbeats 4000000 in
theorem awake_p (w : World) : Calls Try.prog 20 #[] w fun e w' => e = .returned (.bool true) ∧ Below w.heap.size w w' := by
  go_enter Try.func20, Try.ntmps20
  have hb : Below w.heap.size w w := Below.refl _ _
  go_wp2_with fail
  refine (c_any _ _ _ _).mono ?_
  rintro e w' ⟨rfl, rfl⟩
  go_wp2_with fail
  refine (c_any _ _ _ _).mono ?_
  rintro e w' ⟨rfl, rfl⟩
  go_wp2_with fail
  refine (is_yes 0 _ _ _ _ _ _ [0, 13, 0] [0, 0, 0] _ (by omega) (Lit8.alloc (Lit8.new _ _ _ rfl rfl) _) (Lit8.new _ _ _ (by simp) rfl) rfl rfl (by decide) (by decide) (by unfold U8; decide) (by unfold U8; decide) (by decide +kernel)).mono ?_
  rintro e w1 ⟨rfl, hb1⟩
  replace hb : Below w.heap.size w w1 := ((hb.alloc (by have := hb.size; omega) _).alloc (by have := hb.size; simp <;> omega) _).trans (hb1.mono (by have := hb.size; simp <;> omega))
  clear hb1
  go_wp2_with fail
  refine (c_any _ _ _ _).mono ?_
  rintro e w' ⟨rfl, rfl⟩
  go_wp2_with fail
  refine (c_any _ _ _ _).mono ?_
  rintro e w' ⟨rfl, rfl⟩
  go_wp2_with fail
  refine (is_yes 0 _ _ _ _ _ _ [1, 13, 1] [1, 1, 1] _ (by omega) (Lit8.alloc (Lit8.new _ _ _ rfl rfl) _) (Lit8.new _ _ _ (by simp) rfl) rfl rfl (by decide) (by decide) (by unfold U8; decide) (by unfold U8; decide) (by decide +kernel)).mono ?_
  rintro e w2 ⟨rfl, hb1⟩
  replace hb : Below w.heap.size w w2 := ((hb.alloc (by have := hb.size; omega) _).alloc (by have := hb.size; simp <;> omega) _).trans (hb1.mono (by have := hb.size; simp <;> omega))
  clear hb1
  go_wp2_with fail
  refine (c_any _ _ _ _).mono ?_
  rintro e w' ⟨rfl, rfl⟩
  go_wp2_with fail
  refine (c_any _ _ _ _).mono ?_
  rintro e w' ⟨rfl, rfl⟩
  go_wp2_with fail
  refine (is_yes 0 _ _ _ _ _ _ [0, 13, 1] [0, 0, 1] _ (by omega) (Lit8.alloc (Lit8.new _ _ _ rfl rfl) _) (Lit8.new _ _ _ (by simp) rfl) rfl rfl (by decide) (by decide) (by unfold U8; decide) (by unfold U8; decide) (by decide +kernel)).mono ?_
  rintro e w3 ⟨rfl, hb1⟩
  replace hb : Below w.heap.size w w3 := ((hb.alloc (by have := hb.size; omega) _).alloc (by have := hb.size; simp <;> omega) _).trans (hb1.mono (by have := hb.size; simp <;> omega))
  clear hb1
  go_wp2_with fail
  refine (c_any _ _ _ _).mono ?_
  rintro e w' ⟨rfl, rfl⟩
  go_wp2_with fail
  refine (c_any _ _ _ _).mono ?_
  rintro e w' ⟨rfl, rfl⟩
  go_wp2_with fail
  refine (is_yes 0 _ _ _ _ _ _ [1, 12, 3] [1, 1, 3] _ (by omega) (Lit8.alloc (Lit8.new _ _ _ rfl rfl) _) (Lit8.new _ _ _ (by simp) rfl) rfl rfl (by decide) (by decide) (by unfold U8; decide) (by unfold U8; decide) (by decide +kernel)).mono ?_
  rintro e w4 ⟨rfl, hb1⟩
  replace hb : Below w.heap.size w w4 := ((hb.alloc (by have := hb.size; omega) _).alloc (by have := hb.size; simp <;> omega) _).trans (hb1.mono (by have := hb.size; simp <;> omega))
  clear hb1
  go_wp2_with fail
  refine (c_any _ _ _ _).mono ?_
  rintro e w' ⟨rfl, rfl⟩
  go_wp2_with fail
  refine (c_any _ _ _ _).mono ?_
  rintro e w' ⟨rfl, rfl⟩
  go_wp2_with fail
  refine (is_yes 0 _ _ _ _ _ _ [13, 1] [0, 1] _ (by omega) (Lit8.alloc (Lit8.new _ _ _ rfl rfl) _) (Lit8.new _ _ _ (by simp) rfl) rfl rfl (by decide) (by decide) (by unfold U8; decide) (by unfold U8; decide) (by decide +kernel)).mono ?_
  rintro e w5 ⟨rfl, hb1⟩
  replace hb : Below w.heap.size w w5 := ((hb.alloc (by have := hb.size; omega) _).alloc (by have := hb.size; simp <;> omega) _).trans (hb1.mono (by have := hb.size; simp <;> omega))
  clear hb1
  go_wp2_with fail
  refine (c_any _ _ _ _).mono ?_
  rintro e w' ⟨rfl, rfl⟩
  go_wp2_with fail
  refine (c_any _ _ _ _).mono ?_
  rintro e w' ⟨rfl, rfl⟩
  go_wp2_with fail
  refine (is_yes 1 _ _ _ _ _ _ [13] [1] _ (by omega) (Lit8.alloc (Lit8.new _ _ _ rfl rfl) _) (Lit8.new _ _ _ (by simp) rfl) rfl rfl (by decide) (by decide) (by unfold U8; decide) (by unfold U8; decide) (by decide +kernel)).mono ?_
  rintro e w6 ⟨rfl, hb1⟩
  replace hb : Below w.heap.size w w6 := ((hb.alloc (by have := hb.size; omega) _).alloc (by have := hb.size; simp <;> omega) _).trans (hb1.mono (by have := hb.size; simp <;> omega))
  clear hb1
  go_wp2_with fail
  refine (c_any _ _ _ _).mono ?_
  rintro e w' ⟨rfl, rfl⟩
  go_wp2_with fail
  refine (c_any _ _ _ _).mono ?_
  rintro e w' ⟨rfl, rfl⟩
  go_wp2_with fail
  refine (is_yes 1 _ _ _ _ _ _ [0, 13] [0, 1] _ (by omega) (Lit8.alloc (Lit8.new _ _ _ rfl rfl) _) (Lit8.new _ _ _ (by simp) rfl) rfl rfl (by decide) (by decide) (by unfold U8; decide) (by unfold U8; decide) (by decide +kernel)).mono ?_
  rintro e w7 ⟨rfl, hb1⟩
  replace hb : Below w.heap.size w w7 := ((hb.alloc (by have := hb.size; omega) _).alloc (by have := hb.size; simp <;> omega) _).trans (hb1.mono (by have := hb.size; simp <;> omega))
  clear hb1
  go_wp2_with fail
  refine (impl_any 1 0 (by omega) _).mono ?_
  rintro e w8 ⟨rfl, hb1⟩
  replace hb := hb.trans (hb1.mono hb.size)
  clear hb1
  go_wp2_with fail
  refine (impl_any 3 0 (by omega) _).mono ?_
  rintro e w9 ⟨rfl, hb1⟩
  replace hb := hb.trans (hb1.mono hb.size)
  clear hb1
  go_wp2_with fail
  refine (impl_any 0 1 (by omega) _).mono ?_
  rintro e w10 ⟨rfl, hb1⟩
  replace hb := hb.trans (hb1.mono hb.size)
  clear hb1
  go_wp2_with fail
  refine (impl_any 3 1 (by omega) _).mono ?_
  rintro e w11 ⟨rfl, hb1⟩
  replace hb := hb.trans (hb1.mono hb.size)
  clear hb1
  go_wp2_with fail
  refine (impl_any 1 1 (by omega) _).mono ?_
  rintro e w12 ⟨rfl, hb1⟩
  replace hb := hb.trans (hb1.mono hb.size)
  clear hb1
  go_wp2
  go_ret
  exact ⟨ret_bool (by decide), hb⟩


end Go.Proofs.Ytmbjdchknjollaa

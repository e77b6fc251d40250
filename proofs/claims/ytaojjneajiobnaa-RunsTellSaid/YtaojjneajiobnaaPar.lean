/-
  The first strong one, and a paragraph's level.
-/
import Derived.Test.YtaojjneajiobnaaCls
namespace Go.Proofs.Ytaojjneajiobnaa
open Go.RowKit

/-- the way that the first strong one tells, d isolates deep: (to the left?, told?) -/
def strongS : Nat → List Int → Bool × Bool
  | _, [] => (false, false)
  | d, c :: cs => if opS c then strongS (d + 1) cs else if c = 22 then strongS (d - 1) cs else if 0 < d then strongS d cs else if c = 0 then (false, true) else if c = 1 ∨ c = 2 then (true, true) else strongS d cs
/-- what a class does to it -/
theorem strong_cases (c : Int) : (opS c = true) ∨ c = 22 ∨ c = 0 ∨ c = 1 ∨ c = 2 ∨ (opS c = false ∧ (c == 22) = false ∧ (c == 0) = false ∧ (c == 1) = false ∧ (c == 2) = false) := by
  simp only [beq_eq_false_iff_ne]
  cases h : opS c
  · simp; omega
  · simp
theorem strong_o {d : Nat} {c : Int} {cs : List Int} (h : opS c = true) : strongS d (c :: cs) = strongS (d + 1) cs := by simp [strongS, h]
theorem strong_p {d : Nat} {cs : List Int} : strongS d (22 :: cs) = strongS (d - 1) cs := by simp [strongS, opS]
theorem strong_deep {d : Nat} {c : Int} {cs : List Int} (h : opS c = false) (h' : c ≠ 22) (hd : 0 < d) : strongS d (c :: cs) = strongS d cs := by simp [strongS, h, h', hd]
theorem strong_0 {cs : List Int} : strongS 0 (0 :: cs) = (false, true) := by simp [strongS, opS]
theorem strong_1 {cs : List Int} : strongS 0 (1 :: cs) = (true, true) := by simp [strongS, opS]
theorem strong_2 {cs : List Int} : strongS 0 (2 :: cs) = (true, true) := by simp [strongS, opS]
theorem strong_n {d : Nat} {c : Int} {cs : List Int} (h : opS c = false) (h' : (c == 22) = false) (h0 : (c == 0) = false) (h1 : (c == 1) = false) (h2 : (c == 2) = false) : strongS d (c :: cs) = strongS d cs := by
  simp only [beq_eq_false_iff_ne] at *
  simp [strongS, h, h', h0, h1, h2]
theorem drop_at {l : List Int} {k : Nat} {z : Int} (hz : l[k]? = some z) : l.drop k = z :: l.drop (k + 1) := by
  obtain ⟨hk, rfl⟩ := List.getElem?_eq_some_iff.1 hz
  exact List.drop_eq_getElem_cons hk

/-- two bools -/
def Two (p : Bool × Bool) (w : World) (e : Ending) (w' : World) : Prop := e = .returned (.tuple #[.bool p.1, .bool p.2]) ∧ w = w'

set_option maxRecDepth 100000 in
set_option maxHeartbeats 4000000 in
theorem strong_any (A : Option Addr) (n c : Nat) (l : List Int) (w : World) (hr : Rd .u8 w A n l) (hn : n ≤ 1000000) :
    Calls Try.prog 46 #[.slice A n c] w (Two (strongS 0 l) w) := by
  have hm := hr.max
  have hln := hide hr.len
  go_enter Try.func46, Try.ntmps46
  go_wp2
  go_loop [4, 9] (fun dp i => ∃ k d : Nat, k ≤ n ∧ i = .int .i64 k ∧ dp = .int .i64 d ∧ d ≤ k ∧ Hid (strongS 0 l = strongS d (l.drop k))) (fun _ i => n - (intOf i).toNat)
  case atStart => exact ⟨0, 0, Nat.zero_le _, rfl, rfl, Nat.le_refl _, hide rfl⟩
  case round =>
    obtain ⟨k, d, hk, rfl, rfl, hdk, he⟩ := hrel
    by_cases hkn : k < n
    · obtain ⟨b, off, z, rfl, _, hz, hck⟩ := hr.at_ hkn
      have hdr := hide (drop_at hz.out)
      have hE := he.out
      rw [hdr.out] at hE
      have HE := hide hE
      clear he hE hdr hz
      rcases strong_cases z with ho | rfl | hz3
      · have hO := hide ho
        clear ho
        go_wp2_with fail
        refine (op45 z _).mono ?_
        rintro e w' ⟨rfl, rfl⟩
        rw [hO.out]
        go_wp2
        go_round
        case rel => exact ⟨k + 1, d + 1, by omega, by go_num, by go_num, by omega, hide (HE.out.trans (strong_o hO.out))⟩
        case measure => simp [intOf]; omega
      · cases d with
        | zero =>
          go_wp2_with fail
          refine (op45 22 _).mono ?_
          rintro e w' ⟨rfl, rfl⟩
          rw [show opS 22 = false from rfl]
          go_wp2
          go_round
          case rel => exact ⟨k + 1, 0, by omega, by go_num, rfl, by omega, hide (HE.out.trans strong_p)⟩
          case measure => simp [intOf]; omega
        | succ d =>
          have hmx : max (((d : Nat) : Int) + 1 - 1) 0 = (d : Int) := by omega
          have hd0 : (0 : Int) ≤ (d : Int) := by omega
          go_wp2_with fail
          refine (op45 22 _).mono ?_
          rintro e w' ⟨rfl, rfl⟩
          rw [show opS 22 = false from rfl]
          go_wp2
          all_goals
            go_round
            case rel => exact ⟨k + 1, d, by omega, by go_num, by first | rfl | go_num, by omega, hide (HE.out.trans strong_p)⟩
            case measure => simp [intOf]; omega
      · have hoz : opS z = false ∧ (z == 22) = false := by
          rcases hz3 with rfl | rfl | rfl | ⟨h1, h2, _⟩
          · exact ⟨rfl, rfl⟩
          · exact ⟨rfl, rfl⟩
          · exact ⟨rfl, rfl⟩
          · exact ⟨h1, h2⟩
        obtain ⟨ho, hz22⟩ := hoz
        have hO := hide ho
        clear ho
        have hne22 := hide (show z ≠ 22 by simpa using hz22)
        rcases Nat.eq_zero_or_pos d with rfl | hd
        · rcases hz3 with rfl | rfl | rfl | ⟨_, _, hz0, hz1, hz2⟩
          · go_wp2_with fail
            refine (op45 0 _).mono ?_
            rintro e w' ⟨rfl, rfl⟩
            rw [hO.out]
            go_wp2
            go_ret2
            exact ⟨by rw [HE.out, strong_0]; rfl, rfl⟩
          · go_wp2_with fail
            refine (op45 1 _).mono ?_
            rintro e w' ⟨rfl, rfl⟩
            rw [hO.out]
            go_wp2
            go_ret2
            exact ⟨by rw [HE.out, strong_1]; rfl, rfl⟩
          · go_wp2_with fail
            refine (op45 2 _).mono ?_
            rintro e w' ⟨rfl, rfl⟩
            rw [hO.out]
            go_wp2
            go_ret2
            exact ⟨by rw [HE.out, strong_2]; rfl, rfl⟩
          · go_wp2_with fail
            refine (op45 z _).mono ?_
            rintro e w' ⟨rfl, rfl⟩
            rw [hO.out]
            go_wp2
            go_round
            case rel => exact ⟨k + 1, 0, by omega, by go_num, rfl, by omega, hide (HE.out.trans (strong_n hO.out hz22 hz0 hz1 hz2))⟩
            case measure => simp [intOf]; omega
        · clear hz3
          go_wp2_with fail
          refine (op45 z _).mono ?_
          rintro e w' ⟨rfl, rfl⟩
          rw [hO.out]
          go_wp2
          go_round
          case rel => exact ⟨k + 1, d, by omega, by go_num, rfl, by omega, hide (HE.out.trans (strong_deep hO.out hne22.out hd))⟩
          case measure => simp [intOf]; omega
    · obtain rfl : k = n := by omega
      clear hkn
      go_wp2
      go_ret2
      have e : l.drop k = [] := List.drop_eq_nil_of_le (by rw [hln.out]; exact Nat.le_refl _)
      exact ⟨by rw [he.out, e]; rfl, rfl⟩

def bit (b : Bool) : Int := if b then 1 else 0
/-- a paragraph's level -/
def parS (l : List Int) (auto rtl : Bool) : Int := if auto then bit (strongS 0 (l.map cls)).1 else bit rtl
/-- the call answers a byte -/
def RetU8 (v : Int) (w : World) (e : Ending) (w' : World) : Prop := e = .returned (.int .u8 v) ∧ Below w.heap.size w w'

set_option maxRecDepth 100000 in
set_option maxHeartbeats 4000000 in
theorem par_any (A : Option Addr) (n c : Nat) (l : List Int) (auto rtl : Bool) (w : World) (hr : Rd .i32 w A n l) (hn : n ≤ 1000000) :
    Calls Try.prog 19 #[.slice A n c, .bool auto, .bool rtl] w (RetU8 (parS l auto rtl) w) := by
  cases auto
  · cases rtl
    all_goals
      go_enter Try.func19, Try.ntmps19
      go_wp2
      go_ret
      exact ⟨rfl, Below.refl _ _⟩
  · have hl := hide hr.len
    go_enter Try.func19, Try.ntmps19
    go_wp2_with fail
    refine (classes_any A n c l w hr hn).mono ?_
    rintro e w1 ⟨A1, c1, rfl, hown, hb⟩
    have e1 : (l.map cls).length = n := by rw [List.length_map, hl.out]
    rw [e1] at hown ⊢
    clear e1
    go_wp2_with fail
    refine (strong_any A1 n c1 _ w1 hown.rd hn).mono ?_
    rintro e w' ⟨rfl, rfl⟩
    have hp := hide (show parS l true rtl = bit (strongS 0 (l.map cls)).1 from rfl)
    generalize strongS 0 (l.map cls) = s at *
    obtain ⟨s1, s2⟩ := s
    cases s1
    all_goals
      go_wp2_with fail
      go_ret
      exact ⟨by rw [hp.out]; rfl, hb⟩
end Go.Proofs.Ytaojjneajiobnaa

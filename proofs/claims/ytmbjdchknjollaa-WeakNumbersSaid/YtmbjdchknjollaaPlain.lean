/-
  The walks of plain.Plain, of its closure, and of the document's Plain.
-/
import Derived.Test.YtmbjdchknjollaaSmall
namespace Go.Proofs.Ytmbjdchknjollaa
open Go.RowKit

def fillS (zs : List Int) (f : Nat) (v : Int) : Nat → List Int
  | 0 => zs
  | k + 1 => (fillS zs f v k).set (f + k) v
def pickS (behind ahead level : Int) : Int := if behind ≠ ahead ∨ ahead = 255 then level % 2 else behind

set_option maxHeartbeats 1000000 in
theorem fill_any (B : Nat) (A : Option Addr) (n c : Nat) (zs : List Int) (f t : Nat) (behind ahead level : Int) (gA gL gF gO : Nat) (w : World)
    (hA : Var w gA 5 (.int .u8 ahead)) (hL : Var w gL 5 (.int .u8 level)) (hF : Var w gF 3 (.int .i64 f)) (hO : Var w gO 22 (.slice A n c)) (hw : Own B 5 .u8 w A n c zs)
    (hl : 0 ≤ level ∧ level ≤ 255) (hft : f ≤ t) (htn : t ≤ n) :
    Calls Try.prog 27 #[.int .i64 t, .int .u8 behind, .pointer (some ⟨gA, 0, none⟩), .pointer (some ⟨gL, 0, none⟩), .pointer (some ⟨gF, 0, none⟩), .pointer (some ⟨gO, 0, none⟩)] w
      fun e w' => e = .returned (.tuple #[]) ∧ Own B 5 .u8 w' A n c (fillS zs f (pickS behind ahead level) (t - f)) ∧ w.grownBy w' (Value.slice A n c).ownBlock := by
  have cA := hA.cell
  have cL := hL.cell
  have cF := hF.cell
  have cO := hO.cell
  have hne := hide (hw.ne_ hO (by decide))
  have hb := and_one hl.1 hl.2
  have hm := hw.2
  have hp : ((behind != ahead) = true ∧ Hid (pickS behind ahead level = level % 2)) ∨ ((behind != ahead) = false ∧ (ahead == 255) = true ∧ Hid (pickS behind ahead level = level % 2)) ∨
      ((behind != ahead) = false ∧ (ahead == 255) = false ∧ Hid (pickS behind ahead level = behind)) := by
    by_cases h1 : behind = ahead
    · by_cases h2 : ahead = 255
      · exact .inr (.inl ⟨by simpa using h1, by simpa using h2, if_pos (.inr h2)⟩)
      · exact .inr (.inr ⟨by simpa using h1, by simpa using h2, if_neg (by omega)⟩)
    · exact .inl ⟨by simpa using h1, if_pos (.inl h1)⟩
  clear hA hL hF
  generalize pickS behind ahead level = v at *
  rcases hp with ⟨h1, hv⟩ | ⟨h1, h2, hv⟩ | ⟨h1, h2, hv⟩
  all_goals
    go_enter Try.func27, Try.ntmps27
    go_wp2
    go_loopw [8] (fun i wr => ∃ k : Nat, f + k ≤ t ∧ i = .int .i64 ((f + k : Nat) : Int) ∧ Own B 5 .u8 wr A n c (fillS zs f v k) ∧ w.grownBy wr (Value.slice A n c).ownBlock) (fun i _ => t - (intOf i).toNat)
    case atStart => exact ⟨0, by omega, rfl, hw, World.grownBy.refl _ _⟩
    case round =>
      obtain ⟨k, hk, rfl, hown, hgr⟩ := hrel
      by_cases hlt : f + k < t
      · have hO' := (hO.grown hgr (Ne.symm hne.out)).cell
        obtain ⟨g, z, rfl, hBg, hgl, hz, hck, hfk⟩ := hown.at_ (show f + k < n by omega)
        go_wp2
        go_roundw
        case rel => exact ⟨k + 1, by omega, by go_num, by have := hown.set_ (f + k) v; rw [hv.out] at this ⊢; exact this, grown_setCell (p := ⟨g, f + k, none⟩) hgr (.inl rfl) _⟩
        case measure => simp [intOf]; omega
      · obtain rfl : t = f + k := by omega
        clear hlt
        go_wp2
        go_end0
        exact ⟨rfl, by simpa [hv.out] using hown, hgr⟩
end Go.Proofs.Ytmbjdchknjollaa

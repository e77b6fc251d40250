/-
  Rows of sequences: how they read, and that equal ones are told equal.
-/
import Derived.Test.YtaojjneajiobnaaRunO
namespace Go.Proofs.Ytaojjneajiobnaa
open Go.RowKit Go.Maps

/-- a row of n sequences as it reads -/
def RunsAt (w : World) (A : Option Addr) (n : Nat) (qs : List QR) : Prop :=
  qs.length = n ∧ n ≤ 1000000 ∧ (0 < n → ∃ b, A = some ⟨b, 0, none⟩ ∧ b < w.heap.size ∧ ∀ (i : Nat) (q : QR), qs[i]? = some q → ∃ Ai ci, w.cell? ⟨b, i * 4, none⟩ = some (.slice Ai q.ps.length ci) ∧ Rd .i64 w Ai q.ps.length q.ps ∧
    w.cell? ⟨b, i * 4 + 1, none⟩ = some (.int .u8 q.lv) ∧ w.cell? ⟨b, i * 4 + 2, none⟩ = some (.int .u8 q.st) ∧ w.cell? ⟨b, i * 4 + 3, none⟩ = some (.int .u8 q.en))
section
variable {w w' : World} {A : Option Addr} {n : Nat} {qs : List QR}
theorem RunsAt.below (h : RunsAt w A n qs) (hb : Below w.heap.size w w') : RunsAt w' A n qs := by
  refine ⟨h.1, h.2.1, fun hn => ?_⟩
  obtain ⟨b, hA, hlt, hc⟩ := h.2.2 hn
  refine ⟨b, hA, Nat.lt_of_lt_of_le hlt hb.size, fun i q hq => ?_⟩
  obtain ⟨Ai, ci, h1, h2, h3, h4, h5⟩ := hc i q hq
  have hk : ∀ o, w'.cell? ⟨b, o, none⟩ = w.cell? ⟨b, o, none⟩ := fun o => hb.cell (p := ⟨b, o, none⟩) hlt
  exact ⟨Ai, ci, (hk _).trans h1, h2.below hb, (hk _).trans h3, (hk _).trans h4, (hk _).trans h5⟩
theorem Sq.runs {B : Nat} {xs : List QV} {c : Nat} (h : Sq B w (.slice A xs.length c) xs) (hn : xs.length ≤ 1000000) : RunsAt w A xs.length (xs.map QV.q) := by
  refine ⟨by simp, hn, fun h0 => ?_⟩
  obtain ⟨x0, hx0⟩ : ∃ x, xs[0]? = some x := ⟨_, List.getElem?_eq_getElem h0⟩
  obtain ⟨ob, cap, hv, hB, hlt, _⟩ := h.at_ hx0
  injection hv with hA _ _
  subst hA
  refine ⟨ob, rfl, hlt, fun i q hq => ?_⟩
  rw [List.getElem?_map] at hq
  cases hx : xs[i]? with
  | none => rw [hx] at hq; cases hq
  | some x =>
    rw [hx] at hq
    injection hq with hq
    subst hq
    obtain ⟨ob', cap', hv', _, _, _, c0, c1, c2, c3, _⟩ := h.at_ hx
    injection hv' with hv' _ _
    injection hv' with hv'
    injection hv' with hv'
    subst hv'
    rw [Nat.mul_comm 4 i] at c0 c1 c2 c3
    exact ⟨x.A, x.c, c0, (h.own i x hx).rd, c1, c2, c3⟩
end
set_option maxRecDepth 100000 in
set_option maxHeartbeats 4000000 in
theorem sameq_any (A1 A2 : Option Addr) (n c1 c2 : Nat) (qs : List QR) (w : World) (r1 : RunsAt w A1 n qs) (r2 : RunsAt w A2 n qs) (hps : ∀ q ∈ qs, q.ps.length ≤ 1000000) :
    Calls Try.prog 29 #[.slice A1 n c1, .slice A2 n c2] w fun e w' => e = .returned (.bool true) ∧ Below w.heap.size w w' := by
  have hq := bne_false (rfl : n = n)
  have hn := r1.2.1
  have hPS := hide hps
  clear hps
  go_enter Try.func29, Try.ntmps29
  go_wp2_with fail
  go_loopw [13] (fun i wr => ∃ k : Nat, k ≤ n ∧ i = .int .i64 ((k : Nat) : Int) ∧ Below w.heap.size w wr) (fun i _ => n - (intOf i).toNat)
  case atStart => exact ⟨0, Nat.zero_le _, rfl, Below.refl _ _⟩
  case round =>
    obtain ⟨k, hk, rfl, hbel⟩ := hrel
    obtain ⟨wo, rfl⟩ : ∃ wo : World, wo = wr := ⟨_, rfl⟩
    by_cases hkn : k < n
    · have s1 := hide (r1.below hbel)
      have s2 := hide (r2.below hbel)
      obtain ⟨q, hqk⟩ : ∃ q, qs[k]? = some q := ⟨_, List.getElem?_eq_getElem (by rw [r1.1]; exact hkn)⟩
      have hpl := hPS.out q (List.mem_of_getElem? hqk)
      obtain ⟨b1, rfl, _, f1⟩ := r1.2.2 (by omega)
      obtain ⟨b2, rfl, _, f2⟩ := r2.2.2 (by omega)
      clear f1 f2
      obtain ⟨b1', hA1, hl1, hc1⟩ := s1.out.2.2 (by omega)
      injection hA1 with hA1
      injection hA1 with hA1
      subst hA1
      obtain ⟨b2', hA2, hl2, hc2⟩ := s2.out.2.2 (by omega)
      injection hA2 with hA2
      injection hA2 with hA2
      subst hA2
      obtain ⟨Ai, ci, x1, x2, x3, x4, x5⟩ := hc1 k q hqk
      obtain ⟨Bi, di, y1, y2, y3, y4, y5⟩ := hc2 k q hqk
      have hp := hide (fun y : BW wo => (places_any Ai Bi q.ps.length q.ps.length ci di q.ps q.ps y.world (x2.below y.below) (y2.below y.below) hpl).mono (fun e w' (h : _ ∧ _) => (⟨by rw [h.1, sameB_self], h.2⟩ : e = .returned (.bool true) ∧ Below y.world.heap.size y.world w')))
      have k1 : ∀ (y : BW wo) (o : Nat), y.world.cell? ⟨b1, o, none⟩ = wo.cell? ⟨b1, o, none⟩ := fun y o => y.below.cell (p := ⟨b1, o, none⟩) hl1
      have k2 : ∀ (y : BW wo) (o : Nat), y.world.cell? ⟨b2, o, none⟩ = wo.cell? ⟨b2, o, none⟩ := fun y o => y.below.cell (p := ⟨b2, o, none⟩) hl2
      have z1 : (q.lv != q.lv) = false := by simp
      have z2 : (q.st != q.st) = false := by simp
      have z3 : (q.en != q.en) = false := by simp
      have q1 : (k : Int) < (n : Int) := by omega
      have q2 : (0 : Int) ≤ (k : Int) := by omega
      obtain ⟨ps, lv, st, en⟩ := q
      simp only at x1 x3 x4 x5 y1 y3 y4 y5 hp hpl z1 z2 z3
      generalize ps.length = N at *
      clear hc1 hc2 x2 y2 hqk s1 s2 r1 r2
      go_wp2_with fail
      refine wp_region_below (by kernel_rfl) (by kernel_rfl) ?_
      repeat (go_big_quiet_step ((go_at_call 16; exact Calls.below_of (hp.out _))))
      refine wpQuiet_nil ?_
      rintro _ ⟨y, rfl⟩
      go_wp2_with fail
      go_roundw
      case rel => exact ⟨k + 1, by omega, by go_num, hbel.trans (y.below.mono hbel.size)⟩
      case measure => simp [intOf]; omega
    · obtain rfl : k = n := by omega
      clear hkn
      go_wp2_with fail
      go_ret
      exact ⟨rfl, hbel⟩
end Go.Proofs.Ytaojjneajiobnaa

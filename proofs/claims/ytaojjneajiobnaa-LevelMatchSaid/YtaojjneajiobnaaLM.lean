/-
  The walk of LevelMatch.
-/
import Derived.Test.YtaojjneajiobnaaAwL
import Derived.Test.YtaojjneajiobnaaMatN
namespace Go.Proofs.Ytaojjneajiobnaa
open Go.RowKit
set_option maxRecDepth 100000 in
set_option maxHeartbeats 8000000 in
theorem lawMatch_any (A : Option Addr) (n c : Nat) (l : List Int) (w : World) (hr : Rd .u8 w A n l) :
    Calls Try.prog 4 #[.slice A n c] w fun e w' => e = .returned (.bool true) ∧ Below w.heap.size w w' := by
  have hm := hr.max
  have hln := hide hr.len
  by_cases hbig : 300 < n
  · have hb : decide (300 < (n : Int)) = true := by simp; omega
    go_enter Try.func4, Try.ntmps4
    go_wp2_with fail
    refine (awake_l w).mono ?_
    rintro e w1 ⟨rfl, hb1⟩
    go_wp2_with fail
    go_ret
    exact ⟨rfl, hb1⟩
  · have hb : decide (300 < (n : Int)) = false := by simp; omega
    have hml := hide ((match_len l).trans hr.len)
    go_enter Try.func4, Try.ntmps4
    go_wp2_with fail
    refine (match_any A n c l w hr (by omega)).mono ?_
    rintro e w1 ⟨A1, c1, rfl, hM, hb1⟩
    rw [hml.out] at hM ⊢
    have hr1 := hr.below hb1
    have hM1 := hM.rd
    have hnb : ((n : Int) != (n : Int)) = false := by simp
    go_wp2_with fail
    go_loopw [22] (fun i wr => ∃ k : Nat, k ≤ n ∧ i = .int .i64 ((k : Nat) : Int) ∧ Below w1.heap.size w1 wr) (fun i _ => n - (intOf i).toNat)
    case atStart => exact ⟨0, Nat.zero_le _, rfl, Below.refl _ _⟩
    case round =>
      obtain ⟨i, hi, rfl, hbel⟩ := hrel
      obtain ⟨wo, rfl⟩ : ∃ wo : World, wo = wr := ⟨_, rfl⟩
      have hr2 := hr1.below hbel
      have hM2 := hM1.below hbel
      by_cases hin : i < n
      · have hq1 : (i : Int) < (n : Int) := by omega
        have hq2 : (0 : Int) ≤ (i : Int) := by omega
        obtain ⟨b, off, x, rfl, hbw, hz, hck⟩ := hr2.at_ hin
        obtain ⟨b2, off2, k, rfl, hbw2, hz2, hck2⟩ := hM2.at_ hin
        have hop := op22 x wo
        rcases match_cases hz.out hz2.out with h | ⟨e, h⟩ | ⟨q, h⟩ | h
        · obtain ⟨h1, h2⟩ := h
          obtain rfl : k = (n : Int) := by rw [h2, hln.out]
          rw [h1] at hop
          have hop' := hide hop
          clear hop h1 h2
          have t1 : decide ((n : Int) ≤ (i : Int)) = false := by simp; omega
          have t2 : decide ((n : Int) < (n : Int)) = false := by simp
          go_wp2_with fail
          refine hop'.out.mono ?_
          rintro e w2 ⟨rfl, rfl⟩
          go_wp2_with fail
          go_loopw [7] (fun j wr => ∃ t : Nat, j = .int .i64 ((t : Nat) : Int) ∧ t ≤ n ∧ Below w1.heap.size w1 wr) (fun j _ => n - (intOf j).toNat)
          case atStart => exact ⟨i + 1, by go_num, by omega, hbel⟩
          case round =>
            obtain ⟨t, rfl, ht, hbel'⟩ := hrel
            by_cases htn : t < n
            · have t3 : decide ((t : Int) < (n : Int)) = true := by simp; omega
              go_wp2_with fail
              go_roundw
              case rel => exact ⟨i + 1, by omega, by go_num, hbel'⟩
              case measure => simp [intOf]; omega
            · have t3 : decide ((t : Int) < (n : Int)) = false := by simp; omega
              go_wp2_with fail
              go_roundw
              case rel => exact ⟨i + 1, by omega, by go_num, hbel'⟩
              case measure => simp [intOf]; omega
        · obtain ⟨h1, rfl, h3, h4, h5, h6, h7⟩ := h
          rw [h1] at hop
          have hop' := hide hop
          have h7' := hide h7
          have h4' : e < n := by rw [← hln.out]; exact h4
          obtain ⟨z', hz', hcz⟩ := hr2.cell (j := e) h4'
          obtain rfl : z' = 22 := by have := hz'.out; rw [h5] at this; injection this with this; exact this.symm
          obtain ⟨y', hy', hcy⟩ := hM2.cell (j := e) h4'
          obtain rfl : y' = (i : Int) := by have := hy'.out; rw [h6] at this; injection this with this; exact this.symm
          clear hop h1 h5 h6 h7
          have t1 : decide ((e : Int) ≤ (i : Int)) = false := by simp; omega
          have t2 : decide ((n : Int) < (e : Int)) = false := by simp; omega
          have t3 : decide ((e : Int) < (n : Int)) = true := by simp; omega
          have t4 : ((i : Int) != (i : Int)) = false := by simp
          have t5 : ((22 : Int) != 22) = false := by decide
          have t6 : (0 : Int) ≤ (e : Int) := by omega
          have t7 : (e : Int) < (n : Int) := by omega
          go_wp2_with fail
          refine hop'.out.mono ?_
          rintro e2 w2 ⟨rfl, rfl⟩
          go_wp2_with fail
          go_loopw [7] (fun j wr => ∃ t : Nat, j = .int .i64 ((t : Nat) : Int) ∧ i < t ∧ t ≤ e ∧ Below w1.heap.size w1 wr) (fun j _ => n - (intOf j).toNat)
          case atStart => exact ⟨i + 1, by go_num, by omega, by omega, hbel⟩
          case round =>
            obtain ⟨t, rfl, hit, ht, hbel'⟩ := hrel
            obtain ⟨wi, rfl⟩ : ∃ wi : World, wi = wr := ⟨_, rfl⟩
            by_cases hte : t < e
            · have s1 : decide ((t : Int) < (e : Int)) = true := by simp; omega
              obtain ⟨z, hz', hcz⟩ := (hr1.below hbel').cell (j := t) (by omega)
              obtain ⟨y, hy', hcy⟩ := (hM1.below hbel').cell (j := t) (by omega)
              have s2 : (0 : Int) ≤ (t : Int) := by omega
              have s3 : (t : Int) < (n : Int) := by omega
              obtain ⟨k1, k2⟩ := h7'.out t z y hit hte hz'.out hy'.out
              by_cases hy0 : 0 ≤ y
              · have r1 : decide ((0 : Int) ≤ y) = true := by simp; omega
                have r2 : decide (y ≤ (i : Int)) = false := by have := k1 hy0; simp; omega
                have r3 : decide ((e : Int) ≤ y) = false := by have := k1 hy0; simp; omega
                have r4 : decide (y < (0 : Int)) = false := by simp; omega
                clear k1 k2
                go_wp2_with fail
                go_roundw
                case rel => exact ⟨t + 1, by go_num, by omega, by omega, hbel'⟩
                case measure => simp [intOf]; omega
              · have r1 : decide ((0 : Int) ≤ y) = false := by simp; omega
                have r4 : decide (y < (0 : Int)) = true := by simp; omega
                have r5 : (z == 22) = false := by simpa using k2 (by omega)
                clear k1 k2
                go_wp2_with fail
                go_roundw
                case rel => exact ⟨t + 1, by go_num, by omega, by omega, hbel'⟩
                case measure => simp [intOf]; omega
            · have s1 : decide ((t : Int) < (e : Int)) = false := by simp; omega
              go_wp2_with fail
              go_roundw
              case rel => exact ⟨i + 1, by omega, by go_num, hbel'⟩
              case measure => simp [intOf]; omega
        · obtain ⟨h1, rfl, rfl, h4, h5, z, h6, h7⟩ := h
          have hop' := hide hop
          clear hop h1
          obtain ⟨z', hz', hcz⟩ := hr2.cell (j := q) (by omega)
          obtain rfl : z' = z := by have := hz'.out; rw [h6] at this; injection this with this; exact this.symm
          obtain ⟨y', hy', hcy⟩ := hM2.cell (j := q) (by omega)
          obtain rfl : y' = (i : Int) := by have := hy'.out; rw [h5] at this; injection this with this; exact this.symm
          have hopz := hide (op22 z' wo)
          rw [h7] at hopz
          clear h5 h6 h7
          have t1 : decide ((i : Int) ≤ (q : Int)) = false := by simp; omega
          have t2 : decide ((0 : Int) ≤ (q : Int)) = true := by simp
          have t3 : ((i : Int) != (i : Int)) = false := by simp
          have t4 : (0 : Int) ≤ (q : Int) := by omega
          have t5 : (q : Int) < (n : Int) := by omega
          go_wp2_with fail
          refine hop'.out.mono ?_
          rintro e w2 ⟨rfl, rfl⟩
          rw [show opS 22 = false from rfl]
          go_wp2_with fail
          refine hopz.out.mono ?_
          rintro e w2 ⟨rfl, rfl⟩
          go_wp2_with fail
          go_roundw
          case rel => exact ⟨i + 1, by omega, by go_num, hbel⟩
          case measure => simp [intOf]; omega
        · obtain ⟨h1, rfl, h3⟩ := h
          rw [h1] at hop
          have hop' := hide hop
          have h3' := hide h3
          clear hop h1 h3
          have t1 : decide ((0 : Int) ≤ -1) = false := by decide
          have t2 : ((-1 : Int) != -1) = false := by decide
          by_cases hx22 : x = 22
          · subst hx22
            have t3 : ((22 : Int) == 22) = true := by decide
            go_wp2_with fail
            refine hop'.out.mono ?_
            rintro e w2 ⟨rfl, rfl⟩
            go_wp2_with fail
            go_loopw [8] (fun j wr => ∃ t : Nat, j = .int .i64 ((t : Nat) : Int) ∧ t ≤ n ∧ Below w1.heap.size w1 wr) (fun j _ => n - (intOf j).toNat)
            case atStart => exact ⟨0, rfl, by omega, hbel⟩
            case round =>
              obtain ⟨t, rfl, ht, hbel'⟩ := hrel
              obtain ⟨wi, rfl⟩ : ∃ wi : World, wi = wr := ⟨_, rfl⟩
              by_cases htn : t < i
              · have t4 : decide ((t : Int) < (i : Int)) = true := by simp; omega
                obtain ⟨z, hz', hcz⟩ := (hr1.below hbel').cell (j := t) (by omega)
                obtain ⟨y, hy', hcy⟩ := (hM1.below hbel').cell (j := t) (by omega)
                have t5 : (0 : Int) ≤ (t : Int) := by omega
                have t6 : (t : Int) < (n : Int) := by omega
                have hopz := op22 z wi
                cases hoz : opS z
                · rw [hoz] at hopz
                  have hopz' := hide hopz
                  clear hopz hoz
                  go_wp2_with fail
                  refine hopz'.out.mono ?_
                  rintro e w2 ⟨rfl, rfl⟩
                  go_wp2_with fail
                  go_roundw
                  case rel => exact ⟨t + 1, by go_num, by omega, hbel'⟩
                  case measure => simp [intOf]; omega
                · have t7 : decide ((i : Int) < y) = false := by
                    have := h3'.out (by first | trivial | rfl) t z y htn hz'.out hy'.out hoz
                    simp; omega
                  rw [hoz] at hopz
                  have hopz' := hide hopz
                  clear hopz hoz
                  go_wp2_with fail
                  refine hopz'.out.mono ?_
                  rintro e w2 ⟨rfl, rfl⟩
                  go_wp2_with fail
                  go_roundw
                  case rel => exact ⟨t + 1, by go_num, by omega, hbel'⟩
                  case measure => simp [intOf]; omega
              · have t4 : decide ((t : Int) < (i : Int)) = false := by simp; omega
                go_wp2_with fail
                go_roundw
                case rel => exact ⟨i + 1, by omega, by go_num, hbel'⟩
                case measure => simp [intOf]; omega
          · have t3 : (x == 22) = false := by simpa using hx22
            have hx' := hide hx22
            clear hx22
            go_wp2_with fail
            refine hop'.out.mono ?_
            rintro e w2 ⟨rfl, rfl⟩
            go_wp2_with fail
            go_loopw [8] (fun j wr => ∃ t : Nat, j = .int .i64 ((t : Nat) : Int) ∧ t ≤ n ∧ Below w1.heap.size w1 wr) (fun j _ => n - (intOf j).toNat)
            case atStart => exact ⟨0, rfl, by omega, hbel⟩
            case round =>
              obtain ⟨t, rfl, ht, hbel'⟩ := hrel
              by_cases htn : t < i
              · have t4 : decide ((t : Int) < (i : Int)) = true := by simp; omega
                go_wp2_with fail
                go_roundw
                case rel => exact ⟨i + 1, by omega, by go_num, hbel'⟩
                case measure => simp [intOf]; omega
              · have t4 : decide ((t : Int) < (i : Int)) = false := by simp; omega
                go_wp2_with fail
                go_roundw
                case rel => exact ⟨i + 1, by omega, by go_num, hbel'⟩
                case measure => simp [intOf]; omega
      · obtain rfl : i = n := by omega
        clear hin
        go_wp2_with fail
        refine (awake_l wo).mono ?_
        rintro e w2 ⟨rfl, hb2⟩
        go_wp2_with fail
        go_ret
        exact ⟨rfl, (hb1.trans (hbel.mono hb1.size)).trans (hb2.mono (hb1.trans (hbel.mono hb1.size)).size)⟩
end Go.Proofs.Ytaojjneajiobnaa

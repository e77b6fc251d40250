/-
  The law PlainNone: its walk.
-/
import Derived.Test.YtmbjdchknjollaaAwakeP
import Derived.Test.YtmbjdchknjollaaPlainMath
import Derived.Deep.QuietTactic
import Derived.BigQuiet
namespace Go.Proofs.Ytmbjdchknjollaa
open Go.RowKit

theorem got_at {l : List Int} {level start fin v : Int} {k : Nat} (hv : (plainP l level start fin)[k]? = some v) : k < l.length ∧ v = atS l level start fin k := by
  obtain ⟨hk, rfl⟩ := List.getElem?_eq_some_iff.1 hv
  have hk' : k < l.length := by rwa [plainP_len] at hk
  exact ⟨hk', by rw [← plainP_at l level start fin hk', getD_eq hk]⟩
theorem got_not {l : List Int} {level start fin z v : Int} {k : Nat} (hz : l[k]? = some z) (hv : (plainP l level start fin)[k]? = some v) (h : neuS z = false) : v = z := by
  obtain ⟨_, rfl⟩ := got_at hv
  have e : l.getD k 0 = z := by simp [List.getD, hz]
  rw [atS_not (by rw [e]; exact h), e]
theorem got_yes {l : List Int} {level start fin z v : Int} {k : Nat} (hf : 0 ≤ fin) (hz : l[k]? = some z) (hv : (plainP l level start fin)[k]? = some v) (h : neuS z = true) : v = 0 ∨ v = 1 := by
  obtain ⟨_, rfl⟩ := got_at hv
  have e : l.getD k 0 = z := by simp [List.getD, hz]
  exact atS_neu hf (by rw [e]; exact h)
theorem got_row {l : List Int} {level start fin z v z' v' : Int} {k : Nat} (hz : l[k + 1]? = some z) (hv : (plainP l level start fin)[k + 1]? = some v) (hz' : l[k]? = some z') (hv' : (plainP l level start fin)[k]? = some v')
    (h : neuS z = true) (h' : neuS z' = true) : v' = v := by
  obtain ⟨hk, rfl⟩ := got_at hv
  obtain ⟨_, rfl⟩ := got_at hv'
  have e : l.getD (k + 1) 0 = z := by simp [List.getD, hz]
  have e' : l.getD k 0 = z' := by simp [List.getD, hz']
  exact atS_row hk (by rw [e']; exact h') (by rw [e]; exact h)

/-- a world in which all that stood in W stands -/
structure BW (W : World) where
  world : World
  below : Below W.heap.size W world
instance (W : World) : Nonempty (BW W) := ⟨⟨W, Below.refl _ _⟩⟩
theorem wp_region_below {P : Program} {id : Nat} {Q : Exit → Act → World → Prop} {a : Act} {w : World} {l : List Oper} (hm : P.follows .mixedOrders = true) (hB : Region.lexB .any l.toArray = true)
    (h : wpQuiet P l.toArray (fun w' => ∃ x : BW w, w' = x.world) (fun a' => ∀ w', (∃ x : BW w, w' = x.world) → Q .normal a' w') l a) : (Code.region id l.toArray true).wp P Q a w :=
  wp_region_quiet (C := fun w' => ∃ x : BW w, w' = x.world) hm hB ⟨⟨_, (Below.refl _ _).drew⟩, rfl⟩ (by simpa using h)
theorem Calls.below_of {P : Program} {f : FuncId} {args : Array Value} {W : World} {x : BW W} {v : Value}
    (h : Calls P f args x.world fun e w' => e = .returned v ∧ Below x.world.heap.size x.world w') : Calls P f args x.world fun e w'' => e = .returned v ∧ ∃ y : BW W, w'' = y.world :=
  h.mono fun _ w' ⟨he, hb⟩ => ⟨he, ⟨w', x.below.trans (hb.mono x.below.size)⟩, rfl⟩
theorem Calls.below_same {P : Program} {f : FuncId} {args : Array Value} {W : World} {x : BW W} {v : Value}
    (h : Calls P f args x.world fun e w' => e = .returned v ∧ x.world = w') : Calls P f args x.world fun e w'' => e = .returned v ∧ ∃ y : BW W, w'' = y.world :=
  h.mono fun _ _ ⟨he, hb⟩ => ⟨he, x, hb.symm⟩

theorem bool01 {v : Int} (h : v = 0 ∨ v = 1) : (v != 0) = false ∨ ((v != 0) = true ∧ (v != 1) = false) := by
  rcases h with rfl | rfl
  · exact .inl rfl
  · exact .inr ⟨rfl, rfl⟩

set_option maxRecDepth 100000 in
set_option maxHeartbeats 8000000 in
theorem none_walk (A : Option Addr) (n c : Nat) (l : List Int) (level start fin : Int) (w : World) (hr : Rd .u8 w A n l) (hu : U8 l)
    (hl : 0 ≤ level ∧ level ≤ 255) (hf : 0 ≤ fin ∧ fin ≤ 255) :
    Calls Try.prog 4 #[.slice A n c, .int .u8 level, .int .u8 start, .int .u8 fin] w fun e w' => e = .returned (.bool true) ∧ Below w.heap.size w w' := by
  have hm := hr.max
  by_cases h300 : 300 < n
  · go_enter Try.func4, Try.ntmps4
    go_wp2_with fail
    refine (awake_p _).mono ?_
    rintro e w5 ⟨rfl, hb5⟩
    go_wp2_with fail
    go_ret
    exact ⟨rfl, hb5⟩
  · have hle : n ≤ 300 := by omega
    clear h300
    have u1 := plainP_u8 (level := level) (start := start) hu hf.1
    have ha := hide (plainP_again (l := l) (level := level) (start := start) hf.1)
    have hpl := hide (plainP_len l level start fin)
    have hown0 : Own w.heap.size 5 .u8 (w.alloc (.cells #[] 5)) (some ⟨w.heap.size, 0, none⟩) 0 0 [] := own_empty _ _ _ _ _ rfl (Nat.le_refl _)
    go_enter Try.func4, Try.ntmps4
    go_wp2_with (at_builtin; refine wpList_app elt8 rfl (.tmp 17) (.tmp 18) rfl rfl rfl hown0 (hr.alloc _) (by omega) (by simp) ?_; intro A1 c1 w1 hown1 hgr1 _)
    simp only [Nat.zero_add, List.nil_append] at hown1
    have hb1 : Below w.heap.size w w1 := ((Below.refl _ _).alloc (Nat.le_refl _) _).grown hgr1 (by simp) (by simp [Value.ownBlock])
    clear hown0 hgr1
    refine (plain_any _ n c l level start fin _ (hr.below hb1) (by omega) hl).mono ?_
    rintro e w2 ⟨A2, c2, rfl, hown2, hb2⟩
    have hown1' := hown1.below hb2
    replace hb2 := hb1.trans (hb2.mono hb1.size)
    clear hb1 hown1
    have hlen : (plainP l level start fin).length = n := hpl.out.trans hr.len
    rw [hlen] at hown2 ⊢
    have hLen := hide hlen
    clear hlen
    go_wp2_with fail
    refine (same_any _ _ _ _ _ _ _ _ _ (hr.below hb2) hown1'.rd hu hu).mono ?_
    rintro e w' ⟨rfl, rfl⟩
    have hsame : sameB l l = true := by simp [sameB]
    go_wp2_with fail
    refine (plain_any _ n _ (plainP l level start fin) level start fin _ hown2.rd (by omega) hl).mono ?_
    rintro e w3 ⟨A3, c3, rfl, hown3, hb3⟩
    have hown2' := hown2.below hb3
    replace hb3 := hb2.trans (hb3.mono hb2.size)
    clear hb2 hown2 hown1'
    go_wp2_with fail
    refine (same_any _ _ _ _ _ _ _ _ _ hown3.rd hown2'.rd (by rw [ha.out]; exact u1) u1).mono ?_
    rintro e w' ⟨rfl, rfl⟩
    have hsame2 : sameB (plainP (plainP l level start fin) level start fin) (plainP l level start fin) = true := by rw [ha.out]; simp [sameB]
    clear hown3
    go_wp2_with fail
    have hr3 := hr.below hb3
    clear hr hsame hsame2 u1 hu
    go_loopw [48] (fun i wr => ∃ k : Nat, k ≤ n ∧ i = .int .i64 k ∧ Below w3.heap.size w3 wr) (fun i _ => n - (intOf i).toNat)
    case atStart => exact ⟨0, Nat.zero_le _, rfl, Below.refl _ _⟩
    case round =>
      obtain ⟨k, hk, rfl, hbr⟩ := hrel
      obtain ⟨wo, rfl⟩ : ∃ wo : World, wo = wr := ⟨_, rfl⟩
      by_cases hkn : k < n
      · have hrw := hr3.below hbr
        have how := hown2'.below hbr
        obtain ⟨b, off, z, rfl, hbw, hz, hck⟩ := hrw.at_ hkn
        obtain ⟨g, v, rfl, _, hgw, hv, hcg, _⟩ := how.at_ hkn
        by_cases hneu : neuS z = true
        · rcases Nat.eq_zero_or_pos k with rfl | hk0
          · simp only [Nat.add_zero] at hck
            rcases got_yes hf.1 hz.out hv.out hneu with rfl | rfl
            all_goals
              go_wp2_with fail
              refine (neu_any z _).mono ?_
              rintro e w4 ⟨rfl, hb4⟩
              have hcg4 := (hb4.cell (p := ⟨g, 0, none⟩) hgw).trans hcg
              go_wp2_with fail
              go_quiet (fail)
              go_wp2_with fail
              go_roundw
              case rel => exact ⟨1, by omega, by go_num, below_drewN (hbr.trans (hb4.mono hbr.size)) _⟩
              case measure => simp [intOf]; omega
          · obtain ⟨j, rfl⟩ : ∃ j, k = j + 1 := ⟨k - 1, by omega⟩
            obtain ⟨z', hz', hck'⟩ := hrw.cell (show j < n by omega)
            obtain ⟨g', v', hgg, _, _, hv', hcg', _⟩ := how.at_ (show j < n by omega)
            obtain rfl : g = g' := by injection hgg with h; injection h
            clear hgg
            by_cases hneu1 : neuS z' = true
            · have hvv : v = v' := (got_row hz.out hv.out hz'.out hv'.out hneu hneu1).symm
              subst hvv
              rcases bool01 (got_yes hf.1 hz.out hv.out hneu) with h01 | ⟨h01, h02⟩
              all_goals
                go_wp2_with fail
                refine (neu_any z _).mono ?_
                rintro e w4 ⟨rfl, hb4⟩
                have hbo := hbr.trans (hb4.mono hbr.size)
                have hg4 : g < w4.heap.size := Nat.lt_of_lt_of_le hgw hb4.size
                have hb5 : b < w4.heap.size := Nat.lt_of_lt_of_le hbw hb4.size
                have hcg4 := (hb4.cell (p := ⟨g, j + 1, none⟩) hgw).trans hcg
                have hcg5 := (hb4.cell (p := ⟨g, j, none⟩) hgw).trans hcg'
                have hck5 := (hb4.cell (p := ⟨b, off + j, none⟩) hbw).trans hck'
                go_wp2_with fail
                have i0 : (0 : Int) ≤ (j : Int) + 1 := by omega
                have i1 : (0 : Int) ≤ (j : Int) := by omega
                have i2 : (j : Int) + 1 < (n : Int) := by omega
                have i3 : (j : Int) < (n : Int) := by omega
                have q1 : ∀ x : BW w4, x.world.cell? ⟨g, j + 1, none⟩ = some (.int .u8 v) := fun x => (x.below.cell (p := ⟨g, j + 1, none⟩) hg4).trans hcg4
                have q2 : ∀ x : BW w4, x.world.cell? ⟨g, j, none⟩ = some (.int .u8 v) := fun x => (x.below.cell (p := ⟨g, j, none⟩) hg4).trans hcg5
                have q3 : ∀ x : BW w4, x.world.cell? ⟨b, off + j, none⟩ = some (.int .u8 z') := fun x => (x.below.cell (p := ⟨b, off + j, none⟩) hb5).trans hck5
                have i4 : IntKind.i64.wrap (j : Int) = (j : Int) := IntWalk.i64_in _ (by omega)
                refine wp_region_below (by kernel_rfl) (by kernel_rfl) ?_
                repeat (go_big_quiet_step ((go_at_call 13; exact Calls.below_of (neu_any z' _))))
                refine wpQuiet_nil ?_
                rintro _ ⟨x, rfl⟩
                clear q1 q2 q3 i4
                have hbx := hbo.trans (x.below.mono hbo.size)
                go_wp2_with fail
                go_roundw
                case rel => exact ⟨j + 1 + 1, by omega, by go_num, hbx⟩
                case measure => simp [intOf]; omega
            · have hneu1' : neuS z' = false := by simpa using hneu1
              clear hneu1
              rcases bool01 (got_yes hf.1 hz.out hv.out hneu) with h01 | ⟨h01, h02⟩
              all_goals
                go_wp2_with fail
                refine (neu_any z _).mono ?_
                rintro e w4 ⟨rfl, hb4⟩
                have hbo := hbr.trans (hb4.mono hbr.size)
                have hg4 : g < w4.heap.size := Nat.lt_of_lt_of_le hgw hb4.size
                have hb5 : b < w4.heap.size := Nat.lt_of_lt_of_le hbw hb4.size
                have hcg4 := (hb4.cell (p := ⟨g, j + 1, none⟩) hgw).trans hcg
                have hck5 := (hb4.cell (p := ⟨b, off + j, none⟩) hbw).trans hck'
                go_wp2_with fail
                have i0 : (0 : Int) ≤ (j : Int) + 1 := by omega
                have i1 : (0 : Int) ≤ (j : Int) := by omega
                have i2 : (j : Int) + 1 < (n : Int) := by omega
                have i3 : (j : Int) < (n : Int) := by omega
                have q1 : ∀ x : BW w4, x.world.cell? ⟨g, j + 1, none⟩ = some (.int .u8 v) := fun x => (x.below.cell (p := ⟨g, j + 1, none⟩) hg4).trans hcg4
                have q3 : ∀ x : BW w4, x.world.cell? ⟨b, off + j, none⟩ = some (.int .u8 z') := fun x => (x.below.cell (p := ⟨b, off + j, none⟩) hb5).trans hck5
                have i4 : IntKind.i64.wrap (j : Int) = (j : Int) := IntWalk.i64_in _ (by omega)
                refine wp_region_below (by kernel_rfl) (by kernel_rfl) ?_
                repeat (go_big_quiet_step ((go_at_call 13; exact Calls.below_of (neu_any z' _))))
                refine wpQuiet_nil ?_
                rintro _ ⟨x, rfl⟩
                clear q1 q3 i4
                have hbx := hbo.trans (x.below.mono hbo.size)
                go_wp2_with fail
                go_roundw
                case rel => exact ⟨j + 1 + 1, by omega, by go_num, hbx⟩
                case measure => simp [intOf]; omega
        · have hneu' : neuS z = false := by simpa using hneu
          clear hneu
          obtain rfl := got_not hz.out hv.out hneu'
          go_wp2_with fail
          refine (neu_any v _).mono ?_
          rintro e w4 ⟨rfl, hb4⟩
          have hcg4 := (hb4.cell (p := ⟨g, k, none⟩) hgw).trans hcg
          go_wp2_with fail
          go_roundw
          case rel => exact ⟨k + 1, by omega, by go_num, hbr.trans (hb4.mono hbr.size)⟩
          case measure => simp [intOf]; omega
      · obtain rfl : k = n := by omega
        clear hkn
        go_wp2_with fail
        refine (awake_p _).mono ?_
        rintro e w5 ⟨rfl, hb5⟩
        go_wp2_with fail
        go_ret
        have hb6 := hb3.trans (hbr.mono hb3.size)
        exact ⟨rfl, hb6.trans (hb5.mono hb6.size)⟩
end Go.Proofs.Ytmbjdchknjollaa

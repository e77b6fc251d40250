/-
  The walk of plain.Plain.
-/
import Derived.Test.YtmbjdchknjollaaPlain
namespace Go.Proofs.Ytmbjdchknjollaa
open Go.RowKit

theorem info5 : (Try.prog.info? 5).map (fun i => (i.zero, i.size, i.bytes)) = some (some (.int .u8 0), 1, 1) := by kernel_rfl
theorem elt8 : Elt Try.prog 22 5 .u8 := by
  obtain ⟨i, h1, h2, h3, h4⟩ := info_parts info5
  exact ⟨Try.underlying22, i, _, 1, h1, h2, h3, h4, by omega, rfl⟩

/-- the program's row, its way ahead, and where neutral ones begin, behind k places -/
def stP (l : List Int) (level start : Int) : Nat → List Int × Int × Nat
  | 0 => (l, min start 1, 0)
  | k + 1 => if neuS (l.getD k 0) then stP l level start k else (fillS (stP l level start k).1 (stP l level start k).2.2 (pickS (wayS (l.getD k 0)) (stP l level start k).2.1 level) (k - (stP l level start k).2.2), wayS (l.getD k 0), k + 1)
def plainP (l : List Int) (level start fin : Int) : List Int :=
  fillS (stP l level start l.length).1 (stP l level start l.length).2.2 (pickS (min fin 1) (stP l level start l.length).2.1 level) (l.length - (stP l level start l.length).2.2)
theorem plainP_eq {l : List Int} {level start fin v : Int} {n : Nat} (hn : l.length = n) (hv : min fin 1 = v) :
    plainP l level start fin = fillS (stP l level start n).1 (stP l level start n).2.2 (pickS v (stP l level start n).2.1 level) (n - (stP l level start n).2.2) := by
  subst hn; subst hv; rfl
theorem stP_from (l : List Int) (level start : Int) : ∀ k, (stP l level start k).2.2 ≤ k
  | 0 => Nat.le_refl _
  | k + 1 => by unfold stP; split; exact Nat.le_succ_of_le (stP_from l level start k); exact Nat.le_refl _

/-- the call answers a slice of its own that reads as zs -/
def RetSl (B : Nat) (e : TypeId) (k : IntKind) (zs : List Int) (w : World) (en : Ending) (w' : World) : Prop :=
  ∃ A c, en = .returned (.slice A zs.length c) ∧ Own B e k w' A zs.length c zs ∧ Below B w w'

/-- what holds at the loop's head, behind k places: the level's box gL, the row's variable gO, the way ahead, the place where neutral ones begin -/
structure PInv (w : World) (gL gO : Nat) (A1 : Option Addr) (n c1 : Nat) (l : List Int) (level start : Int) (k : Nat) (wr : World) : Prop where
  L : Var wr gL 5 (.int .u8 level)
  O : Var wr gO 22 (.slice A1 n c1)
  H : Var wr (gO + 1) 5 (.int .u8 (stP l level start k).2.1)
  F : Var wr (gO + 1 + 1) 3 (.int .i64 ((stP l level start k).2.2 : Nat))
  own : Own (gL + 1) 5 .u8 wr A1 n c1 (stP l level start k).1
  bel : Below gL w wr
theorem PInv.below {w : World} {gL gO : Nat} {A1 : Option Addr} {n c1 : Nat} {l : List Int} {level start : Int} {k : Nat} {wr w2 : World} (h : PInv w gL gO A1 n c1 l level start k wr) (hb : Below wr.heap.size wr w2) :
    PInv w gL gO A1 n c1 l level start k w2 :=
  ⟨h.L.below hb h.L.lt, h.O.below hb h.O.lt, h.H.below hb h.H.lt, h.F.below hb h.F.lt, h.own.below hb, h.bel.trans (hb.mono (by have := h.L.lt; omega))⟩
theorem stP_neu {l : List Int} {level start : Int} {k : Nat} {z : Int} (hz : l[k]? = some z) (h : neuS z = true) : stP l level start (k + 1) = stP l level start k := by
  rw [stP, List.getD, hz, Option.getD_some, if_pos h]
theorem stP_not {l : List Int} {level start : Int} {k : Nat} {z : Int} (hz : l[k]? = some z) (h : neuS z = false) :
    stP l level start (k + 1) = (fillS (stP l level start k).1 (stP l level start k).2.2 (pickS (wayS z) (stP l level start k).2.1 level) (k - (stP l level start k).2.2), wayS z, k + 1) := by
  rw [stP, List.getD, hz, Option.getD_some, if_neg (by simp [h])]

theorem min1 {s : Int} (h : 1 < s) : min s 1 = 1 := by omega
theorem min2 {s : Int} (h : s ≤ 1) : min s 1 = s := by omega
theorem PInv.start {w w1 : World} {A1 : Option Addr} {n c1 : Nat} {l : List Int} {level start v : Int} (hv : min start 1 = v) (hL : Var w1 w.heap.size 5 (.int .u8 level)) (hb : Below w.heap.size w w1)
    (hown : Own (w.heap.size + 1) 5 .u8 w1 A1 n c1 l) :
    PInv w w.heap.size w1.heap.size A1 n c1 l level start 0 (((w1.alloc (.cells #[.slice A1 n c1] 22)).alloc (.cells #[.int .u8 v] 5)).alloc (.cells #[.int .i64 0] 3)) := by
  subst hv
  refine ⟨((hL.alloc _).alloc _).alloc _, ((Var.new _ _ _).alloc _).alloc _, ?_, ?_, ((hown.alloc _).alloc _).alloc _, ?_⟩
  · have := (Var.new (w1.alloc (.cells #[.slice A1 n c1] 22)) 5 (.int .u8 (min start 1))).alloc (.cells #[.int .i64 0] 3)
    simpa [stP] using this
  · have := Var.new ((w1.alloc (.cells #[.slice A1 n c1] 22)).alloc (.cells #[.int .u8 (min start 1)] 5)) 3 (.int .i64 0)
    simpa [stP] using this
  · have := hb.size
    exact ((hb.alloc this _).alloc (by simp; omega) _).alloc (by simp; omega) _
theorem PInv.grown {w : World} {gL gO : Nat} {A1 : Option Addr} {n c1 : Nat} {l : List Int} {level start : Int} {k : Nat} {w2 w4 : World} (h : PInv w gL gO A1 n c1 l level start k w2)
    (hlt : ∀ g, (Value.slice A1 n c1).ownBlock = some g → gL + 1 ≤ g ∧ g < gO) (hg : w2.grownBy w4 (Value.slice A1 n c1).ownBlock) (_hLO : gL < gO) :
    Var w4 gL 5 (.int .u8 level) ∧ Var w4 gO 22 (.slice A1 n c1) ∧ Var w4 (gO + 1) 5 (.int .u8 (stP l level start k).2.1) ∧ Var w4 (gO + 1 + 1) 3 (.int .i64 ((stP l level start k).2.2 : Nat)) ∧ Below gL w w4 := by
  have hne : ∀ g, (g ≤ gL ∨ gO ≤ g) → some g ≠ (Value.slice A1 n c1).ownBlock := by
    intro g hg' he
    have := hlt g he.symm
    omega
  exact ⟨h.L.grown hg (hne _ (by omega)), h.O.grown hg (hne _ (by omega)), h.H.grown hg (hne _ (by omega)), h.F.grown hg (hne _ (by omega)),
    h.bel.grown hg (by have := h.L.lt; omega) (fun g he => by have := hlt g he; omega)⟩
theorem PInv.next {w : World} {gL gO : Nat} {A1 : Option Addr} {n c1 : Nat} {l : List Int} {level start z : Int} {k : Nat} {w2 w4 : World} (h : PInv w gL gO A1 n c1 l level start k w2)
    (hlt : ∀ g, (Value.slice A1 n c1).ownBlock = some g → gL + 1 ≤ g ∧ g < gO) (hLO : gL < gO)
    (hz : l[k]? = some z) (hn : neuS z = false) (hown : Own (gL + 1) 5 .u8 w4 A1 n c1 (fillS (stP l level start k).1 (stP l level start k).2.2 (pickS (wayS z) (stP l level start k).2.1 level) (k - (stP l level start k).2.2)))
    (hg : w2.grownBy w4 (Value.slice A1 n c1).ownBlock) :
    PInv w gL gO A1 n c1 l level start (k + 1) ((w4.setCell ⟨gO + 1 + 1, 0, none⟩ (.int .i64 ((k : Int) + 1))).setCell ⟨gO + 1, 0, none⟩ (.int .u8 (wayS z))) := by
  have e := stP_not (level := level) (start := start) hz hn
  obtain ⟨hL, hO, hH, hF, hb⟩ := h.grown hlt hg hLO
  have hne : ∀ g, (g ≤ gL ∨ gO ≤ g) → (Value.slice A1 n c1).ownBlock ≠ some g := by
    intro g hg' he
    have := hlt g he
    omega
  refine ⟨(hL.other (p := ⟨gO + 1 + 1, 0, none⟩) (show gL ≠ gO + 1 + 1 by omega) _).other (p := ⟨gO + 1, 0, none⟩) (show gL ≠ gO + 1 by omega) _, (hO.other (p := ⟨gO + 1 + 1, 0, none⟩) (show gO ≠ gO + 1 + 1 by omega) _).other (p := ⟨gO + 1, 0, none⟩) (show gO ≠ gO + 1 by omega) _, ?_, ?_, ?_, (hb.setCell (p := ⟨gO + 1 + 1, 0, none⟩) (show gL ≤ gO + 1 + 1 by omega) _).setCell (p := ⟨gO + 1, 0, none⟩) (show gL ≤ gO + 1 by omega) _⟩
  · rw [e]; exact (hH.other (by simp) _).set_
  · rw [e]
    have : Var (w4.setCell ⟨gO + 1 + 1, 0, none⟩ (.int .i64 ((k : Int) + 1))) (gO + 1 + 1) 3 (.int .i64 ((k + 1 : Nat) : Int)) := hF.set_
    exact this.other (by simp) _
  · rw [e]
    exact (hown.other (p := ⟨gO + 1 + 1, 0, none⟩) (hne (gO + 1 + 1) (by omega)) _).other (p := ⟨gO + 1, 0, none⟩) (hne (gO + 1) (by omega)) _

set_option maxHeartbeats 1000000 in
theorem plain_any (A : Option Addr) (n c : Nat) (l : List Int) (level start fin : Int) (w : World) (hr : Rd .u8 w A n l) (hn : n ≤ 1000000)
    (hl : 0 ≤ level ∧ level ≤ 255) :
    Calls Try.prog 18 #[.slice A n c, .int .u8 level, .int .u8 start, .int .u8 fin] w (RetSl w.heap.size 5 .u8 (plainP l level start fin) w) := by
  have hm := hr.max
  have hown0 : Own (w.heap.size + 1) 5 .u8 ((w.alloc (.cells #[.int .u8 level] 5)).alloc (.cells #[] 5)) (some ⟨w.heap.size + 1, 0, none⟩) 0 0 [] := own_empty _ _ _ _ _ (by simp) (by omega)
  have hrd0 : Rd .u8 ((w.alloc (.cells #[.int .u8 level] 5)).alloc (.cells #[] 5)) A n l := (hr.alloc _).alloc _
  have hL0 : Var ((w.alloc (.cells #[.int .u8 level] 5)).alloc (.cells #[] 5)) w.heap.size 5 (.int .u8 level) := (Var.new w _ _).alloc _
  have hb0 : Below w.heap.size w ((w.alloc (.cells #[.int .u8 level] 5)).alloc (.cells #[] 5)) := ((Below.refl _ _).alloc (Nat.le_refl _) _).alloc (by simp) _
  go_enter Try.func18, Try.ntmps18
  go_wp2_with (at_builtin; refine wpList_app elt8 rfl (.tmp 15) (.tmp 16) rfl rfl rfl hown0 hrd0 (by omega) (by simp) ?_; intro A1 c1 w1 hown1 hgr1 hat1)
  all_goals
    simp only [Nat.zero_add, List.nil_append] at hown1
    have hL1 : Var w1 w.heap.size 5 (.int .u8 level) := hL0.grown hgr1 (by simp [Value.ownBlock])
    have hb1 : Below w.heap.size w w1 := hb0.grown hgr1 (by simp; omega) (by simp [Value.ownBlock])
    have hlt := hide hown1.lt
    have hLO := hL1.lt
    clear hown0 hrd0 hL0 hb0 hgr1 hat1
    go_loopw [23] (fun i wr => ∃ k : Nat, k ≤ n ∧ i = .int .i64 k ∧ PInv w w.heap.size w1.heap.size A1 n c1 l level start k wr) (fun i _ => n - (intOf i).toNat)
    case atStart =>
      refine ⟨0, Nat.zero_le _, rfl, PInv.start (by first | exact min1 (by assumption) | exact min2 (by assumption)) hL1 hb1 hown1⟩
    case round =>
      obtain ⟨k, hk, rfl, inv⟩ := hrel
      by_cases hkn : k < n
      · obtain ⟨b, off, z, rfl, hbw, hz, hck⟩ := hr.at_ hkn
        have hck' := (inv.bel.cell (p := ⟨b, off + k, none⟩) hbw).trans hck
        go_wp2_with fail
        refine (neu_any z _).mono ?_
        rintro e w2 ⟨rfl, hb2⟩
        have inv2 := inv.below hb2
        clear inv hck hck' hb2
        by_cases hneu : neuS z = true
        · have hst := hide (stP_neu (level := level) (start := start) hz.out hneu)
          go_wp2_with fail
          go_roundw
          case rel => exact ⟨k + 1, by omega, by go_num, inv2.L, inv2.O, by rw [hst.out]; exact inv2.H, by rw [hst.out]; exact inv2.F, by rw [hst.out]; exact inv2.own, inv2.bel⟩
          case measure => simp [intOf]; omega
        · have hneu' : neuS z = false := by simpa using hneu
          clear hneu
          go_wp2_with fail
          refine (way_any z _).mono ?_
          rintro e w3 ⟨rfl, rfl⟩
          go_wp2_with fail
          refine (fill_any (w.heap.size + 1) A1 n c1 _ _ k (wayS z) _ level _ _ _ _ w2 inv2.H inv2.L inv2.F inv2.O inv2.own hl (stP_from l level start k) (by omega)).mono ?_
          rintro e w4 ⟨rfl, hown4, hgr4⟩
          obtain ⟨hL4, hO4, hH4, hF4, hb4⟩ := inv2.grown hlt.out hgr4 hLO
          have cH := hH4.cell
          have fH := hH4.free
          have cF := hF4.cell
          have fF := hF4.free
          have inv5 := hide (inv2.next hlt.out hLO hz.out hneu' hown4 hgr4)
          clear inv2 hL4 hO4 hH4 hF4 hb4 hgr4 hown4
          go_wp2_with fail
          refine (way_any z _).mono ?_
          rintro e w6 ⟨rfl, rfl⟩
          go_wp2_with fail
          go_roundw
          case rel => exact ⟨k + 1, by omega, by go_num, inv5.out⟩
          case measure => simp [intOf]; omega
      · obtain rfl : k = n := by omega
        clear hkn
        go_wp2_with fail
        all_goals
          refine (fill_any (w.heap.size + 1) A1 k c1 _ _ k _ _ level _ _ _ _ wr inv.H inv.L inv.F inv.O inv.own hl (stP_from l level start k) (Nat.le_refl _)).mono ?_
          rintro e w4 ⟨rfl, hown4, hgr4⟩
          obtain ⟨hL4, hO4, hH4, hF4, hb4⟩ := inv.grown hlt.out hgr4 hLO
          have cO := hO4.cell
          clear hL4 hH4 hF4 hgr4 inv
          have hfin := hide (show min fin 1 = _ by first | exact min1 (by assumption) | exact min2 (by assumption))
          go_wp2_with fail
          go_ret
          have hlen := hown4.len
          have hpl := plainP_eq (level := level) (start := start) hr.len hfin.out
          have hln : (plainP l level start fin).length = k := by rw [hpl]; exact hlen
          refine ⟨A1, c1, by rw [hln]; rfl, ?_, hb4⟩
          rw [hln, hpl]
          exact hown4.more (by omega)
end Go.Proofs.Ytmbjdchknjollaa

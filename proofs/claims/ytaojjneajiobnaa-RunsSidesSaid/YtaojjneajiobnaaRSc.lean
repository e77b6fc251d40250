/-
  RunsSides: what its two closures do; a slice of bools that reads as a list.
-/
import Derived.Test.YtaojjneajiobnaaRSm
namespace Go.Proofs.Ytaojjneajiobnaa
open Go.RowKit

/-- the slice value reads as the list bs of bools -/
def RdB (w : World) (A : Option Addr) (n : Nat) (bs : List Bool) : Prop :=
  bs.length = n ∧ n ≤ 9223372036854775807 ∧ (0 < n → ∃ b off, A = some ⟨b, off, none⟩ ∧ b < w.heap.size ∧ ∀ j, j < n → w.cell? ⟨b, off + j, none⟩ = some (.bool (bs.getD j false)))
section
variable {w w' : World} {A : Option Addr} {n : Nat} {bs : List Bool}
theorem RdB.at_ (h : RdB w A n bs) {j : Nat} (hj : j < n) :
    ∃ b off x, A = some ⟨b, off, none⟩ ∧ b < w.heap.size ∧ Hid (bs[j]? = some x) ∧ w.cell? ⟨b, off + j, none⟩ = some (.bool x) := by
  obtain ⟨hl, _, hr⟩ := h
  obtain ⟨b, off, hA, hb, hc⟩ := hr (by omega)
  have hz : bs[j]? = some bs[j] := List.getElem?_eq_getElem (by omega)
  refine ⟨b, off, bs[j], hA, hb, hz, ?_⟩
  rw [hc j hj]
  simp [List.getD, hz]
theorem RdB.below (h : RdB w A n bs) (hb : Below w.heap.size w w') : RdB w' A n bs := by
  refine ⟨h.1, h.2.1, fun hn => ?_⟩
  obtain ⟨b, off, hA, hlt, hc⟩ := h.2.2 hn
  exact ⟨b, off, hA, Nat.lt_of_lt_of_le hlt hb.size, fun j hj => (hb.cell hlt).trans (hc j hj)⟩
theorem RdB.take (h : RdB w A n bs) {m : Nat} (hm : m ≤ n) : RdB w A m (bs.take m) := by
  refine ⟨by rw [List.length_take, h.1]; omega, by have := h.2.1; omega, fun h0 => ?_⟩
  obtain ⟨b, off, hA, hb, hc⟩ := h.2.2 (by omega)
  refine ⟨b, off, hA, hb, fun j hj => ?_⟩
  rw [hc j (by omega)]
  simp [List.getD, hj]
end

/-- what the closures hold: the level in block gB, the code points' slice in block gl -/
def NI (w0 : World) (gB gl : Nat) (base : Int) (A : Option Addr) (n c : Nat) (zs : List Int) (w : World) : Prop :=
  Below w0.heap.size w0 w ∧ Var w gB 5 (.int .u8 base) ∧ Var w gl 23 (.slice A n c) ∧ Own w0.heap.size 21 .i32 w A n c zs ∧ w0.heap.size ≤ gl
theorem NI.push {w0 w w3 : World} {gB gl : Nat} {base : Int} {A A3 : Option Addr} {n c c3 : Nat} {zs : List Int} (h : NI w0 gB gl base A n c zs w) {z : Int} (h3 : Own w0.heap.size 21 .i32 w3 A3 (n + 1) c3 (zs ++ [z]))
    (hg : (w.alloc (.cells #[.int .i32 z] 21)).grownBy w3 (Value.slice A n c).ownBlock) :
    Var w3 gl 23 (.slice A n c) ∧ NI w0 gB gl base A3 (n + 1) c3 (zs ++ [z]) (w3.setCell ⟨gl, 0, none⟩ (.slice A3 (n + 1) c3)) := by
  obtain ⟨hb, hv, hl, ho, hle⟩ := h
  have hl3 : Var w3 gl 23 (.slice A n c) := (hl.alloc _).grown hg (fun e => (ho.ne_ hl (by decide)) e.symm)
  have hv3 : Var w3 gB 5 (.int .u8 base) := (hv.alloc _).grown hg (fun e => (ho.ne_ hv (by decide)) e.symm)
  have hb3 := (hb.alloc hb.size (.cells #[.int .i32 z] 21)).grown hg (by have := hb.size; simp; omega) (fun g hg => (ho.lt g hg).1)
  refine ⟨hl3, ?_, hv3.other (hv3.ne_ hl3 (by decide)) _, hl3.set_, h3.other (h3.ne_ hl3 (by decide)) _, hle⟩
  exact hb3.setCell (p := ⟨gl, 0, none⟩) hle _
theorem nest_par (a : Int) (x : Bool) : (((a + 1) % 2 == 1) = x ∧ Hid (nextS a x = a + 1)) ∨ (((a + 1) % 2 == 1) = !x ∧ Hid (nextS a x = a + 1 + 1)) := by
  have e1 : ((a + 1) % 2 == 1) = decide ((a + 1) % 2 = 1) := rfl
  rw [e1]
  unfold nextS Hid
  cases x <;> cases decide ((a + 1) % 2 = 1) <;> simp
theorem take_of {bs : List Bool} {k : Nat} {x : Bool} (h : bs[k]? = some x) : bs.take (k + 1) = bs.take k ++ [x] := by rw [List.take_add_one, h]; rfl
theorem nestL_take (base : Int) {bs : List Bool} {k : Nat} {x : Bool} (h : bs[k]? = some x) : nestL base (bs.take (k + 1)) = nextS (nestL base (bs.take k)) x := by
  unfold nestL
  rw [take_of h, List.foldl_append]
  rfl
set_option maxRecDepth 100000 in
set_option maxHeartbeats 8000000 in
theorem nest_any {w0 : World} {gB gl : Nat} {base : Int} {A : Option Addr} {n c : Nat} {zs : List Int} (w : World) (h : NI w0 gB gl base A n c zs w) (A0 : Option Addr) (m c0 : Nat) (bs : List Bool) (hr : RdB w0 A0 m bs) (hm9 : m ≤ 9) (hn : n ≤ 1000) (hb : 0 ≤ base ∧ base ≤ 1) :
    Calls Try.prog 31 #[.slice A0 m c0, .pointer (some ⟨gB, 0, none⟩), .pointer (some ⟨gl, 0, none⟩)] w fun e w' => e = .returned (.int .i64 (nestL base bs)) ∧ ∃ A2 n2 c2, NI w0 gB gl base A2 n2 c2 (zs ++ nestR bs) w' := by
  have hmB := h.2.1.cell
  have h0 := hide h
  have hlen := hide hr.1
  clear h
  go_enter Try.func31, Try.ntmps31
  go_wp2_with fail
  go_loopw [5, 13] (fun a i wr => ∃ (k n1 c1 : Nat) (A1 : Option Addr) (lv : Int), k ≤ m ∧ i = .int .i64 ((k : Nat) : Int) ∧ a = .int .i64 lv ∧ Hid (n1 = n + k) ∧ n1 ≤ 1009 ∧ Hid (lv = nestL base (bs.take k)) ∧ 0 ≤ lv ∧ lv ≤ 1 + 2 * (k : Int) ∧ NI w0 gB gl base A1 n1 c1 (zs ++ (bs.take k).map (fun x => openR (kindB x))) wr) (fun _ i _ => m - (intOf i).toNat)
  case atStart => exact ⟨0, n, c, A, base, Nat.zero_le _, rfl, rfl, hide rfl, by omega, hide rfl, by omega, by omega, by simpa using h0.out⟩
  case round =>
    obtain ⟨k, n1, c1, A1, lv, hk, rfl, rfl, hn1, hn1b, hlv, hl0, hl1, hni⟩ := hrel
    obtain ⟨wo, rfl⟩ : ∃ wo : World, wo = wr := ⟨_, rfl⟩
    by_cases hkn : k < m
    · obtain ⟨b, off, x, rfl, hbw, hz, hck⟩ := (hr.below hni.1).at_ hkn
      have q1 : (k : Int) < (m : Int) := by omega
      have hcl := hni.2.2.1.cell
      have hst := hide (nestL_take base hz.out)
      have hrt : Hid ((bs.take (k + 1)).map (fun x => openR (kindB x)) = (bs.take k).map (fun x => openR (kindB x)) ++ [openR (kindB x)]) := hide (by rw [take_of hz.out, List.map_append]; rfl)
      rw [← hlv.out] at hst
      have hnx := hide (nx_bd lv x)
      have hown := hni.2.2.2.1
      have hsz := hni.1.size
      have hni := hide hni
      rcases nest_par lv x with ⟨e1, e2⟩ | ⟨e1, e2⟩
      all_goals
        have hst2 := hide (hst.out.trans e2.out)
        clear e2 hst
        cases x
        all_goals
          go_wp2_with (at_builtin; refine wpList_app elt32 rfl (.tmp 18) (.tmp 20) rfl rfl rfl (hown.alloc _) (own_one _ _ _ _ _ _ rfl (Nat.le_refl _)).rd (by omega) (by simp <;> omega) ?_; intro A3 c3 w3 hown3 hgr3 _; have hp := hni.out.push hown3 hgr3; have hc3 := hp.1.cell; have hf3 := hp.1.free; have hp := hide hp.2; clear hgr3)
          go_roundw
          case rel => exact ⟨k + 1, n1 + 1, c3, A3, _, by omega, by go_num, rfl, hide (by have := hn1.out; omega), by have := hn1.out; omega, hide hst2.out.symm, by have := hnx.out; omega, by have := hnx.out; omega, by rw [hrt.out, ← List.append_assoc]; exact hp.out⟩
          case measure => simp [intOf]; omega
    · obtain rfl : k = m := by omega
      have htk : bs.take k = bs := List.take_of_length_le (by rw [hlen.out]; exact Nat.le_refl _)
      rw [htk] at hni hlv
      clear htk hkn
      have hcl := hni.2.2.1.cell
      have hown := hni.2.2.2.1
      have hsz := hni.1.size
      have hlv := hide (congrArg (fun x => Ending.returned (.int .i64 x)) hlv.out)
      have hni := hide hni
      go_wp2_with (at_builtin; refine wpList_app elt32 rfl (.tmp 32) (.tmp 33) rfl rfl rfl (hown.alloc _) (own_one _ _ _ _ _ _ rfl (Nat.le_refl _)).rd (by omega) (by simp <;> omega) ?_; intro A3 c3 w3 hown3 hgr3 _; have hp := hni.out.push hown3 hgr3; have hc3 := hp.1.cell; have hf3 := hp.1.free; have hp := hide hp.2; clear hgr3)
      go_loopw [37] (fun i wr => ∃ (j n2 c2 : Nat) (A2 : Option Addr), j ≤ k ∧ i = .int .i64 ((j : Nat) : Int) ∧ Hid (n2 = n1 + 1 + j) ∧ n2 ≤ 1100 ∧ NI w0 gB gl base A2 n2 c2 (zs ++ bs.map (fun x => openR (kindB x)) ++ [97] ++ List.replicate j 8236) wr) (fun i _ => k - (intOf i).toNat)
      case atStart => exact ⟨0, n1 + 1, c3, A3, Nat.zero_le _, rfl, hide rfl, by omega, by simpa using hp.out⟩
      case round =>
        obtain ⟨j, n2, c2, A2, hj, rfl, hn2, hn2b, hni2⟩ := hrel
        obtain ⟨w4, rfl⟩ : ∃ w4 : World, w4 = wr := ⟨_, rfl⟩
        have hsz2 := hni2.1.size
        by_cases hjk : j < k
        · have q1 : (j : Int) < (k : Int) := by omega
          have hcl2 := hni2.2.2.1.cell
          have hown2 := hni2.2.2.2.1
          have hrp : Hid (List.replicate (j + 1) (8236 : Int) = List.replicate j 8236 ++ [8236]) := hide List.replicate_succ'
          have hni2 := hide hni2
          go_wp2_with (at_builtin; refine wpList_app elt32 rfl (.tmp 39) (.tmp 40) rfl rfl rfl (hown2.alloc _) (own_one _ _ _ _ _ _ rfl (Nat.le_refl _)).rd (by omega) (by simp <;> omega) ?_; intro A5 c5 w5 hown5 hgr5 _; have hp5 := hni2.out.push hown5 hgr5; have hc5 := hp5.1.cell; have hf5 := hp5.1.free; have hp5 := hide hp5.2; clear hgr5)
          go_roundw
          case rel => exact ⟨j + 1, n2 + 1, c5, A5, by omega, by go_num, hide (by have := hn2.out; omega), by have := hn2.out; omega, by rw [hrp.out, ← List.append_assoc]; exact hp5.out⟩
          case measure => simp [intOf]; omega
        · obtain rfl : j = k := by omega
          have hni2 := hide hni2
          clear hjk
          go_wp2_with fail
          go_ret
          refine ⟨hlv.out, A2, n2, c2, ?_⟩
          have := hni2.out
          unfold nestR
          rw [hlen.out, ← List.append_assoc, ← List.append_assoc]
          exact this

end Go.Proofs.Ytaojjneajiobnaa

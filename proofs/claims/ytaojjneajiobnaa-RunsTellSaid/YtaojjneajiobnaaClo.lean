/-
  The state's method close.
-/
import Derived.Test.YtaojjneajiobnaaOth
import Derived.Deep.LoopGhost
namespace Go.Proofs.Ytaojjneajiobnaa
open Go.RowKit

/-- PDI -/
def closeS (s : PS) : PS :=
  if 0 < s.is then { s with is := s.is - 1 }
  else if 0 < s.nw then { stk := (s.stk.dropWhile (fun e => !e.iso)).tail, is := s.is, em := 0, nw := s.nw - 1 }
  else s
/-- the stack's isolates are counted; the lowest entry is none -/
structure Fit2 (s : PS) : Prop where
  nw : s.stk.countP (fun e => e.iso) = s.nw
  low : ∃ b, s.stk.getLast? = some b ∧ b.iso = false
theorem drop_iso {stk : List Ent} (h : 0 < stk.countP (fun e => e.iso)) : ∃ pre t rest, stk = pre ++ t :: rest ∧ (∀ e ∈ pre, e.iso = false) ∧ t.iso = true ∧ stk.dropWhile (fun e => !e.iso) = t :: rest := by
  induction stk with
  | nil => simp at h
  | cons a l ih =>
    cases ha : a.iso with
    | true => exact ⟨[], a, l, rfl, fun e he => (by cases he), ha, by rw [List.dropWhile_cons, ha]; rfl⟩
    | false =>
      obtain ⟨pre, t, rest, h1, h2, h3, h4⟩ := ih (by rw [List.countP_cons, ha] at h; simpa using h)
      refine ⟨a :: pre, t, rest, by rw [h1]; rfl, fun e he => ?_, h3, by rw [List.dropWhile_cons, ha]; simpa using h4⟩
      rcases List.mem_cons.1 he with rfl | he
      · exact ha
      · exact h2 e he
theorem close_a {s : PS} (h : 0 < s.is) : closeS s = { s with is := s.is - 1 } := by unfold closeS; rw [if_pos h]
theorem close_b {s : PS} (h : ¬ 0 < s.is) (h' : 0 < s.nw) : closeS s = { stk := (s.stk.dropWhile (fun e => !e.iso)).tail, is := s.is, em := 0, nw := s.nw - 1 } := by unfold closeS; rw [if_neg h, if_pos h']
theorem close_c {s : PS} (h : ¬ 0 < s.is) (h' : ¬ 0 < s.nw) : closeS s = s := by unfold closeS; rw [if_neg h, if_neg h']
theorem Fit.sub {s : PS} {k : Nat} (h : Fit s k) {stk : List Ent} (hs : ∀ e ∈ stk, e ∈ s.stk) (hne : stk ≠ []) (hl : stk.length ≤ s.stk.length) (is em nw : Nat) (h1 : is ≤ k) (h2 : em ≤ k) (h3 : nw ≤ k) : Fit { stk := stk, is := is, em := em, nw := nw } k :=
  ⟨hne, fun e he => h.lv e (hs e he), fun e he => h.ov e (hs e he), Nat.le_trans hl h.len, h1, h2, h3⟩
theorem close_parts {s : PS} (h2 : Fit2 s) (hn : 0 < s.nw) : ∃ pre t rest, s.stk = pre ++ t :: rest ∧ (∀ e ∈ pre, e.iso = false) ∧ t.iso = true ∧ s.stk.dropWhile (fun e => !e.iso) = t :: rest ∧ rest ≠ [] := by
  obtain ⟨pre, t, rest, h3, h4, h5, h6⟩ := drop_iso (stk := s.stk) (by rw [h2.nw]; exact hn)
  refine ⟨pre, t, rest, h3, h4, h5, h6, fun e => ?_⟩
  subst e
  obtain ⟨b, hb, hbi⟩ := h2.low
  rw [h3, List.getLast?_append] at hb
  have : t = b := by simpa using hb
  rw [this, hbi] at h5
  cases h5
theorem close_fit {s : PS} {k : Nat} (h : Fit s k) (h2 : Fit2 s) : Fit (closeS s) k := by
  unfold closeS
  split
  · exact h.with _ _ _ (by have := h.is; omega) h.em h.nw
  · split
    next hn =>
      obtain ⟨pre, t, rest, h3, _, _, h6, hne⟩ := close_parts h2 hn
      rw [h6]
      exact h.sub (fun e he => by rw [h3]; exact List.mem_append.2 (.inr (List.mem_cons_of_mem _ he))) hne (by rw [h3]; simp; omega) _ _ _ h.is (by omega) (by have := h.nw; omega)
    · exact h

theorem close_next {S pre pre0 rest rest0 : List Ent} {t t0 : Ent} (h : S = pre ++ t :: rest) (hp : ∀ e ∈ pre, e.iso = false) (h0 : S = pre0 ++ t0 :: rest0) (ht0 : t0.iso = true) (ht : t.iso = false := by rfl) :
    S = (pre ++ [t]) ++ rest ∧ (∀ e ∈ pre ++ [t], e.iso = false) ∧ rest ≠ [] := by
  have hall : ∀ e ∈ pre ++ [t], e.iso = false := fun e he => by
    rcases List.mem_append.1 he with he | he
    · exact hp e he
    · have : e = t := by simpa using he
      rw [this]; exact ht
  refine ⟨by rw [h]; simp, hall, fun e => ?_⟩
  subst e
  have hm : t0 ∈ pre ++ [t] := by rw [← h, h0]; simp
  rw [hall t0 hm] at ht0
  cases ht0
theorem close_stop {S pre rest : List Ent} {t : Ent} (h : S = pre ++ t :: rest) (hp : ∀ e ∈ pre, e.iso = false) (ht : t.iso = true) : (S.dropWhile (fun e => !e.iso)).tail = rest := by
  subst h
  induction pre with
  | nil => rw [List.nil_append, List.dropWhile_cons, ht]; rfl
  | cons a l ih =>
    have ha := hp a (List.mem_cons_self ..)
    rw [List.cons_append, List.dropWhile_cons, ha]
    exact ih (fun e he => hp e (List.mem_cons_of_mem _ he))
/-- the last region: the level, and the class under the override -/
structure Tail (B gs : Nat) (r : Option Nat) (s : PS) (k n i : Nat) (c mv : Value) (x : Int) (w w' : World) : Prop where
  st : StB B gs r s c mv w w'
  fit : Fit s k
  cell : CellIn .u8 w' gs r c n i x

set_option maxRecDepth 100000 in
set_option maxHeartbeats 8000000 in
theorem close_any {B gs : Nat} {r : Option Nat} {s : PS} {k n i : Nat} {c mv : Value} {w : World} {x : Int} (h : StA B w gs r s c mv) (hf : Fit s k) (h2 : Fit2 s) (hk : k ≤ 100000)
    (hc : CellIn .u8 w gs r c n i x) (hi : i < n) :
    Calls Try.prog 62 #[.pointer (some ⟨gs, 0, none⟩), .int .i64 i] w (Meth B gs r (closeS s) (closeS s).top.lv (asS (closeS s) x) c mv w) := by
  have hfl := f58_0
  have hfl2 := f58_2
  have q1 : (i : Int) < (n : Int) := by omega
  have q2 : (0 : Int) ≤ (i : Int) := by omega
  have hfe := hide (close_fit hf h2)
  have hF := hide hf
  have hCR := hide hc
  have hNi := hf.is
  have hNn := hf.nw
  have hst := hide (StB.refl h)
  obtain ⟨c1, _, c3, _, _, hfz⟩ := hst.out.cells
  obtain ⟨b, o, cc, rfl, _⟩ := hc
  -- the last region
  have fin : ∀ (w1 : World), StB B gs r (closeS s) (.slice (some ⟨b, o, none⟩) n cc) mv w w1 → CellIn .u8 w1 gs r (.slice (some ⟨b, o, none⟩) n cc) n i x →
      (∀ y : BW w1, Calls Try.prog 65 #[.pointer (some ⟨gs, 0, none⟩)] y.world (RetEnt (closeS s).top y.world)) ∧ (∀ y : BW w1, Calls Try.prog 66 #[.pointer (some ⟨gs, 0, none⟩), .int .u8 x] y.world (RetU8 (asS (closeS s) x) y.world)) ∧
      (∀ y : BW w1, y.world.cell? ⟨gs, 4, none⟩ = some (.slice (some ⟨b, o, none⟩) n cc)) ∧ (∀ y : BW w1, y.world.cell? ⟨b, o + i, none⟩ = some (.int .u8 x)) := by
    intro w1 hs1 hc1
    obtain ⟨⟨r1, ha1, _⟩, _⟩ := hs1
    exact ⟨fun y => top_st (ha1.below y.below) hfe.out hk, fun y => as_any x (ha1.below y.below) hfe.out hk, fun y => (StB.refl (ha1.below y.below)).cells.2.2.2.1, fun y => (hc1.below y.below).at_v⟩
  have hFin := hide fin
  clear fin hf h
  by_cases his : 0 < s.is
  · have hE := hide (close_a his)
    have his' : decide (0 < ((s.is : Nat) : Int)) = true := by simp; omega
    have q3 : IntKind.i64.wrap ((s.is : Int) - 1) = (s.is : Int) - 1 := IntWalk.i64_in _ (by omega)
    have hst1 := hst.out.setI (s.is - 1) ((s.is : Int) - 1) (by omega)
    rw [← hE.out] at hst1
    have hS1 := hide hst1
    obtain ⟨ht, ha, h4, hx'⟩ := hFin.out _ hst1 (hCR.out.fr hst1.2)
    have hT := hide ht
    have hA := hide ha
    clear ht ha hst1 hE
    generalize closeS s = s' at *
    generalize hv : asS s' x = v at *
    generalize htt : s'.top = t at hT ⊢
    have hTT := hide htt
    clear htt hv
    obtain ⟨lv, ov, iso⟩ := t
    go_enter Try.func62, Try.ntmps62
    go_wp2_with fail
    refine wp_region_below (by kernel_rfl) (by kernel_rfl) ?_
    repeat (go_big_quiet_step ((first | (go_at_call 65; exact Calls.below_of (hT.out _)) | (go_at_call 66; exact Calls.below_of (hA.out _)))))
    refine wpQuiet_nil ?_
    rintro _ ⟨y, rfl⟩
    go_wp2_with fail
    go_ret2
    exact ⟨rfl, hS1.out.below y.below⟩
  · have his' : decide (0 < ((s.is : Nat) : Int)) = false := by simp; omega
    by_cases hn : 0 < s.nw
    · have hE := hide (close_b his hn)
      have hn' : decide (0 < ((s.nw : Nat) : Int)) = true := by simp; omega
      obtain ⟨pre0, t0, rest0, hd1, hd2, hd3, hd4, hd5⟩ := close_parts h2 hn
      have hD := hide (And.intro hd1 (And.intro hd2 (And.intro hd3 (And.intro hd4 hd5))))
      clear hd1 hd2 hd3 hd4 hd5 h2
      have hlen := hF.out.len
      go_enter Try.func62, Try.ntmps62
      go_wp2_with fail
      go_loopg [] s.stk.length (fun kx wr => ∃ (pre stk : List Ent), Hid (s.stk = pre ++ stk ∧ (∀ e ∈ pre, e.iso = false) ∧ stk ≠ []) ∧ stk.length ≤ kx ∧ StB B gs r { s with stk := stk } (.slice (some ⟨b, o, none⟩) n cc) mv w wr)
      case atStart => exact ⟨[], s.stk, hide ⟨rfl, fun e he => (by cases he), hF.out.ne⟩, Nat.le_refl _, hst.out⟩
      case round =>
        obtain ⟨pre, stk, hps, hkx, hsr⟩ := hrel
        obtain ⟨wo, rfl⟩ : ∃ wo : World, wo = wr := ⟨_, rfl⟩
        have hSR := hide hsr
        have hfs : Fit { s with stk := stk } k := hF.out.sub (fun e he => by rw [hps.out.1]; exact List.mem_append.2 (.inr he)) hps.out.2.2 (by have := congrArg List.length hps.out.1; simp at this; omega) _ _ _ hF.out.is hF.out.em hF.out.nw
        have hFS := hide hfs
        have htp := hide (meth_top hsr hfs hk)
        cases stk with
        | nil => exact absurd rfl hps.out.2.2
        | cons t rest =>
          have htop : ({ s with stk := t :: rest } : PS).top = t := rfl
          rw [htop] at htp
          clear htop hsr hfs
          obtain ⟨lv, ov, iso⟩ := t
          cases iso
          · go_wp2_with fail
            refine htp.out.mono ?_
            rintro e w1 ⟨rfl, hb⟩
            have hs1 := hide (hSR.out.below hb)
            obtain ⟨⟨r1, ha1, hr1⟩, hf1⟩ := hs1.out
            have hHa := hide ha1
            have hHr := hide hr1
            clear ha1 hr1
            go_wp2_with fail
            refine (pop_st hHa.out hFS.out hk).mono ?_
            rintro e w2 ⟨rfl, hst2⟩
            have hs2 := hide (StB.trans hf1 hHr.out hst2)
            clear hst2
            go_wp2_with fail
            go_roundg rest.length
            case measure => have := hkx; simp at this; omega
            case rel => exact ⟨pre ++ [⟨lv, ov, false⟩], rest, hide (close_next hps.out.1 hps.out.2.1 hD.out.1 hD.out.2.2.1), Nat.le_refl _, hs2.out⟩
          · have hE2 := hide (hE.out.trans (by rw [close_stop hps.out.1 hps.out.2.1 rfl]))
            clear hE
            go_wp2_with fail
            refine htp.out.mono ?_
            rintro e w1 ⟨rfl, hb⟩
            have hs1 := hide (hSR.out.below hb)
            obtain ⟨⟨r1, ha1, hr1⟩, hf1⟩ := hs1.out
            have hHa := hide ha1
            have hHr := hide hr1
            clear ha1 hr1
            go_wp2_with fail
            refine (pop_st hHa.out hFS.out hk).mono ?_
            rintro e w2 ⟨rfl, hst2⟩
            have hs2 := hide (StB.trans hf1 hHr.out hst2)
            clear hst2
            obtain ⟨_, _, d3, _, _, hfz2⟩ := hs2.out.cells
            have q3 : IntKind.i64.wrap ((s.nw : Int) - 1) = (s.nw : Int) - 1 := IntWalk.i64_in _ (by omega)
            have hst1 := (hs2.out.setE 0 0 (by omega)).setN (s.nw - 1) ((s.nw : Int) - 1) (by omega)
            have hEE : closeS s = { stk := rest, is := s.is, em := 0, nw := s.nw - 1 } := hE2.out
            have hst1' : StB B gs r (closeS s) (.slice (some ⟨b, o, none⟩) n cc) mv w ((w2.setCell ⟨gs, 2, none⟩ (.int .i64 0)).setCell ⟨gs, 3, none⟩ (.int .i64 ((s.nw : Int) - 1))) := by rw [hEE]; exact hst1
            have hS1 := hide hst1'
            obtain ⟨ht, ha, h4, hx'⟩ := hFin.out _ hst1' (hCR.out.fr hst1'.2)
            obtain ⟨t, htt⟩ : ∃ t, (closeS s).top = t := ⟨_, rfl⟩
            obtain ⟨v, hv⟩ : ∃ v, asS (closeS s) x = v := ⟨_, rfl⟩
            rw [htt] at ht
            rw [hv] at ha
            have hT := hide ht
            have hA := hide ha
            have hTT := hide htt
            have hVV := hide hv
            clear ht ha hst1 hst1' hEE hE2 htt hv
            obtain ⟨lv2, ov2, iso2⟩ := t
            go_wp2_with fail
            refine wp_region_below (by kernel_rfl) (by kernel_rfl) ?_
            repeat (go_big_quiet_step ((first | (go_at_call 65; exact Calls.below_of (hT.out _)) | (go_at_call 66; exact Calls.below_of (hA.out _)))))
            refine wpQuiet_nil ?_
            rintro _ ⟨y, rfl⟩
            go_wp2_with fail
            go_ret2
            rw [hTT.out, hVV.out]
            exact ⟨rfl, hS1.out.below y.below⟩
    · have hE := hide (close_c his hn)
      have hn' : decide (0 < ((s.nw : Nat) : Int)) = false := by simp; omega
      have hst1 := hst.out
      rw [← hE.out] at hst1
      have hS1 := hide hst1
      obtain ⟨ht, ha, h4, hx'⟩ := hFin.out _ hst1 (hCR.out.fr hst1.2)
      have hT := hide ht
      have hA := hide ha
      clear ht ha hst1 hE
      generalize closeS s = s' at *
      generalize hv : asS s' x = v at *
      generalize htt : s'.top = t at hT ⊢
      have hTT := hide htt
      clear htt hv
      obtain ⟨lv, ov, iso⟩ := t
      go_enter Try.func62, Try.ntmps62
      go_wp2_with fail
      refine wp_region_below (by kernel_rfl) (by kernel_rfl) ?_
      repeat (go_big_quiet_step ((first | (go_at_call 65; exact Calls.below_of (hT.out _)) | (go_at_call 66; exact Calls.below_of (hA.out _)))))
      refine wpQuiet_nil ?_
      rintro _ ⟨y, rfl⟩
      go_wp2_with fail
      go_ret2
      exact ⟨rfl, hS1.out.below y.below⟩
end Go.Proofs.Ytaojjneajiobnaa

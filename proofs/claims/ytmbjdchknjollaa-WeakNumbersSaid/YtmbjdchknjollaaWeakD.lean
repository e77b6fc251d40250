/-
  The walk of weak's rule for ends of numbers.
-/
import Derived.Test.YtmbjdchknjollaaWeakC
namespace Go.Proofs.Ytmbjdchknjollaa
open Go.RowKit Go.Shelf
attribute [local go_sem] Oper.semAt_some

theorem endF_3 (L : Bool) : endF L 3 = (3, true) := by simp [endF]
theorem endF_5 : endF true 5 = (3, true) := by simp [endF]
theorem endF_t {z : Int} (h3 : (z == 3) = false) (h5 : (z == 5) = false) : endF true z = (z, false) := by simp at h3 h5; simp [endF, h3, h5]
theorem endF_f {z : Int} (h3 : (z == 3) = false) : endF false z = (z, false) := by simp at h3; simp [endF, h3]
theorem end_cases (L : Bool) (z : Int) : (z = 3) ∨ (L = true ∧ z = 5) ∨ (L = true ∧ (z == 3) = false ∧ (z == 5) = false) ∨ (L = false ∧ (z == 3) = false) := by
  simp only [beq_eq_false_iff_ne]
  by_cases h3 : z = 3
  · exact .inl h3
  · cases L
    · exact .inr (.inr (.inr ⟨rfl, h3⟩))
    · by_cases h5 : z = 5
      · exact .inr (.inl ⟨rfl, h5⟩)
      · exact .inr (.inr (.inl ⟨rfl, h3, h5⟩))

theorem inPl_len {σ : Type} (f : σ → Int → Int × σ) (s : σ) (l : List Int) (k : Nat) : (inPl f s l k).length = l.length := by
  unfold inPl
  rw [List.length_append, scan_len, List.length_take, List.length_drop]
  omega
theorem rev_set {l : List Int} {m j : Nat} {x : Int} (h : m + (j + 1) = l.length) : (l.set m x).reverse = l.reverse.set j x := by
  apply List.ext_getElem?
  intro i
  by_cases hi : i < l.length
  · rw [List.getElem?_reverse (by rw [List.length_set]; exact hi), List.length_set, List.getElem?_set, List.getElem?_set, List.length_reverse]
    by_cases e : j = i
    · subst e
      rw [if_pos (by omega), if_pos rfl, if_pos (by omega), if_pos hi]
    · rw [if_neg (by omega), if_neg e, List.getElem?_reverse hi]
  · rw [List.getElem?_eq_none (by rw [List.length_reverse, List.length_set]; omega), List.getElem?_eq_none (by rw [List.length_set, List.length_reverse]; omega)]

/-- what holds while ends goes over the row: its box, its mark, its row -/
structure EInv (B : Nat) (w : World) (A : Option Addr) (n c : Nat) (s : Int) (zs : List Int) (near : Bool) (W : World) : Prop where
  box : W.heap[w.heap.size]? = some (.cells #[.slice A n c, .int .u8 s] 45 (0, 0))
  mark : Var W (w.heap.size + 1) 4 (.bool near)
  own : Own B 5 .u8 W A n c zs
  gr : w.grownBy W (Value.slice A n c).ownBlock
  lt : ∀ g, (Value.slice A n c).ownBlock = some g → g < w.heap.size
section
variable {B : Nat} {w W : World} {A : Option Addr} {n c : Nat} {s : Int} {zs : List Int} {near : Bool}
theorem EInv.ne_ (h : EInv B w A n c s zs near W) {g : Nat} (hg : w.heap.size ≤ g) : (Value.slice A n c).ownBlock ≠ some g := fun e => by have := h.lt g e; omega
theorem EInv.setMark (h : EInv B w A n c s zs near W) (x : Bool) : EInv B w A n c s zs x (W.setCell ⟨w.heap.size + 1, 0, none⟩ (.bool x)) :=
  ⟨(Below.heap_setCell W ⟨w.heap.size + 1, 0, none⟩ _ w.heap.size (show w.heap.size ≠ w.heap.size + 1 by omega)).trans h.box, h.mark.set_, h.own.other (p := ⟨w.heap.size + 1, 0, none⟩) (h.ne_ (show w.heap.size ≤ w.heap.size + 1 by omega)) _,
    ⟨h.gr.os, h.gr.tape, h.gr.output, by simpa [World.setCell] using h.gr.size, fun i hi hne => (Below.heap_setCell W ⟨w.heap.size + 1, 0, none⟩ _ i (show i ≠ w.heap.size + 1 by omega)).trans (h.gr.block i hi hne)⟩, h.lt⟩
theorem EInv.setRow {g : Nat} (h : EInv B w (some ⟨g, 0, none⟩) n c s zs near W) (j : Nat) (z : Int) : EInv B w (some ⟨g, 0, none⟩) n c s (zs.set j z) near (W.setCell ⟨g, j, none⟩ (.int .u8 z)) := by
  have hg : g < w.heap.size := h.lt g rfl
  exact ⟨(Below.heap_setCell W ⟨g, j, none⟩ _ w.heap.size (show w.heap.size ≠ g by omega)).trans h.box, h.mark.other (p := ⟨g, j, none⟩) (show w.heap.size + 1 ≠ g by omega) _, h.own.set_ j z, grown_setCell (p := ⟨g, j, none⟩) h.gr (.inl rfl) _, h.lt⟩
theorem EInv.keep {W' : World} (h : EInv B w A n c s zs near W) (hs : W.heap.size ≤ W'.heap.size) (ho : W'.os = W.os) (ht : W'.tape = W.tape) (hu : W'.output = W.output)
    (hb : ∀ k, (∃ cs t, W.heap[k]? = some (.cells cs t (0, 0))) ∨ k < w.heap.size → W'.heap[k]? = W.heap[k]?) : EInv B w A n c s zs near W' := by
  refine ⟨(hb _ (.inl ⟨_, _, h.box⟩)).trans h.box, (hb _ (.inl ⟨_, _, h.mark⟩)).trans h.mark, ⟨⟨h.own.1.1, ?_⟩, h.own.2⟩, ⟨ho.trans h.gr.os, ht.trans h.gr.tape, hu.trans h.gr.output, Nat.le_trans h.gr.size hs, fun i hi hne => (hb i (.inr hi)).trans (h.gr.block i hi hne)⟩, h.lt⟩
  rcases h.own.1.2 with h0 | ⟨g, cap, cur, hv, hB, hg, r⟩
  · exact .inl h0
  · exact .inr ⟨g, cap, cur, hv, hB, (hb g (.inl ⟨_, _, hg⟩)).trans hg, r⟩
theorem EInv.alloc (h : EInv B w A n c s zs near W) (o : Obj) : EInv B w A n c s zs near (W.alloc o) :=
  h.keep (by simp) rfl rfl rfl fun k hk => Below.heap_alloc W o k (by
    rcases hk with ⟨cs, t, hk⟩ | hk
    · exact lt_of_block hk
    · exact Nat.lt_of_lt_of_le hk h.gr.size)
theorem EInv.putObj (h : EInv B w A n c s zs near W) {l : Nat} {r r' : Loop} (hwl : w.heap.size ≤ l) (hl : W.heap[l]? = some (.loop r)) : EInv B w A n c s zs near (W.putObj l (.loop r')) :=
  h.keep (by simp) rfl rfl rfl fun k hk => World.putObj_heap_other (by
    rintro rfl
    rcases hk with ⟨cs, t, hk⟩ | hk
    · rw [hl] at hk; cases hk
    · omega)
end

set_option maxHeartbeats 400000 in
theorem backward_any (A : Option Addr) (n c : Nat) (w : World) : Calls Try.prog 48 #[.slice A n c] w fun e w' => e = .returned (.func (.func 49) #[] #[.pointer (some ⟨w.heap.size, 0, none⟩)]) ∧ w.alloc (.cells #[.slice A n c] 22) = w' := by
  go_enter Try.func48, Try.ntmps48
  go_wp2
  go_ret
  exact ⟨rfl, rfl⟩

/-- wpIn_back where the round's two values go into the slots 33 and 34, and from there into 5 and 6 -/
theorem wpIn_back5 {F : Fence} {d : Nat} {g : Operand} {assign body : Code} {Q : Exit → Act → World → Prop} {a : Act} {w : World}
    (hro : F.round = none) (h1 : 2 ≤ d) (hF : F.fn 49) {Bs b off n cap : Nat} {A : Option Addr} (hA : 0 < n → A = some ⟨b, off, none⟩) (hg : a.eval g = .func (.func 49) #[] #[.pointer (some ⟨Bs, 0, none⟩)]) {ps : Array Tmp} (hps : ps = #[33, 34]) (hn : n ≤ 1000000)
    (I : Nat → World → Prop) (h0 : I 0 w)
    (hIa : ∀ k W o, I k W → I k (W.alloc o)) (hIp : ∀ k W l r r', w.heap.size ≤ l → W.heap[l]? = some (.loop r) → I k W → I k (W.putObj l (.loop r')))
    (hread : ∀ k W, I k W → W.cell? ⟨Bs, 0, none⟩ = some (.slice A n cap) ∧ ∀ j, j < n → ∃ v, W.cell? ⟨b, off + j, none⟩ = some (.int .u8 v))
    (hassign : ∀ (l j : Nat) (v : Int) (W : World) (K : Act → World → Prop),
      K { tmps := (((a.tmps.setIfInBounds 33 (.int .i64 (j : Nat))).setIfInBounds 34 (.int .u8 v)).setIfInBounds 5 (.int .i64 (j : Nat))).setIfInBounds 6 (.int .u8 v), defers := [] } W →
      assign.wpIn (F.inRound l) (d - 1 - 1) Try.prog (Exit.then K (fun _ _ _ => False)) { tmps := (a.tmps.setIfInBounds 33 (.int .i64 (j : Nat))).setIfInBounds 34 (.int .u8 v), defers := [] } W)
    (hbody : ∀ (l k j : Nat) (v : Int) (W : World), I k W → k + (j + 1) = n → W.cell? ⟨b, off + j, none⟩ = some (.int .u8 v) →
      body.wpIn (F.inRound l) (d - 1 - 1) Try.prog (fun e _ W' => match e with | .normal => KeepsOthers W W' ∧ I (k + 1) W' | _ => False)
        { tmps := (((a.tmps.setIfInBounds 33 (.int .i64 (j : Nat))).setIfInBounds 34 (.int .u8 v)).setIfInBounds 5 (.int .i64 (j : Nat))).setIfInBounds 6 (.int .u8 v), defers := [] } W)
    (hdone : ∀ (D : Nat) (W : World), w.heap.size ≤ D → I n W → W.heap[D]? = some (.deferred (some [])) → Q .normal { a with defers := { target := .collected D, args := #[] } :: a.defers } W) :
    (Code.rangeFunc g ps assign body).wpIn F d Try.prog Q a w := by
  subst hps
  exact wpIn_back hro h1 hF hA hg rfl hn I h0 hIa hIp hread (fun j v => { tmps := (((a.tmps.setIfInBounds 33 (.int .i64 (j : Nat))).setIfInBounds 34 (.int .u8 v)).setIfInBounds 5 (.int .i64 (j : Nat))).setIfInBounds 6 (.int .u8 v), defers := [] })
    (fun l j v W K hK => by simpa using hassign l j v W K hK) hbody hdone

set_option maxRecDepth 100000 in
set_option maxHeartbeats 4000000 in
theorem ends_in (B : Nat) (A : Option Addr) (n c : Nat) (zs : List Int) (s : Int) (w : World) (hown : Go.Proofs.Ytmbjdchknjollaa.Own B 5 .u8 w A n c zs) (hn : n ≤ 1000000) :
    CallsIn Fence.wide 6 Try.prog 41 #[.agg #[.slice A n c, .int .u8 s]] w (RowPost B w A n c (endsS zs)) := by
  have hm := hown.2
  have hln := hide hown.len
  have hinv0 : EInv B w A n c s zs false ((w.alloc (.cells #[.slice A n c, .int .u8 s] 45)).alloc (.cells #[.bool false] 4)) := by
    refine ⟨(Below.heap_alloc _ _ _ (by simp)).trans (heap_alloc_new w _), ?_, (hown.alloc _).alloc _, grown_trans (World.grownBy_alloc w _ _) (World.grownBy_alloc _ _ _), fun g hg => (hown.lt g hg).2⟩
    have := Var.new (w.alloc (.cells #[.slice A n c, .int .u8 s] 45)) 4 (.bool false)
    simpa using this
  obtain ⟨hc0, hc1⟩ := box_cells hinv0.box
  have hcm := hinv0.mark.cell
  refine callsIn_of_wp_marks Try.func41 rfl trivial ?_ rfl
  simp only [Try.ntmps41, List.size_toArray, List.length_cons, List.length_nil, Nat.reduceAdd, Nat.reduceSub, Array.replicate_succ, Array.replicate_zero, List.push_toArray, List.append_toArray, List.nil_append, List.cons_append]
  gi_wp2
  clear hc0 hc1 hcm
  gi_loopw [10] (fun i wr => ∃ k : Nat, k ≤ n ∧ i = .int .i64 k ∧ EInv B w A n c s (inPl endF false zs k) (scanSt endF false (zs.take k)) wr) (fun i _ => n - (intOf i).toNat)
  case atStart => exact ⟨0, Nat.zero_le _, rfl, by rw [inPl_zero]; exact hinv0⟩
  case round =>
    obtain ⟨k, hk, rfl, inv⟩ := hrel
    obtain ⟨hc0, hc1⟩ := box_cells inv.box
    have hcm := inv.mark.cell
    have hfm := inv.mark.free
    by_cases hkn : k < n
    · obtain ⟨g, z, rfl, _, hgl, hz, hck, hfk⟩ := inv.own.at_ hkn
      have hgw : g < w.heap.size := inv.lt g rfl
      have hz' := inPl_of endF hz.out
      have hst := hide (scanSt_take endF false hz')
      have hin := hide (inPl_step endF false hz')
      have hsm := hide (fun h => inPl_same endF false hz' h)
      clear hz'
      generalize scanSt endF false (zs.take k) = L at *
      have hg1 : ¬ g = w.heap.size := by omega
      have hg2 : ¬ w.heap.size = g := by omega
      have hg3 : ¬ g = w.heap.size + 1 := by omega
      have hg4 : ¬ w.heap.size + 1 = g := by omega
      rcases end_cases L z with rfl | ⟨rfl, rfl⟩ | ⟨rfl, h3, h5⟩ | ⟨rfl, h3⟩
      · gi_wp2
        go_roundw
        case rel => exact ⟨k + 1, by omega, by go_num, by rw [hst.out, hin.out, endF_3]; exact (inv.setMark true).setRow k 3⟩
        case measure => simp [intOf]; omega
      · gi_wp2
        go_roundw
        case rel => exact ⟨k + 1, by omega, by go_num, by rw [hst.out, hin.out, endF_5]; exact (inv.setMark true).setRow k 3⟩
        case measure => simp [intOf]; omega
      · have hmf := hide (endF_t h3 h5)
        gi_wp2
        go_roundw
        case rel => exact ⟨k + 1, by omega, by go_num, by rw [hst.out, hsm.out (by rw [hmf.out]), hmf.out]; exact inv.setMark false⟩
        case measure => simp [intOf]; omega
      · have hmf := hide (endF_f h3)
        gi_wp2
        go_roundw
        case rel => exact ⟨k + 1, by omega, by go_num, by rw [hst.out, hsm.out (by rw [hmf.out]), hmf.out]; exact inv.setMark false⟩
        case measure => simp [intOf]; omega
    · obtain rfl : k = n := by omega
      clear hkn
      gi_wp2_with fail
      have inv2 := inv.setMark false
      rw [inPl_all endF false zs hln.out] at inv2
      have hfl := hide ((scan_len endF false zs).trans hln.out)
      have hE : Hid (endsS zs = (scan endF false (scan endF false zs).reverse).reverse) := rfl
      clear inv hc0 hc1 hcm hfm
      generalize scan endF false zs = fw at *
      generalize wr.setCell ⟨w.heap.size + 1, 0, none⟩ (.bool false) = W2 at *
      refine ⟨trivial, (callsIn_wide.2 (backward_any A k c W2)).mono ?_⟩
      rintro e W3 ⟨rfl, rfl⟩
      gi_wp2_with fail
      obtain ⟨g, hA⟩ : ∃ g, 0 < k → A = some ⟨g, 0, none⟩ := by
        rcases Nat.eq_zero_or_pos k with h0 | h0
        · exact ⟨0, fun h => by omega⟩
        · obtain ⟨g, hg, _⟩ := inv2.own.form h0
          exact ⟨g, fun _ => hg⟩
      have hinv3 := inv2.alloc (.cells #[.slice A k c] 22)
      have hvar3 := Var.new W2 22 (.slice A k c)
      have hsz3 : w.heap.size ≤ (W2.alloc (.cells #[.slice A k c] 22)).heap.size := hinv3.gr.size
      refine wpIn_back5 (A := A) (b := g) (off := 0) (n := k) (cap := c) (Bs := W2.heap.size) rfl (by omega) trivial hA rfl rfl hn
        (fun m W => EInv B w A k c s ((inPl endF false fw.reverse m).reverse) (scanSt endF false (fw.reverse.take m)) W ∧ Var W W2.heap.size 22 (.slice A k c)) ?h0 ?ha ?hp ?hread ?assign ?body ?done
      case h0 => exact ⟨by rw [inPl_zero, List.reverse_reverse]; exact hinv3, hvar3⟩
      case ha => exact fun m W o h => ⟨h.1.alloc o, h.2.alloc o⟩
      case hp =>
        intro m W l r r' hl1 hl2 h
        refine ⟨h.1.putObj (by omega) hl2, (World.putObj_heap_other ?_).trans h.2⟩
        rintro rfl
        have := h.2
        unfold Var at this
        rw [hl2] at this
        cases this
      case hread =>
        intro m W h
        refine ⟨h.2.cell, fun j hj => ?_⟩
        obtain ⟨g', z, hg', _, _, _, hc, _⟩ := h.1.own.at_ hj
        obtain rfl : g = g' := by
          have := (hA (by omega)).symm.trans hg'
          injection this with h
          injection h
        exact ⟨z, by rw [Nat.zero_add]; exact hc⟩
      case assign =>
        intro l j v W K hK
        simp only [List.setIfInBounds_toArray, List.set_cons_succ, List.set_cons_zero] at hK ⊢
        gi_wp2
        exact hK
      case body =>
        rintro l m j v W ⟨hi, hvar⟩ hmj hcell
        have hjk : j < k := by omega
        obtain ⟨g', z, hg', _, hgl, hz, hck, hfk⟩ := hi.own.at_ hjk
        have hAg := hA (by omega)
        subst hAg
        obtain rfl : g = g' := by injection hg' with h; injection h
        rw [Nat.zero_add] at hcell
        obtain rfl : v = z := by
          have := hcell.symm.trans hck
          injection this with h
          injection h
        clear hcell hg'
        have hfm : fw.reverse[m]? = some v := by
          refine inPl_of endF (s := false) ?_
          have h1 := hz.out
          rw [List.getElem?_reverse (by rw [inPl_len, List.length_reverse, hfl.out]; exact hjk), inPl_len, List.length_reverse, hfl.out, show k - 1 - j = m by omega] at h1
          exact h1
        have hst := hide (scanSt_take endF false hfm)
        have hin := hide (inPl_step endF false hfm)
        have hsm := hide (fun h => inPl_same endF false hfm h)
        have hrs := hide (fun x : Int => rev_set (l := inPl endF false fw.reverse m) (m := m) (j := j) (x := x) (by rw [inPl_len, List.length_reverse, hfl.out]; exact hmj))
        clear hfm
        generalize scanSt endF false (fw.reverse.take m) = L at *
        have hgw : g < w.heap.size := hi.lt g rfl
        have hg1 : ¬ g = w.heap.size := by omega
        have hg2 : ¬ w.heap.size = g := by omega
        have hg3 : ¬ g = w.heap.size + 1 := by omega
        have hg4 : ¬ w.heap.size + 1 = g := by omega
        have hB := inv2.mark.lt
        obtain ⟨hc0, hc1⟩ := box_cells hi.box
        have hcm := hi.mark.cell
        have hfr := hi.mark.free
        have HI := hide hi
        have HV := hide hvar
        clear hi hvar hmj
        simp only [List.setIfInBounds_toArray, List.set_cons_succ, List.set_cons_zero]
        rcases end_cases L v with rfl | ⟨rfl, rfl⟩ | ⟨rfl, h3, h5⟩ | ⟨rfl, h3⟩
        · gi_wp2
          exact ⟨(KeepsOthers.setCell W _ _).trans (KeepsOthers.setCell _ _ _), by rw [hst.out, hin.out, endF_3, hrs.out]; exact (HI.out.setMark true).setRow j 3, (HV.out.other (p := ⟨w.heap.size + 1, 0, none⟩) (show W2.heap.size ≠ w.heap.size + 1 by omega) _).other (p := ⟨g, j, none⟩) (show W2.heap.size ≠ g by omega) _⟩
        · gi_wp2
          exact ⟨(KeepsOthers.setCell W _ _).trans (KeepsOthers.setCell _ _ _), by rw [hst.out, hin.out, endF_5, hrs.out]; exact (HI.out.setMark true).setRow j 3, (HV.out.other (p := ⟨w.heap.size + 1, 0, none⟩) (show W2.heap.size ≠ w.heap.size + 1 by omega) _).other (p := ⟨g, j, none⟩) (show W2.heap.size ≠ g by omega) _⟩
        · have hmf := hide (endF_t h3 h5)
          gi_wp2
          exact ⟨KeepsOthers.setCell W _ _, by rw [hst.out, hsm.out (by rw [hmf.out]), hmf.out]; exact HI.out.setMark false, HV.out.other (p := ⟨w.heap.size + 1, 0, none⟩) (show W2.heap.size ≠ w.heap.size + 1 by omega) _⟩
        · have hmf := hide (endF_f h3)
          gi_wp2
          exact ⟨KeepsOthers.setCell W _ _, by rw [hst.out, hsm.out (by rw [hmf.out]), hmf.out]; exact HI.out.setMark false, HV.out.other (p := ⟨w.heap.size + 1, 0, none⟩) (show W2.heap.size ≠ w.heap.size + 1 by omega) _⟩
      case done =>
        intro D W hD h hK
        have hfin := h.1.keep (W' := W.putObj D (.deferred none)) (by simp) rfl rfl rfl (fun i hi => World.putObj_heap_other (by
          rintro rfl
          rcases hi with ⟨cs, t, hi⟩ | hi
          · rw [hK] at hi; cases hi
          · omega))
        rw [inPl_all endF false fw.reverse (by rw [List.length_reverse]; exact hfl.out), ← hE.out] at hfin
        gi_wp2
        refine ⟨by simp, .inl ⟨_, _, rfl, run_takeDeferred hK, ?_⟩⟩
        exact ⟨_, results_none rfl _ _ _, rfl, hfin.own, hfin.gr⟩

theorem ends_any (B : Nat) (A : Option Addr) (n c : Nat) (zs : List Int) (s : Int) (w : World) (hown : Go.Proofs.Ytmbjdchknjollaa.Own B 5 .u8 w A n c zs) (hn : n ≤ 1000000) :
    Calls Try.prog 41 #[.agg #[.slice A n c, .int .u8 s]] w (RowPost B w A n c (endsS zs)) := callsIn_wide.1 (ends_in B A n c zs s w hown hn)
end Go.Proofs.Ytmbjdchknjollaa

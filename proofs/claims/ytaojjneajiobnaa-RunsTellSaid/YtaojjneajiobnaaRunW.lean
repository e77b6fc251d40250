/-
  The walk of runs.Sequences.
-/
import Derived.Test.YtaojjneajiobnaaRunO
namespace Go.Proofs.Ytaojjneajiobnaa
open Go.RowKit Go.Maps
attribute [local go_sem] Oper.semAt_some

/-- wpIn_runs where the round's two values go into the slots 66 and 67, and from there into 15 and 16 -/
theorem wpIn_runs15 {d : Nat} {g : Operand} {ps : Array Tmp} {assign body : Code} {Q : Exit → Act → World → Prop} {a : Act} {w : World}
    (h1 : 2 ≤ d) {Bs n1 N c1 c2 : Nat} {A1 A2 : Option Addr} {lv kp : List Int} (hN : N ≤ 1000000) (hkp : ∀ x ∈ kp, 0 ≤ x ∧ x < (n1 : Int)) (hg : a.eval g = .func (.func 76) #[] #[.pointer (some ⟨Bs, 0, none⟩)]) (hps : ps = #[66, 67])
    (I : Nat → World → Prop) (h0 : I 0 w)
    (hIa : ∀ k W o, I k W → I k (W.alloc o)) (hIp : ∀ k W l r r', w.heap.size ≤ l → W.heap[l]? = some (.loop r) → I k W → I k (W.putObj l (.loop r'))) (hId : ∀ k W m, I k W → I k (W.drewN m))
    (hread : ∀ k W, I k W → W.cell? ⟨Bs, 0, none⟩ = some (.slice A1 n1 c1) ∧ W.cell? ⟨Bs, 1, none⟩ = some (.slice A2 N c2) ∧ Rd .u8 W A1 n1 lv ∧ Rd .i64 W A2 N kp)
    (hassign : ∀ (l j m : Nat) (W : World) (K : Act → World → Prop), K { tmps := (((a.tmps.setIfInBounds 66 (.int .i64 (j : Nat))).setIfInBounds 67 (.int .i64 (m : Nat))).setIfInBounds 15 (.int .i64 (j : Nat))).setIfInBounds 16 (.int .i64 (m : Nat)), defers := [] } W →
      assign.wpIn (Fence.wide.inRound l) (d - 1 - 1) Try.prog (Exit.then K (fun _ _ _ => False)) { tmps := (a.tmps.setIfInBounds 66 (.int .i64 (j : Nat))).setIfInBounds 67 (.int .i64 (m : Nat)), defers := [] } W)
    (hbody : ∀ (l k : Nat) (W : World), I k W → cut (lvAt lv kp) N k < N →
      body.wpIn (Fence.wide.inRound l) (d - 1 - 1) Try.prog (fun e _ W' => match e with | .normal => KeepsFrom w.heap.size W W' ∧ I (k + 1) W' | _ => False)
        { tmps := (((a.tmps.setIfInBounds 66 (.int .i64 (cut (lvAt lv kp) N k : Nat))).setIfInBounds 67 (.int .i64 (cut (lvAt lv kp) N (k + 1) : Nat))).setIfInBounds 15 (.int .i64 (cut (lvAt lv kp) N k : Nat))).setIfInBounds 16 (.int .i64 (cut (lvAt lv kp) N (k + 1) : Nat)), defers := [] } W)
    (hdone : ∀ (D k : Nat) (W : World), w.heap.size ≤ D → cut (lvAt lv kp) N k = N → I k W → W.heap[D]? = some (.deferred (some [])) → Q .normal { a with defers := { target := .collected D, args := #[] } :: a.defers } W) :
    (Code.rangeFunc g ps assign body).wpIn Fence.wide d Try.prog Q a w := by
  subst hps
  exact wpIn_runs h1 hN hkp hg rfl I h0 hIa hIp hId hread (fun j m => { tmps := (((a.tmps.setIfInBounds 66 (.int .i64 (j : Nat))).setIfInBounds 67 (.int .i64 (m : Nat))).setIfInBounds 15 (.int .i64 (j : Nat))).setIfInBounds 16 (.int .i64 (m : Nat)), defers := [] })
    (fun l j m W K hK => by simpa using hassign l j m W K hK) hbody hdone

set_option maxRecDepth 100000 in
set_option maxHeartbeats 4000000 in
theorem seq_in (A : Option Addr) (n c : Nat) (l : List Int) (base : Int) (w : World) (hr : Rd .i32 w A n l) (hn : n ≤ 90000) (hb0 : 0 ≤ base ∧ base ≤ 1) (zs lv cs mz : List Int) (hZS : Hid (l.map cls = zs)) (hLV : Hid (levelsS zs base = lv)) (hCS : Hid (classesS zs base = cs)) (hMZ : Hid (matchS zs = mz)) :
    CallsIn Fence.wide 6 Try.prog 27 #[.slice A n c, .int .u8 base] w (SeqRet n base lv cs zs mz w) := by
  have hb1 := hb0.1
  have hb2 := hb0.2
  have hmk := run_mk elt8 n (by omega)
  have hln := hide hr.len
  have hcs : Hid (cs.length = n) := hide (by rw [← hCS.out, classes_len, ← hZS.out, List.length_map, hr.len])
  have hzl : Hid (zs.length = n) := hide (by rw [← hZS.out, List.length_map, hr.len])
  have hlvb : Hid (∀ x ∈ lv, 0 ≤ x ∧ x ≤ 125) := hide (by rw [← hLV.out, ← hZS.out]; exact levels_bd hb0 (map_cls_u8 l))
  have hex : Hid (Calls Try.prog 14 #[.slice A n c, .int .u8 base] (w.alloc (.cells #[.int .u8 base] 5)) (ExpRet n lv cs (w.alloc (.cells #[.int .u8 base] 5)))) := hide (by
    have h := exp_any A n c l base (w.alloc (.cells #[.int .u8 base] 5)) (hr.alloc _) (by omega) hb0
    rw [hZS.out, hLV.out, hCS.out] at h
    exact h)
  refine callsIn_of_wp_marks Try.func27 rfl trivial ?_ rfl
  simp only [Try.ntmps27, List.size_toArray, List.length_cons, List.length_nil, Nat.reduceAdd, Nat.reduceSub, Array.replicate_succ, Array.replicate_zero, List.push_toArray, List.append_toArray, List.nil_append, List.cons_append]
  gi_wp2_with fail
  refine ⟨trivial, (callsIn_wide.2 hex.out).mono ?_⟩
  clear hex
  rintro e w1 ⟨g1, c1, g2, c2, rfl, hL, hO, hne, hbel⟩
  have hsz : w.heap.size + 1 ≤ w1.heap.size := by simpa using hbel.size
  have hbel' := ((Below.refl w.heap.size w).alloc (Nat.le_refl _) (.cells #[.int .u8 base] 5)).trans (hbel.mono (by simp))
  have hvb : Var w1 w.heap.size 5 (.int .u8 base) := (Var.new w 5 (.int .u8 base)).below_ hbel
  have hg1 := hL.lt g1 rfl
  have hg2 := hO.lt g2 rfl
  have hk0 := hide (show KInv w w.heap.size w1.heap.size (w1.heap.size + 1) (w1.heap.size + 1 + 1 + 1) (w1.heap.size + 1 + 1) g1 c1 g2 c2 n 0 0 base lv cs zs none 0 0
    ((((w1.alloc (.cells #[.slice (some ⟨g1, 0, none⟩) n c1] 22)).alloc (.cells #[.slice (some ⟨g1, 0, none⟩) n c1, .slice none 0 0] 88)).alloc (.cells (madeCells #[.int .u8 0] n) 5)).alloc (.cells #[.slice (some ⟨w1.heap.size + 1 + 1, 0, none⟩) n n] 22)) from by
    have hL' := hL.more (B' := w.heap.size) (by simp)
    have hO' := hO.more (B' := w.heap.size) (by simp)
    refine ⟨(((hvb.alloc _).alloc _).alloc _).alloc _, heap_at_old _ (heap_at_old _ (heap_at_old _ (heap_at_new _ _ _ rfl))), heap_at_old _ (heap_at_old _ (heap_at_new _ _ _ (by simp))), heap_at_new _ _ _ (by simp), ?_, Own.none_ _ _ _ _, (((hL'.alloc _).alloc _).alloc _).alloc _, (((hO'.alloc _).alloc _).alloc _).alloc _,
      (((hbel'.alloc (by omega) _).alloc (by simp; omega) _).alloc (by simp; omega) _).alloc (by simp; omega) _, ⟨Nat.le_refl _, by omega, by omega, by omega⟩, ⟨by omega, by omega, by omega⟩⟩
    exact (own_mk w.heap.size 5 .u8 n _ (w1.heap.size + 1 + 1) (by simp) (by omega) (by omega)).alloc _)
  clear hL hO hne hbel hvb hg1 hg2
  gi_wp2_with fail
  generalize (((w1.alloc (.cells #[.slice (some ⟨g1, 0, none⟩) n c1] 22)).alloc (.cells #[.slice (some ⟨g1, 0, none⟩) n c1, .slice none 0 0] 88)).alloc (.cells (madeCells #[.int .u8 0] n) 5)).alloc (.cells #[.slice (some ⟨w1.heap.size + 1 + 1, 0, none⟩) n n] 22) = w2 at *
  generalize w1.heap.size + 1 + 1 + 1 = bo at *
  generalize w1.heap.size + 1 + 1 = ba at *
  generalize w1.heap.size + 1 = br at *
  generalize w1.heap.size = bl at *
  clear hsz hbel'
  gi_loopw [37] (fun i wr => ∃ (k : Nat) (A2 : Option Addr) (m cc : Nat), k ≤ n ∧ i = .int .i64 (k : Nat) ∧ KInv w w.heap.size bl br bo ba g1 c1 g2 c2 n k k base lv cs zs A2 m cc wr) (fun i _ => n - (intOf i).toNat)
  case atStart => exact ⟨0, none, 0, 0, Nat.zero_le _, rfl, hk0.out⟩
  case round =>
    clear hk0
    obtain ⟨k, A2, m, cc, hk, rfl, inv⟩ := hrel
    by_cases hkn : k < n
    · have hinv := hide inv
      have hO1 := inv.O.rd
      obtain ⟨x, hx, hcx⟩ := hO1.cell hkn
      rw [Nat.zero_add] at hcx
      obtain ⟨b0, off, z, rfl, hbz, hz, _⟩ := hr.at_ hkn
      obtain ⟨p0, p2, p3, p4, p5, p6, hps⟩ := props_of z
      have hof := hide (fun y : BW wr => (show Calls Try.prog 23 #[.int .i32 z] y.world (fun e w' => e = .returned (.agg #[.int .u8 p0, .int .u8 (cls z), .int .u8 p2, .int .u8 p3, .int .u8 p4, .int .u8 p5, .int .u8 p6]) ∧ Below y.world.heap.size y.world w') from by have h := of_any z y.world; rw [hps] at h; exact h))
      clear hps
      have hzz : Hid (zs[k]? = some (cls z)) := hide (by rw [← hZS.out, List.getElem?_map, hz.out]; rfl)
      have q1 : (k : Int) < (n : Int) := by omega
      have q2 : (0 : Int) ≤ (k : Int) := by omega
      have hbo : ∀ y : BW wr, y.world.cell? ⟨bo, 0, none⟩ = some (.slice (some ⟨ba, 0, none⟩) n n) := fun y => (hinv.out.below y.below).o.cell
      have hck : ∀ y : BW wr, y.world.cell? ⟨b0, off + k, none⟩ = some (.int .i32 z) := fun y => by
        obtain ⟨z', hz', hc⟩ := ((hr.below ((hinv.out.below y.below).bel))).cell hkn
        have := hz'.out
        rw [hz.out] at this
        injection this with this
        rw [this]; exact hc
      have hfa : ∀ y : BW wr, y.world.frozen? ⟨ba, k, none⟩ = false := fun y => by
        obtain ⟨g, z', hA, _, _, _, _, hf⟩ := (hinv.out.below y.below).own.at_ hkn
        injection hA with hA
        injection hA with hA
        rw [hA]; exact hf
      have hca : ∀ y : BW wr, ∃ u, y.world.cell? ⟨ba, k, none⟩ = some u := fun y => by
        obtain ⟨g, z', hA, _, _, _, hc, _⟩ := (hinv.out.below y.below).own.at_ hkn
        injection hA with hA
        injection hA with hA
        rw [hA]; exact ⟨_, hc⟩
      have hfl := fld1
      clear inv hO1
      generalize cls z = p1 at *
      gi_wp2_with fail
      refine wpIn_tail_wide 9 (by kernel_rfl) (by kernel_rfl) (by kernel_rfl) ?_
      simp only [List.take_succ_cons, List.take_zero, List.drop_succ_cons, List.drop_zero]
      repeat (go_big_quiet_step ((go_at_call 23; exact Calls.below_of (hof.out _))))
      refine wpQuiet_nil ?_
      rintro _ ⟨y, rfl⟩
      have hy1 := hfa y
      have hy2 := hide (hinv.out.below y.below)
      obtain ⟨u, hy3⟩ := hca y
      clear hfa hca hck hbo hof hfl
      go_wp2_with fail
      have inv2 := hide (hy2.out.put hzz.out hkn)
      have hgx := hide (show cs.getD k 0 = x by simp [List.getD, hx.out])
      generalize y.world.setCell ⟨ba, k, none⟩ (.int .u8 p1) = W2 at *
      clear hy1 hy2 hy3
      rcases Bool.eq_false_or_eq_true (x == 9) with hx9 | hx9
      · gi_wp2_with fail
        refine ⟨trivial, (callsIn_wide.2 (removed_any x W2)).mono ?_⟩
        rintro e W3 ⟨rfl, rfl⟩
        have inv3 := hide (inv2.out.off (by rw [hgx.out]; exact hx9))
        gi_wp2_with fail
        go_roundw
        case rel => exact ⟨k + 1, A2, m, cc, by omega, by go_num, inv3.out⟩
        case measure => simp [intOf]; omega
      · gi_wp2_with fail
        refine ⟨trivial, (callsIn_wide.2 (removed_any x W2)).mono ?_⟩
        rintro e W3 ⟨rfl, rfl⟩
        have hc1 : W2.cell? ⟨br, 1, none⟩ = some (.slice A2 m cc) := cell_of_row _ _ _ _ _ _ inv2.out.r
        have hsz2 := inv2.out.bel.size
        have hm1 : m ≤ k := by have := keptTo_len cs k; rw [inv2.out.kp.len] at this; exact this
        gi_wp2_with (gi_at_builtin; refine wpListIn_app_wide elt64 rfl (.tmp 55) (.tmp 57) rfl rfl rfl (inv2.out.kp.alloc _) (own_one _ _ _ _ _ _ rfl (Nat.le_refl _)).rd (by omega) (by simp; omega) ?_; intro A3 c3 W4 hown3 hgr3 _; obtain ⟨hc4, hf4⟩ := (inv2.out.alloc _).r_kept hgr3; have inv4 := hide ((inv2.out.alloc _).on (by rw [hgx.out]; exact hx9) hown3 hgr3); clear hown3 hgr3)
        go_roundw
        case rel => exact ⟨k + 1, A3, m + 1, c3, by omega, by go_num, inv4.out⟩
        case measure => simp [intOf]; omega
    · obtain rfl : k = n := by omega
      clear hkn
      have hzt : zs.take k ++ List.replicate (k - k) 0 = zs := by rw [List.take_of_length_le (by rw [hzl.out]; exact Nat.le_refl _), Nat.sub_self, List.replicate_zero, List.append_nil]
      have hown := inv.own
      rw [hzt] at hown
      clear hzt
      have hc0 := inv.o.cell
      have hml : Hid (mz.length = k) := hide (by rw [← hMZ.out]; exact (match_len zs).trans hzl.out)
      have hM : Hid (Calls Try.prog 17 #[.slice (some ⟨ba, 0, none⟩) k k] wr (RetSl wr.heap.size 3 .i64 mz wr)) := hide (by rw [← hMZ.out]; exact match_any (some ⟨ba, 0, none⟩) k k zs wr hown.rd (by omega))
      have hown := hide hown
      have inv := hide inv
      have hopm : Hid (∀ (q : Nat) (x : Int), zs[q]? = some x → opS x = true → ∃ mi : Nat, mz[q]? = some (mi : Int) ∧ q < mi ∧ mi ≤ k) := hide (fun q x hx h => by have := open_match hx h; rw [hzl.out, hMZ.out] at this; exact this)
      gi_wp2_with fail
      refine ⟨trivial, (callsIn_wide.2 hM.out).mono ?_⟩
      rintro e w3 ⟨A4, c4, rfl, hm4, hb3⟩
      rw [hml.out] at hm4 ⊢
      have hszr := inv.out.bel.size
      have inv3 := inv.out.below hb3
      have hown3 := hide (hown.out.below hb3)
      have hm3 := hide hm4
      have hr3 := inv3.r
      have hr4 : ((((w3.alloc (.cells #[.slice A4 k c4] 28)).alloc (.cells #[.slice none 0 0] 43)).alloc (.map #[] 0)).alloc (.cells #[.map (some (w3.heap.size + 1 + 1))] 89)).heap[br]? = some (.cells #[.slice (some ⟨g1, 0, none⟩) k c1, .slice A2 m cc] 88 (0, 0)) :=
        heap_at_old _ (heap_at_old _ (heap_at_old _ (heap_at_old _ hr3)))
      have hr40 := cell_of_row _ _ 0 _ _ _ hr4
      have hr41 := cell_of_row _ _ 1 _ _ _ hr4
      simp only [List.getElem?_toArray, List.getElem?_cons_zero, List.getElem?_cons_succ] at hr40 hr41
      have hr4 := hide hr4
      have inv3 := hide inv3
      have hmm := @run_makeMap Try.prog
      clear hc0 hM hm4 hb3 inv hown hr3
      gi_wp2_with fail
      refine ⟨trivial, (callsIn_wide.2 (runs_any _ _ _)).mono ?_⟩
      rintro e w5 ⟨rfl, rfl⟩
      clear hr40 hr41
      gi_wp2_with fail
      have hbw3 := inv3.out.bel
      have hsz3 := hbw3.size
      have hlt := lt_of_block hr4.out
      have hkl := hide inv3.out.kp.len
      have hkm : ∀ x ∈ keptTo cs k, 0 ≤ x ∧ x < ((k : Nat) : Int) := keptTo_mem
      have hN : m ≤ 1000000 := by have := keptTo_len cs k; rw [hkl.out] at this; omega
      obtain ⟨W0, hW0⟩ : ∃ W0, ((((w3.alloc (.cells #[.slice A4 k c4] 28)).alloc (.cells #[.slice none 0 0] 43)).alloc (.map #[] 0)).alloc (.cells #[.map (some (w3.heap.size + 1 + 1))] 89)).alloc (.cells #[.slice (some ⟨g1, 0, none⟩) k c1, .slice A2 m cc] 88) = W0 := ⟨_, rfl⟩
      have hsz0 : W0.heap.size = w3.heap.size + 5 := by rw [← hW0]; simp
      have hbel0 := hide (show Below w.heap.size w W0 from by
        rw [← hW0]
        exact ((((hbw3.alloc (by omega) _).alloc (by simp; omega) _).alloc (by simp; omega) _).alloc (by simp; omega) _).alloc (by simp; omega) _)
      have hbw5 : Below w3.heap.size w3 W0 := by
        rw [← hW0]
        exact (((((Below.refl _ _).alloc (Nat.le_refl _) _).alloc (by simp) _).alloc (by simp; omega) _).alloc (by simp; omega) _).alloc (by simp; omega) _
      have hB := hide (show Bxs w.heap.size W0 w.heap.size bl br bo w3.heap.size (w3.heap.size + 1 + 1 + 1) (w3.heap.size + 1 + 1 + 1 + 1) (w3.heap.size + 1) (w3.heap.size + 1 + 1) base (some ⟨g1, 0, none⟩) A2 (some ⟨ba, 0, none⟩) A4 k m c1 cc k c4 lv (keptTo cs k) zs mz from by
        refine ⟨inv3.out.b.below_ hbw5, inv3.out.l.below_ hbw5, (hbw5.block _ (lt_of_block inv3.out.r)).trans inv3.out.r, inv3.out.o.below_ hbw5, ?_, ?_, ?_, ?_, ?_, inv3.out.L.below hbw5, inv3.out.kp.below hbw5, hown3.out.below hbw5, ?_⟩
        · rw [← hW0]; exact heap_at_old _ (heap_at_old _ (heap_at_old _ (heap_at_old _ (heap_at_new _ _ _ rfl))))
        · rw [← hW0]; exact heap_at_old _ (heap_at_new _ _ _ (by simp))
        · rw [← hW0]; exact heap_at_new _ _ _ (by simp)
        · rw [← hW0]; exact heap_at_old _ (heap_at_old _ (heap_at_old _ (heap_at_new _ _ _ (by simp))))
        · rw [← hW0]; exact ⟨_, _, heap_at_old _ (heap_at_old _ (heap_at_new _ _ _ (by simp)))⟩
        · exact (hm3.out.more (by omega)).below hbw5)
      have hR0 := hide (show RInv W0 (w3.heap.size + 1) (w3.heap.size + 1 + 1) 0 (.slice none 0 0) [] (fun _ => none) W0 from
        ⟨Nat.le_refl _, rfl, rfl, rfl, by omega, by omega, fun _ _ _ _ => rfl, hB.out.x, Sq.nil _ _, .map [], by
          have h0 := World.ownsMap_made (H := Unit) ((w3.alloc (.cells #[.slice A4 k c4] 28)).alloc (.cells #[.slice none 0 0] 43)) Try.prog 3 RO
          rw [← hW0]
          simpa using (h0.alloc _).alloc _, Goes.nil⟩)
      rw [hW0]
      have hW0 := hide hW0
      clear hm3 hown3 inv3 hbw3 hbw5 hr4
      have hbxw : w.heap.size ≤ w3.heap.size + 1 := by omega
      have hmbw : w.heap.size ≤ w3.heap.size + 1 + 1 := by omega
      generalize w3.heap.size + 1 + 1 + 1 + 1 = bs at *
      generalize w3.heap.size + 1 + 1 + 1 = bg at *
      generalize w3.heap.size + 1 + 1 = mb at *
      generalize w3.heap.size + 1 = bx at *
      generalize w3.heap.size = bm at *
      clear hW0 hsz3 hsz0 hlt
      refine wpIn_runs15 (A1 := some ⟨g1, 0, none⟩) (A2 := A2) (n1 := k) (N := m) (c1 := c1) (c2 := cc) (Bs := bs) (lv := lv) (kp := keptTo cs k) (by omega) hN hkm rfl rfl
        (fun j W => ∃ v xs, RInv W0 bx mb j v xs (sqSt lv (keptTo cs k) zs mz base j).goes W ∧ xs.map QV.q = (sqSt lv (keptTo cs k) zs mz base j).out) ?h0 ?ha ?hp ?hd ?hread ?assign ?body ?done
      case h0 => exact ⟨_, _, hR0.out, rfl⟩
      case ha => exact fun j W o ⟨v, xs, h1, h2⟩ => ⟨v, xs, h1.alloc o, h2⟩
      case hp => exact fun j W l r r' hl1 hl2 ⟨v, xs, h1, h2⟩ => ⟨v, xs, h1.putObj hl1 hl2, h2⟩
      case hd => exact fun j W d ⟨v, xs, h1, h2⟩ => ⟨v, xs, h1.drewN d, h2⟩
      case hread =>
        rintro j W ⟨v, xs, h1, h2⟩
        have := hB.out.at_ h1
        exact ⟨this.s0, this.s1, this.rd1, this.rd2⟩
      case assign =>
        intro l j m W K hK
        simp only [List.setIfInBounds_toArray, List.set_cons_succ, List.set_cons_zero] at hK ⊢
        gi_wp2
        exact hK
      case done =>
        intro D K W hD hK hI hDd
        obtain ⟨v, xs, hR, hxs⟩ := hI
        obtain ⟨Av, cv, rfl⟩ := hR.sq.form
        have f1 : ∀ n : Nat, (W.drewN n).cell? ⟨bx, 0, none⟩ = some (.slice Av xs.length cv) := fun n => hR.var.cell
        have f2 : ∀ n : Nat, (W.drewN n).cell? ⟨bl, 0, none⟩ = some (.slice (some ⟨g1, 0, none⟩) k c1) := fun n => (hB.out.at_ hR).l
        have hxs := hide hxs
        have hR := hide hR
        have hK := hide hK
        have hD := hide hD
        have hDd := hide hDd
        gi_wp2_with fail
        refine wpIn_quiet_drawn (by kernel_rfl) (by kernel_rfl) (by kernel_rfl) ?_
        repeat (go_big_quiet_step (fail))
        refine wpQuiet_nil ?_
        rintro _ ⟨d, rfl⟩
        clear f1 f2
        gi_wp2_with fail
        refine ⟨by simp, .inl ⟨_, _, rfl, run_takeDeferred (show (W.drewN d).heap[D]? = _ from hDd.out), ?_⟩⟩
        have hR' := (hR.out.drewN d).putD hD.out hDd.out
        have hkl' : (keptTo cs k).length = m := hkl.out
        refine ⟨_, results_tmp2 rfl _ _ _, Av, cv, g1, c1, K, xs, rfl, hR'.sq.mono hbel0.out.size, by rw [hkl']; exact hK.out, hxs.out, hR'.own hB.out.own1 (row_ne hB.out.own1.1 hB.out.x (by decide)) ?_, ?_⟩
        · intro e
          obtain ⟨es, cl, hm⟩ := hB.out.mb_
          obtain ⟨c', hc'⟩ := own_kind hB.out.own1.1 mb e
          rw [hm] at hc'; cases hc'
        · have hb := hbel0.out
          exact ⟨hR'.os.trans hb.os, hR'.tape.trans hb.tape, hR'.output.trans hb.output, Nat.le_trans hb.size hR'.size, fun i hi => (hR'.low i (Nat.lt_of_lt_of_le hi hb.size) (by omega) (by omega)).trans (hb.block i hi)⟩
      case body =>
        intro r j W hI hlt
        obtain ⟨v, xs, hR, hxs⟩ := hI
        generalize hkp : keptTo cs k = kp at *
        have hkp := hide hkp
        generalize hs : sqSt lv kp zs mz base j = s at *
        have hs := hide hs
        obtain ⟨ha1, ha2, _, _⟩ := runEnd_spec (f := lvAt lv kp) hlt
        rw [show runEnd (lvAt lv kp) m (cut (lvAt lv kp) m j) = cut (lvAt lv kp) m (j + 1) from rfl] at ha1 ha2
        obtain ⟨ca, hca⟩ : ∃ x, cut (lvAt lv kp) m j = x := ⟨_, rfl⟩
        obtain ⟨cb, hcb⟩ : ∃ x, cut (lvAt lv kp) m (j + 1) = x := ⟨_, rfl⟩
        rw [hca] at hlt ha1 ⊢
        rw [hcb] at ha1 ha2 ⊢
        have hca := hide hca
        have hcb := hide hcb
        have hxs := hide hxs
        have hxl : xs.length ≤ 1000000 := by
          have h1 := sqSt_len lv kp zs mz base j
          have h2 := cut_ge (lvAt lv kp) m j
          rw [hs.out, ← hxs.out, List.length_map] at h1
          rw [hca.out] at h2
          omega
        have hql : Hid (∀ y ∈ xs, y.q.ps.length ≤ 1000000) := hide (by
          intro y hy
          have h1 := sqSt_ps lv kp zs mz base j y.q (by rw [hs.out, ← hxs.out]; exact List.mem_map.2 ⟨y, hy, rfl⟩)
          rw [hkl.out, hca.out] at h1
          omega)
        have hjb : j ≤ ca := by
          have h2 := cut_ge (lvAt lv kp) m j
          rw [hca.out] at h2
          exact h2
        have hqv : Hid (∀ y ∈ xs, 0 ≤ y.q.lv ∧ y.q.lv ≤ 125) := hide (by
          intro y hy
          exact sqSt_lv kp zs mz base hlvb.out j y.q (by rw [hs.out, ← hxs.out]; exact List.mem_map.2 ⟨y, hy, rfl⟩))
        have hW := hB.out.at_ hR
        obtain ⟨b2, o2, p', rfl, hb2, hp, hcp⟩ := hW.rd2.at_ (show ca < m by omega)
        obtain ⟨q', hq, hcq⟩ := hW.rd2.cell (show cb - 1 < m by omega)
        have hpb := hkm p' (List.mem_of_getElem? hp.out)
        have hqb := hkm q' (List.mem_of_getElem? hq.out)
        obtain ⟨p, rfl⟩ : ∃ p : Nat, p' = (p : Int) := ⟨p'.toNat, by omega⟩
        obtain ⟨q, rfl⟩ : ∃ p : Nat, q' = (p : Int) := ⟨q'.toNat, by omega⟩
        have hkr := hW.r1
        have hR := hide hR
        clear hW
        have w1 : IntKind.i64.wrap ((cb : Int) - 1) = (cb : Int) - 1 := IntWalk.i64_in _ (by omega)
        have w2 : (0 : Int) ≤ (cb : Int) - 1 := by omega
        have w3 : (cb : Int) - 1 < (m : Int) := by omega
        have w4 : ((cb : Int) - 1).toNat = cb - 1 := by omega
        have w5 : (ca : Int) < (m : Int) := by omega
        have w6 : (0 : Int) ≤ (ca : Int) := by omega
        simp only [List.setIfInBounds_toArray, List.set_cons_succ, List.set_cons_zero]
        gi_wp2_with fail
        refine wpIn_quiet_drawn_round (by kernel_rfl) (by kernel_rfl) (by kernel_rfl) ?_
        repeat (go_big_quiet_step (fail))
        refine wpQuiet_nil ?_
        rintro _ ⟨d, rfl⟩
        clear w1 w2 w3 w4 w5 w6 hkr hcp hcq hb2
        have hR1 := hide (hR.out.drewN d)
        have hK1 := hide (show KeepsFrom W0.heap.size W (W.drewN d) from ⟨Nat.le_refl _, fun _ _ _ h _ => h⟩)
        generalize W.drewN d = W1 at *
        obtain ⟨Av, cv, rfl⟩ := hR1.out.sq.form
        obtain ⟨D, hmp, hG⟩ := hR1.out.mp
        have hlook := goes_look hmp hG p (by omega)
        have hcg := (hB.out.at_ hR1.out).g
        have hszW := hR1.out.size
        clear hmp hG
        cases hgp : s.goes p with
        | none =>
          rw [hgp] at hlook
          simp only [Option.getD_none, Option.isSome_none] at hlook
          have hgp := hide hgp
          have hcx : ∀ o, (W1.alloc o).cell? ⟨bx, 0, none⟩ = some (.slice Av xs.length cv) := fun o => (hR1.out.alloc o).var.cell
          gi_wp2_with fail
          clear hlook hcg hcx
          have hR2 := hide (hR1.out.alloc (.cells #[.int .i64 (xs.length : Nat)] 94))
          have hV2 := hide (Var.new W1 94 (.int .i64 (xs.length : Nat)))
          have hK2 := hide (hK1.out.trans ((KeepsOthers.alloc W1 (.cells #[.int .i64 (xs.length : Nat)] 94)).from W0.heap.size))
          clear hK1 hR1
          generalize W1.alloc (.cells #[.int .i64 (xs.length : Nat)] 94) = W2 at *
          have hX := hide hszW
          generalize W1.heap.size = X at *
          clear hszW
          obtain ⟨lp, hlp, hclp⟩ := (hB.out.at_ hR2.out).rd1.cell (show p < k by omega)
          have hlpb := hlvb.out lp (List.mem_of_getElem? hlp.out)
          have hat := hide (fun y : BW W2 => at_any (some ⟨g1, 0, none⟩) (some ⟨b2, o2, none⟩) k m c1 cc lv kp ((ca : Int) - 1) base y.world (hB.out.at_ (hR2.out.below y.below)).rd1 (hB.out.at_ (hR2.out.below y.below)).rd2 hkm (by omega))
          have hatb := atS_bd (kp := kp) (n := (ca : Int) - 1) hlvb.out hb0
          have hnr := hide (show newR lv kp base ca p = ⟨[], lp, sideS lp (atS lv kp base ((ca : Int) - 1)), 0⟩ by unfold newR; rw [getD_of' hlp.out])
          generalize atS lv kp base ((ca : Int) - 1) = atv at *
          have hsd := hide (fun y : BW W2 => side_any lp atv y.world ⟨hlpb.1, by omega⟩ hatb)
          generalize sideS lp atv = sv at *
          have h6 : ∀ y : BW W2, y.world.cell? ⟨g1, p, none⟩ = some (.int .u8 lp) := fun y => by
            obtain ⟨z, hz, hc⟩ := (hB.out.at_ (hR2.out.below y.below)).rd1.cell (show p < k by omega)
            have := hz.out
            rw [hlp.out] at this
            injection this with this
            rw [Nat.zero_add] at hc
            rw [hc, this]
          have w1 : IntKind.i64.wrap ((ca : Int) - 1) = (ca : Int) - 1 := IntWalk.i64_in _ (by omega)
          have w2 : (p : Int) < (k : Int) := by omega
          have w3 : (0 : Int) ≤ (p : Int) := by omega
          clear hclp
          generalize ha : Act.mk _ _ = a0
          have hsz : a0.tmps.size = 159 := by rw [← ha]; rfl
          have k13 : a0.tmps.getD 13 undef = .pointer (some ⟨bx, 0, none⟩) := by rw [← ha]; rfl
          have k6 : a0.tmps.getD 6 undef = .pointer (some ⟨bl, 0, none⟩) := by rw [← ha]; rfl
          have k17 : a0.tmps.getD 17 undef = .int .i64 (p : Nat) := by rw [← ha]; rfl
          have k8 : a0.tmps.getD 8 undef = .pointer (some ⟨br, 0, none⟩) := by rw [← ha]; rfl
          have k15 : a0.tmps.getD 15 undef = .int .i64 (ca : Nat) := by rw [← ha]; rfl
          have k3 : a0.tmps.getD 3 undef = .pointer (some ⟨w.heap.size, 0, none⟩) := by rw [← ha]; rfl
          generalize hF : [(⟨0, 90, .slice Av xs.length cv⟩ : Fx), ⟨1, 91, .slice (some ⟨g1, 0, none⟩) k c1⟩, ⟨2, 92, .int .i64 (p : Nat)⟩, ⟨3, 93, .pointer (some ⟨g1, p, none⟩)⟩, ⟨4, 94, .int .u8 lp⟩, ⟨5, 95, .slice (some ⟨g1, 0, none⟩) k c1⟩, ⟨6, 96, .int .i64 (p : Nat)⟩, ⟨7, 97, .pointer (some ⟨g1, p, none⟩)⟩, ⟨8, 98, .int .u8 lp⟩, ⟨9, 99, (.agg #[.slice (some ⟨g1, 0, none⟩) k c1, .slice (some ⟨b2, o2, none⟩) m cc])⟩, ⟨10, 100, .int .i64 (ca : Nat)⟩, ⟨11, 101, .int .i64 ((ca : Int) - 1)⟩, ⟨12, 102, .int .u8 base⟩, ⟨13, 103, .int .u8 atv⟩, ⟨14, 104, .int .u8 sv⟩, ⟨15, 105, (.agg #[.slice none 0 0, .int .u8 lp, .int .u8 sv, .int .u8 0])⟩] = F
          have hn1 : (F.map Fx.idx).Nodup := by rw [← hF]; simp
          have hn2 : (F.map Fx.dst).Nodup := by rw [← hF]; simp
          have hT : ∀ d ∈ F.map Fx.dst, d ∈ [90, 91, 92, 93, 94, 95, 96, 97, 98, 99, 100, 101, 102, 103, 104, 105, 106] := by rw [← hF]; simp
          have hds : ∀ d ∈ [90, 91, 92, 93, 94, 95, 96, 97, 98, 99, 100, 101, 102, 103, 104, 105, 106], d < a0.tmps.size := by rw [hsz]; decide
          refine wpIn_region_round (l := some r) (by kernel_rfl) (by kernel_rfl) (wpAny_region_call 17 (by simp) (fun L a' w' => FixI F [90, 91, 92, 93, 94, 95, 96, 97, 98, 99, 100, 101, 102, 103, 104, 105, 106] a0 L a' ∧ Below W2.heap.size W2 w' ∧ (L.getD 16 false = true → ∃ g, a'.tmps.getD 106 undef = .slice (some ⟨g, 0, none⟩) 1 1 ∧ w'.heap[g]? = some (.cells #[.slice none 0 0, .int .u8 lp, .int .u8 sv, .int .u8 0] 49 (0, 0)))) (fun a' w' => ∃ (vs : Nat → Value) (A5 : Option Addr) (c5 : Nat) (w4 : World), a' = ([90, 91, 92, 93, 94, 95, 96, 97, 98, 99, 100, 101, 102, 103, 104, 105, 106].foldl (fun b d => b.put (some d) (vs d)) a0).put (some 107) (.slice A5 (xs.length + 1) c5) ∧ Below W2.heap.size W2 w4 ∧ w'.ownsRow W0.heap.size 49 4 (.slice A5 (xs.length + 1) c5) (xs.length + 1) (cellsOf xs ++ [.slice none 0 0, .int .u8 lp, .int .u8 sv, .int .u8 0]) ∧ w4.grownBy w' (Value.slice Av xs.length cv).ownBlock) ?_ ?_ ?_ ?_ (by kernel_rfl) ?_ ?_)
          · exact ⟨FixI.start _, (Below.refl _ _).drew, fun h => absurd ((rep_false _ _).symm.trans h) (by decide)⟩
          · intro L a' w' i op hi hs hI ho hl hdep
            obtain ⟨hI, hw, hrow⟩ := hI
            have e13 : a'.tmps.getD 13 undef = .pointer (some ⟨bx, 0, none⟩) := by rw [hI.keep 13 (by decide)]; exact k13
            have e6 : a'.tmps.getD 6 undef = .pointer (some ⟨bl, 0, none⟩) := by rw [hI.keep 6 (by decide)]; exact k6
            have e17 : a'.tmps.getD 17 undef = .int .i64 (p : Nat) := by rw [hI.keep 17 (by decide)]; exact k17
            have e8 : a'.tmps.getD 8 undef = .pointer (some ⟨br, 0, none⟩) := by rw [hI.keep 8 (by decide)]; exact k8
            have e15 : a'.tmps.getD 15 undef = .int .i64 (ca : Nat) := by rw [hI.keep 15 (by decide)]; exact k15
            have e3 : a'.tmps.getD 3 undef = .pointer (some ⟨w.heap.size, 0, none⟩) := by rw [hI.keep 3 (by decide)]; exact k3
            have hxm := hR2.out.below hw
            have hat1 := hB.out.at_ hxm
            rcases (show i = 0 ∨ i = 1 ∨ i = 2 ∨ i = 3 ∨ i = 4 ∨ i = 5 ∨ i = 6 ∨ i = 7 ∨ i = 8 ∨ i = 9 ∨ i = 10 ∨ i = 11 ∨ i = 12 ∨ i = 13 ∨ i = 14 ∨ i = 15 ∨ i = 16 by omega) with rfl | rfl | rfl | rfl | rfl | rfl | rfl | rfl | rfl | rfl | rfl | rfl | rfl | rfl | rfl | rfl | rfl
            all_goals (have ho2 := ho; simp only [List.getElem?_toArray, List.getElem?_cons_succ, List.getElem?_cons_zero, Option.some.injEq] at ho2; subst ho2)
            · as_aux_lemma =>
              refine wpOp_of ho rfl ?_
              refine wp_val (v := .slice Av xs.length cv) (w' := w') ?_ ⟨hI.fx hn1 hn2 hT hds ⟨0, 90, .slice Av xs.length cv⟩ (by rw [← hF]; simp), hw, fun h => by rw [getD_set_ne false (by decide)] at h; obtain ⟨g, h1, h2⟩ := hrow h; exact ⟨g, by rw [getD_put_ne (by decide)]; exact h1, h2⟩⟩
              have c1 := hxm.var.cell
              simp only [execOp, Act.eval, e13]; go_simp
            · as_aux_lemma =>
              refine wpOp_of ho rfl ?_
              refine wp_val (v := .slice (some ⟨g1, 0, none⟩) k c1) (w' := w') ?_ ⟨hI.fx hn1 hn2 hT hds ⟨1, 91, .slice (some ⟨g1, 0, none⟩) k c1⟩ (by rw [← hF]; simp), hw, fun h => by rw [getD_set_ne false (by decide)] at h; obtain ⟨g, h1, h2⟩ := hrow h; exact ⟨g, by rw [getD_put_ne (by decide)]; exact h1, h2⟩⟩
              have c1 := hat1.l
              simp only [execOp, Act.eval, e6]; go_simp
            · as_aux_lemma =>
              refine wpOp_of ho rfl ?_
              refine wp_val (v := .int .i64 (p : Nat)) (w' := w') ?_ ⟨hI.fx hn1 hn2 hT hds ⟨2, 92, .int .i64 (p : Nat)⟩ (by rw [← hF]; simp), hw, fun h => by rw [getD_set_ne false (by decide)] at h; obtain ⟨g, h1, h2⟩ := hrow h; exact ⟨g, by rw [getD_put_ne (by decide)]; exact h1, h2⟩⟩
              simp only [execOp, Act.eval, e17]; rfl
            · as_aux_lemma =>
              refine wpOp_of ho rfl ?_
              have e91 := hI.fix ⟨1, 91, .slice (some ⟨g1, 0, none⟩) k c1⟩ (by rw [← hF]; simp) (hdep ⟨1, .data⟩ (by simp) rfl); simp only at e91
              have e92 := hI.fix ⟨2, 92, .int .i64 (p : Nat)⟩ (by rw [← hF]; simp) (hdep ⟨2, .data⟩ (by simp) rfl); simp only at e92
              refine wp_val (v := .pointer (some ⟨g1, p, none⟩)) (w' := w') ?_ ⟨hI.fx hn1 hn2 hT hds ⟨3, 93, .pointer (some ⟨g1, p, none⟩)⟩ (by rw [← hF]; simp), hw, fun h => by rw [getD_set_ne false (by decide)] at h; obtain ⟨g, h1, h2⟩ := hrow h; exact ⟨g, by rw [getD_put_ne (by decide)]; exact h1, h2⟩⟩
              simp only [execOp, Act.eval, e91, e92]; go_simp
            · as_aux_lemma =>
              refine wpOp_of ho rfl ?_
              have e93 := hI.fix ⟨3, 93, .pointer (some ⟨g1, p, none⟩)⟩ (by rw [← hF]; simp) (hdep ⟨3, .data⟩ (by simp) rfl); simp only at e93
              refine wp_val (v := .int .u8 lp) (w' := w') ?_ ⟨hI.fx hn1 hn2 hT hds ⟨4, 94, .int .u8 lp⟩ (by rw [← hF]; simp), hw, fun h => by rw [getD_set_ne false (by decide)] at h; obtain ⟨g, h1, h2⟩ := hrow h; exact ⟨g, by rw [getD_put_ne (by decide)]; exact h1, h2⟩⟩
              have c1 := h6 ⟨w', hw⟩; simp only at c1
              simp only [execOp, Act.eval, e93]; go_simp
            · as_aux_lemma =>
              refine wpOp_of ho rfl ?_
              refine wp_val (v := .slice (some ⟨g1, 0, none⟩) k c1) (w' := w') ?_ ⟨hI.fx hn1 hn2 hT hds ⟨5, 95, .slice (some ⟨g1, 0, none⟩) k c1⟩ (by rw [← hF]; simp), hw, fun h => by rw [getD_set_ne false (by decide)] at h; obtain ⟨g, h1, h2⟩ := hrow h; exact ⟨g, by rw [getD_put_ne (by decide)]; exact h1, h2⟩⟩
              have c1 := hat1.l
              simp only [execOp, Act.eval, e6]; go_simp
            · as_aux_lemma =>
              refine wpOp_of ho rfl ?_
              refine wp_val (v := .int .i64 (p : Nat)) (w' := w') ?_ ⟨hI.fx hn1 hn2 hT hds ⟨6, 96, .int .i64 (p : Nat)⟩ (by rw [← hF]; simp), hw, fun h => by rw [getD_set_ne false (by decide)] at h; obtain ⟨g, h1, h2⟩ := hrow h; exact ⟨g, by rw [getD_put_ne (by decide)]; exact h1, h2⟩⟩
              simp only [execOp, Act.eval, e17]; rfl
            · as_aux_lemma =>
              refine wpOp_of ho rfl ?_
              have e95 := hI.fix ⟨5, 95, .slice (some ⟨g1, 0, none⟩) k c1⟩ (by rw [← hF]; simp) (hdep ⟨5, .data⟩ (by simp) rfl); simp only at e95
              have e96 := hI.fix ⟨6, 96, .int .i64 (p : Nat)⟩ (by rw [← hF]; simp) (hdep ⟨6, .data⟩ (by simp) rfl); simp only at e96
              refine wp_val (v := .pointer (some ⟨g1, p, none⟩)) (w' := w') ?_ ⟨hI.fx hn1 hn2 hT hds ⟨7, 97, .pointer (some ⟨g1, p, none⟩)⟩ (by rw [← hF]; simp), hw, fun h => by rw [getD_set_ne false (by decide)] at h; obtain ⟨g, h1, h2⟩ := hrow h; exact ⟨g, by rw [getD_put_ne (by decide)]; exact h1, h2⟩⟩
              simp only [execOp, Act.eval, e95, e96]; go_simp
            · as_aux_lemma =>
              refine wpOp_of ho rfl ?_
              have e97 := hI.fix ⟨7, 97, .pointer (some ⟨g1, p, none⟩)⟩ (by rw [← hF]; simp) (hdep ⟨7, .data⟩ (by simp) rfl); simp only at e97
              refine wp_val (v := .int .u8 lp) (w' := w') ?_ ⟨hI.fx hn1 hn2 hT hds ⟨8, 98, .int .u8 lp⟩ (by rw [← hF]; simp), hw, fun h => by rw [getD_set_ne false (by decide)] at h; obtain ⟨g, h1, h2⟩ := hrow h; exact ⟨g, by rw [getD_put_ne (by decide)]; exact h1, h2⟩⟩
              have c1 := h6 ⟨w', hw⟩; simp only at c1
              simp only [execOp, Act.eval, e97]; go_simp
            · as_aux_lemma =>
              refine wpOp_of ho rfl ?_
              refine wp_val (v := (.agg #[.slice (some ⟨g1, 0, none⟩) k c1, .slice (some ⟨b2, o2, none⟩) m cc])) (w' := w') ?_ ⟨hI.fx hn1 hn2 hT hds ⟨9, 99, (.agg #[.slice (some ⟨g1, 0, none⟩) k c1, .slice (some ⟨b2, o2, none⟩) m cc])⟩ (by rw [← hF]; simp), hw, fun h => by rw [getD_set_ne false (by decide)] at h; obtain ⟨g, h1, h2⟩ := hrow h; exact ⟨g, by rw [getD_put_ne (by decide)]; exact h1, h2⟩⟩
              have c1 := hat1.r0; have c2 := hat1.r1
              simp only [execOp, Act.eval, e8]; go_simp
            · as_aux_lemma =>
              refine wpOp_of ho rfl ?_
              refine wp_val (v := .int .i64 (ca : Nat)) (w' := w') ?_ ⟨hI.fx hn1 hn2 hT hds ⟨10, 100, .int .i64 (ca : Nat)⟩ (by rw [← hF]; simp), hw, fun h => by rw [getD_set_ne false (by decide)] at h; obtain ⟨g, h1, h2⟩ := hrow h; exact ⟨g, by rw [getD_put_ne (by decide)]; exact h1, h2⟩⟩
              simp only [execOp, Act.eval, e15]; rfl
            · as_aux_lemma =>
              refine wpOp_of ho rfl ?_
              have e100 := hI.fix ⟨10, 100, .int .i64 (ca : Nat)⟩ (by rw [← hF]; simp) (hdep ⟨10, .data⟩ (by simp) rfl); simp only at e100
              refine wp_val (v := .int .i64 ((ca : Int) - 1)) (w' := w') ?_ ⟨hI.fx hn1 hn2 hT hds ⟨11, 101, .int .i64 ((ca : Int) - 1)⟩ (by rw [← hF]; simp), hw, fun h => by rw [getD_set_ne false (by decide)] at h; obtain ⟨g, h1, h2⟩ := hrow h; exact ⟨g, by rw [getD_put_ne (by decide)]; exact h1, h2⟩⟩
              simp only [execOp, Act.eval, e100]; go_simp
            · as_aux_lemma =>
              refine wpOp_of ho rfl ?_
              refine wp_val (v := .int .u8 base) (w' := w') ?_ ⟨hI.fx hn1 hn2 hT hds ⟨12, 102, .int .u8 base⟩ (by rw [← hF]; simp), hw, fun h => by rw [getD_set_ne false (by decide)] at h; obtain ⟨g, h1, h2⟩ := hrow h; exact ⟨g, by rw [getD_put_ne (by decide)]; exact h1, h2⟩⟩
              have c1 := hat1.b
              simp only [execOp, Act.eval, e3]; go_simp
            · as_aux_lemma =>
              refine wpOp_of ho rfl ?_
              have e99 := hI.fix ⟨9, 99, (.agg #[.slice (some ⟨g1, 0, none⟩) k c1, .slice (some ⟨b2, o2, none⟩) m cc])⟩ (by rw [← hF]; simp) (hdep ⟨9, .data⟩ (by simp) rfl); simp only at e99
              have e101 := hI.fix ⟨11, 101, .int .i64 ((ca : Int) - 1)⟩ (by rw [← hF]; simp) (hdep ⟨11, .data⟩ (by simp) rfl); simp only at e101
              have e102 := hI.fix ⟨12, 102, .int .u8 base⟩ (by rw [← hF]; simp) (hdep ⟨12, .data⟩ (by simp) rfl); simp only at e102
              refine wp_enter_ (f := 53) (args := #[.agg #[.slice (some ⟨g1, 0, none⟩) k c1, .slice (some ⟨b2, o2, none⟩) m cc], .int .i64 ((ca : Int) - 1), .int .u8 base]) ?_ ?_
              · simp only [execOp]; go_simp
              refine (hat.out ⟨w', hw⟩).mono ?_
              rintro en w7 ⟨rfl, hb7⟩
              exact ⟨_, rfl, ⟨hI.fx hn1 hn2 hT hds ⟨13, 103, .int .u8 atv⟩ (by rw [← hF]; simp), hw.trans (hb7.mono hw.size), fun h => by rw [getD_set_ne false (by decide)] at h; obtain ⟨g, h1, h2⟩ := hrow h; exact ⟨g, by rw [getD_put_ne (by decide)]; exact h1, (hb7.block _ (lt_of_block h2)).trans h2⟩⟩⟩
            · as_aux_lemma =>
              refine wpOp_of ho rfl ?_
              have e98 := hI.fix ⟨8, 98, .int .u8 lp⟩ (by rw [← hF]; simp) (hdep ⟨8, .data⟩ (by simp) rfl); simp only at e98
              have e103 := hI.fix ⟨13, 103, .int .u8 atv⟩ (by rw [← hF]; simp) (hdep ⟨13, .data⟩ (by simp) rfl); simp only at e103
              refine wp_enter_ (f := 52) (args := #[.int .u8 lp, .int .u8 atv]) ?_ ?_
              · simp only [execOp]; go_simp
              refine (hsd.out ⟨w', hw⟩).mono ?_
              rintro en w7 ⟨rfl, rfl⟩
              exact ⟨_, rfl, ⟨hI.fx hn1 hn2 hT hds ⟨14, 104, .int .u8 sv⟩ (by rw [← hF]; simp), hw, fun h => by rw [getD_set_ne false (by decide)] at h; obtain ⟨g, h1, h2⟩ := hrow h; exact ⟨g, by rw [getD_put_ne (by decide)]; exact h1, h2⟩⟩⟩
            · as_aux_lemma =>
              refine wpOp_of ho rfl ?_
              have e94 := hI.fix ⟨4, 94, .int .u8 lp⟩ (by rw [← hF]; simp) (hdep ⟨4, .data⟩ (by simp) rfl); simp only at e94
              have e104 := hI.fix ⟨14, 104, .int .u8 sv⟩ (by rw [← hF]; simp) (hdep ⟨14, .data⟩ (by simp) rfl); simp only at e104
              refine wp_val (v := (.agg #[.slice none 0 0, .int .u8 lp, .int .u8 sv, .int .u8 0])) (w' := w') ?_ ⟨hI.fx hn1 hn2 hT hds ⟨15, 105, (.agg #[.slice none 0 0, .int .u8 lp, .int .u8 sv, .int .u8 0])⟩ (by rw [← hF]; simp), hw, fun h => by rw [getD_set_ne false (by decide)] at h; obtain ⟨g, h1, h2⟩ := hrow h; exact ⟨g, by rw [getD_put_ne (by decide)]; exact h1, h2⟩⟩
              have f94 := e94; have f104 := e104; rw [Array.getD_eq_getD_getElem?] at f94 f104
              simp only [execOp, Act.eval]; go_simp
            · as_aux_lemma =>
              refine wpOp_of ho rfl ?_
              have e105 := hI.fix ⟨15, 105, (.agg #[.slice none 0 0, .int .u8 lp, .int .u8 sv, .int .u8 0])⟩ (by rw [← hF]; simp) (hdep ⟨15, .data⟩ (by simp) rfl); simp only at e105
              refine wp_val (v := .slice (some ⟨w'.heap.size, 0, none⟩) 1 1) (w' := w'.alloc (.cells #[.slice none 0 0, .int .u8 lp, .int .u8 sv, .int .u8 0] 49)) ?_ ⟨hI.put (by decide) (hds _ (by decide)) (by rw [← hF]; simp) (by rw [← hF]; simp), hw.alloc hw.size _, fun _ => ⟨w'.heap.size, getD_put_eq (by rw [hI.size, hsz]; decide), heap_alloc_new w' _⟩⟩
              have f105 := e105; rw [Array.getD_eq_getD_getElem?] at f105
              simp only [execOp, Act.eval]; go_simp
          · intro L a' w' hI hall
            obtain ⟨hI, hw, hrow⟩ := hI
            obtain ⟨gn, e106, hgn⟩ := hrow (hall 16 (by decide))
            have e90 := hI.fix ⟨0, 90, .slice Av xs.length cv⟩ (by rw [← hF]; simp) (hall 0 (by decide)); simp only at e90
            have hxm := hR2.out.below hw
            obtain ⟨A5, c5, w7, hrun, hown5, hg5⟩ := run_appQ (c' := 1) 43 hxm.sq.row hgn (by omega) hxm.size
            unfold wpOp; simp only [List.getElem?_toArray, List.getElem?_cons_succ, List.getElem?_cons_zero, Region.wanted, if_true]
            refine .inl (wp_val (v := .slice A5 (xs.length + 1) c5) (w' := w7) ?_ ⟨fun d => a'.tmps.getD d undef, A5, c5, w', ?_, hw, hown5, hg5⟩)
            · unfold execOp
              simp only [resolve, invoke, builtin, Sem.run_bind, Sem.run_pure, Result.andThen_ok, List.map_toArray, List.map_cons, List.map_nil, Act.eval, e90, e106, hrun]
            · have hae := act_puts (a := a') (a0 := a0) (ds := [90, 91, 92, 93, 94, 95, 96, 97, 98, 99, 100, 101, 102, 103, 104, 105, 106]) hI.size hI.dfr hI.keep
              exact congrArg (fun q : Act => q.put (some 107) (.slice A5 (xs.length + 1) c5)) hae
          · rintro a' w6 ⟨vs, A5, c5, w4, hae, hw4, hown5, hg5⟩
            have e13 : a'.tmps.getD 13 undef = .pointer (some ⟨bx, 0, none⟩) := by
              rw [hae]; simp only [List.foldl_cons, List.foldl_nil]
              repeat rw [getD_put_ne (by decide)]
              exact k13
            have e107 : a'.tmps.getD 107 undef = .slice A5 (xs.length + 1) c5 := by
              rw [hae]; refine getD_put_eq ?_
              simp only [List.foldl_cons, List.foldl_nil, size_put]; rw [hsz]; decide
            have hxm := (hR2.out.below hw4)
            have hR3 := hide (hxm.new_ (q := ⟨[], lp, sv, 0⟩) rfl hown5 hg5)
            have hv6 := hxm.var.grown hg5 (fun e => by have := (hxm.vlt bx e.symm).1; have := hxm.hbx; omega)
            have hK3 := hide (((hK2.out.trans (KeepsFrom.of_below hw4)).trans ((KeepsOthers.of_grownBy hg5 (own_cells hxm.sq.row)).from W0.heap.size)).trans ((KeepsOthers.setCell w6 ⟨bx, 0, none⟩ (.slice A5 (xs.length + 1) c5)).from W0.heap.size))
            have hV3 := hide (((hV2.out.below_ hw4).grown hg5 (fun e => row_ne hxm.sq.row (hV2.out.below_ hw4) (by decide) e.symm)).other (p := ⟨bx, 0, none⟩) (fun e => by have := hxm.hbx; have := hX.out; simp only at e; omega) (.slice A5 (xs.length + 1) c5))
            refine wpOp_of (o := { dst := none, op := .store 43 (.tmp 13) (.tmp 107), type := 0, pos := "runs.go:73", after := _, guard := none }) rfl rfl ?_
            have c1 := hv6.cell; have c2 := hv6.free
            refine wp_skip_ (w' := w6.setCell ⟨bx, 0, none⟩ (.slice A5 (xs.length + 1) c5)) ?_ ?_
            · simp only [execOp, Act.eval, e13, e107]; go_simp
            clear c1 c2 hv6 hxm hown5 hg5 hw4 e13 e107 hR2 hK2 hV2
            generalize w6.setCell ⟨bx, 0, none⟩ (.slice A5 (xs.length + 1) c5) = W3 at *
            simp only [Act.put]
            rw [hae]
            clear hae
            simp only [List.foldl_cons, List.foldl_nil]
            generalize vs 90 = v90
            generalize vs 91 = v91
            generalize vs 92 = v92
            generalize vs 93 = v93
            generalize vs 94 = v94
            generalize vs 95 = v95
            generalize vs 96 = v96
            generalize vs 97 = v97
            generalize vs 98 = v98
            generalize vs 99 = v99
            generalize vs 100 = v100
            generalize vs 101 = v101
            generalize vs 102 = v102
            generalize vs 103 = v103
            generalize vs 104 = v104
            generalize vs 105 = v105
            generalize vs 106 = v106
            subst ha
            simp only [Act.put, List.setIfInBounds_toArray, List.set_cons_zero, List.set_cons_succ]
            clear hF hn1 hn2 hT hds hsz k13 k6 k17 k8 k15 k3 w1 w2 w3 hat hsd h6
            have hq0 : Hid ((xs ++ [(⟨none, 0, ⟨[], lp, sv, 0⟩⟩ : QV)])[xs.length]? = some ⟨none, 0, ⟨[], lp, sv, 0⟩⟩) := hide (by simp)
            have hxx : Hid ((s.goes p).getD s.out.length = xs.length) := hide (by rw [hgp.out, ← hxs.out, List.length_map]; rfl)
            have hyo : Hid ((xs ++ [(⟨none, 0, ⟨[], lp, sv, 0⟩⟩ : QV)]).map QV.q = if (s.goes p).isSome then s.out else s.out ++ [newR lv kp base ca p]) := hide (by rw [hgp.out, hnr.out, List.map_append, hxs.out]; rfl)
            rw [show xs.length + 1 = (xs ++ [(⟨none, 0, ⟨[], lp, sv, 0⟩⟩ : QV)]).length by simp] at hR3 ⊢
            have hyl : (xs ++ [(⟨none, 0, ⟨[], lp, sv, 0⟩⟩ : QV)]).length ≤ 1000001 := by rw [List.length_append, List.length_singleton]; omega
            have hqb : (0 : Int) ≤ lp ∧ lp ≤ 125 := hlpb
            replace hql : Hid (∀ y ∈ xs ++ [(⟨none, 0, ⟨[], lp, sv, 0⟩⟩ : QV)], y.q.ps.length ≤ 1000000) := hide (by
              intro y hy
              rcases List.mem_append.1 hy with h | h
              · exact hql.out y h
              · rw [List.mem_singleton.1 h]; exact Nat.zero_le _)
            clear hxs hnr hxl hgp hlpb hqv hatb hlp
            generalize xs ++ [(⟨none, 0, ⟨[], lp, sv, 0⟩⟩ : QV)] = ys at *
            generalize xs.length = x at *
            obtain ⟨qA, hqA⟩ : ∃ qA : Option Addr, none = qA := ⟨_, rfl⟩
            obtain ⟨qc, hqc⟩ : ∃ qc : Nat, 0 = qc := ⟨_, rfl⟩
            obtain ⟨qps, hqps⟩ : ∃ qps : List Int, [] = qps := ⟨_, rfl⟩
            obtain ⟨qen, hqen⟩ : ∃ qen : Int, 0 = qen := ⟨_, rfl⟩
            have hq0' : Hid (ys[x]? = some ⟨qA, qc, ⟨qps, lp, sv, qen⟩⟩) := hide (by rw [← hqA, ← hqc, ← hqps, ← hqen]; exact hq0.out)
            clear hq0 hqA hqc hqps hqen
            obtain ⟨ob, cap, hve, hob1, hob2, hxl, cP, cL, cS, cE, hfz⟩ := hR3.out.sq.at_ hq0'.out
            injection hve with hv1 _ hv3
            subst hv1
            subst hv3
            have g1x := hR3.out.var.cell
            have g2x := hV3.out.cell
            have w1 : (x : Int) < (ys.length : Int) := by omega
            have w2 : (0 : Int) ≤ (x : Int) := by omega
            clear cP cL cS cE hfz
            gi_wp2_with fail
            clear g1x g2x
            have hcc : m ≤ cc := own_cap hB.out.own2
            have f1 : ∀ y : BW W3, y.world.cell? ⟨ob, x * 4, none⟩ = some (.slice qA qps.length qc) := fun y => by
              obtain ⟨ob_, cap_, hve, _, _, _, cP, _⟩ := (hR3.out.below y.below).sq.at_ hq0'.out
              injection hve with hv1 _ _
              injection hv1 with hv1
              injection hv1 with hv1
              rw [hv1, Nat.mul_comm]; exact cP
            have f2 : ∀ y : BW W3, y.world.cell? ⟨br, 1, none⟩ = some (.slice (some ⟨b2, o2, none⟩) m cc) := fun y => (hB.out.at_ (hR3.out.below y.below)).r1
            have w3 : (ca : Int) ≤ (cb : Int) := by omega
            have w4 : (cb : Int) ≤ (cc : Int) := by omega
            have w5 : (0 : Int) ≤ (ca : Int) := by omega
            have w6 : ¬ ca = cc := by omega
            have w7 : ca ≤ cb := by omega
            have w8 : cb ≤ cc := by omega
            refine wpIn_region_round (l := some r) (by kernel_rfl) (by kernel_rfl) ?_
            refine wpAny_take (i := 0) (oi := { dst := some 112, op := .move (.tmp 21), type := 98, pos := "runs.go:76", after := #[], guard := none }) (v := .pointer (some ⟨ob, x * 4, none⟩)) rfl (by kernel_rfl) (by kernel_rfl) (by kernel_rfl) (fun _ _ _ h => h) (Or.inl ⟨by rfl, ?_⟩) ?_
            · intro w
              go_simp
            refine wpAny_quiet_tail1 (C := fun w' => ∃ x : BW W3, w' = x.world) 10 (by kernel_rfl) ⟨⟨_, (Below.refl _ _).drew⟩, rfl⟩ ?_
            simp only [List.take_succ_cons, List.take_zero, List.drop_succ_cons, List.drop_zero, Act.put, List.setIfInBounds_toArray, List.set_cons_succ, List.set_cons_zero]
            repeat (go_big_quiet_step (fail))
            refine wpQuiet_nil ?_
            rintro _ ⟨y, rfl⟩
            clear f1 f2 w3 w4 w5 w6 w7 w8
            have hR4 := hide (hR3.out.below y.below)
            have hV4 := hide (hV3.out.below_ y.below)
            have hK4 := hide (hK3.out.trans (KeepsFrom.of_below y.below))
            clear hR3 hV3 hK3
            generalize y.world = W4 at *
            have hrp : Rd .i64 W4 (some ⟨b2, o2 + ca, none⟩) (cb - ca) ((kp.take cb).drop ca) := rd_part (hB.out.at_ hR4.out).rd2 (by omega) ha2
            have hqo := hR4.out.sq.own x _ hq0'.out
            have hpl : ((kp.take cb).drop ca).length = cb - ca := hrp.len
            have hpn : qps.length ≤ 1000000 := by
              have h1 := hql.out _ (List.mem_of_getElem? hq0'.out)
              exact h1
            have hsz4 := hR4.out.size
            have hc4 : W4.cell? ⟨ob, x * 4, none⟩ = some (.slice qA qps.length qc) ∧ W4.frozen? ⟨ob, x * 4, none⟩ = false := by
              obtain ⟨ob_, cap_, hve, _, _, _, cP, _, _, _, hfz⟩ := hR4.out.sq.at_ hq0'.out
              injection hve with hv1 _ _
              injection hv1 with hv1
              injection hv1 with hv1
              rw [hv1, Nat.mul_comm]; exact ⟨cP, hfz _⟩
            have hc4 := hide hc4
            go_wp2_with (at_builtin; refine wpList_app elt64 rfl (.tmp 116) (.tmp 121) rfl rfl rfl hqo hrp (by omega) hsz4 ?_; intro A6 c6 W6 hown6 hgr6 hat6; have hc6 := ((hR4.out.sq.ob_kept hq0'.out hgr6 (x * 4)).1.trans hc4.out.1); have hf6 := ((hR4.out.sq.ob_kept hq0'.out hgr6 (x * 4)).2.trans hc4.out.2); have hR6 := hide (hR4.out.more hq0'.out hpl hown6 hgr6 hat6); have hK6 := hide (hK4.out.trans ((KeepsOthers.of_grownBy hgr6 (own_cells hqo.1)).from W0.heap.size)); have hV6 := hide (hV4.out.grown hgr6 (fun e => hqo.ne_ hV4.out (by decide) e.symm)); clear hown6 hgr6 hat6)
            rw [Nat.mul_comm 4 x] at hR6
            have hV7 := hide (hV6.out.other (p := ⟨ob, x * 4, none⟩) (fun e => by
              have h1 := hV4.out
              obtain ⟨c, hc⟩ := own_kind hR4.out.sq.row ob rfl
              unfold Var at h1
              simp only at e
              rw [e, hc] at h1
              injection h1 with h1
              injection h1 with _ h2
              exact absurd h2 (by decide)) (.slice A6 (qps.length + (cb - ca)) c6))
            have hK7 := hide (hK6.out.trans ((KeepsOthers.setCell W6 ⟨ob, x * 4, none⟩ (.slice A6 (qps.length + (cb - ca)) c6)).from W0.heap.size))
            have hq7 : Hid ((ys.set x ⟨A6, c6, ⟨qps ++ (kp.take cb).drop ca, lp, sv, qen⟩⟩)[x]? = some ⟨A6, c6, ⟨qps ++ (kp.take cb).drop ca, lp, sv, qen⟩⟩) := hide (by rw [List.getElem?_set, if_pos rfl, if_pos hxl])
            have hys7 := hide (show (ys.set x (⟨A6, c6, ⟨qps ++ (kp.take cb).drop ca, lp, sv, qen⟩⟩ : QV)).map QV.q = (ys.map QV.q).set x ⟨qps ++ (kp.take cb).drop ca, lp, sv, qen⟩ by rw [List.map_set])
            have hl7 : (ys.set x (⟨A6, c6, ⟨qps ++ (kp.take cb).drop ca, lp, sv, qen⟩⟩ : QV)).length = ys.length := List.length_set
            have hl7 := hide hl7
            clear hc6 hf6 hV6 hK6 hqo hrp hpl hc4 hsz4 hR4 hV4 hK4
            generalize ys.set x (⟨A6, c6, ⟨qps ++ (kp.take cb).drop ca, lp, sv, qen⟩⟩ : QV) = y7 at *
            generalize W6.setCell ⟨ob, x * 4, none⟩ (.slice A6 (qps.length + (cb - ca)) c6) = W7 at *


            have hat := hide (fun y : BW W7 => at_any (some ⟨g1, 0, none⟩) (some ⟨b2, o2, none⟩) k m c1 cc lv kp (cb : Int) base y.world (hB.out.at_ (hR6.out.below y.below)).rd1 (hB.out.at_ (hR6.out.below y.below)).rd2 hkm (by omega))
            have hatb := atS_bd (kp := kp) (n := (cb : Int)) hlvb.out hb0
            obtain ⟨atw, hatw⟩ : ∃ v, atS lv kp base (cb : Int) = v := ⟨_, rfl⟩
            rw [hatw] at hat hatb
            have hatw := hide hatw
            have hsd := hide (fun y : BW W7 => side_any lp atw y.world ⟨hqb.1, by omega⟩ hatb)
            obtain ⟨sw, hsw⟩ : ∃ v, sideS lp atw = v := ⟨_, rfl⟩
            rw [hsw] at hsd
            have hsw := hide hsw
            have h0 : ∀ y : BW W7, y.world.cell? ⟨ob, x * 4 + 1, none⟩ = some (.int .u8 lp) ∧ y.world.cell? ⟨ob, x * 4 + 3, none⟩ = some (.int .u8 qen) ∧ y.world.frozen? ⟨ob, x * 4 + 3, none⟩ = false := fun y => by
              obtain ⟨ob_, cap_, hve, _, _, _, cP, cL, cS, cE, hfz⟩ := (hR6.out.below y.below).sq.at_ hq7.out
              injection hve with hv1 _ _
              injection hv1 with hv1
              injection hv1 with hv1
              rw [hv1, Nat.mul_comm]; exact ⟨cL, cE, hfz _⟩
            have h1 : ∀ y : BW W7, y.world.cell? ⟨ob, x * 4 + 1, none⟩ = some (.int .u8 lp) := fun y => (h0 y).1
            have h0 := hide h0
            have h2 : ∀ y : BW W7, y.world.cell? ⟨br, 0, none⟩ = some (.slice (some ⟨g1, 0, none⟩) k c1) := fun y => (hB.out.at_ (hR6.out.below y.below)).r0
            have h3 : ∀ y : BW W7, y.world.cell? ⟨br, 1, none⟩ = some (.slice (some ⟨b2, o2, none⟩) m cc) := fun y => (hB.out.at_ (hR6.out.below y.below)).r1
            have h4 : ∀ y : BW W7, y.world.cell? ⟨w.heap.size, 0, none⟩ = some (.int .u8 base) := fun y => (hB.out.at_ (hR6.out.below y.below)).b
            gi_wp2_with fail
            refine wpIn_tail_round 12 (by kernel_rfl) (by kernel_rfl) (by kernel_rfl) ?_
            simp only [List.take_succ_cons, List.take_zero, List.drop_succ_cons, List.drop_zero]
            repeat (go_big_quiet_step ((first | (go_at_call 53; exact Calls.below_of (hat.out _)) | (go_at_call 52; exact Calls.below_same (hsd.out _)))))
            refine wpQuiet_nil ?_
            rintro _ ⟨y, rfl⟩
            clear h1 h2 h3 h4 hat hsd
            obtain ⟨_, e1, e2⟩ := h0.out y
            clear h0
            have hR8 := hR6.out.below y.below
            have hR9 := hide (hR8.setEn hq7.out sw)
            have hK9 := hide ((hK7.out.trans (KeepsFrom.of_below y.below)).trans ((KeepsOthers.setCell y.world ⟨ob, x * 4 + 3, none⟩ (.int .u8 sw)).from W0.heap.size))
            have hV9 := hide ((hV7.out.below_ y.below).other (p := ⟨ob, x * 4 + 3, none⟩) (fun e => by
              have h1 := hV7.out.below_ y.below
              obtain ⟨c, hc⟩ := own_kind hR8.sq.row ob rfl
              unfold Var at h1
              simp only at e
              rw [e, hc] at h1
              injection h1 with h1
              injection h1 with _ h2
              exact absurd h2 (by decide)) (.int .u8 sw))
            rw [Nat.mul_comm 4 x] at hR9
            have hx7 : x < y7.length := by rw [hl7.out]; exact hxl
            have hq9 : Hid ((y7.set x ⟨A6, c6, ⟨qps ++ (kp.take cb).drop ca, lp, sv, sw⟩⟩)[x]? = some ⟨A6, c6, ⟨qps ++ (kp.take cb).drop ca, lp, sv, sw⟩⟩) := hide (by rw [List.getElem?_set, if_pos rfl, if_pos hx7])
            have hys9 : Hid ((y7.set x (⟨A6, c6, ⟨qps ++ (kp.take cb).drop ca, lp, sv, sw⟩⟩ : QV)).map QV.q = (ys.map QV.q).set x ⟨qps ++ (kp.take cb).drop ca, lp, sv, sw⟩) := hide (by rw [List.map_set, hys7.out, List.set_set])
            have hx9 : x < (y7.set x (⟨A6, c6, ⟨qps ++ (kp.take cb).drop ca, lp, sv, sw⟩⟩ : QV)).length := by rw [List.length_set]; exact hx7
            obtain ⟨oq, hoq, hcoq⟩ := (hB.out.at_ hR8).rd3.cell (show q < k by omega)
            go_wp2_with fail
            clear e1 e2 hR8 hK7 hV7 hR6 hcoq
            generalize y7.set x (⟨A6, c6, ⟨qps ++ (kp.take cb).drop ca, lp, sv, sw⟩⟩ : QV) = y9 at *
            generalize y.world.setCell ⟨ob, x * 4 + 3, none⟩ (.int .u8 sw) = W9 at *
            have hcoq : W9.cell? ⟨ba, q, none⟩ = some (.int .u8 oq) := by
              obtain ⟨z, hz, hc⟩ := (hB.out.at_ hR9.out).rd3.cell (show q < k by omega)
              have := hz.out
              rw [hoq.out] at this
              injection this with this
              rw [Nat.zero_add] at hc
              rw [hc, this]
            have hbo := (hB.out.at_ hR9.out).o
            have w1' : (q : Int) < (k : Int) := by omega
            have w2' : (0 : Int) ≤ (q : Int) := by omega
            gi_wp2_with fail
            refine ⟨trivial, (CallsIn.inRound r (callsIn_wide.2 (op54 oq W9))).mono ?_⟩
            rintro e w10 ⟨rfl, rfl⟩
            clear hcoq hbo w1' w2'
            have hsq := hide (show (sqSt lv kp zs mz base (j + 1)) = ⟨(ys.map QV.q).set x (onR ⟨qps, lp, sv, qen⟩ ((kp.take cb).drop ca) (sideS lp (if opS oq then base else atS lv kp base (cb : Int)))), if opS oq then (fun i => if i = (mz.getD q 0).toNat then some x else s.goes i) else s.goes⟩ from by
              show stepQ lv kp zs mz base (sqSt lv kp zs mz base j) (cut (lvAt lv kp) kp.length j) (cut (lvAt lv kp) kp.length (j + 1)) = _
              rw [hs.out, hkl.out, hca.out, hcb.out]
              exact stepQ_eq (Y := ys.map QV.q) hp.out hq.out hxx.out hyo.out (q0 := ⟨qps, lp, sv, qen⟩) (by rw [List.getElem?_map, hq0'.out]; rfl) hoq.out)
            cases hop : opS oq with
            | false =>
              have hop := hide hop
              gi_wp2_with fail
              refine ⟨hK9.out, .slice (some ⟨ob, 0, none⟩) y9.length c5, y9, ?_, ?_⟩
              · rw [hsq.out]
                simp only [hop.out]
                exact hR9.out.more_k (Nat.le_succ j)
              · rw [hsq.out, hys9.out]
                simp only [hop.out, onR, Bool.false_eq_true, if_false]
                rw [hatw.out, hsw.out]
            | true =>
              obtain ⟨mi, hm1, hm2, hm3⟩ := hopm.out q oq hoq.out hop
              have hm1 := hide hm1
              have hop := hide hop
              have hsd := hide (fun y : BW W9 => side_any lp base y.world ⟨hqb.1, by omega⟩ ⟨by omega, by omega⟩)
              obtain ⟨sb, hsb⟩ : ∃ v, sideS lp base = v := ⟨_, rfl⟩
              rw [hsb] at hsd
              have hsb := hide hsb
              have h0 : ∀ y : BW W9, y.world.cell? ⟨ob, x * 4 + 1, none⟩ = some (.int .u8 lp) ∧ y.world.cell? ⟨ob, x * 4 + 3, none⟩ = some (.int .u8 sw) ∧ y.world.frozen? ⟨ob, x * 4 + 3, none⟩ = false := fun y => by
                obtain ⟨ob_, cap_, hve, _, _, _, cP, cL, cS, cE, hfz⟩ := (hR9.out.below y.below).sq.at_ hq9.out
                injection hve with hv1 _ _
                injection hv1 with hv1
                injection hv1 with hv1
                rw [hv1, Nat.mul_comm]; exact ⟨cL, cE, hfz _⟩
              have h1 : ∀ y : BW W9, y.world.cell? ⟨ob, x * 4 + 1, none⟩ = some (.int .u8 lp) := fun y => (h0 y).1
              have h0 := hide h0
              have h4 : ∀ y : BW W9, y.world.cell? ⟨w.heap.size, 0, none⟩ = some (.int .u8 base) := fun y => (hB.out.at_ (hR9.out.below y.below)).b
              gi_wp2_with fail
              refine wpIn_tail_round 9 (by kernel_rfl) (by kernel_rfl) (by kernel_rfl) ?_
              simp only [List.take_succ_cons, List.take_zero, List.drop_succ_cons, List.drop_zero]
              repeat (go_big_quiet_step ((go_at_call 52; exact Calls.below_same (hsd.out _))))
              refine wpQuiet_nil ?_
              rintro _ ⟨y, rfl⟩
              clear h1 h4 hsd
              obtain ⟨_, e1, e2⟩ := h0.out y
              clear h0
              have hR10 := hR9.out.below y.below
              have hRb := hide (hR10.setEn hq9.out sb)
              have hKb := hide ((hK9.out.trans (KeepsFrom.of_below y.below)).trans ((KeepsOthers.setCell y.world ⟨ob, x * 4 + 3, none⟩ (.int .u8 sb)).from W0.heap.size))
              have hVb := hide ((hV9.out.below_ y.below).other (p := ⟨ob, x * 4 + 3, none⟩) (fun e => by
                have h1 := hV9.out.below_ y.below
                obtain ⟨c, hc⟩ := own_kind hR10.sq.row ob rfl
                unfold Var at h1
                simp only at e
                rw [e, hc] at h1
                injection h1 with h1
                injection h1 with _ h2
                exact absurd h2 (by decide)) (.int .u8 sb))
              rw [Nat.mul_comm 4 x] at hRb
              have hysb : Hid ((y9.set x (⟨A6, c6, ⟨qps ++ (kp.take cb).drop ca, lp, sv, sb⟩⟩ : QV)).map QV.q = (ys.map QV.q).set x ⟨qps ++ (kp.take cb).drop ca, lp, sv, sb⟩) := hide (by rw [List.map_set, hys9.out, List.set_set])
              go_wp2_with fail
              clear e1 e2 hR10 hK9 hV9 hR9
              generalize y9.set x (⟨A6, c6, ⟨qps ++ (kp.take cb).drop ca, lp, sv, sb⟩⟩ : QV) = yb at *
              generalize y.world.setCell ⟨ob, x * 4 + 3, none⟩ (.int .u8 sb) = Wb at *
              obtain ⟨b4, o4, mm, rfl, hb4, hmm4, hcm⟩ := (hB.out.at_ hRb.out).rd4.at_ (show q < k by omega)
              have f1 : ∀ y : BW Wb, y.world.cell? ⟨bg, 0, none⟩ = some (.map (some mb)) := fun y => (hB.out.at_ (hRb.out.below y.below)).g
              have f2 : ∀ y : BW Wb, y.world.cell? ⟨bm, 0, none⟩ = some (.slice (some ⟨b4, o4, none⟩) k c4) := fun y => (hB.out.at_ (hRb.out.below y.below)).m_
              have f3 : ∀ y : BW Wb, y.world.cell? ⟨b4, o4 + q, none⟩ = some (.int .i64 (mi : Nat)) := fun y => by
                obtain ⟨z, hz, hc⟩ := (hB.out.at_ (hRb.out.below y.below)).rd4.cell (show q < k by omega)
                have := hz.out
                rw [hm1.out] at this
                injection this with this
                rw [hc, this]
              have f4 : ∀ y : BW Wb, y.world.cell? ⟨X, 0, none⟩ = some (.int .i64 (x : Nat)) := fun y => (hVb.out.below_ y.below).cell
              have w1' : (q : Int) < (k : Int) := by omega
              have w2' : (0 : Int) ≤ (q : Int) := by omega
              clear hcm
              refine wpIn_tail_end 6 (by kernel_rfl) (by kernel_rfl) (by kernel_rfl) ?_
              simp only [List.take_succ_cons, List.take_zero, List.drop_succ_cons, List.drop_zero]
              repeat (go_big_quiet_step (fail))
              refine wpQuiet_nil ?_
              rintro _ ⟨y, rfl⟩
              clear f1 f2 f3 f4 w1' w2'
              have hRy := hRb.out.below y.below
              obtain ⟨D, hmp, hG⟩ := hRy.mp
              have hG := hide hG
              have hRy := hide hRy
              have hKy := hide (hKb.out.trans (KeepsFrom.of_below y.below))
              have hgm : Hid (mz.getD q 0 = (mi : Int)) := hide (getD_of' hm1.out)
              go_wp2_with (at_mapUpdate; refine wpList_mapUpdate_own _ rfl _ _ _ 89 rfl 3 94 key3 Try.underlying89 RO mb j D rfl hmp (by simp only [maxLen]; omega) _ _ _ rfl rfl (keyOf3 mi (by omega)) (.lit (.int .i64 (x : Nat))) [] rfl ?_; intro w11 hown11 hgr11)
              refine ⟨hKy.out.trans (KeepsFrom.of_grownBy hgr11 (fun i e => by cases e; exact hRy.out.hmb)), .slice (some ⟨ob, 0, none⟩) yb.length c5, yb, ?_, ?_⟩
              · rw [hsq.out]
                simp only [hop.out, if_true]
                rw [hgm.out, Int.toNat_natCast]
                exact hRy.out.map_ hown11 hgr11 (hG.out.put hmp.isMap mi x (by omega))
              · rw [hsq.out, hysb.out]
                simp only [hop.out, onR, if_true]
                rw [hsb.out]
          · exact fun o ho => by
              have ho2 := ho; simp only [List.getElem?_toArray, List.getElem?_cons_succ, List.getElem?_cons_zero, Option.some.injEq] at ho2; subst ho2
              exact ⟨⟨17, .data⟩, by simp, rfl, rfl⟩
          · intro i op ho
            as_aux_lemma =>
              have hi : i < 19 := by
                rcases Nat.lt_or_ge i 19 with h | h
                · exact h
                · rw [Array.getElem?_eq_none (by simpa using h)] at ho; cases ho
              rcases (show i = 0 ∨ i = 1 ∨ i = 2 ∨ i = 3 ∨ i = 4 ∨ i = 5 ∨ i = 6 ∨ i = 7 ∨ i = 8 ∨ i = 9 ∨ i = 10 ∨ i = 11 ∨ i = 12 ∨ i = 13 ∨ i = 14 ∨ i = 15 ∨ i = 16 ∨ i = 17 ∨ i = 18 by omega) with rfl | rfl | rfl | rfl | rfl | rfl | rfl | rfl | rfl | rfl | rfl | rfl | rfl | rfl | rfl | rfl | rfl | rfl | rfl
              all_goals (simp only [List.getElem?_toArray, List.getElem?_cons_succ, List.getElem?_cons_zero, Option.some.injEq] at ho; subst ho; simp)
        | some x0 =>
          rw [hgp] at hlook
          simp only [Option.getD_some, Option.isSome_some] at hlook
          have hgp := hide hgp
          have hx0 : x0 < xs.length := by
            have h1 := sqSt_goes lv kp zs mz base j p x0 (by rw [hs.out]; exact hgp.out)
            rw [hs.out, ← hxs.out, List.length_map] at h1
            exact h1
          obtain ⟨⟨qA, qc, ⟨qps, lp, sv, qen⟩⟩, hq0⟩ : ∃ qv, xs[x0]? = some qv := ⟨_, List.getElem?_eq_getElem hx0⟩
          have hq0' := hide hq0
          have hqb : (0 : Int) ≤ lp ∧ lp ≤ 125 := hqv.out _ (List.mem_of_getElem? hq0)
          clear hq0
          have hxx : Hid ((s.goes p).getD s.out.length = x0) := hide (by rw [hgp.out]; rfl)
          have hyo : Hid (xs.map QV.q = if (s.goes p).isSome then s.out else s.out ++ [newR lv kp base ca p]) := hide (by rw [hgp.out]; exact hxs.out)
          obtain ⟨ob, cap, hve, hob1, hob2, hxl, cP, cL, cS, cE, hfz⟩ := hR1.out.sq.at_ hq0'.out
          injection hve with hv1 _ hv3
          subst hv1
          subst hv3
          clear cP cL cS cE hfz hxs hqv
          have hcx : ∀ o, (W1.alloc o).cell? ⟨bx, 0, none⟩ = some (.slice (some ⟨ob, 0, none⟩) xs.length cv) := fun o => (hR1.out.alloc o).var.cell
          have w1 : (x0 : Int) < (xs.length : Int) := by omega
          have w2 : (0 : Int) ≤ (x0 : Int) := by omega
          have hyl : xs.length ≤ 1000001 := by omega
          gi_wp2_with fail
          clear hlook hcg hcx
          have hR3 := hide (hR1.out.alloc (.cells #[.int .i64 (x0 : Nat)] 94))
          have hV3 := hide (Var.new W1 94 (.int .i64 (x0 : Nat)))
          have hK3 := hide (hK1.out.trans ((KeepsOthers.alloc W1 (.cells #[.int .i64 (x0 : Nat)] 94)).from W0.heap.size))
          clear hK1 hR1
          generalize W1.alloc (.cells #[.int .i64 (x0 : Nat)] 94) = W3 at *
          have hX := hide hszW
          generalize W1.heap.size = X at *
          clear hszW hx0
          obtain ⟨ys, rfl⟩ : ∃ ys, ys = xs := ⟨_, rfl⟩
          obtain ⟨x, rfl⟩ : ∃ x, x = x0 := ⟨_, rfl⟩
          obtain ⟨c5, rfl⟩ : ∃ c5, c5 = cv := ⟨_, rfl⟩
          have hcc : m ≤ cc := own_cap hB.out.own2
          have f1 : ∀ y : BW W3, y.world.cell? ⟨ob, x * 4, none⟩ = some (.slice qA qps.length qc) := fun y => by
            obtain ⟨ob_, cap_, hve, _, _, _, cP, _⟩ := (hR3.out.below y.below).sq.at_ hq0'.out
            injection hve with hv1 _ _
            injection hv1 with hv1
            injection hv1 with hv1
            rw [hv1, Nat.mul_comm]; exact cP
          have f2 : ∀ y : BW W3, y.world.cell? ⟨br, 1, none⟩ = some (.slice (some ⟨b2, o2, none⟩) m cc) := fun y => (hB.out.at_ (hR3.out.below y.below)).r1
          have w3 : (ca : Int) ≤ (cb : Int) := by omega
          have w4 : (cb : Int) ≤ (cc : Int) := by omega
          have w5 : (0 : Int) ≤ (ca : Int) := by omega
          have w6 : ¬ ca = cc := by omega
          have w7 : ca ≤ cb := by omega
          have w8 : cb ≤ cc := by omega
          refine wpIn_region_round (l := some r) (by kernel_rfl) (by kernel_rfl) ?_
          refine wpAny_take (i := 0) (oi := { dst := some 112, op := .move (.tmp 21), type := 98, pos := "runs.go:76", after := #[], guard := none }) (v := .pointer (some ⟨ob, x * 4, none⟩)) rfl (by kernel_rfl) (by kernel_rfl) (by kernel_rfl) (fun _ _ _ h => h) (Or.inl ⟨by rfl, ?_⟩) ?_
          · intro w
            go_simp
          refine wpAny_quiet_tail1 (C := fun w' => ∃ x : BW W3, w' = x.world) 10 (by kernel_rfl) ⟨⟨_, (Below.refl _ _).drew⟩, rfl⟩ ?_
          simp only [List.take_succ_cons, List.take_zero, List.drop_succ_cons, List.drop_zero, Act.put, List.setIfInBounds_toArray, List.set_cons_succ, List.set_cons_zero]
          repeat (go_big_quiet_step (fail))
          refine wpQuiet_nil ?_
          rintro _ ⟨y, rfl⟩
          clear f1 f2 w3 w4 w5 w6 w7 w8
          have hR4 := hide (hR3.out.below y.below)
          have hV4 := hide (hV3.out.below_ y.below)
          have hK4 := hide (hK3.out.trans (KeepsFrom.of_below y.below))
          clear hR3 hV3 hK3
          generalize y.world = W4 at *
          have hrp : Rd .i64 W4 (some ⟨b2, o2 + ca, none⟩) (cb - ca) ((kp.take cb).drop ca) := rd_part (hB.out.at_ hR4.out).rd2 (by omega) ha2
          have hqo := hR4.out.sq.own x _ hq0'.out
          have hpl : ((kp.take cb).drop ca).length = cb - ca := hrp.len
          have hpn : qps.length ≤ 1000000 := by
            have h1 := hql.out _ (List.mem_of_getElem? hq0'.out)
            exact h1
          have hsz4 := hR4.out.size
          have hc4 : W4.cell? ⟨ob, x * 4, none⟩ = some (.slice qA qps.length qc) ∧ W4.frozen? ⟨ob, x * 4, none⟩ = false := by
            obtain ⟨ob_, cap_, hve, _, _, _, cP, _, _, _, hfz⟩ := hR4.out.sq.at_ hq0'.out
            injection hve with hv1 _ _
            injection hv1 with hv1
            injection hv1 with hv1
            rw [hv1, Nat.mul_comm]; exact ⟨cP, hfz _⟩
          have hc4 := hide hc4
          go_wp2_with (at_builtin; refine wpList_app elt64 rfl (.tmp 116) (.tmp 121) rfl rfl rfl hqo hrp (by omega) hsz4 ?_; intro A6 c6 W6 hown6 hgr6 hat6; have hc6 := ((hR4.out.sq.ob_kept hq0'.out hgr6 (x * 4)).1.trans hc4.out.1); have hf6 := ((hR4.out.sq.ob_kept hq0'.out hgr6 (x * 4)).2.trans hc4.out.2); have hR6 := hide (hR4.out.more hq0'.out hpl hown6 hgr6 hat6); have hK6 := hide (hK4.out.trans ((KeepsOthers.of_grownBy hgr6 (own_cells hqo.1)).from W0.heap.size)); have hV6 := hide (hV4.out.grown hgr6 (fun e => hqo.ne_ hV4.out (by decide) e.symm)); clear hown6 hgr6 hat6)
          rw [Nat.mul_comm 4 x] at hR6
          have hV7 := hide (hV6.out.other (p := ⟨ob, x * 4, none⟩) (fun e => by
            have h1 := hV4.out
            obtain ⟨c, hc⟩ := own_kind hR4.out.sq.row ob rfl
            unfold Var at h1
            simp only at e
            rw [e, hc] at h1
            injection h1 with h1
            injection h1 with _ h2
            exact absurd h2 (by decide)) (.slice A6 (qps.length + (cb - ca)) c6))
          have hK7 := hide (hK6.out.trans ((KeepsOthers.setCell W6 ⟨ob, x * 4, none⟩ (.slice A6 (qps.length + (cb - ca)) c6)).from W0.heap.size))
          have hq7 : Hid ((ys.set x ⟨A6, c6, ⟨qps ++ (kp.take cb).drop ca, lp, sv, qen⟩⟩)[x]? = some ⟨A6, c6, ⟨qps ++ (kp.take cb).drop ca, lp, sv, qen⟩⟩) := hide (by rw [List.getElem?_set, if_pos rfl, if_pos hxl])
          have hys7 := hide (show (ys.set x (⟨A6, c6, ⟨qps ++ (kp.take cb).drop ca, lp, sv, qen⟩⟩ : QV)).map QV.q = (ys.map QV.q).set x ⟨qps ++ (kp.take cb).drop ca, lp, sv, qen⟩ by rw [List.map_set])
          have hl7 : (ys.set x (⟨A6, c6, ⟨qps ++ (kp.take cb).drop ca, lp, sv, qen⟩⟩ : QV)).length = ys.length := List.length_set
          have hl7 := hide hl7
          clear hc6 hf6 hV6 hK6 hqo hrp hpl hc4 hsz4 hR4 hV4 hK4
          generalize ys.set x (⟨A6, c6, ⟨qps ++ (kp.take cb).drop ca, lp, sv, qen⟩⟩ : QV) = y7 at *
          generalize W6.setCell ⟨ob, x * 4, none⟩ (.slice A6 (qps.length + (cb - ca)) c6) = W7 at *


          have hat := hide (fun y : BW W7 => at_any (some ⟨g1, 0, none⟩) (some ⟨b2, o2, none⟩) k m c1 cc lv kp (cb : Int) base y.world (hB.out.at_ (hR6.out.below y.below)).rd1 (hB.out.at_ (hR6.out.below y.below)).rd2 hkm (by omega))
          have hatb := atS_bd (kp := kp) (n := (cb : Int)) hlvb.out hb0
          obtain ⟨atw, hatw⟩ : ∃ v, atS lv kp base (cb : Int) = v := ⟨_, rfl⟩
          rw [hatw] at hat hatb
          have hatw := hide hatw
          have hsd := hide (fun y : BW W7 => side_any lp atw y.world ⟨hqb.1, by omega⟩ hatb)
          obtain ⟨sw, hsw⟩ : ∃ v, sideS lp atw = v := ⟨_, rfl⟩
          rw [hsw] at hsd
          have hsw := hide hsw
          have h0 : ∀ y : BW W7, y.world.cell? ⟨ob, x * 4 + 1, none⟩ = some (.int .u8 lp) ∧ y.world.cell? ⟨ob, x * 4 + 3, none⟩ = some (.int .u8 qen) ∧ y.world.frozen? ⟨ob, x * 4 + 3, none⟩ = false := fun y => by
            obtain ⟨ob_, cap_, hve, _, _, _, cP, cL, cS, cE, hfz⟩ := (hR6.out.below y.below).sq.at_ hq7.out
            injection hve with hv1 _ _
            injection hv1 with hv1
            injection hv1 with hv1
            rw [hv1, Nat.mul_comm]; exact ⟨cL, cE, hfz _⟩
          have h1 : ∀ y : BW W7, y.world.cell? ⟨ob, x * 4 + 1, none⟩ = some (.int .u8 lp) := fun y => (h0 y).1
          have h0 := hide h0
          have h2 : ∀ y : BW W7, y.world.cell? ⟨br, 0, none⟩ = some (.slice (some ⟨g1, 0, none⟩) k c1) := fun y => (hB.out.at_ (hR6.out.below y.below)).r0
          have h3 : ∀ y : BW W7, y.world.cell? ⟨br, 1, none⟩ = some (.slice (some ⟨b2, o2, none⟩) m cc) := fun y => (hB.out.at_ (hR6.out.below y.below)).r1
          have h4 : ∀ y : BW W7, y.world.cell? ⟨w.heap.size, 0, none⟩ = some (.int .u8 base) := fun y => (hB.out.at_ (hR6.out.below y.below)).b
          gi_wp2_with fail
          refine wpIn_tail_round 12 (by kernel_rfl) (by kernel_rfl) (by kernel_rfl) ?_
          simp only [List.take_succ_cons, List.take_zero, List.drop_succ_cons, List.drop_zero]
          repeat (go_big_quiet_step ((first | (go_at_call 53; exact Calls.below_of (hat.out _)) | (go_at_call 52; exact Calls.below_same (hsd.out _)))))
          refine wpQuiet_nil ?_
          rintro _ ⟨y, rfl⟩
          clear h1 h2 h3 h4 hat hsd
          obtain ⟨_, e1, e2⟩ := h0.out y
          clear h0
          have hR8 := hR6.out.below y.below
          have hR9 := hide (hR8.setEn hq7.out sw)
          have hK9 := hide ((hK7.out.trans (KeepsFrom.of_below y.below)).trans ((KeepsOthers.setCell y.world ⟨ob, x * 4 + 3, none⟩ (.int .u8 sw)).from W0.heap.size))
          have hV9 := hide ((hV7.out.below_ y.below).other (p := ⟨ob, x * 4 + 3, none⟩) (fun e => by
            have h1 := hV7.out.below_ y.below
            obtain ⟨c, hc⟩ := own_kind hR8.sq.row ob rfl
            unfold Var at h1
            simp only at e
            rw [e, hc] at h1
            injection h1 with h1
            injection h1 with _ h2
            exact absurd h2 (by decide)) (.int .u8 sw))
          rw [Nat.mul_comm 4 x] at hR9
          have hx7 : x < y7.length := by rw [hl7.out]; exact hxl
          have hq9 : Hid ((y7.set x ⟨A6, c6, ⟨qps ++ (kp.take cb).drop ca, lp, sv, sw⟩⟩)[x]? = some ⟨A6, c6, ⟨qps ++ (kp.take cb).drop ca, lp, sv, sw⟩⟩) := hide (by rw [List.getElem?_set, if_pos rfl, if_pos hx7])
          have hys9 : Hid ((y7.set x (⟨A6, c6, ⟨qps ++ (kp.take cb).drop ca, lp, sv, sw⟩⟩ : QV)).map QV.q = (ys.map QV.q).set x ⟨qps ++ (kp.take cb).drop ca, lp, sv, sw⟩) := hide (by rw [List.map_set, hys7.out, List.set_set])
          have hx9 : x < (y7.set x (⟨A6, c6, ⟨qps ++ (kp.take cb).drop ca, lp, sv, sw⟩⟩ : QV)).length := by rw [List.length_set]; exact hx7
          obtain ⟨oq, hoq, hcoq⟩ := (hB.out.at_ hR8).rd3.cell (show q < k by omega)
          go_wp2_with fail
          clear e1 e2 hR8 hK7 hV7 hR6 hcoq
          generalize y7.set x (⟨A6, c6, ⟨qps ++ (kp.take cb).drop ca, lp, sv, sw⟩⟩ : QV) = y9 at *
          generalize y.world.setCell ⟨ob, x * 4 + 3, none⟩ (.int .u8 sw) = W9 at *
          have hcoq : W9.cell? ⟨ba, q, none⟩ = some (.int .u8 oq) := by
            obtain ⟨z, hz, hc⟩ := (hB.out.at_ hR9.out).rd3.cell (show q < k by omega)
            have := hz.out
            rw [hoq.out] at this
            injection this with this
            rw [Nat.zero_add] at hc
            rw [hc, this]
          have hbo := (hB.out.at_ hR9.out).o
          have w1' : (q : Int) < (k : Int) := by omega
          have w2' : (0 : Int) ≤ (q : Int) := by omega
          gi_wp2_with fail
          refine ⟨trivial, (CallsIn.inRound r (callsIn_wide.2 (op54 oq W9))).mono ?_⟩
          rintro e w10 ⟨rfl, rfl⟩
          clear hcoq hbo w1' w2'
          have hsq := hide (show (sqSt lv kp zs mz base (j + 1)) = ⟨(ys.map QV.q).set x (onR ⟨qps, lp, sv, qen⟩ ((kp.take cb).drop ca) (sideS lp (if opS oq then base else atS lv kp base (cb : Int)))), if opS oq then (fun i => if i = (mz.getD q 0).toNat then some x else s.goes i) else s.goes⟩ from by
            show stepQ lv kp zs mz base (sqSt lv kp zs mz base j) (cut (lvAt lv kp) kp.length j) (cut (lvAt lv kp) kp.length (j + 1)) = _
            rw [hs.out, hkl.out, hca.out, hcb.out]
            exact stepQ_eq (Y := ys.map QV.q) hp.out hq.out hxx.out hyo.out (q0 := ⟨qps, lp, sv, qen⟩) (by rw [List.getElem?_map, hq0'.out]; rfl) hoq.out)
          cases hop : opS oq with
          | false =>
            have hop := hide hop
            gi_wp2_with fail
            refine ⟨hK9.out, .slice (some ⟨ob, 0, none⟩) y9.length c5, y9, ?_, ?_⟩
            · rw [hsq.out]
              simp only [hop.out]
              exact hR9.out.more_k (Nat.le_succ j)
            · rw [hsq.out, hys9.out]
              simp only [hop.out, onR, Bool.false_eq_true, if_false]
              rw [hatw.out, hsw.out]
          | true =>
            obtain ⟨mi, hm1, hm2, hm3⟩ := hopm.out q oq hoq.out hop
            have hm1 := hide hm1
            have hop := hide hop
            have hsd := hide (fun y : BW W9 => side_any lp base y.world ⟨hqb.1, by omega⟩ ⟨by omega, by omega⟩)
            obtain ⟨sb, hsb⟩ : ∃ v, sideS lp base = v := ⟨_, rfl⟩
            rw [hsb] at hsd
            have hsb := hide hsb
            have h0 : ∀ y : BW W9, y.world.cell? ⟨ob, x * 4 + 1, none⟩ = some (.int .u8 lp) ∧ y.world.cell? ⟨ob, x * 4 + 3, none⟩ = some (.int .u8 sw) ∧ y.world.frozen? ⟨ob, x * 4 + 3, none⟩ = false := fun y => by
              obtain ⟨ob_, cap_, hve, _, _, _, cP, cL, cS, cE, hfz⟩ := (hR9.out.below y.below).sq.at_ hq9.out
              injection hve with hv1 _ _
              injection hv1 with hv1
              injection hv1 with hv1
              rw [hv1, Nat.mul_comm]; exact ⟨cL, cE, hfz _⟩
            have h1 : ∀ y : BW W9, y.world.cell? ⟨ob, x * 4 + 1, none⟩ = some (.int .u8 lp) := fun y => (h0 y).1
            have h0 := hide h0
            have h4 : ∀ y : BW W9, y.world.cell? ⟨w.heap.size, 0, none⟩ = some (.int .u8 base) := fun y => (hB.out.at_ (hR9.out.below y.below)).b
            gi_wp2_with fail
            refine wpIn_tail_round 9 (by kernel_rfl) (by kernel_rfl) (by kernel_rfl) ?_
            simp only [List.take_succ_cons, List.take_zero, List.drop_succ_cons, List.drop_zero]
            repeat (go_big_quiet_step ((go_at_call 52; exact Calls.below_same (hsd.out _))))
            refine wpQuiet_nil ?_
            rintro _ ⟨y, rfl⟩
            clear h1 h4 hsd
            obtain ⟨_, e1, e2⟩ := h0.out y
            clear h0
            have hR10 := hR9.out.below y.below
            have hRb := hide (hR10.setEn hq9.out sb)
            have hKb := hide ((hK9.out.trans (KeepsFrom.of_below y.below)).trans ((KeepsOthers.setCell y.world ⟨ob, x * 4 + 3, none⟩ (.int .u8 sb)).from W0.heap.size))
            have hVb := hide ((hV9.out.below_ y.below).other (p := ⟨ob, x * 4 + 3, none⟩) (fun e => by
              have h1 := hV9.out.below_ y.below
              obtain ⟨c, hc⟩ := own_kind hR10.sq.row ob rfl
              unfold Var at h1
              simp only at e
              rw [e, hc] at h1
              injection h1 with h1
              injection h1 with _ h2
              exact absurd h2 (by decide)) (.int .u8 sb))
            rw [Nat.mul_comm 4 x] at hRb
            have hysb : Hid ((y9.set x (⟨A6, c6, ⟨qps ++ (kp.take cb).drop ca, lp, sv, sb⟩⟩ : QV)).map QV.q = (ys.map QV.q).set x ⟨qps ++ (kp.take cb).drop ca, lp, sv, sb⟩) := hide (by rw [List.map_set, hys9.out, List.set_set])
            go_wp2_with fail
            clear e1 e2 hR10 hK9 hV9 hR9
            generalize y9.set x (⟨A6, c6, ⟨qps ++ (kp.take cb).drop ca, lp, sv, sb⟩⟩ : QV) = yb at *
            generalize y.world.setCell ⟨ob, x * 4 + 3, none⟩ (.int .u8 sb) = Wb at *
            obtain ⟨b4, o4, mm, rfl, hb4, hmm4, hcm⟩ := (hB.out.at_ hRb.out).rd4.at_ (show q < k by omega)
            have f1 : ∀ y : BW Wb, y.world.cell? ⟨bg, 0, none⟩ = some (.map (some mb)) := fun y => (hB.out.at_ (hRb.out.below y.below)).g
            have f2 : ∀ y : BW Wb, y.world.cell? ⟨bm, 0, none⟩ = some (.slice (some ⟨b4, o4, none⟩) k c4) := fun y => (hB.out.at_ (hRb.out.below y.below)).m_
            have f3 : ∀ y : BW Wb, y.world.cell? ⟨b4, o4 + q, none⟩ = some (.int .i64 (mi : Nat)) := fun y => by
              obtain ⟨z, hz, hc⟩ := (hB.out.at_ (hRb.out.below y.below)).rd4.cell (show q < k by omega)
              have := hz.out
              rw [hm1.out] at this
              injection this with this
              rw [hc, this]
            have f4 : ∀ y : BW Wb, y.world.cell? ⟨X, 0, none⟩ = some (.int .i64 (x : Nat)) := fun y => (hVb.out.below_ y.below).cell
            have w1' : (q : Int) < (k : Int) := by omega
            have w2' : (0 : Int) ≤ (q : Int) := by omega
            clear hcm
            refine wpIn_tail_end 6 (by kernel_rfl) (by kernel_rfl) (by kernel_rfl) ?_
            simp only [List.take_succ_cons, List.take_zero, List.drop_succ_cons, List.drop_zero]
            repeat (go_big_quiet_step (fail))
            refine wpQuiet_nil ?_
            rintro _ ⟨y, rfl⟩
            clear f1 f2 f3 f4 w1' w2'
            have hRy := hRb.out.below y.below
            obtain ⟨D, hmp, hG⟩ := hRy.mp
            have hG := hide hG
            have hRy := hide hRy
            have hKy := hide (hKb.out.trans (KeepsFrom.of_below y.below))
            have hgm : Hid (mz.getD q 0 = (mi : Int)) := hide (getD_of' hm1.out)
            go_wp2_with (at_mapUpdate; refine wpList_mapUpdate_own _ rfl _ _ _ 89 rfl 3 94 key3 Try.underlying89 RO mb j D rfl hmp (by simp only [maxLen]; omega) _ _ _ rfl rfl (keyOf3 mi (by omega)) (.lit (.int .i64 (x : Nat))) [] rfl ?_; intro w11 hown11 hgr11)
            refine ⟨hKy.out.trans (KeepsFrom.of_grownBy hgr11 (fun i e => by cases e; exact hRy.out.hmb)), .slice (some ⟨ob, 0, none⟩) yb.length c5, yb, ?_, ?_⟩
            · rw [hsq.out]
              simp only [hop.out, if_true]
              rw [hgm.out, Int.toNat_natCast]
              exact hRy.out.map_ hown11 hgr11 (hG.out.put hmp.isMap mi x (by omega))
            · rw [hsq.out, hysb.out]
              simp only [hop.out, onR, if_true]
              rw [hsb.out]
/-- runs.Sequences, at a level of 0 or 1 -/
theorem seq_any (A : Option Addr) (n c : Nat) (l : List Int) (base : Int) (w : World) (hr : Rd .i32 w A n l) (hn : n ≤ 90000) (hb0 : 0 ≤ base ∧ base ≤ 1) :
    Calls Try.prog 27 #[.slice A n c, .int .u8 base] w (SeqRet n base (levelsS (l.map cls) base) (classesS (l.map cls) base) (l.map cls) (matchS (l.map cls)) w) :=
  callsIn_wide.1 (seq_in A n c l base w hr hn hb0 _ _ _ _ (hide rfl) (hide rfl) (hide rfl) (hide rfl))
end Go.Proofs.Ytaojjneajiobnaa

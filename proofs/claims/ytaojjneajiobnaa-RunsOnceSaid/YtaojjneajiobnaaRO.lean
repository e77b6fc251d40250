/-
  The walk of RunsOnce.
-/
import Derived.Test.YtaojjneajiobnaaRunQ
import Derived.Test.YtaojjneajiobnaaRunOm
namespace Go.Proofs.Ytaojjneajiobnaa
open Go.RowKit

/-- how often each place stands in a row -/
def cntL (n : Nat) (L : List Int) : List Int := (List.range n).map fun (p : Nat) => ((L.count (p : Int) : Nat) : Int)
theorem cntL_len (n : Nat) (L : List Int) : (cntL n L).length = n := by simp [cntL]
theorem cntL_at {n : Nat} {L : List Int} {p : Nat} (h : p < n) : (cntL n L)[p]? = some ((L.count (p : Int) : Nat) : Int) := by
  unfold cntL
  rw [List.getElem?_map, List.getElem?_range h]; rfl
theorem cntL_nil (n : Nat) : cntL n [] = List.replicate n 0 := by
  unfold cntL
  rw [List.eq_replicate_iff]
  exact ⟨by simp, fun b hb => by obtain ⟨p, _, rfl⟩ := List.mem_map.1 hb; rfl⟩
theorem cntL_set {n : Nat} {L : List Int} {p : Nat} (h : p < n) : (cntL n L).set p (((L.count (p : Int) : Nat) : Int) + 1) = cntL n (L ++ [(p : Int)]) := by
  apply List.ext_getElem?
  intro i
  rw [List.getElem?_set]
  by_cases e : p = i
  · subst e
    rw [if_pos rfl, cntL_len, if_pos h, cntL_at h]
    simp [List.count_append]
  · rw [if_neg e]
    rcases Nat.lt_or_ge i n with hi | hi
    · rw [cntL_at hi, cntL_at hi]
      have : ¬ (p : Int) = (i : Int) := by omega
      simp [List.count_append, this]
    · rw [List.getElem?_eq_none (by rw [cntL_len]; exact hi), List.getElem?_eq_none (by rw [cntL_len]; exact hi)]
/-- the element ahead of i; -1 ahead of the first one -/
def prevS (l : List Int) (i : Nat) : Int := if i = 0 then -1 else l.getD (i - 1) 0
theorem prevS_lt {l : List Int} {i : Nat} {x : Int} (hs : l.Pairwise (· < ·)) (h0 : ∀ y ∈ l, 0 ≤ y) (hx : l[i]? = some x) : prevS l i < x := by
  unfold prevS
  have hx0 := h0 x (List.mem_of_getElem? hx)
  split
  · omega
  · rename_i h
    have hi : i < l.length := (List.getElem?_eq_some_iff.1 hx).1
    rw [List.pairwise_iff_getElem] at hs
    have := hs (i - 1) i (by omega) hi (by omega)
    rw [List.getD, List.getElem?_eq_getElem (by omega), Option.getD_some]
    rw [(List.getElem?_eq_some_iff.1 hx).2] at this
    exact this
theorem prevS_succ {l : List Int} {i : Nat} {x : Int} (hx : l[i]? = some x) : prevS l (i + 1) = x := by
  unfold prevS
  rw [if_neg (by omega), Nat.add_sub_cancel]
  exact getD_of' hx
def heads (qs : List QR) : List Int := qs.map fun q => q.ps.headD 0
theorem heads_up {lv kp cl m : List Int} {a : Nat} {s : QS} (h : OInv lv kp cl m a s) : (heads s.out).Pairwise (· < ·) := by
  unfold heads
  rw [List.pairwise_map]; exact h.first
theorem OInv.pos {lv kp cl m : List Int} {a : Nat} {s : QS} (h : OInv lv kp cl m a s) (hk : ∀ x ∈ kp, 0 ≤ x) {q : QR} (hq : q ∈ s.out) : ∀ y ∈ q.ps, 0 ≤ y := fun _ hy => hk _ (List.mem_of_mem_take (h.mem hq hy))
theorem OInv.head {lv kp cl m : List Int} {a : Nat} {s : QS} (h : OInv lv kp cl m a s) {q : QR} (hq : q ∈ s.out) : ∃ p0, q.ps[0]? = some p0 ∧ q.ps.headD 0 = p0 := by
  cases hps : q.ps with
  | nil => exact absurd hps (h.ne q hq)
  | cons z t => exact ⟨z, rfl, rfl⟩
theorem heads_pos {lv kp cl m : List Int} {a : Nat} {s : QS} (h : OInv lv kp cl m a s) (hk : ∀ x ∈ kp, 0 ≤ x) : ∀ y ∈ heads s.out, 0 ≤ y := by
  intro y hy
  obtain ⟨q, hq, rfl⟩ := List.mem_map.1 hy
  obtain ⟨p0, h1, h2⟩ := h.head hq
  rw [h2]
  exact h.pos hk hq _ (List.mem_of_getElem? h1)
theorem kept_count {cs : List Int} {n : Nat} (p : Nat) : (keptTo cs n).count (p : Int) = if p < n ∧ cs.getD p 0 ≠ 9 then 1 else 0 := by
  have hn : (keptTo cs n).Nodup := (keptTo_sorted cs n).imp (fun h => by omega)
  split
  · rename_i h
    rw [hn.count, if_pos (keptTo_in.2 h)]
  · rename_i h
    exact List.count_eq_zero.2 (fun hm => h (keptTo_in.1 hm))
theorem lt_of_cell {w : World} {b o : Nat} {v : Value} (h : w.cell? ⟨b, o, none⟩ = some v) : b < w.heap.size := World.block_lt_of_cell? w ⟨b, o, none⟩ h
theorem flat_len {qs : List QR} {q : QR} (h : q ∈ qs) : q.ps.length ≤ (qs.flatMap QR.ps).length := by
  obtain ⟨A, B, rfl⟩ := List.append_of_mem h
  simp only [List.flatMap_append, List.flatMap_cons, List.length_append]
  omega
theorem flat_succ {qs : List QR} {k : Nat} {q : QR} (h : qs[k]? = some q) : (qs.take (k + 1)).flatMap QR.ps = (qs.take k).flatMap QR.ps ++ q.ps := by
  rw [List.take_add_one, h, List.flatMap_append]; simp
set_option maxRecDepth 100000 in
set_option maxHeartbeats 8000000 in
theorem lawOnce_any (A : Option Addr) (n c : Nat) (l : List Int) (rtl : Bool) (w : World) (hr : Rd .i32 w A n l) :
    Calls Try.prog 10 #[.slice A n c, .bool rtl] w fun e w' => e = .returned (.bool true) ∧ Below w.heap.size w w' := by
  by_cases hbig : 300 < n
  · have hb : decide (300 < (n : Int)) = true := by simp; omega
    go_enter Try.func10, Try.ntmps10
    go_wp2_with fail
    refine (awake_r w).mono ?_
    rintro e w2 ⟨rfl, hb2⟩
    go_wp2_with fail
    go_ret
    exact ⟨rfl, hb2⟩
  · have hb : decide (300 < (n : Int)) = false := by simp; omega
    have hn : n ≤ 300 := by omega
    have hb01 : 0 ≤ bit rtl ∧ bit rtl ≤ 1 := by cases rtl <;> decide
    have hP := hide (par_any A n c l false rtl w hr (by omega))
    rw [show parS l false rtl = bit rtl from rfl] at hP
    have hS := hide (fun W (hB : Below w.heap.size w W) => seq_any A n c l (bit rtl) W (hr.below hB) (by omega) hb01)
    have hE := hide (fun W (hB : Below w.heap.size w W) => exp_any A n c l (bit rtl) W (hr.below hB) (by omega) hb01)
    have hU0 := map_cls_u8 l
    have hU := hide (levels_u8 hb01 (map_cls_u8 l))
    have hml := hide ((List.length_map cls).trans hr.len)
    have hcl := hide ((classes_len (l.map cls) (bit rtl)).trans hml.out)
    have hmk := run_mk elt64 n (by omega)
    have hone := hide (oinv_all (cl := l.map cls) (base := bit rtl) (keptTo (classesS (l.map cls) (bit rtl)) (l.map cls).length) rfl)
    rw [hml.out] at hone
    generalize l.map cls = cl at *
    have tq : (n != n) = false := by simp
    have tn : ((n : Int) != (n : Int)) = false := by simp
    go_enter Try.func10, Try.ntmps10
    go_wp2_with fail
    refine hP.out.mono ?_
    rintro e w1 ⟨rfl, hb1⟩
    generalize bit rtl = base at *
    have hs1 := hb1.size
    go_wp2_with fail
    refine (hS.out w1 hb1).mono ?_
    rintro e w2 ⟨A1, c1, g1, c2, K, xs, rfl, hq, hK, hx, hL, hb2⟩
    have hlen : xs.length ≤ 1000000 := by
      have h1 := sqSt_len (levelsS cl base) (keptTo (classesS cl base) n) cl (matchS cl) base K
      have h2 := cut_ge (lvAt (levelsS cl base) (keptTo (classesS cl base) n)) (keptTo (classesS cl base) n).length K
      have h3 := keptTo_len (classesS cl base) n
      rw [← hx, List.length_map] at h1
      omega
    have hO := hide (hone.out K (by rw [hK]; exact Nat.le_refl _))
    have hps := sqSt_ps (levelsS cl base) (keptTo (classesS cl base) n) cl (matchS cl) base K
    have hlvb := hide (sqSt_lv (lv := levelsS cl base) (keptTo (classesS cl base) n) cl (matchS cl) base (levels_bd hb01 hU0) K)
    rw [hK] at hO
    have hR := hide (hq.runs hlen)
    rw [hx] at hR
    generalize (sqSt (levelsS cl base) (keptTo (classesS cl base) n) cl (matchS cl) base K) = S at *
    obtain ⟨N, hN⟩ : ∃ N, xs.length = N := ⟨_, rfl⟩
    rw [hN] at hR ⊢
    have hb2' := hb1.trans (hb2.mono hs1)
    have hs2 := hb2'.size
    have hL := hide hL
    clear hq hx hN hb2 hb1 hP hS hone hU0 hlen hps hlvb
    go_wp2_with fail
    refine (hE.out w2 hb2').mono ?_
    rintro e w3 ⟨g3, c3, g4, c4, rfl, hL3, hC3, hne, hb3⟩
    have hR3 := hide (hR.out.below hb3)
    have hL3' := hide hL3
    have hC3 := hide hC3
    have hLL := hide (hL.out.below hb3)
    replace hb3 := hb2'.trans (hb3.mono hs2)
    have hs3 := hb3.size
    clear hR hL hE hL3 hne hb2'
    go_wp2_with fail
    refine (same_any _ _ _ _ _ _ (levelsS cl base) (levelsS cl base) _ hLL.out.rd hL3'.out.rd hU.out hU.out).mono ?_
    rintro e w4 ⟨rfl, rfl⟩
    rw [sameB_self]
    have hkp0 : ∀ x ∈ keptTo (classesS cl base) n, 0 ≤ x ∧ x < (n : Int) := keptTo_mem
    have hKP := hide hkp0
    clear hkp0
    have hnN : N ≤ 1000000 := hR3.out.2.1
    have hlN := hide hR3.out.1
    have hW0 := hide (show Own w3.heap.size 3 .i64 (w3.alloc (.cells (madeCells #[.int .i64 0] n) 3)) (some ⟨w3.heap.size, 0, none⟩) n n (cntL n ((S.out.take 0).flatMap QR.ps)) by
      rw [List.take_zero, List.flatMap_nil, cntL_nil]; exact own_mk _ 3 .i64 n w3 _ rfl (Nat.le_refl _) (by omega))
    have hB0 := hide (show Below w3.heap.size w3 (w3.alloc (.cells (madeCells #[.int .i64 0] n) 3)) from (Below.refl _ _).alloc (Nat.le_refl _) _)
    go_wp2_with fail
    generalize hbi : w3.heap.size = bi at *
    have hbi := hide hbi
    generalize w3.alloc (.cells (madeCells #[.int .i64 0] n) 3) = W0 at *
    go_loopw [54, 11] (fun i f wr => ∃ k : Nat, k ≤ N ∧ i = .int .i64 ((k : Nat) : Int) ∧ f = .int .i64 (prevS (heads S.out) k) ∧ Own bi 3 .i64 wr (some ⟨bi, 0, none⟩) n n (cntL n ((S.out.take k).flatMap QR.ps)) ∧ Below bi w3 wr) (fun i _ _ => N - (intOf i).toNat)
    case atStart => exact ⟨0, Nat.zero_le _, rfl, rfl, hW0.out, hB0.out⟩
    case round =>
      clear hW0 hB0
      obtain ⟨k, hk, rfl, rfl, hown, hbel⟩ := hrel
      obtain ⟨wo, rfl⟩ : ∃ wo : World, wo = wr := ⟨_, rfl⟩
      by_cases hkN : k < N
      · obtain ⟨q, hqk⟩ : ∃ q, S.out[k]? = some q := ⟨_, List.getElem?_eq_getElem (by rw [hlN.out]; exact hkN)⟩
        have hqm := List.mem_of_getElem? hqk
        obtain ⟨p0, hp0, hph⟩ := hO.out.head hqm
        obtain ⟨b1, rfl, hlt1, hcs⟩ := hR3.out.2.2 (by omega)
        obtain ⟨Ai, ci, x1, x2, x3, x4, x5⟩ := hcs k q hqk
        have hLpos : 0 < q.ps.length := (List.getElem?_eq_some_iff.1 hp0).1
        obtain ⟨pb, po, p0', rfl, hpb, hp0', hcp0⟩ := x2.at_ hLpos
        have hpe := hp0'.out
        rw [hp0] at hpe
        injection hpe with hpe
        subst hpe
        have hbd := hO.out.bd q hqm
        have hup := hide (hO.out.up q hqm)
        have hlev := hide (hO.out.lev q hqm)
        have hpos := hide (hO.out.pos (fun x hx => (hKP.out x hx).1) hqm)
        have hin := hide (fun (x : Int) (hx : x ∈ q.ps) => hKP.out x (List.mem_of_mem_take (hO.out.mem hqm hx)))
        have hhd : prevS (heads S.out) k < p0 := prevS_lt (heads_up hO.out) (heads_pos hO.out (fun x hx => (hKP.out x hx).1)) (by unfold heads; rw [List.getElem?_map, hqk, ← hph]; rfl)
        have hhs := hide (show prevS (heads S.out) (k + 1) = p0 from prevS_succ (by unfold heads; rw [List.getElem?_map, hqk, ← hph]; rfl))
        have hfl := hide (flat_succ hqk)
        have hx2 := hide x2
        have hL1 : q.ps.length ≤ n := by
          have h1 := hO.out.all.length_eq
          rw [List.length_take, Nat.min_self] at h1
          have h2 := keptTo_len (classesS cl base) n
          have h3 := flat_len hqm
          omega
        obtain ⟨ps, lvq, stq, enq⟩ := q
        simp only at x1 x3 x4 x5 hLpos hbd hup hlev hpos hin hfl hx2 hL1 hp0 hcp0
        have hlps := hide (show ps.length = ps.length from rfl)
        generalize hLn : ps.length = L at x1 hLpos hx2 hL1
        have hLn := hide hLn
        clear hlps x2 hqk hqm hcs hp0' hph
        have hb1 : b1 < bi := by rw [← hbi.out]; exact hlt1
        have hpb' : pb < bi := by rw [← hbi.out]; exact hpb
        replace x1 := (hbel.cell (p := ⟨b1, k * 4, none⟩) hb1).trans x1
        replace x3 := (hbel.cell (p := ⟨b1, k * 4 + 1, none⟩) hb1).trans x3
        replace x4 := (hbel.cell (p := ⟨b1, k * 4 + 2, none⟩) hb1).trans x4
        replace x5 := (hbel.cell (p := ⟨b1, k * 4 + 3, none⟩) hb1).trans x5
        have hszo : bi ≤ wo.heap.size := by have := hbel.size; rw [hbi.out] at this; exact this
        replace hcp0 : ∀ o, (wo.alloc o).cell? ⟨pb, po, none⟩ = some (.int .i64 p0) := fun o => (World.cell?_alloc_lt wo o ⟨pb, po, none⟩ (Nat.lt_of_lt_of_le hpb' hszo)).trans ((hbel.cell (p := ⟨pb, po, none⟩) hpb').trans hcp0)
        have e0 : ((L : Int) == 0) = false := by simp; omega
        have f1 : decide (p0 ≤ prevS (heads S.out) k) = false := by simp; omega
        have f2 : decide (1 < stq) = false := by simp; omega
        have f3 : decide (1 < enq) = false := by simp; omega
        have q1 : (k : Int) < (N : Int) := by omega
        have q2 : (0 : Int) ≤ (k : Int) := by omega
        have q3 : (0 : Int) < (L : Int) := by omega
        have hfl := hide hfl.out
        generalize hF : (S.out.take k).flatMap QR.ps = F at *
        have hF := hide hF
        have hFl : Hid (F.length ≤ 1000) := hide (by
          have h1 := hO.out.all.length_eq
          rw [List.length_take, Nat.min_self] at h1
          have h2 := keptTo_len (classesS cl base) n
          have h3 : F.length ≤ (S.out.flatMap QR.ps).length := by
            rw [← hF.out]
            conv => rhs; rw [← List.take_append_drop k S.out]
            rw [List.flatMap_append, List.length_append]
            omega
          omega)
        generalize prevS (heads S.out) k = fp at *
        have hX := hide (heap_alloc_new wo (.cells #[.slice (some ⟨pb, po, none⟩) L ci, .int .u8 lvq, .int .u8 stq, .int .u8 enq] 49))
        have hown1 := hide (hown.alloc (.cells #[.slice (some ⟨pb, po, none⟩) L ci, .int .u8 lvq, .int .u8 stq, .int .u8 enq] 49))
        have hbel1 := hide (hbel.alloc hszo (.cells #[.slice (some ⟨pb, po, none⟩) L ci, .int .u8 lvq, .int .u8 stq, .int .u8 enq] 49))
        have hXn := hide (show bi < wo.heap.size by have := (hown.lt bi rfl).2; exact this)
        clear hown hbd hhd hp0 hszo
        go_wp2_with fail
        generalize wo.alloc (.cells #[.slice (some ⟨pb, po, none⟩) L ci, .int .u8 lvq, .int .u8 stq, .int .u8 enq] 49) = W1 at *
        generalize wo.heap.size = X at *
        clear x1 x3 x4 x5 hcp0 e0 f1 f2 f3 hbel
        go_loopw [87, 14] (fun j' la wx => ∃ j : Nat, j ≤ L ∧ j' = .int .i64 ((j : Nat) : Int) ∧ la = .int .i64 (prevS ps j) ∧ Own bi 3 .i64 wx (some ⟨bi, 0, none⟩) n n (cntL n (F ++ ps.take j)) ∧ Below bi w3 wx ∧ Hid (wx.heap[X]? = some (.cells #[.slice (some ⟨pb, po, none⟩) L ci, .int .u8 lvq, .int .u8 stq, .int .u8 enq] 49 (0, 0)))) (fun j' _ _ => L - (intOf j').toNat)
        case atStart => exact ⟨0, Nat.zero_le _, rfl, rfl, by rw [List.take_zero, List.append_nil]; exact hown1.out, hbel1.out, hX⟩
        case round =>
          clear hown1 hbel1 hX
          obtain ⟨j, hj, rfl, rfl, hown, hbel, hXb⟩ := hrel
          by_cases hjL : j < L
          · obtain ⟨p', hp'⟩ : ∃ p', ps[j]? = some p' := ⟨_, List.getElem?_eq_getElem (by rw [hLn.out]; exact hjL)⟩
            have hpin := hin.out p' (List.mem_of_getElem? hp')
            obtain ⟨p, rfl⟩ : ∃ p : Nat, p' = (p : Int) := ⟨p'.toNat, by omega⟩
            have hplt := prevS_lt hup.out hpos.out hp'
            have hpss := hide (prevS_succ hp')
            have hplev := hlev.out _ (List.mem_of_getElem? hp')
            rw [Int.toNat_natCast] at hplev
            obtain ⟨p2, hp2, hcp2⟩ := hx2.out.cell hjL
            have hp2' := hp2.out
            rw [hp'] at hp2'
            injection hp2' with hp2'
            subst hp2'
            replace hcp2 := (hbel.cell (p := ⟨pb, po + j, none⟩) hpb').trans hcp2
            obtain ⟨lz, hlz, hclz⟩ := (show Rd .u8 w3 (some ⟨g1, 0, none⟩) n (levelsS cl base) from hLL.out.rd).cell (show p < n by omega)
            have hg1 : g1 < bi := by rw [← hbi.out]; exact (hLL.out.lt g1 rfl).2
            have hlz' := hlz.out
            rw [hplev] at hlz'
            injection hlz' with hlz'
            subst hlz'
            rw [Nat.zero_add] at hclz
            replace hclz := (hbel.cell (p := ⟨g1, p, none⟩) hg1).trans hclz
            have hxb1 : wr.cell? ⟨X, 1, none⟩ = some (.int .u8 lvq) := cell_of_row _ _ _ _ _ _ hXb.out
            have f1 : decide ((p : Int) ≤ prevS ps j) = false := by simp; omega
            have f2 : decide (n ≤ p) = false := by simp; omega
            have f3 : (lvq != lvq) = false := by simp
            have q4 : (j : Int) < (L : Int) := by omega
            have q5 : (0 : Int) ≤ (j : Int) := by omega
            have q6 : (p : Int) < (n : Int) := by omega
            have q7 : (0 : Int) ≤ (p : Int) := by omega
            have hcn := cntL_at (n := n) (L := F ++ ps.take j) (show p < n by omega)
            have hset := hide (cntL_set (n := n) (L := F ++ ps.take j) (show p < n by omega))
            have hcn' := hide hcn
            have hcnb : (F ++ ps.take j).count (p : Int) ≤ 1000000 := by
              have h1 := List.count_le_length (a := (p : Int)) (l := F ++ ps.take j)
              have h2 := hFl.out
              have h3 := List.length_take_le j ps
              rw [List.length_append] at h1
              omega
            have htk := hide (show ps.take (j + 1) = ps.take j ++ [(p : Int)] by rw [List.take_add_one, hp']; rfl)
            obtain ⟨ww, rfl⟩ : ∃ ww : World, ww = wr := ⟨_, rfl⟩
            generalize prevS ps j = lp at *
            generalize (F ++ ps.take j).count (p : Int) = cn at *
            have hownH := hide hown
            have hbelH := hide hbel
            clear hplev hp2 hlz hp' hplt hown hbel hcn
            go_wp2_with fail
            refine wp_region_quiet_lit (by kernel_rfl) (by kernel_rfl) ?_
            repeat (go_big_quiet_step (fail))
            refine wpQuiet_nil ?_
            rintro _ ⟨d, rfl⟩
            have hcd : (ww.drewN d).cell? ⟨bi, p, none⟩ = some (.int .i64 (cn : Nat)) ∧ (ww.drewN d).frozen? ⟨bi, p, none⟩ = false := by
              obtain ⟨g, z, hA, _, _, hz, hc, hf⟩ := hownH.out.at_ (show p < n by omega)
              injection hA with hA
              injection hA with hA
              subst hA
              have := hz.out
              rw [hcn'.out] at this
              injection this with this
              rw [this]
              exact ⟨hc, hf⟩
            obtain ⟨hcd1, hcd2⟩ := hcd
            have hownD := hide ((hownH.out.below (hB_drewN (Below.refl _ _) d)).set_ p ((cn : Int) + 1))
            have hbelD := hide ((hbelH.out.trans ((hB_drewN (Below.refl ww.heap.size ww) d).mono (by have := hbelH.out.size; rw [hbi.out] at this; exact this))).setCell (p := ⟨bi, p, none⟩) (Nat.le_refl _) (.int .i64 ((cn : Int) + 1)))
            have hXD := hide ((Below.heap_setCell (ww.drewN d) ⟨bi, p, none⟩ (.int .i64 ((cn : Int) + 1)) X (fun e => by have := hXn.out; simp only at e; omega)).trans hXb.out)
            go_wp2_with fail
            go_roundw
            case rel => exact ⟨j + 1, by omega, by go_num, by rw [hpss.out], by rw [htk.out, ← List.append_assoc, ← hset.out]; exact hownD.out, hbelD.out, hXD⟩
            case measure => simp [intOf]; omega
          · obtain rfl : j = L := by omega
            clear hjL
            have hall : ps.take j = ps := List.take_of_length_le (by rw [hLn.out]; exact Nat.le_refl _)
            rw [hall, ← hfl.out] at hown
            have hownH := hide hown
            have hbelH := hide hbel
            clear hall hown hbel
            go_wp2_with fail
            go_roundw
            case rel => exact ⟨k + 1, by omega, by go_num, by rw [hhs.out], hownH.out, hbelH.out⟩
            case measure => simp [intOf]; omega
      · obtain rfl : k = N := by omega
        clear hkN
        have hall : S.out.take k = S.out := List.take_of_length_le (by rw [hlN.out]; exact Nat.le_refl _)
        rw [hall] at hown
        have hcount : Hid (∀ p : Nat, p < n → (S.out.flatMap QR.ps).count (p : Int) = if (classesS cl base).getD p 0 ≠ 9 then 1 else 0) := hide (fun p hp => by
          rw [hO.out.all.count_eq, List.take_length, kept_count]
          simp [hp])
        have hownH := hide hown
        have hbelH := hide hbel
        generalize prevS (heads S.out) k = fp at *
        clear hall hown hbel
        go_wp2_with fail
        go_loopw [120] (fun i wx => ∃ j : Nat, j ≤ n ∧ i = .int .i64 ((j : Nat) : Int) ∧ Below wo.heap.size wo wx) (fun i _ => n - (intOf i).toNat)
        case atStart => exact ⟨0, Nat.zero_le _, rfl, Below.refl _ _⟩
        case round =>
          obtain ⟨j, hj, rfl, hbx⟩ := hrel
          obtain ⟨ww, rfl⟩ : ∃ ww : World, ww = wr := ⟨_, rfl⟩
          by_cases hjn : j < n
          · have hC := (hC3.out.rd).cell hjn
            obtain ⟨x, hx, hcx⟩ := hC
            rw [Nat.zero_add] at hcx
            have hg4 : g4 < bi := by rw [← hbi.out]; exact (hC3.out.lt g4 rfl).2
            have hsz : bi ≤ wo.heap.size := by have := hbelH.out.size; rw [hbi.out] at this; exact this
            replace hcx := (hbx.cell (p := ⟨g4, j, none⟩) (Nat.lt_of_lt_of_le hg4 hsz)).trans ((hbelH.out.cell (p := ⟨g4, j, none⟩) hg4).trans hcx)
            obtain ⟨g, z, hA, _, hgl, hz, hcz, _⟩ := hownH.out.at_ hjn
            injection hA with hA
            injection hA with hA
            subst hA
            replace hcz := (hbx.cell (p := ⟨bi, j, none⟩) hgl).trans hcz
            have hzz := hz.out
            rw [cntL_at hjn, hcount.out j hjn] at hzz
            have hcd : (classesS cl base).getD j 0 = x := getD_of' hx.out
            rw [hcd] at hzz
            have hcx' : ∀ y : BW ww, y.world.cell? ⟨g4, j, none⟩ = some (.int .u8 x) := fun y => (y.below.cell (p := ⟨g4, j, none⟩) (lt_of_cell hcx)).trans hcx
            have hcz' : ∀ y : BW ww, y.world.cell? ⟨bi, j, none⟩ = some (.int .i64 z) := fun y => (y.below.cell (p := ⟨bi, j, none⟩) (lt_of_cell hcz)).trans hcz
            have hrm := hide (fun y : BW ww => removed_any x y.world)
            have q1 : (j : Int) < (n : Int) := by omega
            have q2 : (0 : Int) ≤ (j : Int) := by omega
            have hbxH := hide hbx
            by_cases hx9 : x = 9
            · subst hx9
              rw [if_neg (by decide)] at hzz
              injection hzz with hzz
              obtain rfl : z = 0 := hzz.symm
              clear hz hcd hx hcz hcx' hbx hgl hsz
              have hcx' : ∀ y : BW ww, y.world.cell? ⟨g4, j, none⟩ = some (.int .u8 9) := fun y => (y.below.cell (p := ⟨g4, j, none⟩) (lt_of_cell hcx)).trans hcx
              go_wp2_with fail
              refine wp_region_below (by kernel_rfl) (by kernel_rfl) ?_
              repeat (go_big_quiet_step ((go_at_call 30; exact Calls.below_same (hrm.out _))))
              refine wpQuiet_nil ?_
              rintro _ ⟨y, rfl⟩
              go_wp2_with fail
              go_roundw
              case rel => exact ⟨j + 1, by omega, by go_num, hbxH.out.trans (y.below.mono hbxH.out.size)⟩
              case measure => simp [intOf]; omega
            · have hb9 : (x == 9) = false := by simpa using hx9
              rw [if_pos hx9] at hzz
              injection hzz with hzz
              obtain rfl : z = 1 := hzz.symm
              clear hz hcd hx hcz hbx hgl hsz hx9
              go_wp2_with fail
              refine wp_region_below (by kernel_rfl) (by kernel_rfl) ?_
              repeat (go_big_quiet_step ((go_at_call 30; exact Calls.below_same (hrm.out _))))
              refine wpQuiet_nil ?_
              rintro _ ⟨y, rfl⟩
              go_wp2_with fail
              go_roundw
              case rel => exact ⟨j + 1, by omega, by go_num, hbxH.out.trans (y.below.mono hbxH.out.size)⟩
              case measure => simp [intOf]; omega
          · obtain rfl : j = n := by omega
            clear hjn
            go_wp2_with fail
            refine (awake_r ww).mono ?_
            rintro e w9 ⟨rfl, hb9⟩
            go_wp2_with fail
            go_ret
            have h1 : Below w.heap.size w wo := hb3.trans (hbelH.out.mono (by rw [← hbi.out]; exact hb3.size))
            have h2 := h1.trans (hbx.mono h1.size)
            exact ⟨rfl, h2.trans (hb9.mono h2.size)⟩
end Go.Proofs.Ytaojjneajiobnaa

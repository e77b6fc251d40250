/-
  The walk of the reference's Sequences, and of RunsTell (two texts in one).
-/
import Derived.Test.YtaojjneajiobnaaRTz
import Derived.Test.YtaojjneajiobnaaRfK
import Derived.Deep.DeepCutAuto
import Derived.Test.YtaojjneajiobnaaRunX
/-! The walk of the reference's Sequences -/
namespace Go.Proofs.Ytaojjneajiobnaa
open Go.RowKit Go.Maps

set_option maxRecDepth 100000 in
set_option maxHeartbeats 4000000 in
theorem rseq_any (A : Option Addr) (n c : Nat) (l : List Int) (b0 base : Int) (w : World) (hr : Rd .i32 w A n l) (h32 : I32 l) (hn : n ≤ 1000) (hb : 0 ≤ base ∧ base ≤ 1) (hq : Hid (base = if 1 < b0 then 1 else b0)) :
    Calls Try.prog 28 #[.slice A n c, .int .u8 b0] w (RSeqRet n base (l.map cls) w) := by
  have hln := hide hr.len
  have hcl := hide (show (l.map cls).length = n by rw [List.length_map, hr.len])
  go_enter Try.func28, Try.ntmps28
  go_upto_if 19 with (fail)
  go_cut [1] from 18 to 19 (fun s1 wx => s1 = .int .u8 base ∧ w = wx)
  case first =>
    go_wp2_with fail
    all_goals go_meet
    all_goals first
      | exact ⟨by rw [hq.out, if_pos (by omega)], rfl⟩
      | exact ⟨by rw [hq.out, if_neg (by omega)], rfl⟩
  obtain ⟨rfl, rfl⟩ := hcut
  clear hq
  go_wp2_with fail
  refine (refexp_one A n c l base base w hr h32 (by omega) hb (hide (if_neg (by omega)).symm)).mono ?_
  rintro e w1 ⟨A6, c6, A7, c7, rfl, hL, hC, hb1⟩
  have hR2 := hide (refclasses_any A n c l w1 (hr.below hb1) h32 (by omega))
  clear hr h32
  have hu8 := map_cls_u8 l
  generalize l.map cls = cl at *
  have hlvl : (levelsS cl base).length = n := by rw [levels_len]; exact hcl.out
  have hcsl : (classesS cl base).length = n := by rw [classes_len]; exact hcl.out
  have hmzl := hide (show (matchS cl).length = n by rw [match_len]; exact hcl.out)
  have hlbd := hide (levels_bd (cl := cl) hb hu8)
  rw [hlvl] at hL ⊢
  rw [hcsl] at hC ⊢
  have hsz1 := hb1.size
  have hL := hide hL.rd
  have hC := hide hC.rd
  go_wp2_with fail
  refine hR2.out.mono ?_
  rintro e w2 ⟨A8, c8, rfl, hO, hb2⟩
  rw [hcl.out] at hO ⊢
  have hO := hide hO.rd
  replace hL := hide (hL.out.below hb2)
  replace hC := hide (hC.out.below hb2)
  replace hb2 := hb1.trans (hb2.mono hsz1)
  have hsz2 := hb2.size
  clear hb1 hR2
  have hR3 := hide (refmatch_any A8 n c8 cl w2 hO.out (by omega))
  go_wp2_with fail
  refine hR3.out.mono ?_
  rintro e w3 ⟨A9, c9, rfl, hM, hb3⟩
  rw [hmzl.out] at hM ⊢
  have hM := hide hM.rd
  replace hL := hide (hL.out.below hb3)
  replace hC := hide (hC.out.below hb3)
  replace hO := hide (hO.out.below hb3)
  replace hb3 := hb2.trans (hb3.mono hsz2)
  have hsz3 := hb3.size
  clear hb2 hR3
  have hR4 := rkept_any A7 n c7 (classesS cl base) w3 hC.out (by omega)
  rw [classes_len cl base] at hR4
  have hR4 := hide hR4
  have hKP : Hid (KP cl base (keptTo (classesS cl base) cl.length) (rN cl base)) := hide (kp_all cl base)
  have hch := hide (fun k rs hk hs h hm => seq_of_chain (cl := cl) hb rfl rfl (k := k) (rs := rs) hk hs h hm)
  have hcnt := hide (seqs_cnt (cl := cl) hb rfl rfl)
  have hkl := keptTo_len (classesS cl base) cl.length
  generalize rN cl base = N at *
  generalize keptTo (classesS cl base) cl.length = kp at *
  go_wp2_with fail
  refine hR4.out.mono ?_
  rintro e w4 ⟨A10, c10, rfl, hK, hb4⟩
  have hK := hide hK.rd
  replace hL := hide (hL.out.below hb4)
  replace hO := hide (hO.out.below hb4)
  replace hM := hide (hM.out.below hb4)
  replace hb4 := hb3.trans (hb4.mono hsz3)
  have hsz4 := hb4.size
  clear hb3 hR4 hC
  have hR5 := hide (rruns_any A6 A10 n kp.length c6 c10 (levelsS cl base) kp w4 hL.out hK.out (fun x hx => by have := hKP.out.nn x hx; have := hcl.out; omega) (by have := hcl.out; omega))
  rw [rowsTo_all hKP.out.total] at hR5
  go_wp2_with fail
  refine hR5.out.mono ?_
  rintro e w5 ⟨A11, c11, xs, rfl, hW, hxs, hb5⟩
  have hE : Hid (REnv w4.heap.size n N kp.length A6 A8 A9 A10 A11 c11 (levelsS cl base) cl (matchS cl) kp xs w5) := hide ⟨hL.out.below hb5, hO.out.below hb5, hM.out.below hb5, hK.out.below hb5, hW⟩
  replace hb5 := hb4.trans (hb5.mono hsz4)
  have hsz5 := hb5.size
  have hb5 := hide hb5
  clear hb4 hR5 hL hO hM hK hW
  have hxl : xs.length = N := by have := congrArg List.length hxs; simpa using this
  have hx := hide (fun t (ht : t < N) => (show ∃ x, xs[t]? = some x ∧ x.ps = rR (levelsS cl base) kp t from by
    obtain ⟨x, hx⟩ : ∃ x, xs[t]? = some x := ⟨_, List.getElem?_eq_getElem (by omega)⟩
    have := congrArg (fun l => l[t]?) hxs
    simp [hx, ht] at this
    exact ⟨x, hx, this⟩))
  rw [hxl]
  have hxl := hide hxl
  clear hxs hlvl hcsl
  have hNn : N ≤ kp.length := by
    have h1 := cut_ge (lvAt (levelsS cl base) kp) kp.length N
    have h2 := hKP.out.total
    unfold rC at h2
    omega
  have hkl : kp.length ≤ n := by have := hcl.out; omega
  have hN0 : N ≤ 1000 := by omega
  go_wp2_with fail
  go_loopw [12, 13] (fun o i wr => ∃ (k c : Nat) (A : Option Addr) (ys : List QV), k ≤ N ∧ i = .int .i64 ((k : Nat) : Int) ∧ o = .slice A ys.length c ∧ Sq w5.heap.size wr (.slice A ys.length c) ys ∧ Hid (ys.map QV.q = (seqsS cl base).take (cntS cl base kp k)) ∧ Hid (ys.length ≤ k) ∧ Below w5.heap.size w5 wr) (fun _ i _ => N - (intOf i).toNat)
  case atStart => exact ⟨0, 0, none, [], Nat.zero_le _, rfl, rfl, Sq.nil _ _, hide rfl, hide (Nat.le_refl _), Below.refl _ _⟩
  case round =>
    obtain ⟨k, c12, A12, ys, hk, rfl, rfl, hsq, hys, hyl, hbel⟩ := hrel
    obtain ⟨wo, rfl⟩ : ∃ wo : World, wo = wr := ⟨_, rfl⟩
    have hszo := hbel.size
    by_cases hkN : k < N
    · have hEo := hide (hE.out.below hbel)
      obtain ⟨x, hxk, hxp⟩ := hx.out k hkN
      obtain ⟨hl1, hl2, hl3⟩ := hKP.out.rR_len hkN
      obtain ⟨ob, bx, ox, rfl, hob, hcM, hbx, hcz, _⟩ := hEo.out.run hxk hxp (hKP.out.rR_first hkN)
      have hFm := hKP.out.nn _ (List.mem_of_getElem? (hKP.out.first hkN))
      have hFn : rF (levelsS cl base) kp k < n := by have := hcl.out; omega
      obtain ⟨f, hf⟩ : ∃ f, rF (levelsS cl base) kp k = f := ⟨_, rfl⟩
      rw [hf] at hcz hFn
      obtain ⟨b8, o8, own, rfl, hb8, hown, hco⟩ := hEo.out.o.at_ hFn
      obtain ⟨b9, o9, mf, rfl, hb9, hmf, hcm⟩ := hEo.out.m.at_ hFn
      obtain ⟨b6, o6, lf, rfl, hb6, hlf, hcl6⟩ := hEo.out.l.at_ hFn
      have q1 : (k : Int) < (N : Int) := by omega
      have q2 : (0 : Int) ≤ (k : Int) := by omega
      have q3 : (f : Int) < (n : Int) := by omega
      have q4 : (0 : Int) ≤ (f : Int) := by omega
      have q5 : (0 : Int) < ((rR (levelsS cl base) kp k).length : Int) := by omega
      have hSdef : Hid (rS cl base kp k = !(own == 22 && decide (0 ≤ mf))) := hide (by
        unfold rS
        rw [hf, getD_of hown.out, getD_of hmf.out])
      have hsq := hide hsq
      have hbel := hide hbel
      have hf := hide hf
      have hl2 := hide hl2
      clear hl1 hFm
      generalize hRl : (rR (levelsS cl base) kp k).length = rl at *
      go_upto_region 13 with fail
      go_cut [58] from 47 to 58 (fun s58 wx => s58 = .bool (!(rS cl base kp k)) ∧ wo = wx)
      case first =>
        cases t1 : (own == 22) with
        | false =>
          go_wp2_with fail
          go_meet
          exact ⟨by rw [hSdef.out, t1]; rfl, rfl⟩
        | true => cases t2 : decide (0 ≤ mf) with
          | false =>
            go_wp2_with fail
            go_meet
            exact ⟨by rw [hSdef.out, t1, t2]; rfl, rfl⟩
          | true =>
            go_wp2_with fail
            go_meet
            exact ⟨by rw [hSdef.out, t1, t2]; rfl, rfl⟩
      obtain ⟨rfl, rfl⟩ := hcut
      cases hS : rS cl base kp k with
      | false =>
        rw [Bool.not_false]
        have hct := hide (cntS_off hS)
        clear hcz hco hcm hcl6 hcM
        go_wp2_with fail
        go_roundw
        case rel => exact ⟨k + 1, c12, A12, ys, by omega, by go_num, rfl, hsq.out, by rw [hct.out]; exact hys, hide (by have := hyl.out; omega), hbel.out⟩
        case measure => simp [intOf]; omega
      | true =>
        rw [Bool.not_true]
        have hct := hide (cntS_on hS)
        have hxi := hide (show XI wo.heap.size wo lf [] (wo.alloc (.cells #[.slice none 0 0, .int .u8 lf, .int .u8 0, .int .u8 0] 49)) from ⟨(Below.refl _ wo).alloc (Nat.le_refl _) _, none, 0, 0, heap_alloc_new wo _, Own.none_ _ _ _ _⟩)
        go_wp2_with fail
        obtain ⟨D, hD⟩ : ∃ D, wo.heap.size = D := ⟨_, rfl⟩
        generalize wo.alloc (.cells #[.slice none 0 0, .int .u8 lf, .int .u8 0, .int .u8 0] 49) = W1 at *
        rw [hD] at hxi ⊢
        have hD := hide hD
        go_cut [70] from 64 to 71 (fun s70 wx => XI D wo lf (rR (levelsS cl base) kp k) wx)
        case first =>
          obtain ⟨hbx, Ax, nx, cx, hX, hO⟩ := hxi.out
          have hE1 := hEo.out.below (w' := W1) (by rw [hD.out]; exact hbx)
          obtain ⟨ob', bx', ox', hA, hob', hcM1, _, _, hRun⟩ := hE1.run hxk hxp (hKP.out.rR_first hkN)
          injection hA with hA
          injection hA with hA
          subst hA
          rw [hRl] at hcM1 hRun
          have hRun := hide hRun
          have f0 := hX.c0
          have f1 := hX.free 0
          have hO := hide hO
          have hbx := hide hbx
          have hX := hide hX
          have hrl : rl ≤ n := by omega
          have hxl0 := hO.out.len
          have hDs : D ≤ W1.heap.size := Nat.le_of_lt hX.out.lt
          go_region_law (refine step_app elt64 rfl (.tmp 65) (.tmp 69) rfl (by simp [Act.eval] <;> rfl) (by simp [Act.eval] <;> rfl) hO.out.drew hRun.out.drew (by have : nx = 0 := hxl0.symm; omega) (by simp <;> omega) ?_; intro A4 c4 w4 hown4 hg4 hat4; obtain ⟨hX4, hI4⟩ := (XI.app hbx.out.drew hX.out hO.out.drew hown4 hg4); have f4 := hX4.c0; have f5 := hX4.free 0; have hI4 := hide hI4; clear hX4 hown4 hg4 hat4)
          all_goals go_wp2_with fail
          all_goals go_meet
          all_goals exact hI4.out
        have hXI := hide hcut
        obtain ⟨g, m1, cx, hm1, hm0, hX, hcz1, hg1⟩ := hcut.last (z := (rZ (levelsS cl base) kp k : Int)) (by simpa using hKP.out.rR_last hkN [])
        rw [hRl] at hm1
        have f0 := hX.c0
        have v1 : IntKind.i64.wrap ((m1 : Int) - 1) = (m1 : Int) - 1 := IntWalk.i64_in _ (by omega)
        have v2 : (0 : Int) ≤ (m1 : Int) - 1 := by omega
        have v3 : (m1 : Int) - 1 < (m1 : Int) := by omega
        have v4 : ((m1 : Int) - 1).toNat = m1 - 1 := by omega
        subst hm1
        clear hcz hco hcm hcl6 hcM hxi hct
        go_wp2_with fail
        clear hX hcz1 hg1 f0 v1 v2 v3 v4 hm0
        go_loopw [16] (fun s16 wr2 => ∃ (rs : List Nat) (q : Nat), s16 = .int .i64 (q : Int) ∧ Hid (rZ (levelsS cl base) kp (rs.getLastD 0) = q) ∧ Hid (Chain (levelsS cl base) kp cl (matchS cl) N k rs) ∧ XI D wo lf (rs.flatMap (rR (levelsS cl base) kp)) wr2) (fun i _ => n - (intOf i).toNat)
        case atStart => exact ⟨[k], rZ (levelsS cl base) kp k, rfl, hide rfl, hide (Chain.one hkN), by simpa using hXI.out⟩
        case round =>
          clear hXI
          obtain ⟨rs, q, rfl, hqZ, hCh, hxi2⟩ := hrel
          obtain ⟨w2, rfl⟩ : ∃ w2 : World, w2 = wr := ⟨_, rfl⟩
          have hE2 := hide (hEo.out.below (w' := w2) (by rw [hD.out]; exact hxi2.1))
          have hjN := hCh.out.lt _ hCh.out.last_mem
          have hkpj := hKP.out.last hjN
          rw [hqZ.out] at hkpj
          have hqn : q < n := by have := hKP.out.nn _ (List.mem_of_getElem? hkpj); have := hcl.out; omega
          obtain ⟨b8', o8', oq, hA8, hb8', hoq, hcoq⟩ := hE2.out.o.at_ hqn
          injection hA8 with hA8
          injection hA8 with hA8 hA8'
          subst hA8
          subst hA8'
          obtain ⟨b9', o9', mq, hA9, hb9', hmq, hcmq⟩ := hE2.out.m.at_ hqn
          injection hA9 with hA9
          injection hA9 with hA9 hA9'
          subst hA9
          subst hA9'
          have q6 : (q : Int) < (n : Int) := by omega
          have q7 : (0 : Int) ≤ (q : Int) := by omega
          have hkpj := hide hkpj
          have hxi2 := hide hxi2
          go_upto_region 17 with fail
          go_cut [100] from 80 to 100 (fun s100 wx => s100 = .bool (opS oq && decide (mq < (n : Int))) ∧ w2 = wx)
          case first =>
            have hop : Hid (opS oq = (decide (19 ≤ oq) && decide (oq ≤ 21))) := hide rfl
            cases t1 : decide (19 ≤ oq) with
            | false =>
              go_wp2_with fail
              go_meet
              exact ⟨by rw [hop.out, t1]; rfl, rfl⟩
            | true => cases t2 : decide (oq ≤ 21) with
              | false =>
                go_wp2_with fail
                go_meet
                exact ⟨by rw [hop.out, t1, t2]; rfl, rfl⟩
              | true => cases t3 : decide (mq < (n : Int)) with
                | false =>
                  go_wp2_with fail
                  go_meet
                  exact ⟨by rw [hop.out, t1, t2, t3]; rfl, rfl⟩
                | true =>
                  go_wp2_with fail
                  go_meet
                  exact ⟨by rw [hop.out, t1, t2, t3]; rfl, rfl⟩
          obtain ⟨rfl, rfl⟩ := hcut
          cases hbq : (opS oq && decide (mq < (n : Int))) with
          | false =>
            have hmax : Hid (∀ k' < N, ¬ Nx (levelsS cl base) kp cl (matchS cl) (rs.getLastD 0) k') := hide (fun k' hk' hn => by
              obtain ⟨h1, h2⟩ := hn
              unfold rO at h1
              rw [hqZ.out, getD_of hoq.out] at h1
              unfold rM at h2
              rw [hqZ.out, getD_of hmq.out] at h2
              have h3 := hKP.out.nn _ (List.mem_of_getElem? (hKP.out.first hk'))
              have h4 := hcl.out
              rw [h1] at hbq
              simp at hbq
              omega)
            clear hcmq hb9'
            obtain ⟨s1, hs1⟩ : ∃ s1, atS (levelsS cl base) kp base ((rC (levelsS cl base) kp k : Int) + (-1)) = s1 := ⟨_, rfl⟩
            obtain ⟨s2, hs2⟩ : ∃ s2, atS (levelsS cl base) kp base (((rC (levelsS cl base) kp (rs.getLastD 0 + 1) - 1 : Nat) : Int) + 1) = s2 := ⟨_, rfl⟩
            have hb1 := atS_bd (kp := kp) (base := base) (n := (rC (levelsS cl base) kp k : Int) + (-1)) hlbd.out hb
            have hb2 := atS_bd (kp := kp) (base := base) (n := ((rC (levelsS cl base) kp (rs.getLastD 0 + 1) - 1 : Nat) : Int) + 1) hlbd.out hb
            rw [hs1] at hb1
            rw [hs2] at hb2
            have hlfb : 0 ≤ lf ∧ lf ≤ 255 := by have := hlbd.out lf (List.mem_of_getElem? hlf.out); omega
            have hS1 := hide (fun (y : World) (hy : Below D wo y) => (show Calls Try.prog 58 #[.slice A10 kp.length c10, .slice (some ⟨b6, o6, none⟩) n c6, .int .i64 (f : Int), .int .i64 (-1), .int .u8 base] y (fun e w' => e = .returned (.int .u8 s1) ∧ Below y.heap.size y w') from by
              have hE := hEo.out.below (w' := y) (by rw [hD.out]; exact hy)
              have h := beside_any (some ⟨b6, o6, none⟩) A10 n kp.length c6 c10 (levelsS cl base) kp (rC (levelsS cl base) kp k) f (-1) base y hE.l hE.k (fun x hx => by have := hKP.out.nn x hx; have := hcl.out; omega) (by omega) (by omega) hKP.out.sorted (by rw [← hf.out]; exact hKP.out.first hkN)
              rw [hs1] at h
              exact h))
            have hS2 := hide (fun (y : World) (hy : Below D wo y) => (show Calls Try.prog 58 #[.slice A10 kp.length c10, .slice (some ⟨b6, o6, none⟩) n c6, .int .i64 (q : Int), .int .i64 1, .int .u8 base] y (fun e w' => e = .returned (.int .u8 s2) ∧ Below y.heap.size y w') from by
              have hE := hEo.out.below (w' := y) (by rw [hD.out]; exact hy)
              have h := beside_any (some ⟨b6, o6, none⟩) A10 n kp.length c6 c10 (levelsS cl base) kp (rC (levelsS cl base) kp (rs.getLastD 0 + 1) - 1) q 1 base y hE.l hE.k (fun x hx => by have := hKP.out.nn x hx; have := hcl.out; omega) (by omega) (by omega) hKP.out.sorted hkpj.out
              rw [hs2] at h
              exact h))
            have hQ : Hid (rQ (levelsS cl base) kp cl base rs = ⟨rs.flatMap (rR (levelsS cl base) kp), lf, sideS lf s1, sideS lf (if opS oq then base else s2)⟩) := hide (by
              unfold rQ
              rw [hCh.out.head, hf.out, getD_of hlf.out, ← hs1, ← hs2]
              have h1 := hKP.out.step (rs.getLastD 0)
              rw [show (((rC (levelsS cl base) kp (rs.getLastD 0 + 1) - 1 : Nat) : Int) + 1) = (rC (levelsS cl base) kp (rs.getLastD 0 + 1) : Int) by omega]
              unfold rO
              rw [hqZ.out, getD_of hoq.out]
              rfl)
            have hs1 := hide hs1
            have hs2 := hide hs2
            have hxj := hide hxi2.out.to
            clear hxi2
            go_wp2_with fail
            go_cut [141] from 134 to 142 (fun s141 wx => XJ D wo lf (sideS lf s1) 0 (rs.flatMap (rR (levelsS cl base) kp)) wx)
            case first =>
              have f1 : ∀ y : BW w2, y.world.cell? ⟨D, 1, none⟩ = some (.int .u8 lf) := fun y => (hxj.out.below y.below).cells.1
              have hbb : ∀ y : BW w2, Below D wo y.world := fun y => (hxj.out.below y.below).1
              have hsd := hide (fun (y : BW w2) => rside_any lf s1 y.world hlfb (by omega))
              generalize sideS lf s1 = st at *
              refine wp_region_tail 9 (by kernel_rfl) (by kernel_rfl) ?_
              simp only [List.take_succ_cons, List.take_zero, List.drop_succ_cons, List.drop_zero]
              repeat (go_big_quiet_step (first | (go_at_call 58; exact Calls.below_of (hS1.out _ (hbb _))) | (go_at_call 57; exact Calls.below_same (hsd.out _))))
              refine wpQuiet_nil ?_
              rintro _ ⟨y, rfl⟩
              clear f1 hbb
              have hy := hxj.out.below y.below
              obtain ⟨_, e2, e3, e4⟩ := hy.cells
              have e4 := e4 2
              go_wp2_with fail
              go_meet
              exact hy.set2 st
            have hxk1 := hide hcut
            clear hxj hS1
            obtain ⟨w6, hw6⟩ : ∃ w6 : World, w6 = wc := ⟨_, rfl⟩
            subst hw6
            go_wp2_with fail
            go_cut [150] from 143 to 151 (fun s150 wx => XJ D wo lf (sideS lf s1) (sideS lf s2) (rs.flatMap (rR (levelsS cl base) kp)) wx)
            case first =>
              have f1 : ∀ y : BW w6, y.world.cell? ⟨D, 1, none⟩ = some (.int .u8 lf) := fun y => (hxk1.out.below y.below).cells.1
              have hbb : ∀ y : BW w6, Below D wo y.world := fun y => (hxk1.out.below y.below).1
              have hsd := hide (fun (y : BW w6) => rside_any lf s2 y.world hlfb (by omega))
              generalize sideS lf s2 = en at *
              refine wp_region_tail 9 (by kernel_rfl) (by kernel_rfl) ?_
              simp only [List.take_succ_cons, List.take_zero, List.drop_succ_cons, List.drop_zero]
              repeat (go_big_quiet_step (first | (go_at_call 58; exact Calls.below_of (hS2.out _ (hbb _))) | (go_at_call 57; exact Calls.below_same (hsd.out _))))
              refine wpQuiet_nil ?_
              rintro _ ⟨y, rfl⟩
              clear f1 hbb
              have hy := hxk1.out.below y.below
              obtain ⟨_, e2, e3, e4⟩ := hy.cells
              have e4 := e4 3
              go_wp2_with fail
              go_meet
              exact hy.set3 en
            have hxk2 := hide hcut
            clear hxk1 hS2
            obtain ⟨w7, hw7⟩ : ∃ w7 : World, w7 = wc := ⟨_, rfl⟩
            subst hw7
            go_upto_region 26 with fail
            have hE7 := hEo.out.below (w' := w7) (by rw [hD.out]; exact hxk2.out.1)
            obtain ⟨b8', o8', oq', hA8, hb8'', hoq', hcoq'⟩ := hE7.o.at_ hqn
            injection hA8 with hA8
            injection hA8 with hA8 hA8'
            subst hA8
            subst hA8'
            obtain rfl : oq' = oq := by have := hoq'.out; rw [hoq.out] at this; exact (Option.some.inj this).symm
            clear hE7 hoq'
            go_cut [163] from 152 to 163 (fun s163 wx => s163 = .bool (opS oq') ∧ w7 = wx)
            case first =>
              have hop : Hid (opS oq' = (decide (19 ≤ oq') && decide (oq' ≤ 21))) := hide rfl
              cases t1 : decide (19 ≤ oq') with
              | false =>
                go_wp2_with fail
                go_meet
                exact ⟨by rw [hop.out, t1]; rfl, rfl⟩
              | true => cases t2 : decide (oq' ≤ 21) with
                | false =>
                  go_wp2_with fail
                  go_meet
                  exact ⟨by rw [hop.out, t1, t2]; rfl, rfl⟩
                | true =>
                  go_wp2_with fail
                  go_meet
                  exact ⟨by rw [hop.out, t1, t2]; rfl, rfl⟩
            obtain ⟨rfl, rfl⟩ := hcut
            have hct := hide (cntS_on hS)
            have hsqk := hide (hch.out k rs hkN hS hCh.out hmax.out)
            clear hcoq hcoq' hx hE
            cases hop : opS oq' with
            | false =>
              rw [hop] at hQ
              obtain ⟨hbx9, Ax, nx, cx, hX, hO⟩ := hxk2.out
              have f0 := hX.c0
              have f1 := hX.c1
              have f2 := hX.c2
              have f3 := hX.c3
              have hDW := hX.lt
              have hO := hide hO
              have hbx9' := (show Below wo.heap.size wo w7 from by rw [hD.out]; exact hbx9)
              have hszv := hbx9'.size
              have hsq9 := hide (hsq.out.below hbx9')
              have hbel9 := hide (hbel.out.trans (hbx9'.mono hszo))
              clear hbx9 hbx9' hX
              go_wp2_with (at_builtin; refine wpList_appX rfl (.tmp 169) (.tmp 171) rfl rfl rfl (hsq9.out.row.alloc _) (heap_at_new _ _ _ (by simp)) (by have := hyl.out; omega) (by simp; omega) ?_; intro A3 c3 w8 hrow8 hg8; have hS8 := hide (Sq.new2 hsq.out (hsq9.out.alloc _) hD.out (by have := hD.out; omega) (hO.out.alloc _) hrow8 hg8); have hb8 := hide ((hbel9.out.alloc (by omega) _).grown hg8 (by simp; omega) (fun g hg => (hsq9.out.lt g hg).1)); clear hrow8 hg8)
              go_roundw
              case rel =>
                refine ⟨k + 1, c3, A3, ys ++ [⟨Ax, cx, ⟨rs.flatMap (rR (levelsS cl base) kp), lf, sideS lf s1, sideS lf s2⟩⟩], by omega, by go_num, by rw [List.length_append]; rfl, by rw [List.length_append]; exact hS8.out, hide ?_, hide (by rw [List.length_append]; have := hyl.out; show _ + 1 ≤ _; omega), hb8.out⟩
                rw [List.map_append, hys.out, hct.out, take_next hsqk.out, hQ.out]
                rfl
              case measure => simp [intOf]; omega
            | true =>
              rw [hop] at hQ
              have hsd := hide (rside_any lf base w7 hlfb (by omega))
              obtain ⟨f1, _, f3, f4⟩ := hxk2.out.cells
              have f4 := f4 3
              have hxk3 := hide (hxk2.out.set3 (sideS lf base))
              go_wp2_with fail
              refine hsd.out.mono ?_
              rintro e w9 ⟨rfl, rfl⟩
              go_upto_region 28 with fail
              clear f1 f3 f4 hxk2 hsd
              generalize w7.setCell ⟨D, 3, none⟩ (.int .u8 (sideS lf base)) = w9 at *
              obtain ⟨hbx9, Ax, nx, cx, hX, hO⟩ := hxk3.out
              have f0 := hX.c0
              have f1 := hX.c1
              have f2 := hX.c2
              have f3 := hX.c3
              have hDW := hX.lt
              have hO := hide hO
              have hbx9' := (show Below wo.heap.size wo w9 from by rw [hD.out]; exact hbx9)
              have hszv := hbx9'.size
              have hsq9 := hide (hsq.out.below hbx9')
              have hbel9 := hide (hbel.out.trans (hbx9'.mono hszo))
              clear hbx9 hbx9' hX
              go_wp2_with (at_builtin; refine wpList_appX rfl (.tmp 169) (.tmp 171) rfl rfl rfl (hsq9.out.row.alloc _) (heap_at_new _ _ _ (by simp)) (by have := hyl.out; omega) (by simp; omega) ?_; intro A3 c3 w8 hrow8 hg8; have hS8 := hide (Sq.new2 hsq.out (hsq9.out.alloc _) hD.out (by have := hD.out; omega) (hO.out.alloc _) hrow8 hg8); have hb8 := hide ((hbel9.out.alloc (by omega) _).grown hg8 (by simp; omega) (fun g hg => (hsq9.out.lt g hg).1)); clear hrow8 hg8)
              go_roundw
              case rel =>
                refine ⟨k + 1, c3, A3, ys ++ [⟨Ax, cx, ⟨rs.flatMap (rR (levelsS cl base) kp), lf, sideS lf s1, sideS lf base⟩⟩], by omega, by go_num, by rw [List.length_append]; rfl, by rw [List.length_append]; exact hS8.out, hide ?_, hide (by rw [List.length_append]; have := hyl.out; show _ + 1 ≤ _; omega), hb8.out⟩
                rw [List.map_append, hys.out, hct.out, take_next hsqk.out, hQ.out]
                rfl
              case measure => simp [intOf]; omega
          | true =>
            have hq2 : opS oq = true ∧ mq < (n : Int) := by simpa using hbq
            obtain ⟨k', hk', hnx⟩ := hKP.out.goes_on hb hjN (by rw [hqZ.out, getD_of hoq.out]; exact hq2.1) (by rw [hqZ.out]; exact hmq.out) (by have := hcl.out; omega)
            obtain ⟨mi, hmi, _, _⟩ := open_match hoq.out hq2.1
            obtain rfl : mq = (mi : Int) := by have := hmq.out; rw [hmi] at this; exact (Option.some.inj this).symm
            have hmiF : rF (levelsS cl base) kp k' = mi := by
              have h2 := hnx.2
              unfold rM at h2
              rw [hqZ.out, getD_of hmq.out, Int.toNat_natCast] at h2
              exact h2.symm
            have hmiF := hide hmiF
            have hnx := hide hnx
            clear hmi hq2 hcoq hcmq
            go_wp2_with fail
            go_loopw [17] (fun s17 wr3 => ∃ t : Nat, t ≤ N ∧ s17 = .int .i64 ((t : Nat) : Int) ∧ XI D wo lf (rs.flatMap (rR (levelsS cl base) kp) ++ (if k' < t then rR (levelsS cl base) kp k' else [])) wr3) (fun i _ => N - (intOf i).toNat)
            case atStart => exact ⟨0, Nat.zero_le _, rfl, by rw [if_neg (Nat.not_lt_zero _), List.append_nil]; exact hxi2.out⟩
            case round =>
              obtain ⟨t, ht, rfl, hxi3⟩ := hrel
              obtain ⟨w3, rfl⟩ : ∃ w3 : World, w3 = wr := ⟨_, rfl⟩
              by_cases htN : t < N
              · have hE3 := hide (hEo.out.below (w' := w3) (by rw [hD.out]; exact hxi3.1))
                obtain ⟨x', hxt, hxtp⟩ := hx.out t htN
                obtain ⟨hL1, hL2, hL3⟩ := hKP.out.rR_len htN
                obtain ⟨ob', bt, ot, hA, hob', hcMt, hbt, hczt, hRun⟩ := hE3.out.run hxt hxtp (hKP.out.rR_first htN)
                injection hA with hA
                injection hA with hA
                subst hA
                obtain ⟨b9', o9', mq', hA9, hb9'', hmq', hcmq'⟩ := hE3.out.m.at_ hqn
                injection hA9 with hA9
                injection hA9 with hA9 hA9'
                subst hA9
                subst hA9'
                obtain rfl : mq' = (mi : Int) := by have := hmq'.out; rw [hmq.out] at this; exact (Option.some.inj this).symm
                obtain ⟨ft, hft⟩ : ∃ ft, rF (levelsS cl base) kp t = ft := ⟨_, rfl⟩
                rw [hft] at hczt
                have q8 : (t : Int) < (N : Int) := by omega
                have q9 : (0 : Int) ≤ (t : Int) := by omega
                have q10 : (0 : Int) < ((rR (levelsS cl base) kp t).length : Int) := by omega
                have hL2 := hide hL2
                clear hL1 hmq'
                have hRun := hide hRun
                by_cases htk : t = k'
                · subst htk
                  have hxi3' := hide (show XI D wo lf (rs.flatMap (rR (levelsS cl base) kp)) w3 from by
                    rw [if_neg (Nat.lt_irrefl _), List.append_nil] at hxi3; exact hxi3)
                  clear hxi3
                  have t4 : ((ft : Int) == (mi : Int)) = true := by rw [← hft, hmiF.out]; simp
                  have hft := hide hft
                  generalize hRl2 : (rR (levelsS cl base) kp t).length = rl2 at *
                  obtain ⟨hbx3, Ax, nx, cx, hX, hO⟩ := hxi3'.out
                  have f0 := hX.c0
                  have f1 := hX.free 0
                  have hnx0 : nx ≤ 1000000 := by
                    have h1 := flat_len (levelsS cl base) kp rs
                    have h2 := chain_len hKP.out hCh.out
                    have h3 : rs.length * kp.length ≤ 1000 * 1000 := Nat.mul_le_mul (by omega) (by omega)
                    have h4 := hO.len
                    omega
                  have hO := hide hO
                  have hbx3 := hide hbx3
                  have hX := hide hX
                  have hDs : D ≤ w3.heap.size := Nat.le_of_lt hX.out.lt
                  go_wp2_with fail
                  go_quiet (fail)
                  go_wp2_with fail
                  have hO := hide (show Own D 3 .i64 (w3.drewN nq) Ax nx cx _ from hO.out)
                  have hX := hide (show XB (w3.drewN nq) D _ _ _ _ from hX.out)
                  have hbx3 := hide (below_drewN hbx3.out nq)
                  have hRun := hide (show Rd .i64 (w3.drewN nq) _ _ _ from hRun.out)
                  have hcMt : (w3.drewN nq).cell? ⟨ob, t, none⟩ = _ := hcMt
                  have f0 := hX.out.c0
                  have f1 := hX.out.free 0
                  have hDs : D ≤ (w3.drewN nq).heap.size := hDs
                  generalize w3.drewN nq = w5 at *
                  go_region_law (refine step_app elt64 rfl (.tmp 119) (.tmp 123) rfl (by simp [Act.eval] <;> rfl) (by simp [Act.eval] <;> rfl) hO.out.drew hRun.out.drew (by omega) (by simp <;> omega) ?_; intro A4 c4 w4 hown4 hg4 hat4; obtain ⟨hX4, hI4⟩ := (XI.app hbx3.out.drew hX.out hO.out.drew hown4 hg4); have f4 := hX4.c0; have f5 := hX4.free 0; have hI4 := hide hI4; clear hX4 hown4 hg4 hat4)
                  all_goals go_wp2_with fail
                  all_goals go_roundw
                  all_goals first
                    | exact ⟨t + 1, by omega, by go_num, by rw [if_pos (Nat.lt_succ_self _)]; exact hI4.out⟩
                    | (simp [intOf]; omega)
                · have t4 : ((ft : Int) == (mi : Int)) = false := by
                    rw [← hft, ← hmiF.out]
                    have h1 : rF (levelsS cl base) kp t ≠ rF (levelsS cl base) kp k' := fun e => htk (hKP.out.F_inj htN hk' e)
                    exact beq_eq_false_iff_ne.2 (by omega)
                  have hft := hide hft
                  have hxi3' := hide (show XI D wo lf (rs.flatMap (rR (levelsS cl base) kp) ++ (if k' < t + 1 then rR (levelsS cl base) kp k' else [])) w3 from by
                    rcases Nat.lt_or_ge k' t with h1 | h1
                    · rw [if_pos h1] at hxi3; rw [if_pos (by omega)]; exact hxi3
                    · rw [if_neg (by omega)] at hxi3; rw [if_neg (by omega)]; exact hxi3)
                  clear hxi3
                  generalize hRl2 : (rR (levelsS cl base) kp t).length = rl2 at *
                  go_wp2_with fail
                  go_quiet (fail)
                  go_wp2_with fail
                  go_roundw
                  case rel => exact ⟨t + 1, by omega, by go_num, XI.drewN hxi3'.out _⟩
                  case measure => simp [intOf]; omega
              · obtain rfl : t = N := by omega
                rw [if_pos hk'] at hxi3
                obtain ⟨g, m2, cx, hm2, hm0, hX, hcz1, hg1⟩ := hxi3.last (hKP.out.rR_last hk' _)
                have hnx0 : m2 ≤ 1001000 := by
                  have h1 := flat_len (levelsS cl base) kp rs
                  have h2 := chain_len hKP.out hCh.out
                  have h3 : rs.length * kp.length ≤ 1000 * 1000 := Nat.mul_le_mul (by omega) (by omega)
                  have h4 := (hKP.out.rR_len hk').2.2
                  rw [List.length_append] at hm2
                  omega
                have hlt : q < rZ (levelsS cl base) kp k' := by
                  have h1 := hKP.out.nx_lt hjN hk' hnx.out
                  have h2 := hKP.out.mono (i := rs.getLastD 0 + 1) (j := k') (by omega)
                  have h3 := hKP.out.step k'
                  have h4 := hKP.out.step (rs.getLastD 0)
                  exact hKP.out.lt hkpj.out (hKP.out.last hk') (by omega)
                have hlt2 : rZ (levelsS cl base) kp k' < n := by have := hKP.out.nn _ (List.mem_of_getElem? (hKP.out.last hk')); have := hcl.out; omega
                have hxi4 := hide (show XI D wo lf ((rs ++ [k']).flatMap (rR (levelsS cl base) kp)) w3 from by rw [List.flatMap_append]; simpa using hxi3)
                have hCh4 := hide (hCh.out.app hk' hnx.out)
                clear hm2 hxi3
                have f0 := hX.c0
                have v1 : IntKind.i64.wrap ((m2 : Int) - 1) = (m2 : Int) - 1 := IntWalk.i64_in _ (by omega)
                have v2 : (0 : Int) ≤ (m2 : Int) - 1 := by omega
                have v3 : (m2 : Int) - 1 < (m2 : Int) := by omega
                have v4 : ((m2 : Int) - 1).toNat = m2 - 1 := by omega
                go_wp2_with fail
                go_roundw
                case rel => exact ⟨rs ++ [k'], rZ (levelsS cl base) kp k', rfl, hide (by rw [last_app]), hCh4, hxi4.out⟩
                case measure => simp [intOf]; omega
    · obtain rfl : k = N := by omega
      have hsq := hide hsq
      have hbel := hide hbel
      clear hkN
      go_wp2_with fail
      go_ret2
      refine ⟨A12, A6, c12, c6, ys, rfl, hsq.out.mono hsz5, ?_, hE.out.l.below hbel.out, hb5.out.trans (hbel.out.mono hsz5)⟩
      rw [hys.out, ← hcnt.out, List.take_length]
end Go.Proofs.Ytaojjneajiobnaa
/-! The walk of RunsTell -/
namespace Go.Proofs.Ytaojjneajiobnaa
open Go.RowKit Go.Maps

/-- runs.Sequences, whatever the level -/
theorem seqs_all (A : Option Addr) (n c : Nat) (l : List Int) (b0 : Int) (w : World) (hr : Rd .i32 w A n l) (hn : n ≤ 90000) (hb : 0 ≤ b0) :
    Calls Try.prog 27 #[.slice A n c, .int .u8 b0] w (SeqsRet n (minB b0) (l.map cls) w) := by
  by_cases h : 1 < b0
  · have := seqs_min A n c l b0 w hr hn h
    rwa [show minB b0 = 1 from if_pos h]
  · have := seqs_any A n c l b0 w hr hn ⟨hb, by omega⟩
    rwa [show minB b0 = b0 from if_neg h]
theorem rseqs_all (A : Option Addr) (n c : Nat) (l : List Int) (b0 : Int) (w : World) (hr : Rd .i32 w A n l) (h32 : I32 l) (hn : n ≤ 1000) (hb : 0 ≤ b0) :
    Calls Try.prog 28 #[.slice A n c, .int .u8 b0] w (RSeqRet n (minB b0) (l.map cls) w) :=
  rseq_any A n c l b0 (minB b0) w hr h32 hn (minB_bd hb) (hide rfl)

set_option maxRecDepth 100000 in
set_option maxHeartbeats 4000000 in
theorem lawRTell_any (A : Option Addr) (n c : Nat) (l : List Int) (b0 x : Int) (w : World) (hr : Rd .i32 w A n l) (h32 : I32 l) (hb : 0 ≤ b0 ∧ b0 ≤ 255) (_hx : 0 ≤ x ∧ x ≤ 255) :
    Calls Try.prog 9 #[.slice A n c, .int .u8 b0, .int .u8 x] w fun e w' => e = .returned (.bool true) ∧ Below w.heap.size w w' := by
  by_cases hbig : 300 < n
  · have t0 : decide (300 < (n : Int)) = true := by simp; omega
    go_enter Try.func9, Try.ntmps9
    go_wp2_with fail
    refine (awake_r w).mono ?_
    rintro e w2 ⟨rfl, hb2⟩
    go_wp2_with fail
    go_ret
    exact ⟨rfl, hb2⟩
  · have t0 : decide (300 < (n : Int)) = false := by simp; omega
    have hE := hide (seqs_all A n c l b0 w hr (by omega) hb.1)
    have hF := hide (fun W hB => rseqs_all A n c l b0 W (hr.below hB) h32 (by omega) hb.1)
    have hsm := seqs_small (l.map cls) (minB b0) (by rw [List.length_map, hr.len]; omega)
    have hsm1 := hide hsm.1
    have hsm2 := hide hsm.2
    have hlu := hide (levels_u8 (minB_bd hb.1) (map_cls_u8 l))
    have hlvl := hide ((levels_len (l.map cls) (minB b0)).trans ((List.length_map _).trans hr.len))
    clear hsm h32
    unfold SeqsRet at hE
    unfold RSeqRet at hF
    generalize levelsS (l.map cls) (minB b0) = lv at *
    generalize seqsS (l.map cls) (minB b0) = qs at *
    go_enter Try.func9, Try.ntmps9
    go_wp2_with fail
    refine hE.out.mono ?_
    rintro e w1 ⟨A1, c1, g2, c2, xs, rfl, hS1, hx1, hL1, hb1⟩
    have hn1 : xs.length = qs.length := by rw [← hx1, List.length_map]
    have hr1 := hS1.runs (by rw [hn1]; exact hsm1.out)
    rw [hx1, hn1] at hr1
    rw [hn1]
    have hr1 := hide hr1
    have hL1 := hide hL1.rd
    have hsz1 := hb1.size
    clear hS1 hx1 hn1 hE
    go_wp2_with fail
    refine (hF.out w1 hb1).mono ?_
    rintro e w2 ⟨A2, A3, c3, c4, ys, rfl, hS2, hx2, hL2, hb2⟩
    have hn2 : ys.length = qs.length := by rw [← hx2, List.length_map]
    have hr2 := hS2.runs (by rw [hn2]; exact hsm1.out)
    rw [hx2, hn2] at hr2
    rw [hn2]
    have hr2 := hide hr2
    replace hr1 := hide (hr1.out.below hb2)
    replace hL1 := hide (hL1.out.below hb2)
    have hL2 := hide hL2
    replace hb2 := hb1.trans (hb2.mono hsz1)
    have hsz2 := hb2.size
    clear hS2 hx2 hn2 hF hb1 hsz1
    go_wp2_with fail
    refine (sameq_any _ _ _ _ _ qs w2 hr1.out hr2.out hsm2.out).mono ?_
    rintro e w3 ⟨rfl, hb3⟩
    replace hL1 := hide (hL1.out.below hb3)
    replace hL2 := hide (hL2.out.below hb3)
    replace hb3 := hb2.trans (hb3.mono hsz2)
    have hsz3 := hb3.size
    clear hb2 hsz2 hr1 hr2
    go_wp2_with fail
    refine (same_any _ _ _ _ _ _ lv lv w3 hL1.out hL2.out hlu.out hlu.out).mono ?_
    rintro e w4 ⟨rfl, rfl⟩
    rw [sameB_self]
    go_wp2_with fail
    refine (removed_any x w3).mono ?_
    rintro e w5 ⟨rfl, rfl⟩
    have tx : ((x == 9) == (x == 9)) = true := by simp
    go_wp2_with fail
    refine (awake_r w3).mono ?_
    rintro e w6 ⟨rfl, hb6⟩
    replace hb6 := hb3.trans (hb6.mono hsz3)
    go_wp2_with fail
    go_ret
    exact ⟨rfl, hb6⟩
end Go.Proofs.Ytaojjneajiobnaa

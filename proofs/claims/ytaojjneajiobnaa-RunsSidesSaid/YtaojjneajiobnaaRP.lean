/-
  The walk of RunsPlain.
-/
import Derived.Test.YtaojjneajiobnaaRPm
namespace Go.Proofs.Ytaojjneajiobnaa
open Go.RowKit

/-- the kept places of a row -/
def kpS (cs : List Int) : List Int := keptTo cs cs.length
theorem kpS_app (cs : List Int) (x : Int) : kpS (cs ++ [x]) = kpS cs ++ if x = 9 then [] else [(cs.length : Int)] := by
  unfold kpS
  rw [List.length_append, List.length_singleton]
  have hg : (cs ++ [x]).getD cs.length 0 = x := by simp [List.getD]
  have hs : keptTo (cs ++ [x]) cs.length = keptTo cs cs.length := by
    unfold keptTo
    congr 1
    apply List.filter_congr
    intro i hi
    have hi := List.mem_range.1 hi
    simp [List.getD, List.getElem?_append_left hi]
  by_cases h : x = 9
  · rw [keptTo_off (by rw [hg, h]; rfl), hs, if_pos h, List.append_nil]
  · rw [keptTo_on (by rw [hg]; simpa using h), hs, if_neg h]
theorem kpS_len (cs : List Int) : (kpS cs).length ≤ cs.length := keptTo_len cs cs.length
theorem RunsAt.one {w : World} {b n m : Nat} {A : Option Addr} {ps : List Int} {x1 x2 x3 : Int} (h : w.heap[b]? = some (.cells #[.slice A n m, .int .u8 x1, .int .u8 x2, .int .u8 x3] 49 (0, 0))) (h1 : Rd .i64 w A n ps) : RunsAt w (some ⟨b, 0, none⟩) 1 [⟨ps, x1, x2, x3⟩] := by
  obtain rfl := h1.len
  refine ⟨rfl, by decide, fun _ => ⟨b, rfl, lt_of_block h, fun i q hq => ?_⟩⟩
  match i, hq with
  | 0, hq =>
    obtain rfl := Option.some.inj hq
    exact ⟨_, _, cell_of_row _ _ _ _ _ _ h, h1, cell_of_row _ _ _ _ _ _ h, cell_of_row _ _ _ _ _ _ h, cell_of_row _ _ _ _ _ _ h⟩
  | i + 1, hq => simp at hq
set_option maxRecDepth 100000 in
set_option maxHeartbeats 8000000 in
theorem lawRPlain_any (A : Option Addr) (n c : Nat) (l : List Int) (rtl : Bool) (w : World) (hr : Rd .i32 w A n l) :
    Calls Try.prog 11 #[.slice A n c, .bool rtl] w fun e w' => e = .returned (.bool true) ∧ Below w.heap.size w w' := by
  have hm := hr.max
  have hln := hide hr.len
  by_cases hbig : 300 < n
  · have hb : decide (300 < (n : Int)) = true := by simp; omega
    go_enter Try.func11, Try.ntmps11
    go_wp2_with fail
    refine (awake_r w).mono ?_
    rintro e w1 ⟨rfl, hb1⟩
    go_wp2_with fail
    go_ret
    exact ⟨rfl, hb1⟩
  · have hb : decide (300 < (n : Int)) = false := by simp; omega
    have hfl := fld1
    have hP := hide (par_any none 0 0 [] false rtl w (Rd.nil _ _ _) (by decide))
    rw [show parS [] false rtl = bit rtl from rfl] at hP
    have hb01 : 0 ≤ bit rtl ∧ bit rtl ≤ 1 := by cases rtl <;> decide
    go_enter Try.func11, Try.ntmps11
    go_wp2_with fail
    refine hP.out.mono ?_
    rintro e w1 ⟨rfl, hb1⟩
    generalize bit rtl = base at *
    have hs1 := hb1.size
    have hb1 := hide hb1
    clear hP
    go_wp2_with fail
    go_loopw [6, 7, 21] (fun o wt i wr => ∃ (k m N c1 c2 : Nat) (A1 A2 : Option Addr), k ≤ n ∧ i = .int .i64 ((k : Nat) : Int) ∧ o = .slice A1 m c1 ∧ wt = .slice A2 N c2 ∧ m ≤ k ∧ N ≤ k ∧ Own w.heap.size 21 .i32 wr A1 m c1 (bareS (l.take k)) ∧
      Own w.heap.size 3 .i64 wr A2 N c2 (kpS ((bareS (l.take k)).map cls)) ∧ Below w.heap.size w wr) (fun _ _ i _ => n - (intOf i).toNat)
    case atStart => exact ⟨0, 0, 0, 0, 0, none, none, Nat.zero_le _, rfl, rfl, rfl, Nat.le_refl _, Nat.le_refl _, Own.none_ _ _ _ _, Own.none_ _ _ _ _, hb1.out⟩
    case round =>
      obtain ⟨k, m, N, c1, c2, A1, A2, hk, rfl, rfl, rfl, hmk, hNk, hown, hkp, hbel⟩ := hrel
      obtain ⟨wo, rfl⟩ : ∃ wo : World, wo = wr := ⟨_, rfl⟩
      have hsz := hbel.size
      by_cases hkn : k < n
      · obtain ⟨b, off, z, rfl, hbw, hz, hck⟩ := (hr.below hbel).at_ hkn
        obtain ⟨p0, p2, p3, p4, p5, p6, hps⟩ := props_of z
        have hst := hide (bare_take hz.out)
        have hof : Hid (Calls Try.prog 23 #[.int .i32 z] wo (fun e w' => e = .returned (.agg #[.int .u8 p0, .int .u8 (cls z), .int .u8 p2, .int .u8 p3, .int .u8 p4, .int .u8 p5, .int .u8 p6]) ∧ Below wo.heap.size wo w')) := hide (by have h := of_any z wo; rw [hps] at h; exact h)
        clear hps
        have hml := hide hown.len
        have q1 : (k : Int) < (n : Int) := by omega
        have q2 : (0 : Int) ≤ (k : Int) := by omega
        have hK := hide (kpS_app ((bareS (l.take k)).map cls) (cls z))
        generalize hcz : cls z = p1 at *
        have hcz' := hide hcz
        clear hcz
        by_cases hp14 : 14 ≤ p1
        · have t1 : decide (14 ≤ p1) = true := by simp; omega
          have hst' := hide (hst.out.trans (if_neg (by omega)))
          have hown := hide hown
          have hkp := hide hkp
          have hbel := hide hbel
          clear hst hp14 hK
          go_wp2_with fail
          refine hof.out.mono ?_
          rintro e w2 ⟨rfl, hb2⟩
          clear hck
          go_wp2_with fail
          go_roundw
          case rel => exact ⟨k + 1, m, N, c1, c2, A1, A2, by omega, by go_num, rfl, rfl, by omega, by omega, by rw [hst'.out]; exact hown.out.below hb2, by rw [hst'.out]; exact hkp.out.below hb2, hbel.out.trans (hb2.mono hbel.out.size)⟩
          case measure => simp [intOf]; omega
        · have t1 : decide (14 ≤ p1) = false := by simp; omega
          have hst' := hide (hst.out.trans (if_pos (by omega)))
          have hstm : Hid (((bareS (l.take (k + 1))).map cls) = (bareS (l.take k)).map cls ++ [p1]) := hide (by rw [hst'.out, List.map_append, List.map_singleton, hcz'.out])
          have hml2 : Hid (((bareS (l.take k)).map cls).length = m) := hide (by rw [List.length_map]; exact hml.out)
          have hown := hide hown
          have hkp := hide hkp
          have hbel := hide hbel
          clear hst hp14
          by_cases hp9 : p1 = 9
          · have t2 : (p1 != 9) = false := by simp [hp9]
            have hK' : Hid (kpS ((bareS (l.take (k + 1))).map cls) = kpS ((bareS (l.take k)).map cls)) := hide (by rw [hstm.out, hK.out, if_pos hp9, List.append_nil])
            have hp9 := hide hp9
            clear hK
            go_wp2_with fail
            refine hof.out.mono ?_
            rintro e w2 ⟨rfl, hb2⟩
            have hown2 := hown.out.below hb2
            have hkp2 := hide (hkp.out.below hb2)
            have hb2' := hide (hbel.out.trans (hb2.mono hbel.out.size))
            have hsz2 := hb2'.out.size
            clear hck
            go_wp2_with (at_builtin; refine wpList_app elt32 rfl (.tmp 37) (.tmp 39) rfl rfl rfl (hown2.alloc _) (own_one _ _ _ _ _ _ rfl (Nat.le_refl _)).rd (by omega) (by simp; omega) ?_; intro A3 c3 w3 hown3 hgr3 _; have hb3 := hide ((hb2'.out.alloc hsz2 (.cells #[.int .i32 z] 21)).grown hgr3 (by simp; omega) (fun g hg => (hown2.lt g hg).1)); have hkp3 := hide ((hkp2.out.alloc (.cells #[.int .i32 z] 21)).kept hgr3 (row_apart hkp2.out.1 hown2.1 (by decide))); clear hgr3)
            go_roundw
            case rel => exact ⟨k + 1, m + 1, N, c3, c2, A3, A2, by omega, by go_num, rfl, rfl, by omega, by omega, by rw [hst'.out]; exact hown3, by rw [hK'.out]; exact hkp3.out, hb3.out⟩
            case measure => simp [intOf]; omega
          · have t2 : (p1 != 9) = true := by simpa using hp9
            have hK' : Hid (kpS ((bareS (l.take (k + 1))).map cls) = kpS ((bareS (l.take k)).map cls) ++ [(m : Int)]) := hide (by rw [hstm.out, hK.out, if_neg hp9, hml2.out])
            have hp9 := hide hp9
            clear hK
            go_wp2_with fail
            refine hof.out.mono ?_
            rintro e w2 ⟨rfl, hb2⟩
            have hown2 := hown.out.below hb2
            have hkp2 := hkp.out.below hb2
            have hb2' := hide (hbel.out.trans (hb2.mono hbel.out.size))
            have hsz2 := hb2'.out.size
            clear hck
            go_wp2_with (first
              | (at_builtin; refine wpList_app elt64 rfl (.tmp 32) (.tmp 35) rfl rfl rfl (hkp2.alloc _) (own_one _ _ _ _ _ _ rfl (Nat.le_refl _)).rd (by omega) (by simp; omega) ?_; intro A4 c4 w3 hkp3 hgr3 _; have hkp3 := hide hkp3; have hb3 := hide ((hb2'.out.alloc hsz2 (.cells #[.int .i64 (m : Int)] 3)).grown hgr3 (by simp; omega) (fun g hg => (hkp2.lt g hg).1)); have hown3 := ((hown2.alloc (.cells #[.int .i64 (m : Int)] 3)).kept hgr3 (row_apart hown2.1 hkp2.1 (by decide))); have hsz3 := hb3.out.size; clear hgr3)
              | (at_builtin; refine wpList_app elt32 rfl (.tmp 37) (.tmp 39) rfl rfl rfl (hown3.alloc _) (own_one _ _ _ _ _ _ rfl (Nat.le_refl _)).rd (by omega) (by simp; omega) ?_; intro A3 c3 w4 hown4 hgr4 _; have hb4 := hide ((hb3.out.alloc hsz3 (.cells #[.int .i32 z] 21)).grown hgr4 (by simp; omega) (fun g hg => (hown3.lt g hg).1)); have hkp4 := hide ((hkp3.out.alloc (.cells #[.int .i32 z] 21)).kept hgr4 (row_apart hkp3.out.1 hown3.1 (by decide))); clear hgr4))
            go_roundw
            case rel => exact ⟨k + 1, m + 1, N + 1, c3, c4, A3, A4, by omega, by go_num, rfl, rfl, by omega, by omega, by rw [hst'.out]; exact hown4, by rw [hK'.out]; exact hkp4.out, hb4.out⟩
            case measure => simp [intOf]; omega
      · obtain rfl : k = n := by omega
        have htk : l.take k = l := List.take_of_length_le (by rw [hln.out]; exact Nat.le_refl _)
        rw [htk] at hown hkp
        clear htk hkn
        have hbc := hide (bare_cls (l := l))
        generalize bareS l = B at *
        have hml := hide hown.len
        have hsq := hide (seqs_bare hb01 hbc.out)
        have hS := hide (seqs_any A1 m c1 B base wo hown.rd (by omega) hb01)
        have hkl := hide hkp.len
        have hsm := hide (seqs_small (B.map cls) base (by rw [List.length_map, hml.out]; omega))
        rw [show keptTo (B.map cls) (B.map cls).length = kpS (B.map cls) from rfl] at hsq
        generalize B.map cls = cl at *
        generalize kpS cl = kp at *
        have hown := hide hown
        have hkpo := hide hkp
        have hbel := hide hbel
        clear hkp
        by_cases hN : N = 0
        · subst hN
          obtain rfl : kp = [] := List.eq_nil_of_length_eq_zero hkl.out
          have hsq' := hide (hsq.out.trans (if_pos rfl))
          clear hsq
          go_wp2_with fail
          refine hS.out.mono ?_
          rintro e w2 ⟨A3, c3, g1, c4, xs, rfl, hq, hx, hL, hb2⟩
          rw [hsq'.out] at hx
          obtain rfl : xs = [] := List.map_eq_nil_iff.1 hx
          have hb2 := hide (hbel.out.trans (hb2.mono hbel.out.size))
          simp only [List.length_nil]
          clear hq hx hL
          go_wp2_with fail
          refine (awake_r w2).mono ?_
          rintro e w3 ⟨rfl, hb3⟩
          go_wp2_with fail
          go_ret
          exact ⟨rfl, hb2.out.trans (hb3.mono hb2.out.size)⟩
        · have hsq' := hide (hsq.out.trans (if_neg (fun e => hN (by rw [← hkl.out, e]; rfl))))
          have tN : ((N : Int) == 0) = false := by simp; omega
          have hN' := hide hN
          clear hsq hN
          go_wp2_with fail
          refine hS.out.mono ?_
          rintro e w2 ⟨A3, c3, g1, c4, xs, rfl, hq, hx, hL, hb2⟩
          have hR := hq.runs (by have := hsm.out.1; rw [← hx, List.length_map] at this; exact this)
          rw [hx, hsq'.out] at hR
          have hx1 : xs.length = 1 := by have := hR.1; simpa using this.symm
          rw [hx1] at hR ⊢
          have hR := hide hR
          have hkp2 := hide (hkpo.out.below hb2)
          have hb2 := hide (hbel.out.trans (hb2.mono hbel.out.size))
          have hps : ∀ q ∈ [(⟨kp, base, base, base⟩ : QR)], q.ps.length ≤ 1000000 := by
            intro q hq
            rw [List.mem_singleton.1 hq]
            show kp.length ≤ 1000000
            rw [hkl.out]; omega
          have hps := hide hps
          clear hq hx hL hx1
          go_wp2_with fail
          refine (sameq_any _ _ 1 _ _ [⟨kp, base, base, base⟩] _ (hR.out.below ((Below.refl _ _).alloc (Nat.le_refl _) _)) (RunsAt.one (heap_at_new _ _ _ rfl) (hkp2.out.alloc _).rd) hps.out).mono ?_
          rintro e w3 ⟨rfl, hb3⟩
          have hb3 := hide ((hb2.out.alloc hb2.out.size _).trans (hb3.mono (by have := hb2.out.size; simp; omega)))
          go_wp2_with fail
          refine (awake_r w3).mono ?_
          rintro e w4 ⟨rfl, hb4⟩
          go_wp2_with fail
          go_ret
          exact ⟨rfl, hb3.out.trans (hb4.mono hb3.out.size)⟩
end Go.Proofs.Ytaojjneajiobnaa

/-
  The sequences are chains of runs; the small functions of the reference (several texts in one).
-/
import Derived.Test.YtaojjneajiobnaaRunQ
import Derived.Test.YtaojjneajiobnaaLPm
import Derived.Test.YtaojjneajiobnaaLDm
import Derived.Test.YtaojjneajiobnaaLBm
import Derived.Test.YtaojjneajiobnaaRunOm
import Derived.Deep.RegionLaw
/-! What RunsPlain says of sequences: plain law -/
namespace Go.Proofs.Ytaojjneajiobnaa
open Go.RowKit

theorem runTo_all {f : Nat → Int} {n a : Nat} (h : ∀ j, j < n → f j = f a) : ∀ m t, m = n - t → t ≤ n → runTo f n a m t = n
  | 0, t, hm, ht => by show t = n; omega
  | m + 1, t, hm, ht => by
    rw [runTo, if_pos ⟨by omega, h t (by omega)⟩]
    exact runTo_all h m (t + 1) (by omega) (by omega)
theorem opS_bare {x : Int} (h : x < 14) : opS x = false := by unfold opS; simp; omega
theorem side_self {b : Int} (h : 0 ≤ b ∧ b ≤ 1) : sideS b b = b := by unfold sideS; rw [Int.max_self]; omega
/-- without what opens and closes there is one sequence, of all that is kept -/
theorem seqs_bare {cl : List Int} {base : Int} (hb : 0 ≤ base ∧ base ≤ 1) (h : ∀ x ∈ cl, x < 14) :
    seqsS cl base = if keptTo cl cl.length = [] then [] else [⟨keptTo cl cl.length, base, base, base⟩] := by
  have h1 := levels_bare base h
  have h2 := classes_bare base h
  have hm : ∀ x ∈ keptTo cl cl.length, 0 ≤ x ∧ x < (cl.length : Int) := keptTo_mem
  unfold seqsS
  rw [h2]
  generalize keptTo cl cl.length = kp at *
  cases hk : kp with
  | nil =>
    rw [if_pos rfl]
    rw [show runsN (lvAt (levelsS cl base) []) ([] : List Int).length = 0 from runsN_of (K := 0) rfl]
    rfl
  | cons z t =>
    rw [if_neg (by simp), ← hk]
    have hlen : 0 < kp.length := by rw [hk]; simp
    have hlv : ∀ j, j < kp.length → lvAt (levelsS cl base) kp j = base := fun j hj => by
      obtain ⟨x, hx⟩ : ∃ x, kp[j]? = some x := ⟨_, List.getElem?_eq_getElem hj⟩
      obtain ⟨h3, h4⟩ := hm x (List.mem_of_getElem? hx)
      obtain ⟨y, rfl⟩ := Int.eq_ofNat_of_zero_le h3
      refine lvAt_of hx ?_
      rw [h1, List.getElem?_replicate, if_pos (by omega)]
    have hcut : cut (lvAt (levelsS cl base) kp) kp.length 1 = kp.length := by
      show runTo _ _ 0 _ _ = _
      exact runTo_all (fun j hj => by rw [hlv j hj, hlv 0 hlen]) _ _ rfl (by show 0 + 1 ≤ _; omega)
    rw [runsN_of hcut]
    show (stepQ _ _ _ _ _ ⟨[], fun _ => none⟩ 0 (cut (lvAt (levelsS cl base) kp) kp.length 1)).out = _
    rw [hcut]
    obtain ⟨p, hp⟩ : ∃ x, kp[0]? = some x := ⟨_, List.getElem?_eq_getElem hlen⟩
    obtain ⟨r, hr⟩ : ∃ x, kp[kp.length - 1]? = some x := ⟨_, List.getElem?_eq_getElem (by omega)⟩
    obtain ⟨p1, p2⟩ := hm p (List.mem_of_getElem? hp)
    obtain ⟨r1, r2⟩ := hm r (List.mem_of_getElem? hr)
    obtain ⟨p, rfl⟩ := Int.eq_ofNat_of_zero_le p1
    obtain ⟨r, rfl⟩ := Int.eq_ofNat_of_zero_le r1
    obtain ⟨oq, hoq⟩ : ∃ x, cl[r]? = some x := ⟨_, List.getElem?_eq_getElem (by omega)⟩
    rw [stepQ_eq (p := p) (q := r) (x := 0) (Y := [newR (levelsS cl base) kp base 0 p]) (q0 := newR (levelsS cl base) kp base 0 p) (oq := oq) hp hr rfl rfl rfl hoq]
    have hl : (levelsS cl base).getD p 0 = base := getD_of' (by rw [h1, List.getElem?_replicate, if_pos (by omega)])
    rw [opS_bare (h oq (List.mem_of_getElem? hoq))]
    have ha1 : atS (levelsS cl base) kp base ((0 : Nat) - 1 : Int) = base := if_pos (.inl (by decide))
    have ha2 : atS (levelsS cl base) kp base (kp.length : Int) = base := if_pos (.inr (Int.le_refl _))
    simp only [Bool.false_eq_true, if_false, List.set_cons_zero, newR, onR, hl, ha1, ha2, side_self hb, List.nil_append, List.drop_zero, List.take_length]
end Go.Proofs.Ytaojjneajiobnaa
/-! The walk of RunsPlain -/
namespace Go.Proofs.Ytaojjneajiobnaa
open Go.RowKit

/-- the kept places of a row -/
def kpS (cs : List Int) : List Int := keptTo cs cs.length
theorem kpS_app (cs : List Int) (x : Int) : kpS (cs ++ [x]) = kpS cs ++ if x = 9 then [] else [(cs.length : Int)] := by
  unfold kpS
  rw [List.length_append, List.length_singleton]
  have hg : (cs ++ [x]).getD cs.length 0 = x := by simp [List.getD]
  have hs : keptTo (cs ++ [x]) cs.length = keptTo cs cs.length := by
    unfold keptTo
    congr 1
    apply List.filter_congr
    intro i hi
    have hi := List.mem_range.1 hi
    simp [List.getD, List.getElem?_append_left hi]
  by_cases h : x = 9
  · rw [keptTo_off (by rw [hg, h]; rfl), hs, if_pos h, List.append_nil]
  · rw [keptTo_on (by rw [hg]; simpa using h), hs, if_neg h]
theorem kpS_len (cs : List Int) : (kpS cs).length ≤ cs.length := keptTo_len cs cs.length
theorem RunsAt.one {w : World} {b n m : Nat} {A : Option Addr} {ps : List Int} {x1 x2 x3 : Int} (h : w.heap[b]? = some (.cells #[.slice A n m, .int .u8 x1, .int .u8 x2, .int .u8 x3] 49 (0, 0))) (h1 : Rd .i64 w A n ps) : RunsAt w (some ⟨b, 0, none⟩) 1 [⟨ps, x1, x2, x3⟩] := by
  obtain rfl := h1.len
  refine ⟨rfl, by decide, fun _ => ⟨b, rfl, lt_of_block h, fun i q hq => ?_⟩⟩
  match i, hq with
  | 0, hq =>
    obtain rfl := Option.some.inj hq
    exact ⟨_, _, cell_of_row _ _ _ _ _ _ h, h1, cell_of_row _ _ _ _ _ _ h, cell_of_row _ _ _ _ _ _ h, cell_of_row _ _ _ _ _ _ h⟩
  | i + 1, hq => simp at hq
set_option maxRecDepth 100000 in
set_option maxHeartbeats 8000000 in
theorem lawRPlain_any (A : Option Addr) (n c : Nat) (l : List Int) (rtl : Bool) (w : World) (hr : Rd .i32 w A n l) :
    Calls Try.prog 11 #[.slice A n c, .bool rtl] w fun e w' => e = .returned (.bool true) ∧ Below w.heap.size w w' := by
  have hm := hr.max
  have hln := hide hr.len
  by_cases hbig : 300 < n
  · have hb : decide (300 < (n : Int)) = true := by simp; omega
    go_enter Try.func11, Try.ntmps11
    go_wp2_with fail
    refine (awake_r w).mono ?_
    rintro e w1 ⟨rfl, hb1⟩
    go_wp2_with fail
    go_ret
    exact ⟨rfl, hb1⟩
  · have hb : decide (300 < (n : Int)) = false := by simp; omega
    have hfl := fld1
    have hP := hide (par_any none 0 0 [] false rtl w (Rd.nil _ _ _) (by decide))
    rw [show parS [] false rtl = bit rtl from rfl] at hP
    have hb01 : 0 ≤ bit rtl ∧ bit rtl ≤ 1 := by cases rtl <;> decide
    go_enter Try.func11, Try.ntmps11
    go_wp2_with fail
    refine hP.out.mono ?_
    rintro e w1 ⟨rfl, hb1⟩
    generalize bit rtl = base at *
    have hs1 := hb1.size
    have hb1 := hide hb1
    clear hP
    go_wp2_with fail
    go_loopw [6, 7, 21] (fun o wt i wr => ∃ (k m N c1 c2 : Nat) (A1 A2 : Option Addr), k ≤ n ∧ i = .int .i64 ((k : Nat) : Int) ∧ o = .slice A1 m c1 ∧ wt = .slice A2 N c2 ∧ m ≤ k ∧ N ≤ k ∧ Own w.heap.size 21 .i32 wr A1 m c1 (bareS (l.take k)) ∧
      Own w.heap.size 3 .i64 wr A2 N c2 (kpS ((bareS (l.take k)).map cls)) ∧ Below w.heap.size w wr) (fun _ _ i _ => n - (intOf i).toNat)
    case atStart => exact ⟨0, 0, 0, 0, 0, none, none, Nat.zero_le _, rfl, rfl, rfl, Nat.le_refl _, Nat.le_refl _, Own.none_ _ _ _ _, Own.none_ _ _ _ _, hb1.out⟩
    case round =>
      obtain ⟨k, m, N, c1, c2, A1, A2, hk, rfl, rfl, rfl, hmk, hNk, hown, hkp, hbel⟩ := hrel
      obtain ⟨wo, rfl⟩ : ∃ wo : World, wo = wr := ⟨_, rfl⟩
      have hsz := hbel.size
      by_cases hkn : k < n
      · obtain ⟨b, off, z, rfl, hbw, hz, hck⟩ := (hr.below hbel).at_ hkn
        obtain ⟨p0, p2, p3, p4, p5, p6, hps⟩ := props_of z
        have hst := hide (bare_take hz.out)
        have hof : Hid (Calls Try.prog 23 #[.int .i32 z] wo (fun e w' => e = .returned (.agg #[.int .u8 p0, .int .u8 (cls z), .int .u8 p2, .int .u8 p3, .int .u8 p4, .int .u8 p5, .int .u8 p6]) ∧ Below wo.heap.size wo w')) := hide (by have h := of_any z wo; rw [hps] at h; exact h)
        clear hps
        have hml := hide hown.len
        have q1 : (k : Int) < (n : Int) := by omega
        have q2 : (0 : Int) ≤ (k : Int) := by omega
        have hK := hide (kpS_app ((bareS (l.take k)).map cls) (cls z))
        generalize hcz : cls z = p1 at *
        have hcz' := hide hcz
        clear hcz
        by_cases hp14 : 14 ≤ p1
        · have t1 : decide (14 ≤ p1) = true := by simp; omega
          have hst' := hide (hst.out.trans (if_neg (by omega)))
          have hown := hide hown
          have hkp := hide hkp
          have hbel := hide hbel
          clear hst hp14 hK
          go_wp2_with fail
          refine hof.out.mono ?_
          rintro e w2 ⟨rfl, hb2⟩
          clear hck
          go_wp2_with fail
          go_roundw
          case rel => exact ⟨k + 1, m, N, c1, c2, A1, A2, by omega, by go_num, rfl, rfl, by omega, by omega, by rw [hst'.out]; exact hown.out.below hb2, by rw [hst'.out]; exact hkp.out.below hb2, hbel.out.trans (hb2.mono hbel.out.size)⟩
          case measure => simp [intOf]; omega
        · have t1 : decide (14 ≤ p1) = false := by simp; omega
          have hst' := hide (hst.out.trans (if_pos (by omega)))
          have hstm : Hid (((bareS (l.take (k + 1))).map cls) = (bareS (l.take k)).map cls ++ [p1]) := hide (by rw [hst'.out, List.map_append, List.map_singleton, hcz'.out])
          have hml2 : Hid (((bareS (l.take k)).map cls).length = m) := hide (by rw [List.length_map]; exact hml.out)
          have hown := hide hown
          have hkp := hide hkp
          have hbel := hide hbel
          clear hst hp14
          by_cases hp9 : p1 = 9
          · have t2 : (p1 != 9) = false := by simp [hp9]
            have hK' : Hid (kpS ((bareS (l.take (k + 1))).map cls) = kpS ((bareS (l.take k)).map cls)) := hide (by rw [hstm.out, hK.out, if_pos hp9, List.append_nil])
            have hp9 := hide hp9
            clear hK
            go_wp2_with fail
            refine hof.out.mono ?_
            rintro e w2 ⟨rfl, hb2⟩
            have hown2 := hown.out.below hb2
            have hkp2 := hide (hkp.out.below hb2)
            have hb2' := hide (hbel.out.trans (hb2.mono hbel.out.size))
            have hsz2 := hb2'.out.size
            clear hck
            go_wp2_with (at_builtin; refine wpList_app elt32 rfl (.tmp 37) (.tmp 39) rfl rfl rfl (hown2.alloc _) (own_one _ _ _ _ _ _ rfl (Nat.le_refl _)).rd (by omega) (by simp; omega) ?_; intro A3 c3 w3 hown3 hgr3 _; have hb3 := hide ((hb2'.out.alloc hsz2 (.cells #[.int .i32 z] 21)).grown hgr3 (by simp; omega) (fun g hg => (hown2.lt g hg).1)); have hkp3 := hide ((hkp2.out.alloc (.cells #[.int .i32 z] 21)).kept hgr3 (row_apart hkp2.out.1 hown2.1 (by decide))); clear hgr3)
            go_roundw
            case rel => exact ⟨k + 1, m + 1, N, c3, c2, A3, A2, by omega, by go_num, rfl, rfl, by omega, by omega, by rw [hst'.out]; exact hown3, by rw [hK'.out]; exact hkp3.out, hb3.out⟩
            case measure => simp [intOf]; omega
          · have t2 : (p1 != 9) = true := by simpa using hp9
            have hK' : Hid (kpS ((bareS (l.take (k + 1))).map cls) = kpS ((bareS (l.take k)).map cls) ++ [(m : Int)]) := hide (by rw [hstm.out, hK.out, if_neg hp9, hml2.out])
            have hp9 := hide hp9
            clear hK
            go_wp2_with fail
            refine hof.out.mono ?_
            rintro e w2 ⟨rfl, hb2⟩
            have hown2 := hown.out.below hb2
            have hkp2 := hkp.out.below hb2
            have hb2' := hide (hbel.out.trans (hb2.mono hbel.out.size))
            have hsz2 := hb2'.out.size
            clear hck
            go_wp2_with (first
              | (at_builtin; refine wpList_app elt64 rfl (.tmp 32) (.tmp 35) rfl rfl rfl (hkp2.alloc _) (own_one _ _ _ _ _ _ rfl (Nat.le_refl _)).rd (by omega) (by simp; omega) ?_; intro A4 c4 w3 hkp3 hgr3 _; have hkp3 := hide hkp3; have hb3 := hide ((hb2'.out.alloc hsz2 (.cells #[.int .i64 (m : Int)] 3)).grown hgr3 (by simp; omega) (fun g hg => (hkp2.lt g hg).1)); have hown3 := ((hown2.alloc (.cells #[.int .i64 (m : Int)] 3)).kept hgr3 (row_apart hown2.1 hkp2.1 (by decide))); have hsz3 := hb3.out.size; clear hgr3)
              | (at_builtin; refine wpList_app elt32 rfl (.tmp 37) (.tmp 39) rfl rfl rfl (hown3.alloc _) (own_one _ _ _ _ _ _ rfl (Nat.le_refl _)).rd (by omega) (by simp; omega) ?_; intro A3 c3 w4 hown4 hgr4 _; have hb4 := hide ((hb3.out.alloc hsz3 (.cells #[.int .i32 z] 21)).grown hgr4 (by simp; omega) (fun g hg => (hown3.lt g hg).1)); have hkp4 := hide ((hkp3.out.alloc (.cells #[.int .i32 z] 21)).kept hgr4 (row_apart hkp3.out.1 hown3.1 (by decide))); clear hgr4))
            go_roundw
            case rel => exact ⟨k + 1, m + 1, N + 1, c3, c4, A3, A4, by omega, by go_num, rfl, rfl, by omega, by omega, by rw [hst'.out]; exact hown4, by rw [hK'.out]; exact hkp4.out, hb4.out⟩
            case measure => simp [intOf]; omega
      · obtain rfl : k = n := by omega
        have htk : l.take k = l := List.take_of_length_le (by rw [hln.out]; exact Nat.le_refl _)
        rw [htk] at hown hkp
        clear htk hkn
        have hbc := hide (bare_cls (l := l))
        generalize bareS l = B at *
        have hml := hide hown.len
        have hsq := hide (seqs_bare hb01 hbc.out)
        have hS := hide (seqs_any A1 m c1 B base wo hown.rd (by omega) hb01)
        have hkl := hide hkp.len
        have hsm := hide (seqs_small (B.map cls) base (by rw [List.length_map, hml.out]; omega))
        rw [show keptTo (B.map cls) (B.map cls).length = kpS (B.map cls) from rfl] at hsq
        generalize B.map cls = cl at *
        generalize kpS cl = kp at *
        have hown := hide hown
        have hkpo := hide hkp
        have hbel := hide hbel
        clear hkp
        by_cases hN : N = 0
        · subst hN
          obtain rfl : kp = [] := List.eq_nil_of_length_eq_zero hkl.out
          have hsq' := hide (hsq.out.trans (if_pos rfl))
          clear hsq
          go_wp2_with fail
          refine hS.out.mono ?_
          rintro e w2 ⟨A3, c3, g1, c4, xs, rfl, hq, hx, hL, hb2⟩
          rw [hsq'.out] at hx
          obtain rfl : xs = [] := List.map_eq_nil_iff.1 hx
          have hb2 := hide (hbel.out.trans (hb2.mono hbel.out.size))
          simp only [List.length_nil]
          clear hq hx hL
          go_wp2_with fail
          refine (awake_r w2).mono ?_
          rintro e w3 ⟨rfl, hb3⟩
          go_wp2_with fail
          go_ret
          exact ⟨rfl, hb2.out.trans (hb3.mono hb2.out.size)⟩
        · have hsq' := hide (hsq.out.trans (if_neg (fun e => hN (by rw [← hkl.out, e]; rfl))))
          have tN : ((N : Int) == 0) = false := by simp; omega
          have hN' := hide hN
          clear hsq hN
          go_wp2_with fail
          refine hS.out.mono ?_
          rintro e w2 ⟨A3, c3, g1, c4, xs, rfl, hq, hx, hL, hb2⟩
          have hR := hq.runs (by have := hsm.out.1; rw [← hx, List.length_map] at this; exact this)
          rw [hx, hsq'.out] at hR
          have hx1 : xs.length = 1 := by have := hR.1; simpa using this.symm
          rw [hx1] at hR ⊢
          have hR := hide hR
          have hkp2 := hide (hkpo.out.below hb2)
          have hb2 := hide (hbel.out.trans (hb2.mono hbel.out.size))
          have hps : ∀ q ∈ [(⟨kp, base, base, base⟩ : QR)], q.ps.length ≤ 1000000 := by
            intro q hq
            rw [List.mem_singleton.1 hq]
            show kp.length ≤ 1000000
            rw [hkl.out]; omega
          have hps := hide hps
          clear hq hx hL hx1
          go_wp2_with fail
          refine (sameq_any _ _ 1 _ _ [⟨kp, base, base, base⟩] _ (hR.out.below ((Below.refl _ _).alloc (Nat.le_refl _) _)) (RunsAt.one (heap_at_new _ _ _ rfl) (hkp2.out.alloc _).rd) hps.out).mono ?_
          rintro e w3 ⟨rfl, hb3⟩
          have hb3 := hide ((hb2.out.alloc hb2.out.size _).trans (hb3.mono (by have := hb2.out.size; simp; omega)))
          go_wp2_with fail
          refine (awake_r w3).mono ?_
          rintro e w4 ⟨rfl, hb4⟩
          go_wp2_with fail
          go_ret
          exact ⟨rfl, hb3.out.trans (hb4.mono hb3.out.size)⟩
end Go.Proofs.Ytaojjneajiobnaa
/-! What RunsSides says of sequences: plain law -/
namespace Go.Proofs.Ytaojjneajiobnaa
open Go.RowKit

/-! ### the kept places -/
theorem kpS_append : ∀ (ys xs : List Int), kpS (xs ++ ys) = kpS xs ++ (kpS ys).map (fun i => i + (xs.length : Int)) := by
  have key : ∀ (n : Nat) (ys xs : List Int), ys.length = n → kpS (xs ++ ys) = kpS xs ++ (kpS ys).map (fun i => i + (xs.length : Int)) := by
    intro n
    induction n with
    | zero =>
      intro ys xs h
      obtain rfl := List.eq_nil_of_length_eq_zero h
      rw [List.append_nil]
      show kpS xs = kpS xs ++ []
      rw [List.append_nil]
    | succ n ih =>
      intro ys xs h
      obtain ⟨zs, z, rfl⟩ : ∃ zs z, ys = zs ++ [z] := ⟨ys.dropLast, ys.getLast (by intro e; rw [e] at h; cases h), (List.dropLast_concat_getLast _).symm⟩
      rw [← List.append_assoc, kpS_app, kpS_app, ih zs xs (by simpa using h), List.map_append, List.append_assoc]
      congr 1
      congr 1
      split
      · rfl
      · simp [Int.add_comm]
  exact fun ys xs => key _ ys xs rfl
theorem kpS_rep : ∀ k : Nat, kpS (List.replicate k 9) = []
  | 0 => rfl
  | k + 1 => by rw [List.replicate_succ', kpS_app, kpS_rep k]; rfl
theorem kpS_one {x : Int} (h : x ≠ 9) : kpS [x] = [0] := by
  have := kpS_app [] x
  rw [List.nil_append, if_neg h] at this
  exact this
theorem kpS_congr {xs ys : List Int} (hl : xs.length = ys.length) (h : ∀ (i : Nat) (x y : Int), xs[i]? = some x → ys[i]? = some y → (x = 9 ↔ y = 9)) : kpS xs = kpS ys := by
  unfold kpS keptTo
  rw [hl]
  congr 1
  apply List.filter_congr
  intro i hi
  have hi := List.mem_range.1 hi
  obtain ⟨x, hx⟩ : ∃ x, xs[i]? = some x := ⟨_, List.getElem?_eq_getElem (by omega)⟩
  obtain ⟨y, hy⟩ : ∃ y, ys[i]? = some y := ⟨_, List.getElem?_eq_getElem hi⟩
  rw [getD_of' hx, getD_of' hy]
  have := h i x y hx hy
  by_cases e : x = 9
  · rw [e, this.1 e]
  · have e2 : ¬ y = 9 := fun h => e (this.2 h)
    rw [show (x != 9) = true from by simpa using e, show (y != 9) = true from by simpa using e2]

/-! ### what is laid -/
def kindB (x : Bool) : Int := if x then 1 else 0
def nestR (a : List Bool) : List Int := a.map (fun x => openR (kindB x)) ++ [97] ++ List.replicate a.length 8236
def nestC (a : List Bool) : List Int := a.map (fun x => openC (kindB x)) ++ [0] ++ List.replicate a.length 16
/-- the level within -/
def nestL (base : Int) (a : List Bool) : Int := a.foldl (fun at_ x => nextS at_ x) base
theorem kind_lt (x : Bool) : kindB x % 6 < 4 := by cases x <;> decide
theorem closeC_kind (x : Bool) : closeC (kindB x) = 16 := by unfold closeC; rw [if_pos (kind_lt x)]
theorem nest_depth (a : List Bool) : nestC a = (a.map kindB).map openC ++ [0] ++ ((a.map kindB).reverse.map closeC) := by
  unfold nestC
  rw [List.map_map]
  congr 1
  rw [List.map_reverse, List.map_map]
  symm
  rw [List.eq_replicate_iff]
  refine ⟨by simp, fun b hb => ?_⟩
  rw [List.mem_reverse] at hb
  obtain ⟨x, _, rfl⟩ := List.mem_map.1 hb
  exact closeC_kind x
theorem nest_cls (a : List Bool) : (nestR a).map cls = nestC a := by
  obtain ⟨_, _, _, _, _, _, h6, _, h8, _⟩ := cls_consts
  unfold nestR nestC
  rw [List.map_append, List.map_append, List.map_map, List.map_replicate, h6, List.map_singleton, h8]
  congr 2
  exact List.map_congr_left (fun x _ => cls_open (kindB x))
theorem nest_len (a : List Bool) : (nestC a).length = 2 * a.length + 1 := by unfold nestC; simp; omega
/-- all that RunsSides lays -/
def sideC (a b : List Bool) : List Int := nestC a ++ nestC b
theorem nest_in (a : List Bool) : ∀ x ∈ nestC a, x = 0 ∨ x = 14 ∨ x = 15 ∨ x = 16 := by
  intro x hx
  unfold nestC at hx
  simp only [List.mem_append, List.mem_map, List.mem_singleton] at hx
  rcases hx with (⟨y, _, rfl⟩ | rfl) | hx
  · cases y <;> decide
  · exact .inl rfl
  · exact .inr (.inr (.inr (List.eq_of_mem_replicate hx)))
theorem side_in (a b : List Bool) : ∀ x ∈ sideC a b, x = 0 ∨ x = 14 ∨ x = 15 ∨ x = 16 := by
  intro x hx
  rcases List.mem_append.1 hx with hx | hx
  · exact nest_in a x hx
  · exact nest_in b x hx
def markC (a : List Bool) : List Int := List.replicate a.length 9 ++ [0] ++ List.replicate a.length 9
theorem kept_mark (a : List Bool) : kpS (markC a) = [(a.length : Int)] := by
  unfold markC
  rw [kpS_append, kpS_append, kpS_rep, kpS_one (by decide)]
  simp
theorem mark_len (a : List Bool) : (markC a).length = 2 * a.length + 1 := by unfold markC; simp; omega
theorem nest_mark (a : List Bool) {i : Nat} {x y : Int} (hx : (nestC a)[i]? = some x) (hy : (markC a)[i]? = some y) : x = 0 ↔ y ≠ 9 := by
  unfold nestC at hx
  unfold markC at hy
  rcases Nat.lt_trichotomy i a.length with h | h | h
  · rw [List.append_assoc, List.getElem?_append_left (by simpa using h)] at hx hy
    rw [List.getElem?_map] at hx
    rw [List.getElem?_replicate, if_pos h] at hy
    injection hy with hy
    cases hz : a[i]? with
    | none => rw [hz] at hx; cases hx
    | some z =>
      rw [hz] at hx
      injection hx with hx
      subst hx; subst hy
      cases z <;> decide
  · subst h
    rw [List.append_assoc, List.getElem?_append_right (by simp)] at hx hy
    simp at hx hy
    subst hx; subst hy
    decide
  · rw [List.getElem?_append_right (by simp; omega)] at hx hy
    rw [List.getElem?_replicate] at hx hy
    split at hx
    · split at hy
      · injection hx with hx; injection hy with hy
        subst hx; subst hy; decide
      · cases hy
    · cases hx
theorem side_kept {base : Int} (hb : 0 ≤ base ∧ base ≤ 1) (a b : List Bool) : kpS (classesS (sideC a b) base) = [(a.length : Int), (2 * a.length + 1 + b.length : Int)] := by
  have h1 : kpS (classesS (sideC a b) base) = kpS (markC a ++ markC b) := by
    refine kpS_congr (by rw [classes_len]; unfold sideC; simp only [List.length_append, nest_len, mark_len]) (fun i v y hv hy => ?_)
    have hi : i < (sideC a b).length := by rw [← classes_len (sideC a b) base]; exact (List.getElem?_eq_some_iff.1 hv).1
    obtain ⟨x, hx⟩ : ∃ x, (sideC a b)[i]? = some x := ⟨_, List.getElem?_eq_getElem hi⟩
    obtain ⟨lv, hl⟩ : ∃ x, (levelsS (sideC a b) base)[i]? = some x := ⟨_, List.getElem?_eq_getElem (by rw [levels_len]; exact hi)⟩
    have hxy : x = 0 ↔ y ≠ 9 := by
      unfold sideC at hx
      rcases Nat.lt_or_ge i (nestC a).length with h | h
      · rw [List.getElem?_append_left h] at hx
        rw [List.getElem?_append_left (by rw [mark_len]; rw [nest_len] at h; exact h)] at hy
        exact nest_mark a hx hy
      · rw [List.getElem?_append_right h] at hx
        rw [List.getElem?_append_right (by rw [mark_len]; rw [nest_len] at h; exact h)] at hy
        rw [nest_len] at hx
        rw [mark_len] at hy
        exact nest_mark b hx hy
    have hin := side_in a b x (List.mem_of_getElem? hx)
    have hbd := (bd_at hb hx hl hv).2
    unfold ClsIs at hbd
    constructor
    · intro e
      rcases hin with rfl | hin
      · exfalso; omega
      · have : ¬ x = 0 := by omega
        by_cases h9 : y = 9
        · exact h9
        · exact absurd (hxy.2 h9) this
    · intro e
      have : ¬ x = 0 := fun h => (hxy.1 h) e
      omega
  rw [h1, kpS_append, kept_mark, kept_mark, mark_len]
  simp only [List.map_cons, List.map_nil, List.cons_append, List.nil_append]
  congr 2
  omega

/-! ### the levels -/
theorem odd_kind (x : Bool) : oddK (kindB x) = x := by cases x <;> decide
theorem nx_bd (lv : Int) (x : Bool) : lv < nextS lv x ∧ nextS lv x ≤ lv + 2 := by unfold nextS; split <;> omega
theorem nestL_bd : ∀ (a : List Bool) (base : Int), base ≤ nestL base a ∧ nestL base a ≤ base + 2 * (a.length : Int)
  | [], base => ⟨Int.le_refl _, by simp [nestL]⟩
  | x :: a, base => by
    have h1 := nx_bd base x
    have h2 := nestL_bd a (nextS base x)
    show base ≤ nestL (nextS base x) a ∧ nestL (nextS base x) a ≤ _
    rw [List.length_cons]
    omega
theorem fold_lv : ∀ (a : List Bool) (s : PS), s.is + s.em = 0 → s.top.lv + 2 * (a.length : Int) ≤ 125 → ((a.map (fun x => openC (kindB x))).foldl stepN s).top.lv = nestL s.top.lv a
  | [], s, _, _ => rfl
  | x :: a, s, h1, h2 => by
    rw [List.length_cons] at h2
    have h3 := nx_bd s.top.lv x
    have h4 := (keep_step s (kindB x)).2 (by rw [odd_kind]; omega)
    rw [odd_kind] at h4
    rw [List.map_cons, List.foldl_cons, fold_lv a _ h4.2 (by rw [h4.1]; omega), h4.1]
    rfl
theorem side_no21 (a b : List Bool) : ∀ x ∈ sideC a b, x ≠ 21 := fun x hx => by have := side_in a b x hx; omega
theorem side_lv1 {base : Int} (hb : 0 ≤ base ∧ base ≤ 1) {a b : List Bool} (ha : a.length ≤ 9) : (levelsS (sideC a b) base)[a.length]? = some (nestL base a) := by
  have hk : (sideC a b)[a.length]? = some 0 := by
    unfold sideC nestC
    rw [List.append_assoc, List.append_assoc, List.getElem?_append_right (by simp)]
    simp
  rw [level_in base (side_no21 a b) hk]
  unfold sideC nestC
  rw [List.append_assoc, List.append_assoc, List.take_append_of_le_length (by simp), List.take_of_length_le (by simp), fold_lv a (start base) rfl (by show base + _ ≤ 125; omega)]
  rfl
theorem side_lv2 {base : Int} (hb : 0 ≤ base ∧ base ≤ 1) {a b : List Bool} (hbl : b.length ≤ 9) : (levelsS (sideC a b) base)[2 * a.length + 1 + b.length]? = some (nestL base b) := by
  have hk : (sideC a b)[2 * a.length + 1 + b.length]? = some 0 := by
    unfold sideC
    rw [List.getElem?_append_right (by rw [nest_len]; omega), nest_len, show 2 * a.length + 1 + b.length - (2 * a.length + 1) = b.length by omega]
    unfold nestC
    rw [List.append_assoc, List.getElem?_append_right (by simp)]
    simp
  rw [level_in base (side_no21 a b) hk]
  unfold sideC
  rw [List.take_append, List.take_of_length_le (by rw [nest_len]; omega), nest_len, show 2 * a.length + 1 + b.length - (2 * a.length + 1) = b.length by omega, List.foldl_append]
  have hback : (nestC a).foldl stepN (start base) = start base := by
    rw [nest_depth]
    exact fold_back (a.map kindB) (start base) 0 (start_fit hb).1
  rw [hback]
  unfold nestC
  rw [List.append_assoc, List.take_append_of_le_length (by simp), List.take_of_length_le (by simp), fold_lv b (start base) rfl (by show base + _ ≤ 125; omega)]
  rfl
theorem seqs_side {base : Int} (hb : 0 ≤ base ∧ base ≤ 1) {a b : List Bool} (ha : a.length ≤ 9) (hbl : b.length ≤ 9) :
    (nestL base a = nestL base b → ∃ st en, seqsS (sideC a b) base = [⟨[(a.length : Int), (2 * a.length + 1 + b.length : Int)], nestL base a, st, en⟩]) ∧
    (nestL base a ≠ nestL base b → seqsS (sideC a b) base = [⟨[(a.length : Int)], nestL base a, sideS (nestL base a) base, sideS (nestL base a) (nestL base b)⟩, ⟨[(2 * a.length + 1 + b.length : Int)], nestL base b, sideS (nestL base b) (nestL base a), sideS (nestL base b) base⟩]) := by
  have h1 := side_lv1 hb (b := b) ha
  have h2 := side_lv2 hb (a := a) hbl
  have hk := side_kept hb a b
  have hop : ∀ (i : Nat) (x : Int), (sideC a b)[i]? = some x → opS x = false := fun i x hx => by
    have := side_in a b x (List.mem_of_getElem? hx)
    unfold opS; simp; omega
  have hl1 : a.length < (sideC a b).length := by rw [← levels_len (sideC a b) base]; exact (List.getElem?_eq_some_iff.1 h1).1
  have hl2 : 2 * a.length + 1 + b.length < (sideC a b).length := by rw [← levels_len (sideC a b) base]; exact (List.getElem?_eq_some_iff.1 h2).1
  unfold kpS at hk
  rw [classes_len] at hk
  unfold seqsS
  rw [hk]
  generalize levelsS (sideC a b) base = lv at *
  generalize matchS (sideC a b) = m at *
  generalize nestL base a = x at *
  generalize nestL base b = y at *
  have e2 : ((2 : Int) * (a.length : Int) + 1 + (b.length : Int)) = ((2 * a.length + 1 + b.length : Nat) : Int) := by omega
  rw [e2]
  generalize 2 * a.length + 1 + b.length = i2 at *
  generalize a.length = i1 at *
  obtain ⟨o1, ho1⟩ : ∃ o, (sideC a b)[i1]? = some o := ⟨_, List.getElem?_eq_getElem hl1⟩
  obtain ⟨o2, ho2⟩ : ∃ o, (sideC a b)[i2]? = some o := ⟨_, List.getElem?_eq_getElem hl2⟩
  have hp1 := hop i1 o1 ho1
  have hp2 := hop i2 o2 ho2
  generalize sideC a b = cl at *
  have f0 : lvAt lv [(i1 : Int), (i2 : Int)] 0 = x := lvAt_of (x := i1) rfl h1
  have f1 : lvAt lv [(i1 : Int), (i2 : Int)] 1 = y := lvAt_of (x := i2) rfl h2
  have hx := getD_of' h1
  have hy := getD_of' h2
  have at_m : atS lv [(i1 : Int), (i2 : Int)] base ((0 : Nat) - 1 : Int) = base := if_pos (.inl (by decide))
  have at_0 : atS lv [(i1 : Int), (i2 : Int)] base ((1 : Nat) - 1 : Int) = x := by
    unfold atS
    rw [if_neg (by simp)]
    exact f0
  have at_1 : atS lv [(i1 : Int), (i2 : Int)] base ((1 : Nat) : Int) = y := by
    unfold atS
    rw [if_neg (by simp)]
    exact f1
  have at_2 : atS lv [(i1 : Int), (i2 : Int)] base ((2 : Nat) : Int) = base := if_pos (.inr (by simp))
  constructor
  · intro hxy
    have hcut : cut (lvAt lv [(i1 : Int), (i2 : Int)]) 2 1 = 2 := by
      show runTo _ 2 0 1 1 = 2
      rw [runTo, if_pos ⟨by decide, by rw [f0, f1, hxy]⟩]; rfl
    rw [show runsN (lvAt lv [(i1 : Int), (i2 : Int)]) [(i1 : Int), (i2 : Int)].length = 1 from runsN_of hcut]
    show ∃ st en, (stepQ lv _ cl m base ⟨[], fun _ => none⟩ 0 (cut (lvAt lv [(i1 : Int), (i2 : Int)]) 2 1)).out = _
    rw [hcut, stepQ_eq (p := i1) (q := i2) (x := 0) (Y := [newR lv [(i1 : Int), (i2 : Int)] base 0 i1]) (q0 := newR lv [(i1 : Int), (i2 : Int)] base 0 i1) (oq := o2) rfl rfl rfl rfl rfl ho2]
    exact ⟨_, _, by simp only [List.set_cons_zero, onR, newR, hx]; rfl⟩
  · intro hxy
    have hcut1 : cut (lvAt lv [(i1 : Int), (i2 : Int)]) 2 1 = 1 := by
      show runTo _ 2 0 1 1 = 1
      rw [runTo, if_neg (fun h => hxy (by rw [← f0, ← f1, h.2]))]
    have hcut2 : cut (lvAt lv [(i1 : Int), (i2 : Int)]) 2 2 = 2 := by
      show runEnd _ 2 (cut (lvAt lv [(i1 : Int), (i2 : Int)]) 2 1) = 2
      rw [hcut1]; rfl
    rw [show runsN (lvAt lv [(i1 : Int), (i2 : Int)]) [(i1 : Int), (i2 : Int)].length = 2 from runsN_of hcut2]
    show (stepQ lv _ cl m base (stepQ lv _ cl m base ⟨[], fun _ => none⟩ 0 (cut (lvAt lv [(i1 : Int), (i2 : Int)]) 2 1)) (cut (lvAt lv [(i1 : Int), (i2 : Int)]) 2 1) (cut (lvAt lv [(i1 : Int), (i2 : Int)]) 2 2)).out = _
    have hi : stepQ lv [(i1 : Int), (i2 : Int)] cl m base ⟨[], fun _ => none⟩ 0 1 = ⟨[⟨[(i1 : Int)], x, sideS x base, sideS x y⟩], fun _ => none⟩ := by
      rw [stepQ_eq (p := i1) (q := i1) (x := 0) (Y := [newR lv [(i1 : Int), (i2 : Int)] base 0 i1]) (q0 := newR lv [(i1 : Int), (i2 : Int)] base 0 i1) (oq := o1) rfl rfl rfl rfl rfl ho1, hp1]
      simp only [Bool.false_eq_true, if_false, List.set_cons_zero, onR, newR, hx, at_m, at_1]
      rfl
    rw [hcut1, hcut2, hi, stepQ_eq (p := i2) (q := i2) (x := 1) (Y := [⟨[(i1 : Int)], x, sideS x base, sideS x y⟩, newR lv [(i1 : Int), (i2 : Int)] base 1 i2]) (q0 := newR lv [(i1 : Int), (i2 : Int)] base 1 i2) (oq := o2) rfl rfl rfl rfl rfl ho2, hp2]
    simp only [Bool.false_eq_true, if_false, List.set_cons_zero, List.set_cons_succ, onR, newR, hy, at_0, at_2]
    rfl
end Go.Proofs.Ytaojjneajiobnaa
/-! What stands within an isolate lies above it, or all at its level: plain law -/
namespace Go.Proofs.Ytaojjneajiobnaa
open Go.RowKit

/-- reached from S by what opens an isolate that is lost, d isolates further in -/
def DeepO (S : PS) (d : Nat) (s : PS) : Prop := s.stk = S.stk ∧ s.is = S.is + 1 + d
/-- reached from S by what opens an isolate of level lv, d isolates further in -/
def DeepV (S : PS) (d : Nat) (s : PS) : Prop :=
  ∃ inner lv, s.stk = inner ++ ⟨lv, 13, true⟩ :: S.stk ∧ inner.countP (fun e => e.iso) + s.is = d ∧ inner.countP (fun e => e.iso) < s.nw ∧ S.top.lv < lv ∧ ∀ e ∈ inner, S.top.lv < e.lv
theorem DeepV.top {S s : PS} {d : Nat} (h : DeepV S d s) : S.top.lv < s.top.lv := by
  obtain ⟨inner, lv, h1, _, _, h2, h3⟩ := h
  unfold PS.top
  rw [h1]
  cases inner with
  | nil => exact h2
  | cons a t => exact h3 a (by simp)
theorem DeepO.top {S s : PS} {d : Nat} (h : DeepO S d s) : s.top.lv = S.top.lv := by unfold PS.top; rw [h.1]
theorem deepO_step {S s : PS} {d : Nat} (h : DeepO S d s) (f : Bool) {x : Int} (ho : opS x = false) (h22 : x ≠ 22) : DeepO S d (stepS f s x).1 := by
  have hn : ¬ (x = 19 ∨ x = 20 ∨ x = 21) := fun e => by rw [opS_in.2 e] at ho; cases ho
  have hi := h.2
  unfold stepS
  split
  · show DeepO S d (embedS s x)
    rw [embed_no1 (.inr (by omega)) (by omega)]; exact h
  · split
    · show DeepO S d (endS s)
      rw [end_a (by omega)]; exact h
    · split
      · exact h
      · split <;> exact h
theorem deepO_open {S s : PS} {d : Nat} (h : DeepO S d s) (left : Bool) : DeepO S (d + 1) (openS s left) := by
  have hi := h.2
  rw [open_no (.inr (by omega))]
  exact ⟨h.1, by simp only; omega⟩
theorem deepO_close {S s : PS} {d : Nat} (h : DeepO S (d + 1) s) : DeepO S d (closeS s) := by
  have hi := h.2
  rw [close_a (by omega)]
  exact ⟨h.1, by simp only; omega⟩
theorem deepV_embed {S s : PS} {d : Nat} (h : DeepV S d s) (x : Int) : DeepV S d (embedS s x) := by
  have ht := h.top
  obtain ⟨inner, lv, h3, h4, h5, h6, h7⟩ := h
  by_cases hc : 125 < nextS s.top.lv (x == 15 || x == 18) ∨ 0 < s.is + s.em
  · by_cases hi : s.is = 0
    · rw [embed_no0 hc hi]; exact ⟨inner, lv, h3, h4, h5, h6, h7⟩
    · rw [embed_no1 hc hi]; exact ⟨inner, lv, h3, h4, h5, h6, h7⟩
  · rw [embed_yes hc, push_yes hc]
    refine ⟨⟨nextS s.top.lv (x == 15 || x == 18), if x = 17 then 0 else if x = 18 then 1 else 13, false⟩ :: inner, lv, by simp only [h3, List.cons_append], by simpa [List.countP_cons] using h4, by simpa [List.countP_cons] using h5, h6, ?_⟩
    intro e he
    rcases List.mem_cons.1 he with rfl | he
    · have := next_gt s.top.lv (x == 15 || x == 18); simp only; omega
    · exact h7 e he
theorem deepV_end {S s : PS} {d : Nat} (h : DeepV S d s) : DeepV S d (endS s) := by
  by_cases h1 : 0 < s.is
  · rw [end_a h1]; exact h
  · obtain ⟨inner, lv, g3, g4, g5, g6, g7⟩ := h
    by_cases h2 : 0 < s.em
    · rw [end_b h1 h2]; exact ⟨inner, lv, g3, g4, g5, g6, g7⟩
    · by_cases hc : s.top.iso = false ∧ 1 < s.stk.length
      · rw [end_e h1 h2 hc]
        cases inner with
        | nil =>
          have := hc.1
          unfold PS.top at this
          rw [g3] at this
          simp at this
        | cons a inner =>
          have ha : a.iso = false := by
            have := hc.1
            unfold PS.top at this
            rw [g3] at this
            simpa using this
          refine ⟨inner, lv, by simp [g3], ?_, ?_, g6, fun e he => g7 e (by simp [he])⟩
          · rw [List.countP_cons, ha] at g4; simpa using g4
          · rw [List.countP_cons, ha] at g5; simpa using g5
      · rw [end_c h1 h2 hc]; exact ⟨inner, lv, g3, g4, g5, g6, g7⟩
theorem deepV_open {S s : PS} {d : Nat} (h : DeepV S d s) (left : Bool) : DeepV S (d + 1) (openS s left) := by
  have ht := h.top
  obtain ⟨inner, lv, g3, g4, g5, g6, g7⟩ := h
  by_cases hc : 125 < nextS s.top.lv left ∨ 0 < s.is + s.em
  · rw [open_no hc]
    exact ⟨inner, lv, g3, by simp only; omega, g5, g6, g7⟩
  · rw [open_yes hc, push_yes hc]
    have hi : s.is = 0 := by omega
    refine ⟨⟨nextS s.top.lv left, 13, true⟩ :: inner, lv, by simp only [g3, List.cons_append], by simp only [List.countP_cons, if_true]; omega, by simp only [List.countP_cons, if_true]; omega, g6, ?_⟩
    intro e he
    rcases List.mem_cons.1 he with rfl | he
    · have := next_gt s.top.lv left; simp only; omega
    · exact g7 e he
theorem deepV_close {S s : PS} {d : Nat} (h : DeepV S (d + 1) s) : DeepV S d (closeS s) := by
  obtain ⟨inner, lv, g3, g4, g5, g6, g7⟩ := h
  by_cases h1 : 0 < s.is
  · rw [close_a h1]
    exact ⟨inner, lv, g3, by simp only; omega, g5, g6, g7⟩
  · rw [close_b h1 (by omega)]
    obtain ⟨pre, t, rest, h3, h4, h5, h6⟩ := drop_iso (stk := inner) (by omega)
    have hcp : pre.countP (fun e => e.iso) = 0 := List.countP_eq_zero.2 (fun e he => by rw [h4 e he]; decide)
    have hci : inner.countP (fun e => e.iso) = rest.countP (fun e => e.iso) + 1 := by
      rw [h3, List.countP_append, List.countP_cons, h5, hcp]; simp
    have hd : s.stk.dropWhile (fun e => !e.iso) = t :: (rest ++ ⟨lv, 13, true⟩ :: S.stk) := by
      rw [g3, h3, List.append_assoc, List.dropWhile_append_of_pos (by intro e he; simp [h4 e he]), List.cons_append, List.dropWhile_cons, h5]
      simp
    exact ⟨rest, lv, by simp only [hd, List.tail_cons], by simp only; omega, by simp only; omega, g6, fun e he => g7 e (by rw [h3]; simp [he])⟩
theorem deepV_step {S s : PS} {d : Nat} (h : DeepV S d s) (f : Bool) {x : Int} (ho : opS x = false) (h22 : x ≠ 22) : DeepV S d (stepS f s x).1 := by
  have hn : ¬ (x = 19 ∨ x = 20 ∨ x = 21) := fun e => by rw [opS_in.2 e] at ho; cases ho
  unfold stepS
  split
  · exact deepV_embed h x
  · split
    · exact deepV_end h
    · split
      · exact h
      · split <;> exact h
/-! ### what stands between -/
theorem lev_or {cl : List Int} {base : Int} {t : Nat} {l : Int} (h : (levelsS cl base)[t]? = some l) : l = (expSt cl base t).1.top.lv ∨ l = (expSt cl base (t + 1)).1.top.lv := by
  have ht : t < cl.length := by rw [← levels_len cl base]; exact (List.getElem?_eq_some_iff.1 h).1
  rw [levels_at ht] at h
  injection h with h
  subst h
  show _ ∨ _ = (stepS (fsiAt cl t) (expSt cl base t).1 (cl.getD t 0)).1.top.lv
  generalize expSt cl base t = s
  generalize cl.getD t 0 = x
  unfold stepS
  split
  · exact .inl rfl
  · split
    · exact .inr rfl
    · split
      · exact .inl rfl
      · split
        · exact .inr rfl
        · split
          · exact .inl rfl
          · split <;> exact .inl rfl
theorem ends_within {cl : List Int} {i e : Nat} {c : Int} (hc : cl[i]? = some c) (hk : (matchS cl)[i]? = some (e : Int)) (ho : opS c = true) : (cl.take e).drop (i + 1) = upto 0 (cl.drop (i + 1)) := by
  have := within (cl := cl) (j := i) (List.getElem?_eq_some_iff.1 hc).1 (by rw [getD_of hc]; exact ho)
  rwa [getD_of hk] at this
/-- one way of standing within, step by step -/
theorem deep_within {cl : List Int} {base : Int} {i e : Nat} {c : Int} (hc : cl[i]? = some c) (hk : (matchS cl)[i]? = some (e : Int)) (h : MEnds cl i c (e : Int) e) (P : Nat → PS → Prop) (h0 : P 0 (expSt cl base (i + 1)).1)
    (hs : ∀ d s f x, P d s → opS x = false → x ≠ 22 → P d (stepS f s x).1) (ho : ∀ d s left, P d s → P (d + 1) (openS s left)) (hcl : ∀ d s, P (d + 1) s → P d (closeS s)) :
    ∀ t, i + 1 ≤ t → t ≤ e → ∃ d, P d (expSt cl base t).1 ∧ upto 0 (cl.drop (i + 1)) = (cl.take t).drop (i + 1) ++ upto d (cl.drop t) := by
  have hw := ends_within hc hk h.1
  obtain ⟨_, _, hie, hel, _⟩ := h
  intro t
  induction t with
  | zero => intro h1; omega
  | succ t ih =>
    intro h1 h2
    by_cases hti : t = i
    · subst hti
      exact ⟨0, h0, by rw [show (cl.take (t + 1)).drop (t + 1) = [] from List.drop_eq_nil_of_le (by rw [List.length_take]; omega)]; rfl⟩
    obtain ⟨d, g1, g2⟩ := ih (by omega) (by omega)
    obtain ⟨x, hx⟩ : ∃ x, cl[t]? = some x := ⟨_, List.getElem?_eq_getElem (by omega)⟩
    have hdr : cl.drop t = x :: cl.drop (t + 1) := drop_at hx
    have hst : (expSt cl base (t + 1)).1 = (stepS (fsiAt cl t) (expSt cl base t).1 x).1 := by rw [← getD_of hx]; rfl
    have htd := take_drop_step hx (show i < t by omega)
    rw [hst]
    by_cases hop : opS x = true
    · rw [step_open _ _ hop]
      exact ⟨d + 1, ho _ _ _ g1, by rw [g2, hdr, upto_o hop, htd, List.append_assoc]; rfl⟩
    · have hop : opS x = false := by simpa using hop
      by_cases h22 : x = 22
      · subst h22
        cases d with
        | zero =>
          rw [hdr, upto_z, List.append_nil, ← hw] at g2
          have := congrArg List.length g2
          simp only [List.length_drop, List.length_take] at this
          omega
        | succ d => exact ⟨d, hcl _ _ g1, by rw [g2, hdr, upto_p, htd, List.append_assoc]; rfl⟩
      · exact ⟨d, hs _ _ _ _ g1 hop h22, by rw [g2, hdr, upto_n hop h22, htd, List.append_assoc]; rfl⟩
theorem iso_between {cl : List Int} (base : Int) {i e : Nat} {c li : Int} (hc : cl[i]? = some c) (hk : (matchS cl)[i]? = some (e : Int)) (h : MEnds cl i c (e : Int) e) (hl : (levelsS cl base)[i]? = some li) :
    (∀ (t : Nat) (l : Int), i < t → t < e → (levelsS cl base)[t]? = some l → l = li) ∨ (∀ (t : Nat) (l : Int), i < t → t < e → (levelsS cl base)[t]? = some l → li < l) := by
  have ho := h.1
  have hi : i < cl.length := (List.getElem?_eq_some_iff.1 hc).1
  have hli : li = (expSt cl base i).1.top.lv := by
    rw [levels_at hi, getD_of hc, step_open _ _ ho] at hl
    exact (Option.some.inj hl).symm
  obtain ⟨left, hst⟩ : ∃ left, (expSt cl base (i + 1)).1 = openS (expSt cl base i).1 left := ⟨_, by
    show (stepS (fsiAt cl i) (expSt cl base i).1 (cl.getD i 0)).1 = _
    rw [getD_of hc, step_open _ _ ho]⟩
  generalize hS : (expSt cl base i).1 = S at *
  by_cases hcs : 125 < nextS S.top.lv left ∨ 0 < S.is + S.em
  · refine .inl fun t l h1 h2 hlt => ?_
    have key := deep_within hc hk h (DeepO S) (base := base) (by rw [hst, open_no hcs]; exact ⟨rfl, rfl⟩) (fun d s f x h1 h2 h3 => deepO_step h1 f h2 h3) (fun d s left h => deepO_open h left) (fun d s h => deepO_close h)
    obtain ⟨d1, k1, _⟩ := key t h1 (by omega)
    obtain ⟨d2, k2, _⟩ := key (t + 1) (by omega) h2
    rcases lev_or hlt with e1 | e1
    · rw [e1, hli, k1.top]
    · rw [e1, hli, k2.top]
  · refine .inr fun t l h1 h2 hlt => ?_
    have key := deep_within hc hk h (DeepV S) (base := base) (by rw [hst, open_yes hcs, push_yes hcs]; exact ⟨[], _, rfl, by have : S.is = 0 := (by omega); simpa using this, by simp, next_gt _ _, by simp⟩) (fun d s f x h1 h2 h3 => deepV_step h1 f h2 h3) (fun d s left h => deepV_open h left) (fun d s h => deepV_close h)
    obtain ⟨d1, k1, _⟩ := key t h1 (by omega)
    obtain ⟨d2, k2, _⟩ := key (t + 1) (by omega) h2
    rcases lev_or hlt with e1 | e1
    · rw [e1, hli]; exact k1.top
    · rw [e1, hli]; exact k2.top
end Go.Proofs.Ytaojjneajiobnaa
/-! The sequences are chains of runs: plain law -/
namespace Go.Proofs.Ytaojjneajiobnaa
open Go.RowKit

theorem cut_runsN (f : Nat → Int) (n : Nat) : cut f n (runsN f n) = n := by
  have key : ∀ d k, n - cut f n k = d → cut f n k ≤ n → ∃ K, cut f n K = n := by
    intro d
    induction d using Nat.strongRecOn with
    | ind d ih =>
      intro k h1 h2
      by_cases h : cut f n k = n
      · exact ⟨k, h⟩
      · have h3 := cut_lt f n k
        have h4 : cut f n (k + 1) ≤ n := (runEnd_spec (f := f) (show cut f n k < n by omega)).2.1
        exact ih _ (by omega) (k + 1) rfl h4
  obtain ⟨K, hK⟩ := key _ 0 rfl (Nat.zero_le _)
  rw [runsN_of hK]; exact hK

section
variable (lv kp own m : List Int) (base : Int)
/-- where the k-th run begins -/
def rC (k : Nat) : Nat := cut (lvAt lv kp) kp.length k
/-- its first place, and its last one -/
def rF (k : Nat) : Nat := (kp.getD (rC lv kp k) 0).toNat
def rZ (k : Nat) : Nat := (kp.getD (rC lv kp (k + 1) - 1) 0).toNat
/-- the run -/
def rR (k : Nat) : List Int := (kp.take (rC lv kp (k + 1))).drop (rC lv kp k)
def rO (k : Nat) : Bool := opS (own.getD (rZ lv kp k) 0)
def rM (k : Nat) : Nat := (m.getD (rZ lv kp k) 0).toNat
/-- run k goes on run j -/
def Nx (j k : Nat) : Prop := rO lv kp own j = true ∧ rM lv kp m j = rF lv kp k
def Linked (rs : List Nat) : Prop := ∀ i j j', rs[i]? = some j → rs[i + 1]? = some j' → Nx lv kp own m j j'
/-- the sequence of these runs -/
def rQ (rs : List Nat) : QR :=
  ⟨rs.flatMap (rR lv kp), lv.getD (rF lv kp (rs.headD 0)) 0, sideS (lv.getD (rF lv kp (rs.headD 0)) 0) (atS lv kp base ((rC lv kp (rs.headD 0) : Int) - 1)),
    sideS (lv.getD (rF lv kp (rs.headD 0)) 0) (if rO lv kp own (rs.getLastD 0) then base else atS lv kp base (rC lv kp (rs.getLastD 0 + 1)))⟩
/-- what holds when the first k runs are in the sequences -/
structure ChInv (N k : Nat) (start : Nat → Bool) (s : QS) (L : List (List Nat)) : Prop where
  out : s.out = L.map (rQ lv kp own base)
  heads : L.map (fun rs => rs.headD 0) = (List.range k).filter start
  ne : ∀ rs ∈ L, rs ≠ []
  lt : ∀ rs ∈ L, ∀ j ∈ rs, j < k
  link : ∀ rs ∈ L, Linked lv kp own m rs
  all : ∀ j, j < k → ∃ rs ∈ L, j ∈ rs
  max : ∀ rs ∈ L, ∀ k', k' < k → ¬ Nx lv kp own m (rs.getLastD 0) k'
  goes : ∀ k', k ≤ k' → k' < N → ∀ x, s.goes (rF lv kp k') = some x ↔ ∃ rs, L[x]? = some rs ∧ Nx lv kp own m (rs.getLastD 0) k'
end
theorem rQ_app {lv kp own : List Int} {base : Int} {rs : List Nat} (h : rs ≠ []) (k : Nat) :
    rQ lv kp own base (rs ++ [k]) = onR (rQ lv kp own base rs) (rR lv kp k) (sideS (rQ lv kp own base rs).lv (if rO lv kp own k then base else atS lv kp base (rC lv kp (k + 1)))) := by
  have h1 : (rs ++ [k]).headD 0 = rs.headD 0 := by cases rs with
    | nil => exact absurd rfl h
    | cons a t => rfl
  have h2 : (rs ++ [k]).getLastD 0 = k := by simp [List.getLastD_eq_getLast?]
  unfold rQ onR
  rw [h1, h2, List.flatMap_append]
  simp
theorem rQ_one {lv kp own : List Int} {base : Int} (k : Nat) :
    rQ lv kp own base [k] = onR (newR lv kp base (rC lv kp k) (rF lv kp k)) (rR lv kp k) (sideS (newR lv kp base (rC lv kp k) (rF lv kp k)).lv (if rO lv kp own k then base else atS lv kp base (rC lv kp (k + 1)))) := by
  unfold rQ onR newR
  simp
theorem linked_app {lv kp own m : List Int} {rs : List Nat} {k : Nat} (h : Linked lv kp own m rs) (hn : Nx lv kp own m (rs.getLastD 0) k) : Linked lv kp own m (rs ++ [k]) := by
  intro i j j' h1 h2
  rcases Nat.lt_trichotomy (i + 1) rs.length with h3 | h3 | h3
  · rw [List.getElem?_append_left (by omega)] at h1
    rw [List.getElem?_append_left h3] at h2
    exact h i j j' h1 h2
  · rw [List.getElem?_append_left (by omega)] at h1
    rw [List.getElem?_append_right (by omega), show i + 1 - rs.length = 0 by omega] at h2
    obtain rfl : k = j' := by simpa using h2
    have : rs.getLastD 0 = j := by
      rw [List.getLastD_eq_getLast?, List.getLast?_eq_getElem?, show rs.length - 1 = i by omega, h1]; rfl
    rwa [this] at hn
  · rw [List.getElem?_append_right (by omega)] at h2
    rw [List.getElem?_eq_none (by simp; omega)] at h2
    cases h2
theorem linked_one {lv kp own m : List Int} (k : Nat) : Linked lv kp own m [k] := by
  intro i j j' _ h2
  simp at h2
theorem stepQ_some {lv kp own m : List Int} {base : Int} {s : QS} {k x : Nat} (h : s.goes (rF lv kp k) = some x) :
    stepQ lv kp own m base s (rC lv kp k) (rC lv kp (k + 1)) = ⟨s.out.set x (onR (s.out.getD x nilR) (rR lv kp k) (sideS (s.out.getD x nilR).lv (if rO lv kp own k then base else atS lv kp base (rC lv kp (k + 1))))),
      if rO lv kp own k then fun j => if j = rM lv kp m k then some x else s.goes j else s.goes⟩ := by
  have h' : s.goes (kp.getD (rC lv kp k) 0).toNat = some x := h
  unfold stepQ
  simp only [h', Option.isSome_some, Option.getD_some, if_true]
  rfl
theorem stepQ_none {lv kp own m : List Int} {base : Int} {s : QS} {k : Nat} (h : s.goes (rF lv kp k) = none) :
    stepQ lv kp own m base s (rC lv kp k) (rC lv kp (k + 1)) = ⟨s.out ++ [onR (newR lv kp base (rC lv kp k) (rF lv kp k)) (rR lv kp k) (sideS (newR lv kp base (rC lv kp k) (rF lv kp k)).lv (if rO lv kp own k then base else atS lv kp base (rC lv kp (k + 1))))],
      if rO lv kp own k then fun j => if j = rM lv kp m k then some s.out.length else s.goes j else s.goes⟩ := by
  have h' : s.goes (kp.getD (rC lv kp k) 0).toNat = none := h
  unfold stepQ
  simp only [h', Option.isSome_none, Option.getD_none, Bool.false_eq_true, if_false]
  have e : ∀ (xs : List QR) (a b : QR), (xs ++ [a]).set xs.length b = xs ++ [b] := fun xs a b => by rw [List.set_append_right _ _ (Nat.le_refl _), Nat.sub_self]; rfl
  have e2 : ∀ (xs : List QR) (a : QR), (xs ++ [a]).getD xs.length nilR = a := fun xs a => by simp [List.getD]
  rw [e, e2]
  rfl
theorem put_on {lv kp own m : List Int} {g : Nat → Option Nat} {k k' x : Nat} (h : Nx lv kp own m k k') : (if rO lv kp own k then fun j => if j = rM lv kp m k then some x else g j else g) (rF lv kp k') = some x := by
  rw [h.1, ← h.2]; simp
theorem put_off {lv kp own m : List Int} {g : Nat → Option Nat} {k k' x : Nat} (h : ¬ Nx lv kp own m k k') : (if rO lv kp own k then fun j => if j = rM lv kp m k then some x else g j else g) (rF lv kp k') = g (rF lv kp k') := by
  by_cases ho : rO lv kp own k = true
  · rw [ho]
    have : rF lv kp k' ≠ rM lv kp m k := fun e => h ⟨ho, e.symm⟩
    simp [this]
  · simp [ho]
theorem last_app (rs : List Nat) (k : Nat) : (rs ++ [k]).getLastD 0 = k := by simp [List.getLastD_eq_getLast?]
theorem ch_step {lv kp own m : List Int} {base : Int} {N k : Nat} {start : Nat → Bool} {s : QS} {L : List (List Nat)} (hF : ∀ i j, i < N → j < N → rF lv kp i = rF lv kp j → i = j)
    (hM : ∀ i j k', i < N → j < N → k' < N → Nx lv kp own m i k' → Nx lv kp own m j k' → i = j) (hlt : ∀ j k', j < N → k' < N → Nx lv kp own m j k' → j < k') (hst : ∀ k', k' < N → (start k' = false ↔ ∃ j, j < N ∧ Nx lv kp own m j k'))
    (hk : k < N) (h : ChInv lv kp own m base N k start s L) : ∃ L', ChInv lv kp own m base N (k + 1) start (stepQ lv kp own m base s (rC lv kp k) (rC lv kp (k + 1))) L' := by
  have hlast : ∀ rs ∈ L, rs.getLastD 0 < k := fun rs hrs => by
    have hne := h.ne rs hrs
    rw [List.getLastD_eq_getLast?, List.getLast?_eq_some_getLast hne]
    exact h.lt rs hrs _ (List.getLast_mem hne)
  have huniq : ∀ j a b, a < N → b < N → Nx lv kp own m j a → Nx lv kp own m j b → a = b := fun j a b ha hb h1 h2 => hF a b ha hb (h1.2.symm.trans h2.2)
  have hkk : ∀ k', k' < k + 1 → ¬ Nx lv kp own m k k' := fun k' h1 h2 => by
    have := hlt k k' hk (by omega) h2; omega
  have hlen : s.out.length = L.length := by rw [h.out, List.length_map]
  cases hg : s.goes (rF lv kp k) with
  | some x =>
    obtain ⟨rs, hx, hn⟩ := (h.goes k (Nat.le_refl _) hk x).1 hg
    have hrs := List.mem_of_getElem? hx
    have hxl : x < L.length := (List.getElem?_eq_some_iff.1 hx).1
    have hne := h.ne rs hrs
    have hstart : start k = false := (hst k hk).2 ⟨_, by have := hlast rs hrs; omega, hn⟩
    have hq : s.out.getD x nilR = rQ lv kp own base rs := by rw [h.out]; simp [List.getD, hx]
    rw [stepQ_some hg, hq, ← rQ_app hne]
    have hmem : ∀ ts ∈ L.set x (rs ++ [k]), ts ∈ L ∨ ts = rs ++ [k] := fun ts hts => by
      rcases List.mem_or_eq_of_mem_set hts with h1 | h1
      · exact .inl h1
      · exact .inr h1
    refine ⟨L.set x (rs ++ [k]), ?_, ?_, ?_, ?_, ?_, ?_, ?_, ?_⟩
    · simp only [h.out, List.map_set]
    · rw [List.range_succ, List.filter_append, ← h.heads]
      simp only [List.filter_cons, hstart, List.filter_nil, List.map_set]
      have e : (rs ++ [k]).headD 0 = rs.headD 0 := by cases rs with
        | nil => exact absurd rfl hne
        | cons a t => rfl
      rw [e]
      simp only [Bool.false_eq_true, if_false, List.append_nil]
      apply List.ext_getElem?
      intro i
      by_cases hi : x = i
      · subst hi
        have h1 : x < (L.map (fun rs => rs.headD 0)).length := by rw [List.length_map]; exact hxl
        rw [List.getElem?_set_self h1, List.getElem?_map, hx]; rfl
      · rw [List.getElem?_set_ne hi]
    · intro ts hts
      rcases hmem ts hts with h1 | rfl
      · exact h.ne ts h1
      · simp
    · intro ts hts j hj
      rcases hmem ts hts with h1 | rfl
      · have := h.lt ts h1 j hj; omega
      · rcases List.mem_append.1 hj with h2 | h2
        · have := h.lt rs hrs j h2; omega
        · rw [List.mem_singleton.1 h2]; omega
    · intro ts hts
      rcases hmem ts hts with h1 | rfl
      · exact h.link ts h1
      · exact linked_app (h.link rs hrs) hn
    · intro j hj
      by_cases hjk : j = k
      · exact ⟨rs ++ [k], List.mem_set hxl _, by simp [hjk]⟩
      · obtain ⟨ts, h1, h2⟩ := h.all j (by omega)
        obtain ⟨i, hi⟩ := List.mem_iff_getElem?.1 h1
        by_cases hix : x = i
        · subst hix
          rw [hx] at hi
          obtain rfl := Option.some.inj hi
          exact ⟨rs ++ [k], List.mem_set hxl _, by simp [h2]⟩
        · exact ⟨ts, List.mem_of_getElem? (i := i) (by rw [List.getElem?_set_ne hix]; exact hi), h2⟩
    · intro ts hts k' hk'
      obtain ⟨i, hi⟩ := List.mem_iff_getElem?.1 hts
      by_cases hix : x = i
      · subst hix
        rw [List.getElem?_set_self hxl] at hi
        obtain rfl := Option.some.inj hi
        rw [last_app]; exact hkk k' hk'
      · rw [List.getElem?_set_ne hix] at hi
        intro hn'
        by_cases hkk' : k' = k
        · subst hkk'
          have := (h.goes k' (Nat.le_refl _) hk i).2 ⟨ts, hi, hn'⟩
          rw [hg] at this
          exact hix (Option.some.inj this)
        · exact h.max ts (List.mem_of_getElem? hi) k' (by omega) hn'
    · intro k' h1 h2 y
      dsimp only
      by_cases hn' : Nx lv kp own m k k'
      · rw [put_on hn']
        constructor
        · intro e
          obtain rfl := Option.some.inj e
          exact ⟨rs ++ [k], List.getElem?_set_self hxl, by rw [last_app]; exact hn'⟩
        · rintro ⟨ts, h3, h4⟩
          by_cases hxy : x = y
          · rw [hxy]
          · rw [List.getElem?_set_ne hxy] at h3
            have h5 := hlast ts (List.mem_of_getElem? h3)
            have := hM _ k k' (by omega) hk h2 h4 hn'
            omega
      · rw [put_off hn', h.goes k' (by omega) h2 y]
        by_cases hxy : x = y
        · subst hxy
          constructor
          · rintro ⟨ts, h3, h4⟩
            rw [hx] at h3
            obtain rfl := Option.some.inj h3
            have := huniq _ k k' hk h2 hn h4
            omega
          · rintro ⟨ts, h3, h4⟩
            rw [List.getElem?_set_self hxl] at h3
            obtain rfl := Option.some.inj h3
            rw [last_app] at h4
            exact absurd h4 hn'
        · rw [List.getElem?_set_ne hxy]
  | none =>
    rw [stepQ_none hg, ← rQ_one, hlen]
    have hstart : start k = true := by
      cases hs : start k with
      | true => rfl
      | false =>
        exfalso
        obtain ⟨j, hj, hn⟩ := (hst k hk).1 hs
        have hjk := hlt j k hj hk hn
        obtain ⟨rs, hrs, hjr⟩ := h.all j hjk
        obtain ⟨x, hx⟩ := List.mem_iff_getElem?.1 hrs
        obtain ⟨i, hi⟩ := List.mem_iff_getElem?.1 hjr
        by_cases hil : i + 1 = rs.length
        · have e : rs.getLastD 0 = j := by
            rw [List.getLastD_eq_getLast?, List.getLast?_eq_getElem?, show rs.length - 1 = i by omega, hi]; rfl
          have := (h.goes k (Nat.le_refl _) hk x).2 ⟨rs, hx, by rw [e]; exact hn⟩
          rw [hg] at this; cases this
        · have hil2 := (List.getElem?_eq_some_iff.1 hi).1
          obtain ⟨j', hj'⟩ : ∃ j', rs[i + 1]? = some j' := ⟨_, List.getElem?_eq_getElem (by omega)⟩
          have h1 := h.link rs hrs i j j' hi hj'
          have h2 := h.lt rs hrs j' (List.mem_of_getElem? hj')
          have := huniq j k j' hk (by omega) hn h1
          omega
    have hmem : ∀ ts ∈ L ++ [[k]], ts ∈ L ∨ ts = [k] := fun ts hts => by
      rcases List.mem_append.1 hts with h1 | h1
      · exact .inl h1
      · exact .inr (List.mem_singleton.1 h1)
    refine ⟨L ++ [[k]], ?_, ?_, ?_, ?_, ?_, ?_, ?_, ?_⟩
    · simp only [h.out, List.map_append, List.map_cons, List.map_nil]
    · rw [List.range_succ, List.filter_append, ← h.heads, List.map_append]
      simp [hstart]
    · intro ts hts
      rcases hmem ts hts with h1 | rfl
      · exact h.ne ts h1
      · simp
    · intro ts hts j hj
      rcases hmem ts hts with h1 | rfl
      · have := h.lt ts h1 j hj; omega
      · rw [List.mem_singleton.1 hj]; omega
    · intro ts hts
      rcases hmem ts hts with h1 | rfl
      · exact h.link ts h1
      · exact linked_one k
    · intro j hj
      by_cases hjk : j = k
      · exact ⟨[k], by simp, by simp [hjk]⟩
      · obtain ⟨ts, h1, h2⟩ := h.all j (by omega)
        exact ⟨ts, by simp [h1], h2⟩
    · intro ts hts k' hk'
      rcases hmem ts hts with h1 | rfl
      · intro hn'
        by_cases hkk' : k' = k
        · subst hkk'
          obtain ⟨i, hi⟩ := List.mem_iff_getElem?.1 h1
          have := (h.goes k' (Nat.le_refl _) hk i).2 ⟨ts, hi, hn'⟩
          rw [hg] at this; cases this
        · exact h.max ts h1 k' (by omega) hn'
      · exact hkk k' hk'
    · intro k' h1 h2 y
      dsimp only
      by_cases hn' : Nx lv kp own m k k'
      · rw [put_on hn']
        constructor
        · intro e
          obtain rfl := Option.some.inj e
          exact ⟨[k], by simp, hn'⟩
        · rintro ⟨ts, h3, h4⟩
          by_cases hy : y < L.length
          · rw [List.getElem?_append_left hy] at h3
            have h5 := hlast ts (List.mem_of_getElem? h3)
            have := hM _ k k' (by omega) hk h2 h4 hn'
            omega
          · have := (List.getElem?_eq_some_iff.1 h3).1
            simp at this
            rw [show y = L.length by omega]
      · rw [put_off hn', h.goes k' (by omega) h2 y]
        by_cases hy : y < L.length
        · rw [List.getElem?_append_left hy]
        · constructor
          · rintro ⟨ts, h3, h4⟩
            exact absurd (List.getElem?_eq_some_iff.1 h3).1 hy
          · rintro ⟨ts, h3, h4⟩
            have := (List.getElem?_eq_some_iff.1 h3).1
            simp at this
            obtain rfl : y = L.length := by omega
            rw [List.getElem?_append_right (Nat.le_refl _), Nat.sub_self] at h3
            obtain rfl := Option.some.inj h3
            exact absurd h4 hn'
end Go.Proofs.Ytaojjneajiobnaa
/-! What a run goes on at: an opener that ends a run, and the PDI that begins one -/
namespace Go.Proofs.Ytaojjneajiobnaa
open Go.RowKit

section
variable {cl : List Int} {base : Int} {kp : List Int}
/-- how many runs there are -/
def rN (cl : List Int) (base : Int) : Nat := runsN (lvAt (levelsS cl base) (keptTo (classesS cl base) cl.length)) (keptTo (classesS cl base) cl.length).length
/-- what the kept places are -/
structure KP (cl : List Int) (base : Int) (kp : List Int) (N : Nat) : Prop where
  sorted : kp.Pairwise (· < ·)
  mem : ∀ i : Nat, (i : Int) ∈ kp ↔ i < cl.length ∧ (classesS cl base).getD i 0 ≠ 9
  nn : ∀ x ∈ kp, 0 ≤ x ∧ x < (cl.length : Int)
  total : rC (levelsS cl base) kp N = kp.length
theorem kp_all (cl : List Int) (base : Int) : KP cl base (keptTo (classesS cl base) cl.length) (rN cl base) :=
  ⟨keptTo_sorted _ _, fun _ => keptTo_in, fun x hx => keptTo_mem x hx, cut_runsN _ _⟩
variable {N : Nat}
theorem KP.at_ (h : KP cl base kp N) {i : Nat} (hi : i < kp.length) : ∃ p : Nat, kp[i]? = some (p : Int) ∧ p < cl.length := by
  have h1 : kp[i]? = some kp[i] := List.getElem?_eq_getElem hi
  obtain ⟨h2, h3⟩ := h.nn _ (List.getElem_mem hi)
  exact ⟨kp[i].toNat, by rw [h1]; congr 1; omega, by omega⟩
theorem KP.lt (h : KP cl base kp N) {i j p q : Nat} (hi : kp[i]? = some (p : Int)) (hj : kp[j]? = some (q : Int)) (hij : i < j) : p < q := by
  obtain ⟨h1, e1⟩ := List.getElem?_eq_some_iff.1 hi
  obtain ⟨h2, e2⟩ := List.getElem?_eq_some_iff.1 hj
  have := List.pairwise_iff_getElem.1 h.sorted i j h1 h2 hij
  omega
theorem KP.inj (h : KP cl base kp N) {i j p : Nat} (hi : kp[i]? = some (p : Int)) (hj : kp[j]? = some (p : Int)) : i = j := by
  rcases Nat.lt_trichotomy i j with h1 | h1 | h1
  · have := h.lt hi hj h1; omega
  · exact h1
  · have := h.lt hj hi h1; omega
theorem KP.ix (h : KP cl base kp N) {i j p q : Nat} (hi : kp[i]? = some (p : Int)) (hj : kp[j]? = some (q : Int)) (hpq : p < q) : i < j := by
  rcases Nat.lt_trichotomy i j with h1 | h1 | h1
  · exact h1
  · subst h1; rw [hi] at hj; injection hj with hj; omega
  · have := h.lt hj hi h1; omega
theorem KP.le (h : KP cl base kp N) {k : Nat} (hk : k ≤ N) : rC (levelsS cl base) kp k ≤ kp.length := by
  rcases Nat.lt_or_ge k N with h1 | h1
  · have := cut_mono (lvAt (levelsS cl base) kp) kp.length h1
    have h2 := h.total
    unfold rC at *; omega
  · obtain rfl : k = N := by omega
    rw [h.total]; exact Nat.le_refl _
theorem KP.step (_ : KP cl base kp N) (k : Nat) : rC (levelsS cl base) kp k < rC (levelsS cl base) kp (k + 1) := cut_lt _ _ _
theorem KP.first (h : KP cl base kp N) {k : Nat} (hk : k < N) : kp[rC (levelsS cl base) kp k]? = some (rF (levelsS cl base) kp k : Int) := by
  have h1 := h.step k
  have h2 := h.le (k := k + 1) hk
  obtain ⟨p, hp, _⟩ := h.at_ (i := rC (levelsS cl base) kp k) (by omega)
  unfold rF
  rw [getD_of hp, hp]; rfl
theorem KP.last (h : KP cl base kp N) {k : Nat} (hk : k < N) : kp[rC (levelsS cl base) kp (k + 1) - 1]? = some (rZ (levelsS cl base) kp k : Int) := by
  have h1 := h.step k
  have h2 := h.le (k := k + 1) hk
  obtain ⟨p, hp, _⟩ := h.at_ (i := rC (levelsS cl base) kp (k + 1) - 1) (by omega)
  unfold rZ
  rw [getD_of hp, hp]; rfl
/-- within a run the levels are one; behind it another one -/
theorem KP.run (h : KP cl base kp N) {k : Nat} (hk : k < N) : (∀ j, rC (levelsS cl base) kp k ≤ j → j < rC (levelsS cl base) kp (k + 1) → lvAt (levelsS cl base) kp j = lvAt (levelsS cl base) kp (rC (levelsS cl base) kp k)) ∧
    (rC (levelsS cl base) kp (k + 1) = kp.length ∨ lvAt (levelsS cl base) kp (rC (levelsS cl base) kp (k + 1)) ≠ lvAt (levelsS cl base) kp (rC (levelsS cl base) kp k)) := by
  have h1 := h.step k
  have h2 := h.le (k := k + 1) hk
  have := runEnd_spec (f := lvAt (levelsS cl base) kp) (n := kp.length) (a := rC (levelsS cl base) kp k) (by omega)
  exact this.2.2
/-- each kept place is of a run -/
theorem KP.of_ (h : KP cl base kp N) {t : Nat} (ht : t < kp.length) : ∃ j, j < N ∧ rC (levelsS cl base) kp j ≤ t ∧ t < rC (levelsS cl base) kp (j + 1) := by
  have key : ∀ k, k ≤ N → t < rC (levelsS cl base) kp k → ∃ j, j < k ∧ rC (levelsS cl base) kp j ≤ t ∧ t < rC (levelsS cl base) kp (j + 1) := by
    intro k
    induction k with
    | zero => intro _ h1; exact absurd h1 (Nat.not_lt_zero _)
    | succ k ih =>
      intro hk h1
      rcases Nat.lt_or_ge t (rC (levelsS cl base) kp k) with h2 | h2
      · obtain ⟨j, g1, g2⟩ := ih (by omega) h2
        exact ⟨j, by omega, g2⟩
      · exact ⟨k, by omega, h2, h1⟩
  exact key N (Nat.le_refl _) (by rw [h.total]; exact ht)
/-- what ends a run and opens an isolate that ends: its end begins a run, and the other way -/
theorem KP.nx (h : KP cl base kp N) {j k : Nat} (hj : j < N) (hk : k < N) (hn : Nx (levelsS cl base) kp cl (matchS cl) j k) :
    ∃ c, cl[rZ (levelsS cl base) kp j]? = some c ∧ (matchS cl)[rZ (levelsS cl base) kp j]? = some (rF (levelsS cl base) kp k : Int) ∧ MEnds cl (rZ (levelsS cl base) kp j) c (rF (levelsS cl base) kp k : Int) (rF (levelsS cl base) kp k) := by
  obtain ⟨h1, h2⟩ := hn
  have hz := h.nn _ (List.mem_of_getElem? (h.last hj))
  have hf := h.nn _ (List.mem_of_getElem? (h.first hk))
  unfold rO at h1
  unfold rM at h2
  generalize rZ (levelsS cl base) kp j = z at *
  generalize rF (levelsS cl base) kp k = p at *
  obtain ⟨c, hc⟩ : ∃ c, cl[z]? = some c := ⟨_, List.getElem?_eq_getElem (by omega)⟩
  obtain ⟨mk, hm⟩ : ∃ mk, (matchS cl)[z]? = some mk := ⟨_, List.getElem?_eq_getElem (by rw [match_len]; omega)⟩
  rw [getD_of hc] at h1
  rw [getD_of hm] at h2
  rcases match_cases hc hm with g | ⟨e, g⟩ | ⟨q, g⟩ | g
  · have := g.2; omega
  · have he := g.2.1
    subst he
    obtain rfl : e = p := by omega
    exact ⟨c, hc, hm, g⟩
  · rw [g.1] at h1; cases h1
  · rw [g.1] at h1; cases h1
theorem KP.F_inj (h : KP cl base kp N) {i j : Nat} (hi : i < N) (hj : j < N) (e : rF (levelsS cl base) kp i = rF (levelsS cl base) kp j) : i = j := by
  have h1 := h.first hi
  have h2 := h.first hj
  rw [e] at h1
  exact cut_inj (h.inj h1 h2)
theorem KP.Z_inj (h : KP cl base kp N) {i j : Nat} (hi : i < N) (hj : j < N) (e : rZ (levelsS cl base) kp i = rZ (levelsS cl base) kp j) : i = j := by
  have h1 := h.last hi
  have h2 := h.last hj
  rw [e] at h1
  have h3 := h.inj h1 h2
  have h4 := h.step i
  have h5 := h.step j
  have : rC (levelsS cl base) kp (i + 1) = rC (levelsS cl base) kp (j + 1) := by omega
  have := cut_inj this
  omega
theorem KP.nx_inj (h : KP cl base kp N) {i j k : Nat} (hi : i < N) (hj : j < N) (hk : k < N) (h1 : Nx (levelsS cl base) kp cl (matchS cl) i k) (h2 : Nx (levelsS cl base) kp cl (matchS cl) j k) : i = j := by
  obtain ⟨_, _, _, _, _, _, _, _, g1, _⟩ := h.nx hi hk h1
  obtain ⟨_, _, _, _, _, _, _, _, g2, _⟩ := h.nx hj hk h2
  rw [g1] at g2
  exact h.Z_inj hi hj (by have := Option.some.inj g2; omega)
theorem KP.mono (h : KP cl base kp N) {i j : Nat} (hij : i ≤ j) : rC (levelsS cl base) kp i ≤ rC (levelsS cl base) kp j := by
  have _ := h.total
  rcases Nat.lt_or_ge i j with h1 | h1
  · exact Nat.le_of_lt (cut_mono _ _ h1)
  · obtain rfl : i = j := by omega
    exact Nat.le_refl _
theorem KP.nx_lt (h : KP cl base kp N) {j k : Nat} (hj : j < N) (hk : k < N) (hn : Nx (levelsS cl base) kp cl (matchS cl) j k) : j < k := by
  obtain ⟨_, _, _, _, _, hlt, _⟩ := h.nx hj hk hn
  have h1 := h.ix (h.last hj) (h.first hk) hlt
  have h2 := h.step j
  rcases Nat.lt_or_ge j k with h3 | h3
  · exact h3
  · have := h.mono h3; omega
/-- levels of kept places -/
theorem KP.lv (h : KP cl base kp N) {t p : Nat} (ht : kp[t]? = some (p : Int)) : (levelsS cl base)[p]? = some (lvAt (levelsS cl base) kp t) := by
  have h1 := h.nn _ (List.mem_of_getElem? ht)
  obtain ⟨y, hy⟩ : ∃ y, (levelsS cl base)[p]? = some y := ⟨_, List.getElem?_eq_getElem (by rw [levels_len]; omega)⟩
  rw [lvAt_of ht hy, hy]
theorem KP.to (h : KP cl base kp N) (hb : 0 ≤ base ∧ base ≤ 1) {i : Nat} {c : Int} (hc : cl[i]? = some c) (hx : opS c = true ∨ c = 22) : ∃ t : Nat, kp[t]? = some (i : Int) := by
  have hi : i < cl.length := (List.getElem?_eq_some_iff.1 hc).1
  have hm : (i : Int) ∈ kp := by
    refine (h.mem i).2 ⟨hi, ?_⟩
    obtain ⟨v, hv⟩ : ∃ v, (classesS cl base)[i]? = some v := ⟨_, List.getElem?_eq_getElem (by rw [classes_len]; exact hi)⟩
    obtain ⟨l, hl⟩ : ∃ l, (levelsS cl base)[i]? = some l := ⟨_, List.getElem?_eq_getElem (by rw [levels_len]; exact hi)⟩
    have := (bd_at hb hc hl hv).2
    rw [getD_of hv]
    have hc' : c = 19 ∨ c = 20 ∨ c = 21 ∨ c = 22 := by
      rcases hx with e | e
      · have := opS_in.1 e; omega
      · omega
    unfold ClsIs at this
    omega
  exact List.mem_iff_getElem?.1 hm
/-- an opener that ends a run and has an end: its end begins a run -/
theorem KP.goes_on (h : KP cl base kp N) (hb : 0 ≤ base ∧ base ≤ 1) {j : Nat} (hj : j < N) {mk : Int} (ho : opS (cl.getD (rZ (levelsS cl base) kp j) 0) = true) (hm : (matchS cl)[rZ (levelsS cl base) kp j]? = some mk) (hl : mk < cl.length) :
    ∃ k, k < N ∧ Nx (levelsS cl base) kp cl (matchS cl) j k := by
  have hz := h.last hj
  have hzn := h.nn _ (List.mem_of_getElem? hz)
  have hrun := h.run hj
  have hstep := h.step j
  have hle := h.le (k := j + 1) hj
  have hnx : ∀ k, mk = (rF (levelsS cl base) kp k : Int) → Nx (levelsS cl base) kp cl (matchS cl) j k := fun k e => ⟨ho, by unfold rM; rw [getD_of hm, e, Int.toNat_natCast]⟩
  have hlvz := h.lv hz
  rw [hrun.1 _ (by omega) (by omega)] at hlvz
  generalize rZ (levelsS cl base) kp j = z at *
  obtain ⟨c, hc⟩ : ∃ c, cl[z]? = some c := ⟨_, List.getElem?_eq_getElem (by omega)⟩
  rw [getD_of hc] at ho
  rcases match_cases hc hm with g | ⟨e, g⟩ | ⟨q, g⟩ | g
  · have := g.2; omega
  · obtain ⟨_, he, hze, hel, he22, hme, _⟩ := id g
    subst he
    obtain ⟨t, ht⟩ := h.to hb he22 (.inr rfl)
    have htl := (List.getElem?_eq_some_iff.1 ht).1
    have hit := h.ix hz ht hze
    have hne : lvAt (levelsS cl base) kp (rC (levelsS cl base) kp (j + 1)) ≠ lvAt (levelsS cl base) kp (rC (levelsS cl base) kp j) := by
      rcases hrun.2 with e1 | e1
      · omega
      · exact e1
    have hee := ends_level base hc g
    have hlvt := h.lv ht
    rw [hee, hlvz] at hlvt
    have hlvt := (Option.some.inj hlvt).symm
    have ha : rC (levelsS cl base) kp (j + 1) < t := by
      rcases Nat.lt_trichotomy (rC (levelsS cl base) kp (j + 1)) t with h1 | h1 | h1
      · exact h1
      · rw [h1] at hne; exact absurd hlvt hne
      · omega
    have hgt : ∀ i, rC (levelsS cl base) kp (j + 1) ≤ i → i < t → lvAt (levelsS cl base) kp (rC (levelsS cl base) kp j) < lvAt (levelsS cl base) kp i := by
      have hbt : ∀ i, rC (levelsS cl base) kp (j + 1) ≤ i → i < t → ∃ p, z < p ∧ p < e ∧ (levelsS cl base)[p]? = some (lvAt (levelsS cl base) kp i) := fun i h1 h2 => by
        obtain ⟨p, hp, _⟩ := h.at_ (i := i) (by omega)
        exact ⟨p, h.lt hz hp (by omega), h.lt hp ht h2, h.lv hp⟩
      rcases iso_between base hc hm g hlvz with g1 | g1
      · obtain ⟨p, h1, h2, h3⟩ := hbt _ (Nat.le_refl _) ha
        exact absurd (g1 p _ h1 h2 h3) hne
      · intro i h1 h2
        obtain ⟨p, h3, h4, h5⟩ := hbt i h1 h2
        exact g1 p _ h3 h4 h5
    obtain ⟨k, hk, h1, h2⟩ := h.of_ htl
    have hrk := (h.run hk).1
    have hkt : rC (levelsS cl base) kp k = t := by
      rcases Nat.lt_or_ge (rC (levelsS cl base) kp k) t with h3 | h3
      · have e1 := hrk t h1 h2
        have e2 := hrk (t - 1) (by omega) (by omega)
        have := hgt (t - 1) (by omega) (by omega)
        omega
      · omega
    refine ⟨k, hk, hnx k ?_⟩
    have := h.first hk
    rw [hkt, ht] at this
    exact Option.some.inj this
  · rw [g.1] at ho; cases ho
  · rw [g.1] at ho; cases ho
/-- a PDI that begins a run and ends an isolate: what it ends ends a run -/
theorem KP.comes_from (h : KP cl base kp N) (hb : 0 ≤ base ∧ base ≤ 1) {k : Nat} (hk : k < N) {mk : Int} (h22 : cl[rF (levelsS cl base) kp k]? = some 22) (hm : (matchS cl)[rF (levelsS cl base) kp k]? = some mk) (h0 : 0 ≤ mk) :
    ∃ j, j < N ∧ Nx (levelsS cl base) kp cl (matchS cl) j k := by
  have hp := h.first hk
  have hpn := h.nn _ (List.mem_of_getElem? hp)
  have hrF : (rF (levelsS cl base) kp k : Int) = rF (levelsS cl base) kp k := rfl
  have hnx : ∀ j, opS (cl.getD (rZ (levelsS cl base) kp j) 0) = true → (matchS cl)[rZ (levelsS cl base) kp j]? = some (rF (levelsS cl base) kp k : Int) → Nx (levelsS cl base) kp cl (matchS cl) j k :=
    fun j h1 h2 => ⟨h1, by unfold rM; rw [getD_of h2, Int.toNat_natCast]⟩
  clear hrF
  generalize rF (levelsS cl base) kp k = p at *
  rcases match_cases h22 hm with g | ⟨e, g⟩ | ⟨q, g⟩ | g
  · exact absurd g.1 (by decide)
  · exact absurd g.1 (by decide)
  · obtain ⟨_, _, hmq, hqp, hmq2, z, hz, hoz⟩ := g
    obtain ⟨t, ht⟩ := h.to hb hz (.inl hoz)
    have hta := h.ix ht hp hqp
    have gE : MEnds cl q z (p : Int) p := by
      rcases match_cases hz hmq2 with g | ⟨e, g⟩ | ⟨r, g⟩ | g
      · have := g.2; omega
      · have he := g.2.1
        obtain rfl : e = p := by omega
        exact g
      · rw [g.1] at hoz; cases hoz
      · rw [g.1] at hoz; cases hoz
    have hkle := h.le (k := k) (by omega)
    have hal : rC (levelsS cl base) kp k < kp.length := (List.getElem?_eq_some_iff.1 hp).1
    have hlvp := h.lv hp
    have hlvq := h.lv ht
    have hee := ends_level base hz gE
    rw [hlvp, hlvq] at hee
    have hee := Option.some.inj hee
    -- the place ahead of p is of another level
    obtain ⟨k', rfl⟩ : ∃ k', k = k' + 1 := ⟨k - 1, by
      rcases Nat.eq_zero_or_pos k with e | e
      · subst e
        have : rC (levelsS cl base) kp 0 = 0 := rfl
        omega
      · omega⟩
    have hr' := h.run (k := k') (by omega)
    have hs' := h.step k'
    have hne : lvAt (levelsS cl base) kp (rC (levelsS cl base) kp (k' + 1)) ≠ lvAt (levelsS cl base) kp (rC (levelsS cl base) kp (k' + 1) - 1) := by
      rw [hr'.1 (rC (levelsS cl base) kp (k' + 1) - 1) (by omega) (by omega)]
      rcases hr'.2 with e1 | e1
      · omega
      · exact e1
    generalize rC (levelsS cl base) kp (k' + 1) = a at *
    have hta2 : t + 1 < a := by
      rcases Nat.lt_trichotomy (t + 1) a with h1 | h1 | h1
      · exact h1
      · rw [show a - 1 = t by omega] at hne
        exact absurd hee hne
      · omega
    have hbt : ∀ i, t < i → i < a → ∃ r, q < r ∧ r < p ∧ (levelsS cl base)[r]? = some (lvAt (levelsS cl base) kp i) := fun i h1 h2 => by
      obtain ⟨r, hr, _⟩ := h.at_ (i := i) (by omega)
      exact ⟨r, h.lt ht hr h1, h.lt hr hp h2, h.lv hr⟩
    have hgt : ∀ i, t < i → i < a → lvAt (levelsS cl base) kp t < lvAt (levelsS cl base) kp i := by
      rcases iso_between base hz hmq2 gE hlvq with g1 | g1
      · obtain ⟨r, h1, h2, h3⟩ := hbt (a - 1) (by omega) (by omega)
        exact absurd (hee.trans (g1 r _ h1 h2 h3).symm) hne
      · intro i h1 h2
        obtain ⟨r, h3, h4, h5⟩ := hbt i h1 h2
        exact g1 r _ h3 h4 h5
    obtain ⟨j, hj, h1, h2⟩ := h.of_ (t := t) (by omega)
    have hrj := (h.run hj).1
    have hjt : rC (levelsS cl base) kp (j + 1) - 1 = t := by
      rcases Nat.lt_or_ge (t + 1) (rC (levelsS cl base) kp (j + 1)) with h3 | h3
      · have e1 := hrj t h1 h2
        have e2 := hrj (t + 1) (by omega) h3
        have := hgt (t + 1) (by omega) hta2
        omega
      · omega
    have hZ := h.last hj
    rw [hjt, ht] at hZ
    have hZ : rZ (levelsS cl base) kp j = q := by have := Option.some.inj hZ; omega
    exact ⟨j, hj, hnx j (by rw [hZ, getD_of hz]; exact hoz) (by rw [hZ]; exact hmq2)⟩
  · have := g.2.1; omega
end
/-- does a run begin a sequence? -/
def rS (cl : List Int) (base : Int) (kp : List Int) (k : Nat) : Bool := !(cl.getD (rF (levelsS cl base) kp k) 0 == 22 && decide (0 ≤ (matchS cl).getD (rF (levelsS cl base) kp k) 0))
theorem KP.start {cl : List Int} {base : Int} {kp : List Int} {N : Nat} (h : KP cl base kp N) (hb : 0 ≤ base ∧ base ≤ 1) {k : Nat} (hk : k < N) : rS cl base kp k = false ↔ ∃ j, j < N ∧ Nx (levelsS cl base) kp cl (matchS cl) j k := by
  have hp := h.nn _ (List.mem_of_getElem? (h.first hk))
  obtain ⟨c, hc⟩ : ∃ c, cl[rF (levelsS cl base) kp k]? = some c := ⟨_, List.getElem?_eq_getElem (by omega)⟩
  obtain ⟨mk, hm⟩ : ∃ mk, (matchS cl)[rF (levelsS cl base) kp k]? = some mk := ⟨_, List.getElem?_eq_getElem (by rw [match_len]; omega)⟩
  constructor
  · intro hs
    unfold rS at hs
    rw [getD_of hc, getD_of hm] at hs
    simp at hs
    exact h.comes_from hb hk (by rw [hc, hs.1]) hm hs.2
  · rintro ⟨j, hj, hn⟩
    obtain ⟨_, _, _, g⟩ := h.nx hj hk hn
    obtain ⟨_, _, _, _, g1, g2, _⟩ := g
    unfold rS
    rw [getD_of g1, getD_of g2]
    simp
/-- the sequences are chains of runs -/
theorem seqs_chain {cl : List Int} {base : Int} (hb : 0 ≤ base ∧ base ≤ 1) (kp : List Int) (hkp : kp = keptTo (classesS cl base) cl.length) (N : Nat) (hN : N = rN cl base) :
    ∃ s L, s.out = seqsS cl base ∧ ChInv (levelsS cl base) kp cl (matchS cl) base N N (rS cl base kp) s L := by
  have h : KP cl base kp N := by subst hkp; subst hN; exact kp_all cl base
  have key : ∀ k, k ≤ N → ∃ L, ChInv (levelsS cl base) kp cl (matchS cl) base N k (rS cl base kp) (sqSt (levelsS cl base) kp cl (matchS cl) base k) L := by
    intro k
    induction k with
    | zero => intro _; exact ⟨[], rfl, rfl, (fun _ h => by cases h), (fun _ h => by cases h), (fun _ h => by cases h), (fun _ h => by omega), (fun _ h => by cases h), (fun k' _ _ x => Iff.intro (fun h => by cases h) (fun h => by obtain ⟨_, h, _⟩ := h; cases h))⟩
    | succ k ih =>
      intro hk
      obtain ⟨L, hL⟩ := ih (by omega)
      exact ch_step (fun i j hi hj e => h.F_inj hi hj e) (fun i j k' hi hj hk' h1 h2 => h.nx_inj hi hj hk' h1 h2) (fun j k' hj hk' hn => h.nx_lt hj hk' hn) (fun k' hk' => h.start hb hk') hk hL
  obtain ⟨L, hL⟩ := key N (Nat.le_refl _)
  exact ⟨_, L, by subst hkp; subst hN; rfl, hL⟩
end Go.Proofs.Ytaojjneajiobnaa
/-! The reference's small functions: side, kept, beside -/
namespace Go.Proofs.Ytaojjneajiobnaa
open Go.RowKit

set_option maxHeartbeats 1000000 in
theorem rside_any (a b : Int) (w : World) (ha : 0 ≤ a ∧ a ≤ 255) (hb : 0 ≤ b ∧ b ≤ 255) : Calls Try.prog 57 #[.int .u8 a, .int .u8 b] w fun e w' => e = .returned (.int .u8 (sideS a b)) ∧ w = w' := by
  go_enter Try.func57, Try.ntmps57
  go_wp2
  · go_ret
    exact ⟨ret_int (by unfold sideS; rw [Int.max_eq_right (by omega)]), rfl⟩
  · go_ret
    exact ⟨ret_int (by unfold sideS; rw [Int.max_eq_left (by omega)]), rfl⟩
set_option maxRecDepth 100000 in
set_option maxHeartbeats 4000000 in
theorem rkept_any (A : Option Addr) (n c : Nat) (cs : List Int) (w : World) (hr : Rd .u8 w A n cs) (hn : n ≤ 1000000) :
    Calls Try.prog 55 #[.slice A n c] w (RetSl w.heap.size 3 .i64 (keptTo cs cs.length) w) := by
  have hln := hide hr.len
  go_enter Try.func55, Try.ntmps55
  go_wp2_with fail
  go_loopw [3, 4] (fun o i wr => ∃ (k m c1 : Nat) (A1 : Option Addr), k ≤ n ∧ m ≤ k ∧ i = .int .i64 ((k : Nat) : Int) ∧ o = .slice A1 m c1 ∧ Own w.heap.size 3 .i64 wr A1 m c1 (keptTo cs k) ∧ Below w.heap.size w wr) (fun _ i _ => n - (intOf i).toNat)
  case atStart => exact ⟨0, 0, 0, none, Nat.zero_le _, Nat.le_refl _, rfl, rfl, Own.none_ _ _ _ _, Below.refl _ _⟩
  case round =>
    obtain ⟨k, m, c1, A1, hk, hmk, rfl, rfl, hown, hbel⟩ := hrel
    obtain ⟨wo, rfl⟩ : ∃ wo : World, wo = wr := ⟨_, rfl⟩
    have hsz := hbel.size
    by_cases hkn : k < n
    · obtain ⟨b, off, z, rfl, hbw, hz, hck⟩ := (hr.below hbel).at_ hkn
      have q1 : (k : Int) < (n : Int) := by omega
      by_cases h9 : z = 9
      · have t1 : (z != 9) = false := by simp [h9]
        have hst := hide (keptTo_off (cs := cs) (k := k) (by rw [getD_of' hz.out, h9]; rfl))
        have h9 := hide h9
        have hown := hide hown
        have hbel := hide hbel
        go_wp2_with fail
        go_roundw
        case rel => exact ⟨k + 1, m, c1, A1, by omega, by omega, by go_num, rfl, by rw [hst.out]; exact hown.out, hbel.out⟩
        case measure => simp [intOf]; omega
      · have t1 : (z != 9) = true := by simpa using h9
        have hst := hide (keptTo_on (cs := cs) (k := k) (by rw [getD_of' hz.out]; simpa using h9))
        have h9 := hide h9
        have hbel := hide hbel
        go_wp2_with (at_builtin; refine wpList_app elt64 rfl (.tmp 16) (.tmp 18) rfl rfl rfl (hown.alloc _) (own_one _ _ _ _ _ _ rfl (Nat.le_refl _)).rd (by omega) (by simp <;> omega) ?_; intro A3 c3 w3 hown3 hgr3 _; have hb3 := hide ((hbel.out.alloc hsz (.cells #[.int .i64 (k : Int)] 3)).grown hgr3 (by simp; omega) (fun g hg => (hown.lt g hg).1)); clear hgr3)
        go_roundw
        case rel => exact ⟨k + 1, m + 1, c3, A3, by omega, by omega, by go_num, rfl, by rw [hst.out]; exact hown3, hb3.out⟩
        case measure => simp [intOf]; omega
    · obtain rfl : k = n := by omega
      have hown := hide hown
      have hbel := hide hbel
      clear hkn
      go_wp2_with fail
      go_ret
      have ho := hown.out
      have hm := ho.len
      refine ⟨A1, c1, ?_, ?_, hbel.out⟩
      · rw [hln.out, hm]; rfl
      · rw [hln.out, hm]; exact ho
set_option maxRecDepth 100000 in
set_option maxHeartbeats 4000000 in
theorem beside_any (A1 A2 : Option Addr) (n1 N c1 c2 : Nat) (lv kp : List Int) (i p : Nat) (way base : Int) (w : World) (r1 : Rd .u8 w A1 n1 lv) (r2 : Rd .i64 w A2 N kp) (hkp : ∀ x ∈ kp, 0 ≤ x ∧ x < (n1 : Int)) (hN : N ≤ 1000000) (hw : -1 ≤ way ∧ way ≤ 1) (hsort : kp.Pairwise (· < ·)) (hip : kp[i]? = some (p : Int)) :
    Calls Try.prog 58 #[.slice A2 N c2, .slice A1 n1 c1, .int .i64 (p : Int), .int .i64 way, .int .u8 base] w fun e w' => e = .returned (.int .u8 (atS lv kp base ((i : Int) + way))) ∧ Below w.heap.size w w' := by
  have hln := hide r2.len
  have hiN : i < N := by rw [← hln.out]; exact (List.getElem?_eq_some_iff.1 hip).1
  have hinj : ∀ (j : Nat) (x : Int), kp[j]? = some x → j ≠ i → (x == (p : Int)) = false := fun j x hx hne => by
    obtain ⟨h1, e1⟩ := List.getElem?_eq_some_iff.1 hip
    obtain ⟨h2, e2⟩ := List.getElem?_eq_some_iff.1 hx
    have hP := List.pairwise_iff_getElem.1 hsort
    have : x ≠ (p : Int) := by
      rcases Nat.lt_trichotomy j i with h3 | h3 | h3
      · have := hP j i h2 h1 h3; omega
      · exact absurd h3 hne
      · have := hP i j h1 h2 h3; omega
    simpa using this
  have hinj := hide hinj
  go_enter Try.func58, Try.ntmps58
  go_wp2_with fail
  go_loopw [11] (fun k wr => ∃ j : Nat, j ≤ N ∧ k = .int .i64 ((j : Nat) : Int) ∧ Below w.heap.size w wr ∧ Hid (i < j → ¬ (0 ≤ (i : Int) + way ∧ (i : Int) + way < (N : Int)))) (fun k _ => N - (intOf k).toNat)
  case atStart => exact ⟨0, Nat.zero_le _, rfl, Below.refl _ _, hide (fun h => by omega)⟩
  case round =>
    obtain ⟨j, hj, rfl, hbel, hpast⟩ := hrel
    obtain ⟨wo, rfl⟩ : ∃ wo : World, wo = wr := ⟨_, rfl⟩
    by_cases hjN : j < N
    · obtain ⟨b, off, x, rfl, hbw, hx, hcx⟩ := (r2.below hbel).at_ hjN
      have q1 : (j : Int) < (N : Int) := by omega
      have q0 : (0 : Int) ≤ (j : Int) := by omega
      have hr1 := hide (r1.below hbel)
      have hbel := hide hbel
      by_cases hji : j = i
      · subst hji
        obtain rfl : x = (p : Int) := by have := hx.out; rw [hip] at this; exact (Option.some.inj this).symm
        have t1 : ((p : Int) == (p : Int)) = true := by simp
        by_cases ha : 0 ≤ (j : Int) + way
        · obtain ⟨m, hm⟩ := Int.eq_ofNat_of_zero_le ha
          by_cases hb : m < N
          · have hb' : (m : Int) < (N : Int) := by omega
            obtain ⟨b2, off2, y, hA2, _, hy, hcy⟩ := (r2.below hbel.out).at_ hb
            injection hA2 with hA2
            injection hA2 with e1 e2
            subst e1; subst e2
            have hyb := hkp y (List.mem_of_getElem? hy.out)
            obtain ⟨y, rfl⟩ := Int.eq_ofNat_of_zero_le hyb.1
            obtain ⟨b1, off1, u, rfl, hb1, hu, hcu⟩ := hr1.out.at_ (show y < n1 by omega)
            have hs := hide (show atS lv kp base ((j : Int) + way) = u by
              unfold atS
              rw [if_neg (by rw [hln.out]; omega), hm, Int.toNat_natCast]
              exact lvAt_of hy.out hu.out)
            have q3 : (y : Int) < (n1 : Int) := by omega
            have q4 : (0 : Int) ≤ (y : Int) := by omega
            have q5 : (0 : Int) ≤ (m : Int) := by omega
            have hbel := hide hbel
            go_wp2_with fail
            go_ret
            first
              | exact ⟨ret_int hs.out.symm, hbel.out.out⟩
              | exact ⟨ret_int (by rw [← hm]; exact hs.out.symm), hbel.out.out⟩
          · have hb' : ¬ ((m : Int) < (N : Int)) := by omega
            have hr1 := hide hr1
            have hp' : Hid (j < j + 1 → ¬ (0 ≤ (j : Int) + way ∧ (j : Int) + way < (N : Int))) := hide (fun _ h => hb (by omega))
            have hbd : decide ((m : Int) < (N : Int)) = false := by simpa using hb'
            go_wp2_with fail
            go_roundw
            case rel => exact ⟨j + 1, by omega, by go_num, hbel.out, hide (fun _ => hp'.out (by omega))⟩
            case measure => simp [intOf]; omega
        · have had : decide (0 ≤ (j : Int) + way) = false := by simpa using ha
          have hr1 := hide hr1
          have hp' : Hid (j < j + 1 → ¬ (0 ≤ (j : Int) + way ∧ (j : Int) + way < (N : Int))) := hide (fun _ h => ha h.1)
          go_wp2_with fail
          go_roundw
          case rel => exact ⟨j + 1, by omega, by go_num, hbel.out, hide (fun _ => hp'.out (by omega))⟩
          case measure => simp [intOf]; omega
      · have t1 := hinj.out j x hx.out hji
        have hp' : Hid (i < j + 1 → ¬ (0 ≤ (i : Int) + way ∧ (i : Int) + way < (N : Int))) := hide (fun h => hpast.out (by omega))
        have hr1 := hide hr1
        go_wp2_with fail
        go_roundw
        case rel => exact ⟨j + 1, by omega, by go_num, hbel.out, hp'⟩
        case measure => simp [intOf]; omega
    · obtain rfl : j = N := by omega
      have hs := hide (show atS lv kp base ((i : Int) + way) = base by
        unfold atS
        have := hpast.out hiN
        rw [if_pos (by rw [hln.out]; omega)])
      have hbel := hide hbel
      clear hjN
      go_wp2_with fail
      go_ret
      exact ⟨ret_int hs.out.symm, hbel.out⟩
end Go.Proofs.Ytaojjneajiobnaa
/-! The reference's runs: rows of places -/
namespace Go.Proofs.Ytaojjneajiobnaa
open Go.RowKit Go.Maps

/-! ### plain -/
/-- the last row, with one more -/
def lastApp (xs : List (List Int)) (z : Int) : List (List Int) := xs.dropLast ++ [xs.getLastD [] ++ [z]]
/-- the rows of the first places -/
def rowsTo (f : Nat → Int) (kp : List Int) : Nat → List (List Int)
  | 0 => []
  | t + 1 => if t = 0 ∨ f t ≠ f (t - 1) then rowsTo f kp t ++ [[kp.getD t 0]] else lastApp (rowsTo f kp t) (kp.getD t 0)
theorem lastApp_app (xs : List (List Int)) (y : List Int) (z : Int) : lastApp (xs ++ [y]) z = xs ++ [y ++ [z]] := by
  unfold lastApp
  simp [List.getLastD_eq_getLast?]
theorem take_drop_more {kp : List Int} {a t : Nat} {z : Int} (hat : a ≤ t) (hz : kp[t]? = some z) : (kp.take (t + 1)).drop a = (kp.take t).drop a ++ [z] := by
  have ht : t < kp.length := (List.getElem?_eq_some_iff.1 hz).1
  rw [List.take_add_one, hz, Option.toList_some, List.drop_append_of_le_length (by rw [List.length_take]; omega)]
theorem rowsTo_spec (f : Nat → Int) (kp : List Int) : ∀ t, 0 < t → t ≤ kp.length → ∃ k, cut f kp.length k < t ∧ t ≤ cut f kp.length (k + 1) ∧ rowsTo f kp t = (List.range k).map (fun k => (kp.take (cut f kp.length (k + 1))).drop (cut f kp.length k)) ++ [(kp.take t).drop (cut f kp.length k)]
  | 0, h, _ => absurd h (by omega)
  | t + 1, _, ht => by
    have hz : kp[t]? = some (kp.getD t 0) := by rw [List.getD, List.getElem?_eq_getElem (show t < kp.length by omega)]; rfl
    rcases Nat.eq_zero_or_pos t with h0 | h0
    · subst h0
      have h1 := runEnd_spec (f := f) (n := kp.length) (a := 0) (by omega)
      refine ⟨0, Nat.zero_lt_one, h1.1, ?_⟩
      rw [rowsTo, if_pos (.inl rfl)]
      show [] ++ [[kp.getD 0 0]] = [] ++ [(kp.take (0 + 1)).drop 0]
      rw [take_drop_more (Nat.le_refl 0) hz]
      rfl
    · obtain ⟨k, h1, h2, h3⟩ := rowsTo_spec f kp t h0 (by omega)
      have hs := runEnd_spec (f := f) (n := kp.length) (a := cut f kp.length k) (by omega)
      change cut f kp.length k < cut f kp.length (k + 1) ∧ cut f kp.length (k + 1) ≤ kp.length ∧ (∀ j, cut f kp.length k ≤ j → j < cut f kp.length (k + 1) → f j = f (cut f kp.length k)) ∧ (cut f kp.length (k + 1) = kp.length ∨ f (cut f kp.length (k + 1)) ≠ f (cut f kp.length k)) at hs
      have hprev := hs.2.2.1 (t - 1) (by omega) (by omega)
      by_cases he : t = cut f kp.length (k + 1)
      · have hne : f t ≠ f (t - 1) := by
          rw [hprev, he]
          rcases hs.2.2.2 with h | h
          · omega
          · exact h
        have hs2 := runEnd_spec (f := f) (n := kp.length) (a := cut f kp.length (k + 1)) (by omega)
        refine ⟨k + 1, by omega, by have := hs2.1; change cut f kp.length (k + 1) < cut f kp.length (k + 1 + 1) at this; omega, ?_⟩
        rw [rowsTo, if_pos (.inr hne), h3, List.range_succ, List.map_append, take_drop_more (Nat.le_of_eq he.symm) hz, ← he]
        simp [← he]
      · have heq : f t = f (t - 1) := by rw [hprev]; exact hs.2.2.1 t (by omega) (by omega)
        refine ⟨k, by omega, by omega, ?_⟩
        rw [rowsTo, if_neg (by rintro (h | h); · omega
                               · exact h heq), h3, lastApp_app, take_drop_more (by omega) hz]
theorem cut_succ_inj (f : Nat → Int) (n : Nat) {i j : Nat} (h : cut f n i = cut f n j) : i = j := by
  have mono : ∀ d i, cut f n i < cut f n (i + d + 1) := by
    intro d
    induction d with
    | zero => intro i; exact cut_lt _ _ _
    | succ d ih => intro i; have h1 := ih i; have h2 := cut_lt f n (i + d + 1); have : i + (d + 1) + 1 = i + d + 1 + 1 := by omega
                   rw [this]; omega
  rcases Nat.lt_trichotomy i j with h1 | h1 | h1
  · have := mono (j - i - 1) i; rw [show i + (j - i - 1) + 1 = j by omega] at this; omega
  · exact h1
  · have := mono (i - j - 1) j; rw [show j + (i - j - 1) + 1 = i by omega] at this; omega
theorem rowsTo_all {lv kp : List Int} {N : Nat} (hN : rC lv kp N = kp.length) : rowsTo (lvAt lv kp) kp kp.length = (List.range N).map (rR lv kp) := by
  rcases Nat.eq_zero_or_pos kp.length with h0 | h0
  · have : N = 0 := by
      apply cut_succ_inj (lvAt lv kp) kp.length
      show rC lv kp N = 0
      omega
    subst this
    rw [h0]; rfl
  · obtain ⟨k, h1, h2, h3⟩ := rowsTo_spec (lvAt lv kp) kp kp.length h0 (Nat.le_refl _)
    have hs := runEnd_spec (f := lvAt lv kp) (n := kp.length) (a := cut (lvAt lv kp) kp.length k) h1
    have he : cut (lvAt lv kp) kp.length (k + 1) = kp.length := Nat.le_antisymm hs.2.1 h2
    have : N = k + 1 := cut_succ_inj (lvAt lv kp) kp.length (by rw [he]; exact hN)
    subst this
    rw [h3, List.range_succ, List.map_append]
    congr 1
    show [_] = [rR lv kp k]
    unfold rR rC
    rw [he]
theorem rowsTo_new {f : Nat → Int} {kp : List Int} {t : Nat} {z : Int} (h : t = 0 ∨ f t ≠ f (t - 1)) (hz : kp[t]? = some z) : rowsTo f kp (t + 1) = rowsTo f kp t ++ [[z]] := by
  rw [rowsTo, if_pos h, List.getD, hz]; rfl
theorem rowsTo_more {f : Nat → Int} {kp : List Int} {t : Nat} {z : Int} (h : ¬ (t = 0 ∨ f t ≠ f (t - 1))) (hz : kp[t]? = some z) : rowsTo f kp (t + 1) = lastApp (rowsTo f kp t) z := by
  rw [rowsTo, if_neg h, List.getD, hz]; rfl

theorem rowsTo_len (f : Nat → Int) (kp : List Int) : ∀ t, (∀ r ∈ rowsTo f kp t, r.length ≤ t) ∧ (rowsTo f kp t).length ≤ t
  | 0 => ⟨(fun _ h => by cases h), Nat.le_refl _⟩
  | t + 1 => by
    obtain ⟨h1, h2⟩ := rowsTo_len f kp t
    rw [rowsTo]
    split
    · refine ⟨fun r hr => ?_, by rw [List.length_append]; show _ + 1 ≤ _; omega⟩
      rcases List.mem_append.1 hr with h | h
      · have := h1 r h; omega
      · rw [List.mem_singleton.1 h]; simp
    · rename_i hne
      unfold lastApp
      have hlast : ((rowsTo f kp t).getLastD []).length ≤ t := by
        rw [List.getLastD_eq_getLast?]
        cases hx : (rowsTo f kp t).getLast? with
        | none => exact Nat.zero_le _
        | some y => exact h1 y (List.mem_of_getLast? hx)
      refine ⟨fun r hr => ?_, by rw [List.length_append, List.length_dropLast]; show _ + 1 ≤ _; omega⟩
      rcases List.mem_append.1 hr with h | h
      · have := h1 r ((List.dropLast_sublist _).subset h); omega
      · rw [List.mem_singleton.1 h, List.length_append]; exact Nat.succ_le_succ hlast

/-! ### how they lie -/
structure RV where
  A : Option Addr
  c : Nat
  ps : List Int
def RV.sl (x : RV) : Value := .slice x.A x.ps.length x.c
structure Rw (B : Nat) (w : World) (v : Value) (xs : List RV) : Prop where
  row : w.ownsRow B 28 1 v xs.length (xs.map RV.sl)
  own : ∀ (i : Nat) (x : RV), xs[i]? = some x → Own B 3 .i64 w x.A x.ps.length x.c x.ps
  dist : ∀ (i j : Nat) (x y : RV), i ≠ j → xs[i]? = some x → xs[j]? = some y → Dist x.sl.ownBlock y.sl.ownBlock
section
variable {B : Nat} {w w' : World} {v : Value} {xs : List RV} {i : Nat} {x : RV}
theorem Rw.nil (B : Nat) (w : World) : Rw B w (.slice none 0 0) [] := ⟨World.ownsRow_nil w B 28 1, fun i x h => by simp at h, fun i j x y _ h => by simp at h⟩
theorem Rw.same (h : Rw B w v xs) {row : Option Nat} (hg : w.grownBy w' row) (h1 : v.ownBlock = none ∨ v.ownBlock ≠ row) (h2 : ∀ (i : Nat) (x : RV), xs[i]? = some x → x.sl.ownBlock = none ∨ x.sl.ownBlock ≠ row) : Rw B w' v xs :=
  ⟨h.row.kept hg h1, fun i x hx => (h.own i x hx).kept hg (h2 i x hx), h.dist⟩
theorem Rw.below (h : Rw B w v xs) (hb : Below w.heap.size w w') : Rw B w' v xs :=
  h.same (row := none) ⟨hb.os, hb.tape, hb.output, hb.size, fun i hi _ => hb.block i hi⟩ (by cases v.ownBlock <;> simp) (fun i x _ => by cases x.sl.ownBlock <;> simp)
theorem Rw.drew (h : Rw B w v xs) : Rw B w.drew v xs := ⟨h.row, h.own, h.dist⟩
theorem Rw.drewN (h : Rw B w v xs) (n : Nat) : Rw B (w.drewN n) v xs := ⟨h.row, h.own, h.dist⟩
theorem Rw.alloc (h : Rw B w v xs) (o : Obj) : Rw B (w.alloc o) v xs := h.below ((Below.refl _ w).alloc (Nat.le_refl _) o)
theorem Rw.form (h : Rw B w v xs) : ∃ A c, v = .slice A xs.length c := by
  rcases h.row.2 with ⟨rfl, h0⟩ | ⟨g, cap, cur, rfl, _⟩
  · exact ⟨none, 0, by rw [h0]⟩
  · exact ⟨_, _, rfl⟩
theorem Rw.at_ (h : Rw B w v xs) (hx : xs[i]? = some x) : ∃ ob cap, v = .slice (some ⟨ob, 0, none⟩) xs.length cap ∧ B ≤ ob ∧ ob < w.heap.size ∧ i < xs.length ∧ w.cell? ⟨ob, i, none⟩ = some x.sl ∧ ∀ j, w.frozen? ⟨ob, j, none⟩ = false := by
  have hi : i < xs.length := (List.getElem?_eq_some_iff.1 hx).1
  obtain ⟨ob, cap, rfl⟩ := own_form h.row (by omega)
  have hl := h.row.lt ob rfl
  refine ⟨ob, cap, rfl, hl.1, hl.2, hi, ?_, fun j => h.row.frozenAt j⟩
  rw [h.row.cellAt i (by omega)]
  simp [hx]
/-- a new one, empty -/
theorem Rw.new_ (h : Rw B w v xs) {v' : Value} (hrow : w'.ownsRow B 28 1 v' (xs.length + 1) (xs.map RV.sl ++ [.slice none 0 0])) (hg : w.grownBy w' v.ownBlock) : Rw B w' v' (xs ++ [⟨none, 0, []⟩]) := by
  have hget : ∀ (k : Nat) (y : RV), (xs ++ [(⟨none, 0, []⟩ : RV)])[k]? = some y → xs[k]? = some y ∨ y = ⟨none, 0, []⟩ := fun k y hy => by
    rcases Nat.lt_or_ge k xs.length with h1 | h1
    · rw [List.getElem?_append_left h1] at hy; exact .inl hy
    · rw [List.getElem?_append_right h1] at hy
      rcases Nat.eq_zero_or_pos (k - xs.length) with h2 | h2
      · rw [h2] at hy; exact .inr (Option.some.inj hy).symm
      · rw [List.getElem?_eq_none (by simp; omega)] at hy; cases hy
  refine ⟨?_, fun k y hy => ?_, fun a b y z hab hy hz => ?_⟩
  · rw [List.map_append, List.length_append]
    exact hrow
  · rcases hget k y hy with h1 | rfl
    · exact (h.own k y h1).kept hg (row_apart (h.own k y h1).1 h.row (by decide))
    · exact Own.none_ B 3 .i64 w'
  · rcases hget a y hy with h1 | rfl
    · rcases hget b z hz with h2 | rfl
      · exact h.dist a b y z hab h1 h2
      · exact (Dist.sym (.inl rfl))
    · exact .inl rfl
/-- one more place in a row -/
theorem Rw.more {ob cap : Nat} (h : Rw B w (.slice (some ⟨ob, 0, none⟩) xs.length cap) xs) (hx : xs[i]? = some x) {A2 : Option Addr} {c2 m : Nat} {ys : List Int} (hm : ys.length = m)
    (hown : Own B 3 .i64 w' A2 (x.ps.length + m) c2 (x.ps ++ ys)) (hg : w.grownBy w' x.sl.ownBlock) (hat : (Value.slice A2 (x.ps.length + m) c2).ownBlock = x.sl.ownBlock ∨ (Value.slice A2 (x.ps.length + m) c2).ownBlock = some w.heap.size) :
    Rw B (w'.setCell ⟨ob, i, none⟩ (.slice A2 (x.ps.length + m) c2)) (.slice (some ⟨ob, 0, none⟩) (xs.set i ⟨A2, c2, x.ps ++ ys⟩).length cap) (xs.set i ⟨A2, c2, x.ps ++ ys⟩) := by
  have hsl : (RV.mk A2 c2 (x.ps ++ ys)).sl = .slice A2 (x.ps.length + m) c2 := by simp [RV.sl, hm]
  have hob : some ob ≠ x.sl.ownBlock := fun e => by
    rcases row_apart (h.own i x hx).1 h.row (by decide) with h1 | h1
    · rw [show x.sl.ownBlock = none from h1] at e; cases e
    · exact h1 e.symm
  have hrow' : w'.ownsRow B 28 1 (.slice (some ⟨ob, 0, none⟩) xs.length cap) xs.length (xs.map RV.sl) := h.row.kept hg (.inr hob)
  have hother : ∀ (k : Nat) (y : RV), k ≠ i → xs[k]? = some y → Own B 3 .i64 w' y.A y.ps.length y.c y.ps := fun k y hk hy => (h.own k y hy).kept hg (h.dist k i y x hk hy hx)
  have hi : i < xs.length := (List.getElem?_eq_some_iff.1 hx).1
  have hget : ∀ (k : Nat) (y : RV), (xs.set i ⟨A2, c2, x.ps ++ ys⟩)[k]? = some y → (k = i ∧ y = ⟨A2, c2, x.ps ++ ys⟩) ∨ (k ≠ i ∧ xs[k]? = some y) := fun k y hy => by
    rw [List.getElem?_set] at hy
    by_cases e : i = k
    · subst e
      rw [if_pos rfl, if_pos hi] at hy
      exact .inl ⟨rfl, (Option.some.inj hy).symm⟩
    · rw [if_neg e] at hy
      exact .inr ⟨Ne.symm e, hy⟩
  have hr : ∀ {A : Option Addr} {n c : Nat} {zs : List Int}, Own B 3 .i64 w' A n c zs → Own B 3 .i64 (w'.setCell ⟨ob, i, none⟩ (.slice A2 (x.ps.length + m) c2)) A n c zs := fun ho' =>
    ho'.other (p := ⟨ob, i, none⟩) (fun e => by
      rcases row_apart ho'.1 hrow' (by decide) with h1 | h1
      · rw [h1] at e; cases e
      · exact h1 e) _
  have hd : ∀ (k : Nat) (y : RV), k ≠ i → xs[k]? = some y → Dist (Value.slice A2 (x.ps.length + m) c2).ownBlock y.sl.ownBlock := fun k y hk hy =>
    (h.dist i k x y (Ne.symm hk) hx hy).one hat (fun g hg => ((h.own k y hy).lt g hg).2)
  refine ⟨?_, fun k y hy => ?_, fun a b y z hab hy hz => ?_⟩
  · have := (hrow'.stored i (.slice A2 (x.ps.length + m) c2)).1
    rw [List.map_set, hsl]
    simpa using this
  · rcases hget k y hy with ⟨_, rfl⟩ | ⟨h1, hy'⟩
    · refine hr ?_
      simpa [hm] using hown
    · exact hr (hother k y h1 hy')
  · rcases hget a y hy with ⟨ha, hya⟩ | ⟨h1, hy'⟩
    · rcases hget b z hz with ⟨hb, _⟩ | ⟨h2, hz'⟩
      · exact absurd (ha.trans hb.symm) hab
      · rw [hya, hsl]; exact hd b z h2 hz'
    · rcases hget b z hz with ⟨_, hzb⟩ | ⟨h2, hz'⟩
      · rw [hzb, hsl]; exact (hd a y h1 hy').sym
      · exact h.dist a b y z hab hy' hz'
end
theorem Rw.ob_kept {B : Nat} {w w' : World} {xs : List RV} {ob cap i : Nat} {x : RV} (h : Rw B w (.slice (some ⟨ob, 0, none⟩) xs.length cap) xs) (hx : xs[i]? = some x) (hg : w.grownBy w' x.sl.ownBlock) (j : Nat) :
    w'.cell? ⟨ob, j, none⟩ = w.cell? ⟨ob, j, none⟩ ∧ w'.frozen? ⟨ob, j, none⟩ = w.frozen? ⟨ob, j, none⟩ := by
  have hob : some ob ≠ x.sl.ownBlock := fun e => by
    rcases row_apart (h.own i x hx).1 h.row (by decide) with h1 | h1
    · rw [show x.sl.ownBlock = none from h1] at e; cases e
    · exact h1 e.symm
  have hb := hg.block ob (h.row.lt ob rfl).2 hob
  exact ⟨World.cell?_of_block hb, World.frozen?_of_block hb⟩
theorem info28 : (Try.prog.info? 28).map (fun i => (i.zero, i.size, i.bytes)) = some (some (.slice none 0 0), 1, 24) := by kernel_rfl
theorem run_appR {w : World} {B : Nat} {v : Value} {n g c' : Nat} {ys : List Value} (ty : TypeId) (hown : w.ownsRow B 28 1 v n ys) (hg : w.heap[g]? = some (.cells #[.slice none 0 0] 28 (0, 0))) (hn : n ≤ 1000000) (hB : B ≤ w.heap.size) :
    ∃ A2 c2 w', (Builtin.append_ #[99, 99] ty #[v, .slice (some ⟨g, 0, none⟩) 1 c']).run Try.prog w = .ok (.slice A2 (n + 1) c2) w' ∧ w'.ownsRow B 28 1 (.slice A2 (n + 1) c2) (n + 1) (ys ++ [.slice none 0 0]) ∧ w.grownBy w' v.ownBlock := by
  obtain ⟨i, hi, hz, hs, hby⟩ := info_parts info28
  obtain ⟨v', w', hrun, h2, h3, _, h5⟩ := run_append_own_at (P := Try.prog) w B 99 ty 28 i _ 1 24 Try.underlying99 hi hz hs hby rfl (by omega) v n ys hown ⟨g, 0, none⟩ 1 c' [.slice none 0 0]
    rfl (fun j u hu => by rw [addr_add, Nat.zero_add, cell_of_row _ _ _ _ _ _ hg]; simpa using hu) (by intro u hu; simp at hu; rcases hu with rfl; rfl) (by simp only [maxLen]; omega) (by omega) hB
  obtain ⟨A2, c2, rfl⟩ := own_form h2 (by omega)
  exact ⟨_, c2, w', hrun, h2, h3⟩
theorem wpList_appR {w : World} {ops : Array Oper} {rest : List Oper} {o : Oper} {a : Act} {Q : Exit → Act → World → Prop} (hgd : o.guard = none) (s x : Operand)
    (ho : o.op = .call { callee := .builtin .append, args := #[s, x], argTypes := #[99, 99] }) {B : Nat} {v : Value} {n g c' : Nat} {ys : List Value} (hs : a.eval s = v) (hx : a.eval x = .slice (some ⟨g, 0, none⟩) 1 c')
    (hown : w.ownsRow B 28 1 v n ys) (hg : w.heap[g]? = some (.cells #[.slice none 0 0] 28 (0, 0))) (hn : n ≤ 1000000) (hB : B ≤ w.heap.size)
    (h : ∀ A2 c2 w', w'.ownsRow B 28 1 (.slice A2 (n + 1) c2) (n + 1) (ys ++ [.slice none 0 0]) → w.grownBy w' v.ownBlock → wpList Try.prog ops Q rest (a.put o.dst (.slice A2 (n + 1) c2)) w') :
    wpList Try.prog ops Q (o :: rest) a w := by
  obtain ⟨A2, c2, w', hrun, h2, h3⟩ := run_appR o.type (c' := c') hown hg hn hB
  refine wpList_plain hgd fun K hK => wp_val (v := .slice A2 (n + 1) c2) ?_ (hK _ _ (h A2 c2 w' h2 h3))
  unfold execOp
  simp only [ho, resolve, invoke, builtin, Sem.run_bind, Sem.run_pure, Result.andThen_ok, List.map_toArray, List.map_cons, List.map_nil, hs, hx, hrun]
end Go.Proofs.Ytaojjneajiobnaa
/-! The reference's runs: the walk (printed by wip/mkrr.py) -/
namespace Go.Proofs.Ytaojjneajiobnaa
open Go.RowKit Go.Maps
/-- what runs returns -/
def RowsRw (rows : List (List Int)) (w : World) (e : Ending) (w' : World) : Prop :=
  ∃ (A : Option Addr) (c : Nat) (xs : List RV), e = .returned (.slice A xs.length c) ∧ Rw w.heap.size w' (.slice A xs.length c) xs ∧ xs.map RV.ps = rows ∧ Below w.heap.size w w'
theorem lastApp_rows {xs : List RV} {M : Nat} {x : RV} {A : Option Addr} {c : Nat} {z : Int} (hl : xs.length = M + 1) (hx : xs[M]? = some x) : (xs.set M ⟨A, c, x.ps ++ [z]⟩).map RV.ps = lastApp (xs.map RV.ps) z := by
  have h1 : xs = xs.take M ++ [x] := by
    have h := List.take_append_drop M xs
    rw [List.drop_eq_getElem_cons (by omega), List.drop_eq_nil_of_le (by omega)] at h
    rw [List.getElem?_eq_getElem (by omega)] at hx
    rw [← Option.some.inj hx]
    exact h.symm
  have hm : (xs.take M).length = M := by rw [List.length_take]; omega
  rw [h1, List.set_append_right _ _ (by omega), hm, Nat.sub_self, List.map_append, List.map_append]
  exact (lastApp_app _ _ _).symm
set_option maxRecDepth 100000 in
set_option maxHeartbeats 4000000 in
theorem rruns_any (A1 A2 : Option Addr) (n1 N c1 c2 : Nat) (lv kp : List Int) (w : World) (r1 : Rd .u8 w A1 n1 lv) (r2 : Rd .i64 w A2 N kp) (hkp : ∀ x ∈ kp, 0 ≤ x ∧ x < (n1 : Int)) (hN : N ≤ 900000) :
    Calls Try.prog 56 #[.slice A2 N c2, .slice A1 n1 c1] w (RowsRw (rowsTo (lvAt lv kp) kp N) w) := by
  have hln := hide r2.len
  go_enter Try.func56, Try.ntmps56
  go_wp2_with fail
  go_loopw [5, 6] (fun o i wr => ∃ (t c : Nat) (A : Option Addr) (xs : List RV), t ≤ N ∧ i = .int .i64 ((t : Nat) : Int) ∧ o = .slice A xs.length c ∧ Rw w.heap.size wr (.slice A xs.length c) xs ∧ Hid (xs.map RV.ps = rowsTo (lvAt lv kp) kp t) ∧ Hid (xs.length ≤ t) ∧ Hid (0 < t → 0 < xs.length) ∧ Below w.heap.size w wr) (fun _ i _ => N - (intOf i).toNat)
  case atStart => exact ⟨0, 0, none, [], Nat.zero_le _, rfl, rfl, Rw.nil _ _, hide rfl, hide (Nat.le_refl _), hide (fun h => absurd h (by decide)), Below.refl _ _⟩
  case round =>
    obtain ⟨t, c, A, xs, ht, rfl, rfl, hrw, hxs, hle, hpos, hbel⟩ := hrel
    obtain ⟨wo, rfl⟩ : ∃ wo : World, wo = wr := ⟨_, rfl⟩
    have hsz := hbel.size
    by_cases htN : t < N
    · obtain ⟨b2, o2, z, rfl, hb2, hz, hcz⟩ := (r2.below hbel).at_ htN
      have hzb := hkp z (List.mem_of_getElem? hz.out)
      obtain ⟨p, rfl⟩ := Int.eq_ofNat_of_zero_le hzb.1
      obtain ⟨b1, o1, u, rfl, hb1, hu, hcu⟩ := (r1.below hbel).at_ (show p < n1 by omega)
      have hlu : Hid (lvAt lv kp t = u) := hide (lvAt_of hz.out hu.out)
      have q1 : (t : Int) < (N : Int) := by omega
      have q2 : (0 : Int) ≤ (t : Int) := by omega
      have q3 : (p : Int) < (n1 : Int) := by omega
      have q4 : (0 : Int) ≤ (p : Int) := by omega
      have hrw := hide hrw
      have hbel := hide hbel
      by_cases hnew : t = 0 ∨ lvAt lv kp t ≠ lvAt lv kp (t - 1)
      · have hrt := hide (rowsTo_new hnew hz.out)
        rcases Nat.eq_zero_or_pos t with h0 | h0
        · have t1 : ((t : Int) == 0) = true := by rw [h0]; rfl
          have h0 := hide h0
          go_wp2_with fail
          go_quiet (fail)
          go_wp2_with (at_builtin; refine wpList_appR rfl (.tmp 33) (.tmp 34) rfl rfl rfl (hrw.out.row.alloc _) (heap_at_new _ _ _ (by simp)) (by have := hle.out; omega) (by simp <;> omega) ?_; intro A3 c3 w3 hrow3 hg3; have hr3 := ((hrw.out.drewN _).alloc _).new_ hrow3 hg3; have hb3 := ((below_drewN hbel.out _).alloc hsz _).grown hg3 (by simp; omega) (fun g hg => (hrw.out.row.lt g hg).1); clear hrow3 hg3; obtain ⟨M, hM⟩ : ∃ M, xs.length = M := ⟨_, rfl⟩; have hl3 : (xs ++ [(⟨none, 0, []⟩ : RV)]).length = M + 1 := (by rw [List.length_append, hM]; rfl); have hx3 : (xs ++ [(⟨none, 0, []⟩ : RV)])[M]? = some ⟨none, 0, []⟩ := (by rw [← hM, List.getElem?_append_right (Nat.le_refl _), Nat.sub_self]; rfl); have hr3 := (show Rw w.heap.size w3 (.slice A3 (xs ++ [(⟨none, 0, []⟩ : RV)]).length c3) (xs ++ [(⟨none, 0, []⟩ : RV)]) from (by rw [List.length_append]; exact hr3)); rw [hM]; have hM := hide hM)
          obtain ⟨ob, cap, hv, hBo, hob, hiM, hcM, hfz⟩ := hr3.at_ hx3
          rw [hl3] at hv
          injection hv with e1 _ e3
          subst e1
          subst e3
          have hfz := hfz M
          have hown3 := hide (hr3.own M _ hx3)
          have hr3 := hide hr3
          have hb3 := hide hb3
          have hsz3 := hb3.out.size
          have q5 : (0 : Int) ≤ (M : Int) := by omega
          have q6 : (M : Int) < (M : Int) + 1 := by omega
          have q7 : IntKind.i64.wrap (M : Int) = (M : Int) := by have := hle.out; have := hM.out; exact IntWalk.i64_in _ (by omega)
          have hle5 : Hid (M ≤ t) := hide (by have := hle.out; have := hM.out; omega)
          have hrow5 : Hid (∀ (A : Option Addr) (c : Nat), ((xs ++ [(⟨none, 0, []⟩ : RV)]).set M (⟨A, c, (RV.mk none 0 []).ps ++ [(p : Int)]⟩ : RV)).map RV.ps = rowsTo (lvAt lv kp) kp (t + 1)) := hide (fun A c => (lastApp_rows hl3 hx3).trans (by rw [List.map_append, hxs.out, hrt.out]; exact lastApp_app _ _ _))
          obtain ⟨b2', o2', z', hA2', hb2', hz', hcz'⟩ := (r2.below hb3.out).at_ htN
          injection hA2' with hA2'
          injection hA2' with hA2' hA2''
          subst hA2'
          subst hA2''
          obtain rfl : z' = (p : Int) := by have := hz'.out; rw [hz.out] at this; exact (Option.some.inj this).symm
          clear hz' hcz hcu
          rw [h0.out, Nat.add_zero] at hcz'
          go_wp2_with fail
          go_region_law (refine step_app elt64 rfl (.tmp 45) (.tmp 50) rfl (by simp [Act.eval, RV.sl] <;> rfl) (by simp [Act.eval] <;> rfl) (hown3.out.drew.alloc _) (own_one _ _ _ _ _ _ rfl (Nat.le_refl _)).rd (by simp <;> omega) (by simp <;> omega) ?_; intro A4 c4 w4 hown4 hg4 hat4; have hk4 := ((hr3.out.drew.alloc _).ob_kept hx3 hg4 M); have hcM4 : w4.cell? ⟨ob, M, none⟩ = some ((RV.mk none 0 []).sl) := hk4.1.trans ((World.cell?_alloc_lt _ _ ⟨ob, M, none⟩ hob).trans hcM); have hfz4 : w4.frozen? ⟨ob, M, none⟩ = false := hk4.2.trans ((World.frozen?_alloc_old _ _ ⟨ob, M, none⟩ (Nat.ne_of_lt hob)).trans hfz); have hr4 := hide ((hr3.out.drew.alloc _).more hx3 (ys := [(p : Int)]) rfl hown4 hg4 hat4); have hb4 := hide (((hb3.out.drew.alloc hsz3 _).grown hg4 (by simp; omega) (fun g hg => (hown3.out.lt g hg).1)).setCell (p := ⟨ob, M, none⟩) hBo (.slice A4 ((RV.mk none 0 []).ps.length + 1) c4)); clear hk4 hown4 hg4 hat4)
          all_goals go_wp2_with fail
          all_goals go_roundw
          skip
          all_goals first
            | exact ⟨t + 1, c3, some ⟨ob, 0, none⟩, _, by omega, by rw [h0.out]; rfl, by rw [List.length_set, hl3], hr4.out, hide (hrow5.out _ _), hide (by rw [List.length_set, hl3]; have := hle5.out; omega), hide (fun _ => by rw [List.length_set, hl3]; omega), hb4.out⟩
            | (simp [intOf]; omega)
        · have t1 : ((t : Int) == 0) = false := by simp; omega
          obtain ⟨b2', o2', z', hA2', _, hz', hcz'⟩ := (r2.below hbel.out).at_ (show t - 1 < N by omega)
          injection hA2' with hA2'
          injection hA2' with hA2' hA2''
          subst hA2'
          subst hA2''
          have hzb' := hkp z' (List.mem_of_getElem? hz'.out)
          obtain ⟨p', rfl⟩ := Int.eq_ofNat_of_zero_le hzb'.1
          obtain ⟨b1', o1', u', hA1', _, hu', hcu'⟩ := (r1.below hbel.out).at_ (show p' < n1 by omega)
          injection hA1' with hA1'
          injection hA1' with hA1' hA1''
          subst hA1'
          subst hA1''
          have hlu' : lvAt lv kp (t - 1) = u' := lvAt_of hz'.out hu'.out
          have t2 : (u != u') = true := by
            rw [hlu.out, hlu'] at hnew
            simpa [Nat.pos_iff_ne_zero.1 h0] using hnew
          have w1 : IntKind.i64.wrap ((t : Int) - 1) = (t : Int) - 1 := IntWalk.i64_in _ (by omega)
          have w2 : (0 : Int) ≤ (t : Int) - 1 := by omega
          have w3 : (t : Int) - 1 < (N : Int) := by omega
          have w4 : ((t : Int) - 1).toNat = t - 1 := by omega
          have q7 : (p' : Int) < (n1 : Int) := by omega
          have q8 : (0 : Int) ≤ (p' : Int) := by omega
          have h0 := hide h0
          clear hlu' hzb'
          go_wp2_with fail
          go_quiet (fail)
          clear hcz' hcu' hz' hu' q7 q8 w1 w2 w3 w4
          go_wp2_with (at_builtin; refine wpList_appR rfl (.tmp 33) (.tmp 34) rfl rfl rfl (hrw.out.row.alloc _) (heap_at_new _ _ _ (by simp)) (by have := hle.out; omega) (by simp <;> omega) ?_; intro A3 c3 w3 hrow3 hg3; have hr3 := ((hrw.out.drewN _).alloc _).new_ hrow3 hg3; have hb3 := ((below_drewN hbel.out _).alloc hsz _).grown hg3 (by simp; omega) (fun g hg => (hrw.out.row.lt g hg).1); clear hrow3 hg3; obtain ⟨M, hM⟩ : ∃ M, xs.length = M := ⟨_, rfl⟩; have hl3 : (xs ++ [(⟨none, 0, []⟩ : RV)]).length = M + 1 := (by rw [List.length_append, hM]; rfl); have hx3 : (xs ++ [(⟨none, 0, []⟩ : RV)])[M]? = some ⟨none, 0, []⟩ := (by rw [← hM, List.getElem?_append_right (Nat.le_refl _), Nat.sub_self]; rfl); have hr3 := (show Rw w.heap.size w3 (.slice A3 (xs ++ [(⟨none, 0, []⟩ : RV)]).length c3) (xs ++ [(⟨none, 0, []⟩ : RV)]) from (by rw [List.length_append]; exact hr3)); rw [hM]; have hM := hide hM)
          obtain ⟨ob, cap, hv, hBo, hob, hiM, hcM, hfz⟩ := hr3.at_ hx3
          rw [hl3] at hv
          injection hv with e1 _ e3
          subst e1
          subst e3
          have hfz := hfz M
          have hown3 := hide (hr3.own M _ hx3)
          have hr3 := hide hr3
          have hb3 := hide hb3
          have hsz3 := hb3.out.size
          have q5 : (0 : Int) ≤ (M : Int) := by omega
          have q6 : (M : Int) < (M : Int) + 1 := by omega
          have q7 : IntKind.i64.wrap (M : Int) = (M : Int) := by have := hle.out; have := hM.out; exact IntWalk.i64_in _ (by omega)
          have hle5 : Hid (M ≤ t) := hide (by have := hle.out; have := hM.out; omega)
          have hrow5 : Hid (∀ (A : Option Addr) (c : Nat), ((xs ++ [(⟨none, 0, []⟩ : RV)]).set M (⟨A, c, (RV.mk none 0 []).ps ++ [(p : Int)]⟩ : RV)).map RV.ps = rowsTo (lvAt lv kp) kp (t + 1)) := hide (fun A c => (lastApp_rows hl3 hx3).trans (by rw [List.map_append, hxs.out, hrt.out]; exact lastApp_app _ _ _))
          obtain ⟨b2', o2', z', hA2', hb2', hz', hcz'⟩ := (r2.below hb3.out).at_ htN
          injection hA2' with hA2'
          injection hA2' with hA2' hA2''
          subst hA2'
          subst hA2''
          obtain rfl : z' = (p : Int) := by have := hz'.out; rw [hz.out] at this; exact (Option.some.inj this).symm
          clear hz' hcz hcu
          go_wp2_with fail
          go_region_law (refine step_app elt64 rfl (.tmp 45) (.tmp 50) rfl (by simp [Act.eval, RV.sl] <;> rfl) (by simp [Act.eval] <;> rfl) (hown3.out.drew.alloc _) (own_one _ _ _ _ _ _ rfl (Nat.le_refl _)).rd (by simp <;> omega) (by simp <;> omega) ?_; intro A4 c4 w4 hown4 hg4 hat4; have hk4 := ((hr3.out.drew.alloc _).ob_kept hx3 hg4 M); have hcM4 : w4.cell? ⟨ob, M, none⟩ = some ((RV.mk none 0 []).sl) := hk4.1.trans ((World.cell?_alloc_lt _ _ ⟨ob, M, none⟩ hob).trans hcM); have hfz4 : w4.frozen? ⟨ob, M, none⟩ = false := hk4.2.trans ((World.frozen?_alloc_old _ _ ⟨ob, M, none⟩ (Nat.ne_of_lt hob)).trans hfz); have hr4 := hide ((hr3.out.drew.alloc _).more hx3 (ys := [(p : Int)]) rfl hown4 hg4 hat4); have hb4 := hide (((hb3.out.drew.alloc hsz3 _).grown hg4 (by simp; omega) (fun g hg => (hown3.out.lt g hg).1)).setCell (p := ⟨ob, M, none⟩) hBo (.slice A4 ((RV.mk none 0 []).ps.length + 1) c4)); clear hk4 hown4 hg4 hat4)
          all_goals go_wp2_with fail
          all_goals go_roundw
          skip
          all_goals first
            | exact ⟨t + 1, c3, some ⟨ob, 0, none⟩, _, by omega, by go_num, by rw [List.length_set, hl3], hr4.out, hide (hrow5.out _ _), hide (by rw [List.length_set, hl3]; have := hle5.out; omega), hide (fun _ => by rw [List.length_set, hl3]; omega), hb4.out⟩
            | (simp [intOf]; omega)
      · have hrt := hide (rowsTo_more hnew hz.out)
        have h0 : 0 < t := by omega
        have t1 : ((t : Int) == 0) = false := by simp; omega
        obtain ⟨b2', o2', z', hA2', _, hz', hcz'⟩ := (r2.below hbel.out).at_ (show t - 1 < N by omega)
        injection hA2' with hA2'
        injection hA2' with hA2' hA2''
        subst hA2'
        subst hA2''
        have hzb' := hkp z' (List.mem_of_getElem? hz'.out)
        obtain ⟨p', rfl⟩ := Int.eq_ofNat_of_zero_le hzb'.1
        obtain ⟨b1', o1', u', hA1', _, hu', hcu'⟩ := (r1.below hbel.out).at_ (show p' < n1 by omega)
        injection hA1' with hA1'
        injection hA1' with hA1' hA1''
        subst hA1'
        subst hA1''
        have hlu' : lvAt lv kp (t - 1) = u' := lvAt_of hz'.out hu'.out
        have t2 : (u != u') = false := by
          rw [hlu.out, hlu'] at hnew
          simpa [Nat.pos_iff_ne_zero.1 h0] using hnew
        have w1 : IntKind.i64.wrap ((t : Int) - 1) = (t : Int) - 1 := IntWalk.i64_in _ (by omega)
        have w2 : (0 : Int) ≤ (t : Int) - 1 := by omega
        have w3 : (t : Int) - 1 < (N : Int) := by omega
        have w4 : ((t : Int) - 1).toNat = t - 1 := by omega
        have q7 : (p' : Int) < (n1 : Int) := by omega
        have q8 : (0 : Int) ≤ (p' : Int) := by omega
        have h0 := hide h0
        clear hlu' hzb'
        go_wp2_with fail
        go_quiet (fail)
        clear hcz' hcu' hz' hu' q7 q8 w1 w2 w3 w4
        have hr3 := hrw.out.drewN nq
        have hb3 := below_drewN hbel.out nq
        obtain ⟨M, hl3⟩ : ∃ M, xs.length = M + 1 := ⟨xs.length - 1, by have := hpos.out h0.out; omega⟩
        obtain ⟨x, hx3⟩ : ∃ x, xs[M]? = some x := ⟨_, List.getElem?_eq_getElem (by omega)⟩
        have hxl : x.ps.length ≤ t := (rowsTo_len (lvAt lv kp) kp t).1 _ (by rw [← hxs.out]; exact List.mem_map.2 ⟨x, List.mem_of_getElem? hx3, rfl⟩)
        have hM := hide hl3
        rw [hl3]
        generalize wo.drewN nq = w3 at *
        obtain ⟨ob, cap, hv, hBo, hob, hiM, hcM, hfz⟩ := hr3.at_ hx3
        rw [hl3] at hv
        injection hv with e1 _ e3
        subst e1
        subst e3
        have hfz := hfz M
        have hown3 := hide (hr3.own M _ hx3)
        have hr3 := hide hr3
        have hb3 := hide hb3
        have hsz3 := hb3.out.size
        have q5 : (0 : Int) ≤ (M : Int) := by omega
        have q6 : (M : Int) < (M : Int) + 1 := by omega
        have q7 : IntKind.i64.wrap (M : Int) = (M : Int) := by have := hle.out; have := hM.out; exact IntWalk.i64_in _ (by omega)
        have hle5 : Hid (M ≤ t) := hide (by have := hle.out; have := hM.out; omega)
        have hrow5 : Hid (∀ (A : Option Addr) (c : Nat), (xs.set M (⟨A, c, x.ps ++ [(p : Int)]⟩ : RV)).map RV.ps = rowsTo (lvAt lv kp) kp (t + 1)) := hide (fun A c => (lastApp_rows hl3 hx3).trans (by rw [hxs.out, hrt.out]))
        obtain ⟨b2', o2', z', hA2', hb2', hz', hcz'⟩ := (r2.below hb3.out).at_ htN
        injection hA2' with hA2'
        injection hA2' with hA2' hA2''
        subst hA2'
        subst hA2''
        obtain rfl : z' = (p : Int) := by have := hz'.out; rw [hz.out] at this; exact (Option.some.inj this).symm
        clear hz' hcz hcu
        go_wp2_with fail
        go_region_law (refine step_app elt64 rfl (.tmp 45) (.tmp 50) rfl (by simp [Act.eval, RV.sl] <;> rfl) (by simp [Act.eval] <;> rfl) (hown3.out.drew.alloc _) (own_one _ _ _ _ _ _ rfl (Nat.le_refl _)).rd (by simp <;> omega) (by simp <;> omega) ?_; intro A4 c4 w4 hown4 hg4 hat4; have hk4 := ((hr3.out.drew.alloc _).ob_kept hx3 hg4 M); have hcM4 : w4.cell? ⟨ob, M, none⟩ = some (x.sl) := hk4.1.trans ((World.cell?_alloc_lt _ _ ⟨ob, M, none⟩ hob).trans hcM); have hfz4 : w4.frozen? ⟨ob, M, none⟩ = false := hk4.2.trans ((World.frozen?_alloc_old _ _ ⟨ob, M, none⟩ (Nat.ne_of_lt hob)).trans hfz); have hr4 := hide ((hr3.out.drew.alloc _).more hx3 (ys := [(p : Int)]) rfl hown4 hg4 hat4); have hb4 := hide (((hb3.out.drew.alloc hsz3 _).grown hg4 (by simp; omega) (fun g hg => (hown3.out.lt g hg).1)).setCell (p := ⟨ob, M, none⟩) hBo (.slice A4 (x.ps.length + 1) c4)); clear hk4 hown4 hg4 hat4)
        all_goals go_wp2_with fail
        all_goals go_roundw
        skip
        all_goals first
          | exact ⟨t + 1, c, some ⟨ob, 0, none⟩, _, by omega, by go_num, by rw [List.length_set, hl3], hr4.out, hide (hrow5.out _ _), hide (by rw [List.length_set, hl3]; have := hle5.out; omega), hide (fun _ => by rw [List.length_set, hl3]; omega), hb4.out⟩
          | (simp [intOf]; omega)
    · obtain rfl : t = N := by omega
      have hrw := hide hrw
      have hbel := hide hbel
      clear htN
      go_wp2_with fail
      go_ret
      exact ⟨A, c, xs, rfl, hrw.out, hxs.out, hbel.out⟩
end Go.Proofs.Ytaojjneajiobnaa
/-! Which chain is which sequence: plain law -/
namespace Go.Proofs.Ytaojjneajiobnaa
open Go.RowKit

/-- how many sequences begin ahead of run k -/
def cntS (cl : List Int) (base : Int) (kp : List Int) (k : Nat) : Nat := ((List.range k).filter (rS cl base kp)).length
section
variable {cl : List Int} {base : Int} {kp : List Int} {N : Nat}
theorem cntS_on {k : Nat} (h : rS cl base kp k = true) : cntS cl base kp (k + 1) = cntS cl base kp k + 1 := by
  unfold cntS
  rw [List.range_succ, List.filter_append, List.length_append]
  simp [h]
theorem cntS_off {k : Nat} (h : rS cl base kp k = false) : cntS cl base kp (k + 1) = cntS cl base kp k := by
  unfold cntS
  rw [List.range_succ, List.filter_append, List.length_append]
  simp [h]
theorem filter_at (f : Nat → Bool) {k N : Nat} (hk : k < N) (h : f k = true) : ((List.range N).filter f)[((List.range k).filter f).length]? = some k := by
  have : List.range N = List.range k ++ (k :: (List.range (N - k - 1)).map (fun i => k + 1 + i)) := by
    have h1 : N = k + (1 + (N - k - 1)) := by omega
    conv => lhs; rw [h1, List.range_add, List.range_add, List.map_append]
    simp
    intro a _
    omega
  rw [this, List.filter_append, List.getElem?_append_right (Nat.le_refl _), Nat.sub_self, List.filter_cons_of_pos h]
  rfl
/-- a chain of runs from run k on, as far as it goes -/
structure Chain (lv kp own m : List Int) (N k : Nat) (rs : List Nat) : Prop where
  ne : rs ≠ []
  head : rs.headD 0 = k
  lt : ∀ j ∈ rs, j < N
  link : Linked lv kp own m rs
theorem Chain.one {lv kp own m : List Int} {N k : Nat} (hk : k < N) : Chain lv kp own m N k [k] :=
  ⟨by simp, rfl, fun j hj => by rw [List.mem_singleton.1 hj]; exact hk, linked_one k⟩
theorem Chain.app {lv kp own m : List Int} {N k k' : Nat} {rs : List Nat} (h : Chain lv kp own m N k rs) (hk : k' < N) (hn : Nx lv kp own m (rs.getLastD 0) k') : Chain lv kp own m N k (rs ++ [k']) := by
  refine ⟨by simp, ?_, fun j hj => ?_, linked_app h.link hn⟩
  · rw [← h.head]
    cases rs with
    | nil => exact absurd rfl h.ne
    | cons a t => rfl
  · rcases List.mem_append.1 hj with h1 | h1
    · exact h.lt j h1
    · rw [List.mem_singleton.1 h1]; exact hk
theorem Chain.last_mem {lv kp own m : List Int} {N k : Nat} {rs : List Nat} (h : Chain lv kp own m N k rs) : rs.getLastD 0 ∈ rs := by
  rw [List.getLastD_eq_getLast?, List.getLast?_eq_some_getLast h.ne]
  exact List.getLast_mem h.ne
theorem last_of {rs : List Nat} {i j : Nat} (h1 : rs[i]? = some j) (h2 : rs[i + 1]? = none) : rs.getLastD 0 = j := by
  have hi := (List.getElem?_eq_some_iff.1 h1).1
  rw [List.getElem?_eq_none_iff] at h2
  rw [List.getLastD_eq_getLast?, List.getLast?_eq_getElem?, show rs.length - 1 = i by omega, h1]
  rfl
theorem chain_at {lv kp own m : List Int} {N k : Nat} (hF : ∀ i j, i < N → j < N → rF lv kp i = rF lv kp j → i = j) {rs rs' : List Nat} (h : Chain lv kp own m N k rs) (h' : Chain lv kp own m N k rs')
    (hm : ∀ k' < N, ¬ Nx lv kp own m (rs.getLastD 0) k') (hm' : ∀ k' < N, ¬ Nx lv kp own m (rs'.getLastD 0) k') : ∀ i : Nat, rs[i]? = rs'[i]? := by
  intro i
  induction i with
  | zero =>
    have h1 := h.head
    have h2 := h'.head
    cases rs with
    | nil => exact absurd rfl h.ne
    | cons a t => cases rs' with
      | nil => exact absurd rfl h'.ne
      | cons b t' =>
        simp only [List.headD_cons] at h1 h2
        simp [h1, h2]
  | succ i ih =>
    cases e1 : rs[i + 1]? with
    | none => cases e2 : rs'[i + 1]? with
      | none => rfl
      | some j' =>
        have hi : i + 1 < rs'.length := (List.getElem?_eq_some_iff.1 e2).1
        have h0 : rs'[i]? = some rs'[i] := List.getElem?_eq_getElem (by omega)
        have hl := last_of (ih.trans h0) e1
        exact absurd (h'.link i _ j' h0 e2) (by rw [← hl]; exact hm j' (h'.lt j' (List.mem_of_getElem? e2)))
    | some j =>
      have hi : i + 1 < rs.length := (List.getElem?_eq_some_iff.1 e1).1
      have h0 : rs[i]? = some rs[i] := List.getElem?_eq_getElem (by omega)
      have hn := h.link i _ j h0 e1
      cases e2 : rs'[i + 1]? with
      | none =>
        have hl := last_of (ih.symm.trans h0) e2
        exact absurd hn (by rw [← hl]; exact hm' j (h.lt j (List.mem_of_getElem? e1)))
      | some j' =>
        have hn' := h'.link i _ j' (ih.symm.trans h0) e2
        rw [hF j j' (h.lt j (List.mem_of_getElem? e1)) (h'.lt j' (List.mem_of_getElem? e2)) (hn.2.symm.trans hn'.2)]
/-- the sequence of run k -/
theorem seq_of_chain (hb : 0 ≤ base ∧ base ≤ 1) (hkp : kp = keptTo (classesS cl base) cl.length) (hN : N = rN cl base) {k : Nat} (hk : k < N) (hs : rS cl base kp k = true) {rs : List Nat} (h : Chain (levelsS cl base) kp cl (matchS cl) N k rs)
    (hm : ∀ k' < N, ¬ Nx (levelsS cl base) kp cl (matchS cl) (rs.getLastD 0) k') : (seqsS cl base)[cntS cl base kp k]? = some (rQ (levelsS cl base) kp cl base rs) := by
  have hKP : KP cl base kp N := by subst hkp; subst hN; exact kp_all cl base
  obtain ⟨s, L, h1, h2⟩ := seqs_chain (cl := cl) hb kp hkp N hN
  have h3 : (L.map (fun rs => rs.headD 0))[cntS cl base kp k]? = some k := by rw [h2.heads]; exact filter_at _ hk hs
  rw [List.getElem?_map] at h3
  cases hL : L[cntS cl base kp k]? with
  | none => rw [hL] at h3; cases h3
  | some rs' =>
    rw [hL] at h3
    have h3 : rs'.headD 0 = k := Option.some.inj h3
    have hmem := List.mem_of_getElem? hL
    have hC : Chain (levelsS cl base) kp cl (matchS cl) N k rs' := ⟨h2.ne _ hmem, h3, h2.lt _ hmem, h2.link _ hmem⟩
    have : rs = rs' := List.ext_getElem? (chain_at (fun i j hi hj e => hKP.F_inj hi hj e) h hC hm (h2.max _ hmem))
    rw [← h1, h2.out, List.getElem?_map, hL, this]
    rfl
theorem seqs_cnt (hb : 0 ≤ base ∧ base ≤ 1) (hkp : kp = keptTo (classesS cl base) cl.length) (hN : N = rN cl base) : (seqsS cl base).length = cntS cl base kp N := by
  obtain ⟨s, L, h1, h2⟩ := seqs_chain (cl := cl) hb kp hkp N hN
  rw [← h1, h2.out, List.length_map]
  have := congrArg List.length h2.heads
  rw [List.length_map] at this
  exact this
theorem take_next {α : Type} {l : List α} {i : Nat} {x : α} (h : l[i]? = some x) : l.take (i + 1) = l.take i ++ [x] := by
  rw [List.take_add_one, h]; rfl
/-- a chain rises -/
theorem chain_len (hKP : KP cl base kp N) {k : Nat} {rs : List Nat} (h : Chain (levelsS cl base) kp cl (matchS cl) N k rs) : rs.length ≤ N := by
  have key : ∀ i j : Nat, rs[i]? = some j → i ≤ j := by
    intro i
    induction i with
    | zero => intro j _; exact Nat.zero_le _
    | succ i ih =>
      intro j hj
      have hi : i + 1 < rs.length := (List.getElem?_eq_some_iff.1 hj).1
      have h0 : rs[i]? = some rs[i] := List.getElem?_eq_getElem (by omega)
      have h1 := ih _ h0
      have h2 := hKP.nx_lt (h.lt _ (List.getElem_mem (by omega))) (h.lt j (List.mem_of_getElem? hj)) (h.link i _ j h0 hj)
      omega
  have hp : 0 < rs.length := List.length_pos_iff.2 h.ne
  have h0 : rs[rs.length - 1]? = some rs[rs.length - 1] := List.getElem?_eq_getElem (by omega)
  have h1 := key _ _ h0
  have h2 := h.lt _ (List.getElem_mem (show rs.length - 1 < rs.length by omega))
  omega
theorem flat_len (lv kp : List Int) : ∀ rs : List Nat, (rs.flatMap (rR lv kp)).length ≤ rs.length * kp.length
  | [] => Nat.zero_le _
  | k :: rs => by
    have h1 := flat_len lv kp rs
    rw [List.flatMap_cons, List.length_append, List.length_cons, Nat.succ_mul]
    have h2 : (rR lv kp k).length ≤ kp.length := by unfold rR; rw [List.length_drop, List.length_take]; omega
    omega
theorem KP.rR_len (h : KP cl base kp N) {k : Nat} (hk : k < N) : (rR (levelsS cl base) kp k).length = rC (levelsS cl base) kp (k + 1) - rC (levelsS cl base) kp k ∧ 0 < (rR (levelsS cl base) kp k).length ∧ (rR (levelsS cl base) kp k).length ≤ kp.length := by
  have h1 := h.step k
  have h2 := h.le (k := k + 1) hk
  have h3 : (rR (levelsS cl base) kp k).length = rC (levelsS cl base) kp (k + 1) - rC (levelsS cl base) kp k := by unfold rR; rw [List.length_drop, List.length_take]; omega
  exact ⟨h3, by omega, by omega⟩
theorem KP.rR_first (h : KP cl base kp N) {k : Nat} (hk : k < N) : (rR (levelsS cl base) kp k)[0]? = some (rF (levelsS cl base) kp k : Int) := by
  unfold rR
  rw [List.getElem?_drop]
  simp only [Nat.add_zero]
  rw [List.getElem?_take_of_lt (h.step k)]
  exact h.first hk
theorem KP.rR_last (h : KP cl base kp N) {k : Nat} (hk : k < N) (ys : List Int) : (ys ++ rR (levelsS cl base) kp k)[(ys ++ rR (levelsS cl base) kp k).length - 1]? = some (rZ (levelsS cl base) kp k : Int) := by
  obtain ⟨h1, h2, h3⟩ := h.rR_len hk
  have h4 := h.step k
  rw [List.length_append, List.getElem?_append_right (by omega), show ys.length + (rR (levelsS cl base) kp k).length - 1 - ys.length = (rR (levelsS cl base) kp k).length - 1 by omega, h1]
  unfold rR
  rw [List.getElem?_drop, List.getElem?_take_of_lt (by omega), show rC (levelsS cl base) kp k + (rC (levelsS cl base) kp (k + 1) - rC (levelsS cl base) kp k - 1) = rC (levelsS cl base) kp (k + 1) - 1 by omega]
  exact h.last hk
end
end Go.Proofs.Ytaojjneajiobnaa
/-! The reference's sequence as it is made: a struct in a block of its own; the append of it -/
namespace Go.Proofs.Ytaojjneajiobnaa
open Go.RowKit Go.Maps

/-- the sequence in the making -/
def XB (w : World) (D : Nat) (sl : Value) (lv st en : Int) : Prop := w.heap[D]? = some (.cells #[sl, .int .u8 lv, .int .u8 st, .int .u8 en] 49 (0, 0))
section
variable {w w' : World} {D : Nat} {sl u : Value} {lv st en z : Int}
theorem XB.c0 (h : XB w D sl lv st en) : w.cell? ⟨D, 0, none⟩ = some sl := cell_of_row _ _ _ _ _ _ h
theorem XB.c1 (h : XB w D sl lv st en) : w.cell? ⟨D, 1, none⟩ = some (.int .u8 lv) := cell_of_row _ _ _ _ _ _ h
theorem XB.c2 (h : XB w D sl lv st en) : w.cell? ⟨D, 2, none⟩ = some (.int .u8 st) := cell_of_row _ _ _ _ _ _ h
theorem XB.c3 (h : XB w D sl lv st en) : w.cell? ⟨D, 3, none⟩ = some (.int .u8 en) := cell_of_row _ _ _ _ _ _ h
theorem XB.free (h : XB w D sl lv st en) (j : Nat) : w.frozen? ⟨D, j, none⟩ = false := by simp [World.frozen?, show w.heap[D]? = _ from h]
theorem XB.lt (h : XB w D sl lv st en) : D < w.heap.size := lt_of_block h
theorem XB.alloc (h : XB w D sl lv st en) (o : Obj) : XB (w.alloc o) D sl lv st en := (Below.heap_alloc w o D h.lt).trans h
theorem XB.grown (h : XB w D sl lv st en) {row : Option Nat} (hg : w.grownBy w' row) (hn : some D ≠ row) : XB w' D sl lv st en := (hg.block D h.lt hn).trans h
theorem XB.below (h : XB w D sl lv st en) {B : Nat} (hb : Below B w w') (hD : D < B) : XB w' D sl lv st en := (hb.block D hD).trans h
theorem XB.set_ (h : XB w D sl lv st en) (j : Nat) (u : Value) : (w.setCell ⟨D, j, none⟩ u).heap[D]? = some (.cells (#[sl, .int .u8 lv, .int .u8 st, .int .u8 en].setIfInBounds j u) 49 (0, 0)) := by
  simp [World.setCell, Array.getElem?_modify, show w.heap[D]? = _ from h]
theorem XB.set0 (h : XB w D sl lv st en) (u : Value) : XB (w.setCell ⟨D, 0, none⟩ u) D u lv st en := h.set_ 0 u
theorem XB.set2 (h : XB w D sl lv st en) (z : Int) : XB (w.setCell ⟨D, 2, none⟩ (.int .u8 z)) D sl lv z en := h.set_ 2 _
theorem XB.set3 (h : XB w D sl lv st en) (z : Int) : XB (w.setCell ⟨D, 3, none⟩ (.int .u8 z)) D sl lv st z := h.set_ 3 _
/-- it is no row of places -/
theorem XB.ne (h : XB w D sl lv st en) {B : Nat} {A : Option Addr} {n c : Nat} {zs : List Int} (ho : Own B 3 .i64 w A n c zs) : (Value.slice A n c).ownBlock ≠ some D := row_ne ho.1 h (by decide)
end
theorem run_appX {w : World} {B : Nat} {v : Value} {n g c' : Nat} {ys : List Value} {Ax : Option Addr} {nx cx : Nat} {lv st en : Int} (ty : TypeId) (hown : w.ownsRow B 49 4 v n ys) (hg : w.heap[g]? = some (.cells #[.slice Ax nx cx, .int .u8 lv, .int .u8 st, .int .u8 en] 49 (0, 0))) (hn : n ≤ 1000000) (hB : B ≤ w.heap.size) :
    ∃ A2 c2 w', (Builtin.append_ #[43, 43] ty #[v, .slice (some ⟨g, 0, none⟩) 1 c']).run Try.prog w = .ok (.slice A2 (n + 1) c2) w' ∧ w'.ownsRow B 49 4 (.slice A2 (n + 1) c2) (n + 1) (ys ++ [.slice Ax nx cx, .int .u8 lv, .int .u8 st, .int .u8 en]) ∧ w.grownBy w' v.ownBlock := by
  obtain ⟨i, hi, hz, hs, hby⟩ := info_parts info49
  obtain ⟨v', w', hrun, h2, h3, _, h5⟩ := run_append_own_at (P := Try.prog) w B 43 ty 49 i _ 4 32 Try.underlying43 hi hz hs hby rfl (by omega) v n ys hown ⟨g, 0, none⟩ 1 c' [.slice Ax nx cx, .int .u8 lv, .int .u8 st, .int .u8 en]
    rfl (fun j u hu => by rw [addr_add, Nat.zero_add, cell_of_row _ _ _ _ _ _ hg]; simpa using hu) (by intro u hu; simp at hu; rcases hu with rfl | rfl | rfl | rfl <;> rfl) (by simp only [maxLen]; omega) (by omega) hB
  obtain ⟨A2, c2, rfl⟩ := own_form h2 (by omega)
  exact ⟨_, c2, w', hrun, h2, h3⟩
theorem wpList_appX {w : World} {ops : Array Oper} {rest : List Oper} {o : Oper} {a : Act} {Q : Exit → Act → World → Prop} (hgd : o.guard = none) (s x : Operand)
    (ho : o.op = .call { callee := .builtin .append, args := #[s, x], argTypes := #[43, 43] }) {B : Nat} {v : Value} {n g c' : Nat} {ys : List Value} {Ax : Option Addr} {nx cx : Nat} {lv st en : Int} (hs : a.eval s = v) (hx : a.eval x = .slice (some ⟨g, 0, none⟩) 1 c')
    (hown : w.ownsRow B 49 4 v n ys) (hg : w.heap[g]? = some (.cells #[.slice Ax nx cx, .int .u8 lv, .int .u8 st, .int .u8 en] 49 (0, 0))) (hn : n ≤ 1000000) (hB : B ≤ w.heap.size)
    (h : ∀ A2 c2 w', w'.ownsRow B 49 4 (.slice A2 (n + 1) c2) (n + 1) (ys ++ [.slice Ax nx cx, .int .u8 lv, .int .u8 st, .int .u8 en]) → w.grownBy w' v.ownBlock → wpList Try.prog ops Q rest (a.put o.dst (.slice A2 (n + 1) c2)) w') :
    wpList Try.prog ops Q (o :: rest) a w := by
  obtain ⟨A2, c2, w', hrun, h2, h3⟩ := run_appX o.type (c' := c') hown hg hn hB
  refine wpList_plain hgd fun K hK => wp_val (v := .slice A2 (n + 1) c2) ?_ (hK _ _ (h A2 c2 w' h2 h3))
  unfold execOp
  simp only [ho, resolve, invoke, builtin, Sem.run_bind, Sem.run_pure, Result.andThen_ok, List.map_toArray, List.map_cons, List.map_nil, hs, hx, hrun]
section
variable {B : Nat} {w w' : World} {v : Value} {xs : List QV}
/-- a new one, with its places -/
theorem Sq.new1 (h : Sq B w v xs) {v' : Value} {x : QV} (hx : Own B 3 .i64 w x.A x.q.ps.length x.c x.q.ps) (hd : ∀ (k : Nat) (y : QV), xs[k]? = some y → Dist x.sl.ownBlock y.sl.ownBlock)
    (hrow : w'.ownsRow B 49 4 v' (xs.length + 1) (cellsOf xs ++ x.cells)) (hg : w.grownBy w' v.ownBlock) : Sq B w' v' (xs ++ [x]) := by
  have hget : ∀ (k : Nat) (y : QV), (xs ++ [x])[k]? = some y → (k < xs.length ∧ xs[k]? = some y) ∨ (k = xs.length ∧ y = x) := fun k y hy => by
    rcases Nat.lt_or_ge k xs.length with h1 | h1
    · rw [List.getElem?_append_left h1] at hy; exact .inl ⟨h1, hy⟩
    · rw [List.getElem?_append_right h1] at hy
      rcases Nat.eq_zero_or_pos (k - xs.length) with h2 | h2
      · rw [h2] at hy; exact .inr ⟨by omega, (Option.some.inj hy).symm⟩
      · rw [List.getElem?_eq_none (by simp; omega)] at hy; cases hy
  refine ⟨?_, fun k y hy => ?_, fun a b y z hab hy hz => ?_⟩
  · rw [List.length_append]
    have : cellsOf (xs ++ [x]) = cellsOf xs ++ x.cells := by unfold cellsOf; rw [List.flatMap_append]; simp
    rw [this]; exact hrow
  · rcases hget k y hy with ⟨_, h1⟩ | ⟨_, rfl⟩
    · exact (h.own k y h1).kept hg (row_apart (h.own k y h1).1 h.row (by decide))
    · exact hx.kept hg (row_apart hx.1 h.row (by decide))
  · rcases hget a y hy with ⟨_, h1⟩ | ⟨ha, rfl⟩
    · rcases hget b z hz with ⟨_, h2⟩ | ⟨_, rfl⟩
      · exact h.dist a b y z hab h1 h2
      · exact (hd a y h1).sym
    · rcases hget b z hz with ⟨_, h2⟩ | ⟨hb, _⟩
      · exact hd b z h2
      · exact absurd (ha.trans hb.symm) hab
/-- what is made later lies elsewhere -/
theorem dist_new {H : Nat} {o1 o2 : Option Nat} (h1 : ∀ g, o1 = some g → H ≤ g) (h2 : ∀ g, o2 = some g → g < H) : Dist o1 o2 := by
  cases o1 with
  | none => exact .inl rfl
  | some g =>
    refine .inr fun e => ?_
    have h3 := h1 g rfl
    have h4 := h2 g e.symm
    omega
end
theorem Sq.new2 {B D : Nat} {w0 w w' : World} {v v' : Value} {xs : List QV} {A : Option Addr} {n c : Nat} {ps : List Int} {lv st en : Int} (h0 : Sq B w0 v xs) (h : Sq B w v xs) (hD : w0.heap.size = D) (hB : B ≤ D) (ho : Own D 3 .i64 w A n c ps)
    (hrow : w'.ownsRow B 49 4 v' (xs.length + 1) (cellsOf xs ++ [.slice A n c, .int .u8 lv, .int .u8 st, .int .u8 en])) (hg : w.grownBy w' v.ownBlock) : Sq B w' v' (xs ++ [⟨A, c, ⟨ps, lv, st, en⟩⟩]) := by
  have hn := ho.len
  subst hn
  subst hD
  exact h.new1 (x := ⟨A, c, ⟨ps, lv, st, en⟩⟩) (ho.more hB) (fun k y hy => dist_new (H := w0.heap.size) (fun g hg => (ho.lt g hg).1) (fun g hg => ((h0.own k y hy).lt g hg).2)) hrow hg
theorem Sq.alloc {B : Nat} {w : World} {v : Value} {xs : List QV} (h : Sq B w v xs) (o : Obj) : Sq B (w.alloc o) v xs := h.below ((Below.refl _ w).alloc (Nat.le_refl _) o)
/-- the sequence in the making, and its places -/
def XI (D : Nat) (w0 : World) (lv : Int) (ps : List Int) (w : World) : Prop := Below D w0 w ∧ ∃ A n c, XB w D (.slice A n c) lv 0 0 ∧ Own D 3 .i64 w A n c ps
theorem XI.app {D : Nat} {w0 w w4 : World} {lv : Int} {ps zs : List Int} {A A4 : Option Addr} {n c m c4 : Nat} (hb : Below D w0 w) (hX : XB w D (.slice A n c) lv 0 0) (hO : Own D 3 .i64 w A n c ps)
    (h4 : Own D 3 .i64 w4 A4 (n + m) c4 (ps ++ zs)) (hg : w.grownBy w4 (Value.slice A n c).ownBlock) : XB w4 D (.slice A n c) lv 0 0 ∧ XI D w0 lv (ps ++ zs) (w4.setCell ⟨D, 0, none⟩ (.slice A4 (n + m) c4)) := by
  have h1 : XB w4 D (.slice A n c) lv 0 0 := hX.grown hg (fun e => hX.ne hO e.symm)
  exact ⟨h1, (hb.grown hg (Nat.le_of_lt hX.lt) (fun g hg => (hO.lt g hg).1)).setCell (p := ⟨D, 0, none⟩) (Nat.le_refl D) _, A4, n + m, c4, h1.set0 _, h4.other (p := ⟨D, 0, none⟩) (h1.ne h4) _⟩
theorem XI.drew {D : Nat} {w0 w : World} {lv : Int} {ps : List Int} (h : XI D w0 lv ps w) : XI D w0 lv ps w.drew := by
  obtain ⟨h1, A, n, c, h2, h3⟩ := h
  exact ⟨h1.drew, A, n, c, h2, h3.drew⟩
theorem XI.drewN {D : Nat} {w0 w : World} {lv : Int} {ps : List Int} (h : XI D w0 lv ps w) (m : Nat) : XI D w0 lv ps (w.drewN m) := by
  obtain ⟨h1, A, n, c, h2, h3⟩ := h
  exact ⟨below_drewN h1 m, A, n, c, h2, h3⟩
theorem XI.last {D : Nat} {w0 w : World} {lv : Int} {ps : List Int} {z : Int} (h : XI D w0 lv ps w) (hz : ps[ps.length - 1]? = some z) :
    ∃ g n c, n = ps.length ∧ 0 < n ∧ XB w D (.slice (some ⟨g, 0, none⟩) n c) lv 0 0 ∧ w.cell? ⟨g, n - 1, none⟩ = some (.int .i64 z) ∧ g < w.heap.size := by
  obtain ⟨h1, A, n, c, h2, h3⟩ := h
  have hn := h3.len
  subst hn
  have h0 : ps.length - 1 < ps.length := (List.getElem?_eq_some_iff.1 hz).1
  obtain ⟨g, z', rfl, _, hg, hz', hc, _⟩ := h3.at_ h0
  obtain rfl : z' = z := by
    have := hz'.out
    rw [hz] at this
    exact (Option.some.inj this).symm
  exact ⟨g, _, c, rfl, by omega, h2, hc, hg⟩
/-- the same, its start and end told -/
def XJ (D : Nat) (w0 : World) (lv st en : Int) (ps : List Int) (w : World) : Prop := Below D w0 w ∧ ∃ A n c, XB w D (.slice A n c) lv st en ∧ Own D 3 .i64 w A n c ps
theorem XI.to {D : Nat} {w0 w : World} {lv : Int} {ps : List Int} (h : XI D w0 lv ps w) : XJ D w0 lv 0 0 ps w := h
section
variable {D : Nat} {w0 w w' : World} {lv st en : Int} {ps : List Int}
theorem XJ.lt (h : XJ D w0 lv st en ps w) : D < w.heap.size := by
  obtain ⟨h1, A, n, c, h2, h3⟩ := h
  exact h2.lt
theorem XJ.below (h : XJ D w0 lv st en ps w) (hb : Below w.heap.size w w') : XJ D w0 lv st en ps w' := by
  obtain ⟨h1, A, n, c, h2, h3⟩ := h
  exact ⟨h1.trans (hb.mono (Nat.le_of_lt h2.lt)), A, n, c, h2.below hb h2.lt, h3.below hb⟩
theorem XJ.cells (h : XJ D w0 lv st en ps w) : w.cell? ⟨D, 1, none⟩ = some (.int .u8 lv) ∧ w.cell? ⟨D, 2, none⟩ = some (.int .u8 st) ∧ w.cell? ⟨D, 3, none⟩ = some (.int .u8 en) ∧ ∀ j, w.frozen? ⟨D, j, none⟩ = false := by
  obtain ⟨h1, A, n, c, h2, h3⟩ := h
  exact ⟨h2.c1, h2.c2, h2.c3, h2.free⟩
theorem XJ.set2 (h : XJ D w0 lv st en ps w) (z : Int) : XJ D w0 lv z en ps (w.setCell ⟨D, 2, none⟩ (.int .u8 z)) := by
  obtain ⟨h1, A, n, c, h2, h3⟩ := h
  exact ⟨h1.setCell (p := ⟨D, 2, none⟩) (Nat.le_refl D) _, A, n, c, XB.set2 h2 z, h3.other (p := ⟨D, 2, none⟩) (XB.ne h2 h3) _⟩
theorem XJ.set3 (h : XJ D w0 lv st en ps w) (z : Int) : XJ D w0 lv st z ps (w.setCell ⟨D, 3, none⟩ (.int .u8 z)) := by
  obtain ⟨h1, A, n, c, h2, h3⟩ := h
  exact ⟨h1.setCell (p := ⟨D, 3, none⟩) (Nat.le_refl D) _, A, n, c, XB.set3 h2 z, h3.other (p := ⟨D, 3, none⟩) (XB.ne h2 h3) _⟩
end
/-- a region that draws, whose first m operations read or call, and the others come one by one -/
theorem wp_region_tail {P : Program} {id : Nat} {Q : Exit → Act → World → Prop} {a : Act} {w : World} {l : List Oper} (m : Nat) (hm : P.follows .mixedOrders = true) (hB : Region.lexTailB .any l.toArray m = true)
    (h : wpQuiet P l.toArray (fun w' => ∃ x : BW w, w' = x.world) (fun a' => ∀ w', (∃ x : BW w, w' = x.world) → wpList P l.toArray Q (l.drop m) a' w') (l.take m) a) : (Code.region id l.toArray true).wp P Q a w :=
  wp_region_any hm (wpAny_quiet_tail (C := fun w' => ∃ x : BW w, w' = x.world) m hB ⟨⟨_, (Below.refl _ _).drew⟩, rfl⟩ h)
/-- what can be read all the while -/
structure REnv (B n N nk : Nat) (A6 A8 A9 A10 A11 : Option Addr) (c11 : Nat) (lv cl mz kp : List Int) (xs : List RV) (w : World) : Prop where
  l : Rd .u8 w A6 n lv
  o : Rd .u8 w A8 n cl
  m : Rd .i64 w A9 n mz
  k : Rd .i64 w A10 nk kp
  r : Rw B w (.slice A11 xs.length c11) xs
theorem REnv.below {B n N nk : Nat} {A6 A8 A9 A10 A11 : Option Addr} {c11 : Nat} {lv cl mz kp : List Int} {xs : List RV} {w w' : World} (h : REnv B n N nk A6 A8 A9 A10 A11 c11 lv cl mz kp xs w) (hb : Below w.heap.size w w') : REnv B n N nk A6 A8 A9 A10 A11 c11 lv cl mz kp xs w' :=
  ⟨h.l.below hb, h.o.below hb, h.m.below hb, h.k.below hb, h.r.below hb⟩
/-- a run as it lies -/
theorem REnv.run {B n N nk : Nat} {A6 A8 A9 A10 A11 : Option Addr} {c11 : Nat} {lv cl mz kp : List Int} {xs : List RV} {w : World} (h : REnv B n N nk A6 A8 A9 A10 A11 c11 lv cl mz kp xs w) {x : RV} {t : Nat} (hx : xs[t]? = some x) {R : List Int} (hp : x.ps = R) {z : Int} (hz : R[0]? = some z) :
    ∃ ob bx ox, A11 = some ⟨ob, 0, none⟩ ∧ ob < w.heap.size ∧ w.cell? ⟨ob, t, none⟩ = some (.slice (some ⟨bx, ox, none⟩) R.length x.c) ∧ bx < w.heap.size ∧ w.cell? ⟨bx, ox, none⟩ = some (.int .i64 z) ∧ Rd .i64 w (some ⟨bx, ox, none⟩) R.length R := by
  subst hp
  obtain ⟨ob, cap, hv, hBo, hob, hiM, hcM, _⟩ := h.r.at_ hx
  injection hv with e1 _ e3
  have hro := (h.r.own t x hx).rd
  obtain ⟨bx, ox, z', hAx, hbx, hz', hcz⟩ := hro.at_ (j := 0) (List.getElem?_eq_some_iff.1 hz).1
  obtain rfl : z' = z := by
    have := hz'.out
    rw [hz] at this
    exact (Option.some.inj this).symm
  rw [Nat.add_zero] at hcz
  unfold RV.sl at hcM
  rw [hAx] at hcM hro
  exact ⟨ob, bx, ox, e1, hob, hcM, hbx, hcz, hro⟩
/-- what Sequences of the reference returns -/
def RSeqRet (n : Nat) (base : Int) (cl : List Int) (w : World) (e : Ending) (w' : World) : Prop :=
  ∃ (A A6 : Option Addr) (c c6 : Nat) (ys : List QV), e = .returned (.tuple #[.slice A ys.length c, .slice A6 n c6]) ∧ Sq w.heap.size w' (.slice A ys.length c) ys ∧ ys.map QV.q = seqsS cl base ∧ Rd .u8 w' A6 n (levelsS cl base) ∧ Below w.heap.size w w'
end Go.Proofs.Ytaojjneajiobnaa

/-
  The reference of layer 19: Match.
-/
import Derived.Test.YtaojjneajiobnaaRfB
namespace Go.Proofs.Ytaojjneajiobnaa
open Go.RowKit

def Dist (a b : Option Nat) : Prop := a = none ∨ a ≠ b
theorem Dist.one {a b a' : Option Nat} {h : Nat} (d : Dist a b) (ha : a' = a ∨ a' = some h) (hb : ∀ g, b = some g → g < h) : Dist a' b := by
  rcases ha with rfl | rfl
  · exact d
  · exact .inr fun e => by have := hb h e.symm; omega
theorem Dist.two {a b b' : Option Nat} {h : Nat} (d : Dist a b) (hb : b' = b ∨ b' = some h) (ha : ∀ g, a = some g → g < h) : Dist a b' := by
  rcases hb with rfl | rfl
  · exact d
  · cases a with
    | none => exact .inl rfl
    | some g => exact .inr fun e => by injection e with e; have := ha g rfl; omega
theorem Dist.sym {a b : Option Nat} (d : Dist a b) : Dist b a := by
  cases b with
  | none => exact .inl rfl
  | some g =>
    rcases d with rfl | d
    · exact .inr (by simp)
    · exact .inr (Ne.symm d)
theorem Dist.ne_ {a : Option Nat} {g : Nat} (d : Dist a (some g)) : a ≠ some g := by
  rcases d with rfl | d
  · simp
  · exact d
theorem take_set_succ {l : List Int} {k : Nat} (v : Int) (h : k < l.length) : (l.set k v).take (k + 1) = l.take k ++ [v] := by
  rw [List.take_succ_eq_append_getElem (by simpa using h), List.take_set_of_le (Nat.le_refl k)]
  simp
theorem app_set {l : List Int} {k : Nat} (u v : Int) (h : l.length = k) : (l ++ [u]).set k v = l ++ [v] := by
  rw [List.set_append_right _ _ (by omega), h, Nat.sub_self]; rfl
theorem take_set_two {l : List Int} {k q : Nat} (v u : Int) (h : k < l.length) : ((l.set k v).set q u).take (k + 1) = (l.take k ++ [v]).set q u := by
  rw [List.take_set, take_set_succ v h]

theorem rd_cell {kd : IntKind} {w : World} {b off n k : Nat} {zs : List Int} {z : Int} (h : Rd kd w (some ⟨b, off, none⟩) n zs) (hz : zs[k]? = some z) : w.cell? ⟨b, off + k, none⟩ = some (.int kd z) := by
  have hk : k < n := by rw [← h.len]; exact (List.getElem?_eq_some_iff.1 hz).1
  obtain ⟨z', hz', hc⟩ := h.cell hk
  have := hz'.out
  rw [hz] at this
  injection this with this
  subst this
  exact hc
set_option maxRecDepth 100000 in
set_option maxHeartbeats 8000000 in
theorem refmatch_any (A : Option Addr) (n c : Nat) (l : List Int) (w : World) (hr : Rd .u8 w A n l) (hn : n ≤ 1000000) :
    Calls Try.prog 18 #[.slice A n c] w (RetSl w.heap.size 3 .i64 (matchS l) w) := by
  have hm := hr.max
  have hln := hide hr.len
  go_enter Try.func18, Try.ntmps18
  go_wp2_with fail
  go_loopw [3, 4, 5] (fun o p i wr => ∃ (k m c1 c2 : Nat) (A1 A2 : Option Addr), k ≤ n ∧ i = .int .i64 ((k : Nat) : Int) ∧ o = .slice A1 k c1 ∧ p = .slice A2 m c2 ∧ Own w.heap.size 3 .i64 wr A1 k c1 ((mSt l k).1.take k) ∧ Own w.heap.size 3 .i64 wr A2 m c2 (mSt l k).2 ∧
      Dist (Value.slice A1 k c1).ownBlock (Value.slice A2 m c2).ownBlock ∧ Below w.heap.size w wr) (fun _ _ i _ => n - (intOf i).toNat)
  case atStart => exact ⟨0, 0, 0, 0, none, none, Nat.zero_le _, rfl, rfl, rfl, by simpa using Own.none_ _ _ _ _, Own.none_ _ _ _ _, .inl rfl, Below.refl _ _⟩
  case round =>
    obtain ⟨k, m, c1, c2, A1, A2, hk, rfl, rfl, rfl, hout, hop, hd, hbel⟩ := hrel
    obtain ⟨wo, rfl⟩ : ∃ wo : World, wo = wr := ⟨_, rfl⟩
    have hsz := hbel.size
    by_cases hkn : k < n
    · obtain ⟨b, off, z, rfl, hbw, hz, hck⟩ := (hr.below hbel).at_ hkn
      have q1 : (k : Int) < (n : Int) := by omega
      have q2 : (0 : Int) ≤ (k : Int) := by omega
      have hst := hide (mSt_step hz.out)
      have hopn := hide (mSt_open l k)
      have hlen := hide ((mSt_len l k).trans hln.out)
      have hml := hide hop.len
      have hmk1 : m ≤ k := by rw [← hop.len]; exact mSt_open_len l k
      generalize hS : mSt l k = s at *
      clear hS
      have hks := hide (show k < s.1.length by rw [hlen.out]; exact hkn)
      have htl := hide (show (s.1.take k).length = k by rw [List.length_take, hlen.out]; omega)
      rcases m_cases z with ho | rfl | ⟨ho, hz22, hz22'⟩
      · have hO := hide ho
        have z22 : (z == 22) = false := by simp only [beq_eq_false_iff_ne]; rintro rfl; cases ho
        clear ho
        go_wp2_with (at_builtin; refine wpList_app elt64 rfl (.tmp 13) (.tmp 14) rfl rfl rfl (hout.alloc _) (own_one _ _ _ _ _ _ rfl (Nat.le_refl _)).rd (by omega) (by simp <;> omega) ?_; intro A3 c3 w3 hout3 hgr3 hat3; have hb3 := (hbel.alloc hsz (.cells #[.int .i64 (-1)] 3)).grown hgr3 (by simp <;> omega) (fun g hg => (hout.lt g hg).1); have hck3 := rd_cell (hr.below hb3) hz.out)
        have hop3 := (hop.alloc (.cells #[.int .i64 (-1)] 3)).kept hgr3 hd.sym
        have hd3 := hd.one hat3 (fun g hg => by have := (hop.lt g hg).2; simp; omega)
        have hsz3 := hb3.size
        obtain ⟨g3, rfl, _, hg3, hf3⟩ := hout3.form (by omega)
        clear hgr3 hat3 hout hop hd
        obtain ⟨zc, hcc, hfc⟩ := hout3.cellG (show k < k + 1 by omega)
        refine (op41 z _).mono ?_
        rintro e w' ⟨rfl, rfl⟩
        rw [hO.out]
        have hopx := hop3.other (p := ⟨g3, k, none⟩) hd3.sym.ne_ (.int .i64 n)
        go_wp2_with (at_builtin; refine wpList_app elt64 rfl (.tmp 26) (.tmp 28) rfl rfl rfl (hopx.alloc _) (own_one _ _ _ _ _ w3.heap.size (by simp) (Nat.le_refl _)).rd (by omega) (by simp <;> omega) ?_; intro A4 c4 w4 hop4 hgr4 hat4; have hb4 := (((Below.setCell hb3 (p := ⟨g3, k, none⟩) (hout3.lt g3 rfl).1 (.int .i64 n)).alloc (by simp; omega) (.cells #[.int .i64 k] 3))).grown hgr4 (by simp <;> omega) (fun g hg => (hop3.lt g hg).1); have hck4 := rd_cell (hr.below hb4) hz.out)
        have hout4 := ((hout3.set_ k (n : Int)).alloc (.cells #[.int .i64 k] 3)).kept hgr4 (by
          rcases hd3.sym with e | e
          · exact .inr (by show some g3 ≠ _; rw [e]; simp)
          · exact .inr (Ne.symm e))
        have hd4 := hd3.two hat4 (fun g hg => by injection hg with hg; subst hg; simp; omega)
        have HB4 := hide hb4
        clear hgr4 hat4 hop3 hb3 hck3 hopx hb4
        go_wp2_with fail
        go_roundw
        case rel => exact ⟨k + 1, m + 1, c3, c4, _, A4, by omega, by go_num, rfl, rfl, by rw [hst.out, mStep_o hO.out, take_set_succ _ hks.out, ← app_set (-1) _ htl.out, hln.out]; exact hout4, by rw [hst.out, mStep_o hO.out]; exact hop4, hd4, HB4.out⟩
        case measure => simp [intOf]; omega
      · cases m with
        | zero =>
          have hs0 : s.2 = [] := List.eq_nil_of_length_eq_zero hml.out
          have hS0 := hide hs0
          clear hs0
          have z22 : ((22 : Int) == 22) = true := rfl
          go_wp2_with (at_builtin; refine wpList_app elt64 rfl (.tmp 13) (.tmp 14) rfl rfl rfl (hout.alloc _) (own_one _ _ _ _ _ _ rfl (Nat.le_refl _)).rd (by omega) (by simp <;> omega) ?_; intro A3 c3 w3 hout3 hgr3 hat3; have hb3 := (hbel.alloc hsz (.cells #[.int .i64 (-1)] 3)).grown hgr3 (by simp <;> omega) (fun g hg => (hout.lt g hg).1); have hck3 := rd_cell (hr.below hb3) hz.out)
          have hop3 := (hop.alloc (.cells #[.int .i64 (-1)] 3)).kept hgr3 hd.sym
          have hd3 := hd.one hat3 (fun g hg => by have := (hop.lt g hg).2; simp; omega)
          have hsz3 := hb3.size
          obtain ⟨g3, rfl, _, hg3, hf3⟩ := hout3.form (by omega)
          clear hgr3 hat3 hout hop hd
          refine (op41 22 _).mono ?_
          rintro e w' ⟨rfl, rfl⟩
          rw [show opS 22 = false from rfl]
          have HB3 := hide hb3
          clear hb3
          go_wp2_with fail
          go_roundw
          case rel => exact ⟨k + 1, 0, c3, c2, _, A2, by omega, by go_num, rfl, rfl, by rw [hst.out, mStep_z hS0.out, take_set_succ _ hks.out]; exact hout3, by rw [hst.out, mStep_z hS0.out]; exact hop3, hd3, HB3.out⟩
          case measure => simp [intOf]; omega
        | succ j =>
          have e1 : IntKind.i64.wrap ((j : Int) + 1 - 1) = (j : Int) := by rw [show (j : Int) + 1 - 1 = j by omega]; exact IntWalk.i64_in _ (by omega)
          have hcj := hop.cap_
          have e2 : (j : Int) ≤ (c2 : Int) := by omega
          have e3 : (0 : Int) ≤ (j : Int) := by omega
          have e4 : (j : Int) < (j : Int) + 1 := by omega
          obtain ⟨g2, zk, rfl, hgB, hgl, hzk, hcg, _⟩ := hop.at_ (show j < j + 1 by omega)
          obtain ⟨hq0, hqk⟩ := hopn.out zk (List.mem_of_getElem? hzk.out)
          obtain ⟨q, rfl⟩ := Int.eq_ofNat_of_zero_le hq0
          have hqk' : q < k := by omega
          have z22 : ((22 : Int) == 22) = true := rfl
          clear hcg
          go_wp2_with (at_builtin; refine wpList_app elt64 rfl (.tmp 13) (.tmp 14) rfl rfl rfl (hout.alloc _) (own_one _ _ _ _ _ _ rfl (Nat.le_refl _)).rd (by omega) (by simp <;> omega) ?_; intro A3 c3 w3 hout3 hgr3 hat3; have hb3 := (hbel.alloc hsz (.cells #[.int .i64 (-1)] 3)).grown hgr3 (by simp <;> omega) (fun g hg => (hout.lt g hg).1); have hck3 := rd_cell (hr.below hb3) hz.out; have hop3 := (hop.alloc (.cells #[.int .i64 (-1)] 3)).kept hgr3 hd.sym; obtain ⟨zc, hzc, hcc⟩ := hop3.rd.cell (show j < j + 1 by omega))
          obtain rfl : zc = (q : Int) := by
            have := hzc.out
            rw [hzk.out] at this
            injection this with this
            exact this.symm
          have hd3 := hd.one hat3 (fun g hg => by have := (hop.lt g hg).2; simp; omega)
          have hsz3 := hb3.size
          obtain ⟨g3, rfl, _, hg3, hf3⟩ := hout3.form (by omega)
          clear hgr3 hat3 hout hop hd
          refine (op41 22 _).mono ?_
          rintro e w' ⟨rfl, rfl⟩
          rw [show opS 22 = false from rfl]
          obtain ⟨z0, hc0, hf0⟩ := hout3.cellG (show k < k + 1 by omega)
          obtain ⟨z1, hc1, hf1⟩ := hout3.cellG (show q < k + 1 by omega)
          have e5 : (k : Int) < (k : Int) + 1 := by omega
          have e6 : (q : Int) < (k : Int) + 1 := by omega
          have e7 : (0 : Int) ≤ (q : Int) := by omega
          have n1 : ¬ k = q := by omega
          have n2 : ¬ q = k := by omega
          have HB3 := hide hb3
          rw [Nat.zero_add] at hcc
          have hbn : ¬ g2 = g3 := by
            intro e
            exact hd3.sym.ne_ (by rw [← e]; rfl)
          have hbn2 : ¬ g3 = g2 := fun e => hbn e.symm
          clear hb3
          go_wp2_with fail
          go_roundw
          case rel => exact ⟨k + 1, j, c3, c2, _, _, by omega, by go_num, rfl, rfl, by rw [hst.out, mStep_p hml.out hzk.out, take_set_two _ _ hks.out, ← app_set (-1) _ htl.out]; exact (hout3.set_ k (q : Int)).set_ q (k : Int), by rw [hst.out, mStep_p hml.out hzk.out]; exact ((hop3.less (show j ≤ j + 1 by omega)).other (p := ⟨g3, k, none⟩) hd3.sym.ne_ _).other (p := ⟨g3, q, none⟩) hd3.sym.ne_ _, hd3, Below.setCell (Below.setCell HB3.out (p := ⟨g3, k, none⟩) (hout3.lt g3 rfl).1 _) (p := ⟨g3, q, none⟩) (hout3.lt g3 rfl).1 _⟩
          case measure => simp [intOf]; omega
      · have hO := hide ho
        clear ho
        go_wp2_with (at_builtin; refine wpList_app elt64 rfl (.tmp 13) (.tmp 14) rfl rfl rfl (hout.alloc _) (own_one _ _ _ _ _ _ rfl (Nat.le_refl _)).rd (by omega) (by simp <;> omega) ?_; intro A3 c3 w3 hout3 hgr3 hat3; have hb3 := (hbel.alloc hsz (.cells #[.int .i64 (-1)] 3)).grown hgr3 (by simp <;> omega) (fun g hg => (hout.lt g hg).1); have hck3 := rd_cell (hr.below hb3) hz.out)
        have hop3 := (hop.alloc (.cells #[.int .i64 (-1)] 3)).kept hgr3 hd.sym
        have hd3 := hd.one hat3 (fun g hg => by have := (hop.lt g hg).2; simp; omega)
        have hsz3 := hb3.size
        obtain ⟨g3, rfl, _, hg3, hf3⟩ := hout3.form (by omega)
        clear hgr3 hat3 hout hop hd
        refine (op41 z _).mono ?_
        rintro e w' ⟨rfl, rfl⟩
        rw [hO.out]
        have HB3 := hide hb3
        clear hb3
        go_wp2_with fail
        go_roundw
        case rel => exact ⟨k + 1, m, c3, c2, _, A2, by omega, by go_num, rfl, rfl, by rw [hst.out, mStep_d hO.out hz22'.out, take_set_succ _ hks.out]; exact hout3, by rw [hst.out, mStep_d hO.out hz22'.out]; exact hop3, hd3, HB3.out⟩
        case measure => simp [intOf]; omega
    · obtain rfl : k = n := by omega
      clear hkn
      go_wp2_with fail
      go_ret
      have e : (mSt l k).1.take k = matchS l := by
        unfold matchS
        rw [hln.out, List.take_of_length_le (by rw [mSt_len, hln.out]; exact Nat.le_refl _)]
      have e2 : (matchS l).length = k := by unfold matchS; rw [mSt_len, hln.out]
      rw [e] at hout
      exact ⟨A1, c1, by rw [e2]; rfl, by rw [e2]; exact hout, hbel⟩
end Go.Proofs.Ytaojjneajiobnaa

/-
  The sequences, as one word; the examples of layer 20: 'awake' returns true.
-/
import Derived.Test.YtaojjneajiobnaaRunW
import Derived.Test.YtaojjneajiobnaaRunP
namespace Go.Proofs.Ytaojjneajiobnaa
open Go.RowKit Go.Maps

def runsN (f : Nat → Int) (n : Nat) : Nat := ((List.range (n + 1)).find? fun k => cut f n k == n).getD 0
theorem cut_mono (f : Nat → Int) (n : Nat) {i j : Nat} (h : i < j) : cut f n i < cut f n j := by
  induction j with
  | zero => omega
  | succ j ih =>
    have := cut_lt f n j
    rcases Nat.lt_or_ge i j with h1 | h1
    · have := ih h1; omega
    · obtain rfl : i = j := by omega
      exact this
theorem cut_inj {f : Nat → Int} {n i j : Nat} (h : cut f n i = cut f n j) : i = j := by
  rcases Nat.lt_trichotomy i j with h1 | h1 | h1
  · have := cut_mono f n h1; omega
  · exact h1
  · have := cut_mono f n h1; omega
theorem runsN_of {f : Nat → Int} {n K : Nat} (h : cut f n K = n) : runsN f n = K := by
  unfold runsN
  have hK : K ≤ n := by have := cut_ge f n K; omega
  cases hf : (List.range (n + 1)).find? fun k => cut f n k == n with
  | none =>
    rw [List.find?_eq_none] at hf
    have := hf K (List.mem_range.2 (by omega))
    simp [h] at this
  | some k =>
    have := List.find?_some hf
    simp only [beq_iff_eq] at this
    exact cut_inj (this.trans h.symm)
/-- the sequences of classes -/
def seqsS (cl : List Int) (base : Int) : List QR :=
  (sqSt (levelsS cl base) (keptTo (classesS cl base) cl.length) cl (matchS cl) base (runsN (lvAt (levelsS cl base) (keptTo (classesS cl base) cl.length)) (keptTo (classesS cl base) cl.length).length)).out
/-- what Sequences returns -/
def SeqsRet (n : Nat) (base : Int) (cl : List Int) (w : World) (e : Ending) (w' : World) : Prop :=
  ∃ (A : Option Addr) (c g1 c1 : Nat) (xs : List QV), e = .returned (.tuple #[.slice A xs.length c, .slice (some ⟨g1, 0, none⟩) n c1]) ∧ Sq w.heap.size w' (.slice A xs.length c) xs ∧
    xs.map QV.q = seqsS cl base ∧ Own w.heap.size 5 .u8 w' (some ⟨g1, 0, none⟩) n c1 (levelsS cl base) ∧ Below w.heap.size w w'
theorem seqs_any (A : Option Addr) (n c : Nat) (l : List Int) (base : Int) (w : World) (hr : Rd .i32 w A n l) (hn : n ≤ 90000) (hb0 : 0 ≤ base ∧ base ≤ 1) :
    Calls Try.prog 27 #[.slice A n c, .int .u8 base] w (SeqsRet n base (l.map cls) w) := by
  refine (seq_any A n c l base w hr hn hb0).mono ?_
  rintro e w' ⟨A', c', g1, c1, K, xs, h1, h2, h3, h4, h5, h6⟩
  refine ⟨A', c', g1, c1, xs, h1, h2, ?_, h5, h6⟩
  unfold seqsS
  rw [List.length_map, hr.len, runsN_of h3]
  exact h4
theorem seqs_small (cl : List Int) (base : Int) (hn : cl.length ≤ 1000000) : (seqsS cl base).length ≤ 1000000 ∧ ∀ q ∈ seqsS cl base, q.ps.length ≤ 1000000 := by
  unfold seqsS
  have hk := keptTo_len (classesS cl base) cl.length
  generalize keptTo (classesS cl base) cl.length = kp at *
  generalize levelsS cl base = lv
  unfold runsN
  cases hf : (List.range (kp.length + 1)).find? fun k => cut (lvAt lv kp) kp.length k == kp.length with
  | none => exact ⟨Nat.zero_le _, fun q hq => by cases hq⟩
  | some k =>
    have h1 := List.find?_some hf
    simp only [beq_iff_eq] at h1
    rw [Option.getD_some]
    have h2 := sqSt_len lv kp cl (matchS cl) base k
    have h3 := cut_ge (lvAt lv kp) kp.length k
    exact ⟨by omega, fun q hq => by have := sqSt_ps lv kp cl (matchS cl) base k q hq; omega⟩
set_option maxHeartbeats 1000000 in
theorem is_any (A1 A2 : Option Addr) (n m c1 c2 : Nat) (l : List Int) (want : List QR) (w : World) (r1 : Rd .i32 w A1 n l) (r2 : RunsAt w A2 m want) (hn : n ≤ 90000) (he : seqsS (l.map cls) 0 = want) :
    Calls Try.prog 50 #[.slice A1 n c1, .slice A2 m c2] w fun e w' => e = .returned (.bool true) ∧ Below w.heap.size w w' := by
  have hm := r2.1
  have hsm := (seqs_small (l.map cls) 0 (by rw [List.length_map, r1.len]; omega)).2
  rw [he] at hsm
  have hS := hide (seqs_any A1 n c1 l 0 w r1 hn (by decide))
  have he := hide he
  go_enter Try.func50, Try.ntmps50
  go_wp2_with fail
  refine hS.out.mono ?_
  rintro e w1 ⟨A3, c3, g1, c4, xs, rfl, hq, hx, hL, hb1⟩
  have hxl : xs.length = m := by rw [← hm, ← he.out, ← hx, List.length_map]
  have hr := hq.runs (by rw [hxl]; exact r2.2.1)
  rw [hx, he.out, hxl] at hr
  rw [hxl]
  have hr := hide hr
  have h2 := hide (r2.below hb1)
  have hsm := hide hsm
  clear hq hL hx he hS
  go_wp2_with fail
  refine (sameq_any _ _ m _ _ want w1 hr.out h2.out hsm.out).mono ?_
  rintro e w2 ⟨rfl, hb2⟩
  go_wp2_with fail
  go_ret
  exact ⟨rfl, hb1.trans (hb2.mono hb1.size)⟩
theorem RunsAt.nil (w : World) (A : Option Addr) : RunsAt w A 0 [] := ⟨rfl, by decide, fun h => absurd h (by decide)⟩
theorem RunsAt.two {w : World} {b b1 b2 n1 n2 m1 m2 : Nat} {ps1 ps2 : List Int} {x1 x2 x3 y1 y2 y3 : Int} (h : w.heap[b]? = some (.cells #[.slice (some ⟨b1, 0, none⟩) n1 m1, .int .u8 x1, .int .u8 x2, .int .u8 x3, .slice (some ⟨b2, 0, none⟩) n2 m2, .int .u8 y1, .int .u8 y2, .int .u8 y3] 49 (0, 0)))
    (h1 : LitK .i64 3 w b1 ps1) (hn1 : ps1.length = n1) (hm1 : n1 ≤ 1000000) (h2 : LitK .i64 3 w b2 ps2) (hn2 : ps2.length = n2) (hm2 : n2 ≤ 1000000) : RunsAt w (some ⟨b, 0, none⟩) 2 [⟨ps1, x1, x2, x3⟩, ⟨ps2, y1, y2, y3⟩] := by
  subst hn1; subst hn2
  refine ⟨rfl, by decide, fun _ => ⟨b, rfl, lt_of_block h, fun i q hq => ?_⟩⟩
  match i, hq with
  | 0, hq =>
    obtain rfl := Option.some.inj hq
    exact ⟨_, _, cell_of_row _ _ _ _ _ _ h, h1.rd rfl hm1, cell_of_row _ _ _ _ _ _ h, cell_of_row _ _ _ _ _ _ h, cell_of_row _ _ _ _ _ _ h⟩
  | 1, hq =>
    obtain rfl := Option.some.inj hq
    exact ⟨_, _, cell_of_row _ _ _ _ _ _ h, h2.rd rfl hm2, cell_of_row _ _ _ _ _ _ h, cell_of_row _ _ _ _ _ _ h, cell_of_row _ _ _ _ _ _ h⟩
  | i + 2, hq => simp at hq
theorem is_lit (b n c m c2 : Nat) (A2 : Option Addr) (l : List Int) (want : List QR) (w : World) (h : LitK .i32 21 w b l) (hn : l.length = n) (hn' : n ≤ 90000) (r2 : RunsAt w A2 m want) (he : seqsS (l.map cls) 0 = want) :
    Calls Try.prog 50 #[.slice (some ⟨b, 0, none⟩) n c, .slice A2 m c2] w fun e w' => e = .returned (.bool true) ∧ Below w.heap.size w w' :=
  is_any _ A2 n m c c2 l want w (h.rd hn (by omega)) r2 hn' he
theorem is_two (w : World) (l ps1 ps2 : List Int) (x1 x2 x3 y1 y2 y3 : Int) (n n1 n2 : Nat) (hl : l.length = n) (hn : n ≤ 90000) (h1 : ps1.length = n1) (hn1 : n1 ≤ 1000000) (h2 : ps2.length = n2) (hn2 : n2 ≤ 1000000) (he : seqsS (l.map cls) 0 = [⟨ps1, x1, x2, x3⟩, ⟨ps2, y1, y2, y3⟩])
    {L P1 P2 : Array Value} (eL : L = (l.map (Value.int .i32)).toArray) (e1 : P1 = (ps1.map (Value.int .i64)).toArray) (e2 : P2 = (ps2.map (Value.int .i64)).toArray) :
    Calls Try.prog 50 #[.slice (some ⟨w.heap.size, 0, none⟩) n n, .slice (some ⟨w.heap.size + 1 + 1 + 1, 0, none⟩) 2 2]
      ((((w.alloc (.cells L 21)).alloc (.cells P1 3)).alloc (.cells P2 3)).alloc (.cells #[.slice (some ⟨w.heap.size + 1, 0, none⟩) n1 n1, .int .u8 x1, .int .u8 x2, .int .u8 x3, .slice (some ⟨w.heap.size + 1 + 1, 0, none⟩) n2 n2, .int .u8 y1, .int .u8 y2, .int .u8 y3] 49))
      fun e w' => e = .returned (.bool true) ∧ Below w.heap.size w w' := by
  have k1 : LitK .i32 21 (w.alloc (.cells L 21)) w.heap.size l := LitK.new .i32 21 _ _ _ rfl eL
  have k2 : LitK .i64 3 ((w.alloc (.cells L 21)).alloc (.cells P1 3)) (w.heap.size + 1) ps1 := LitK.new .i64 3 _ _ _ (by simp) e1
  have k3 : LitK .i64 3 (((w.alloc (.cells L 21)).alloc (.cells P1 3)).alloc (.cells P2 3)) (w.heap.size + 1 + 1) ps2 := LitK.new .i64 3 _ _ _ (by simp) e2
  refine (is_lit _ n n 2 2 _ l _ _ (((k1.alloc _).alloc _).alloc _) hl hn (RunsAt.two (heap_at_new _ _ _ (by simp)) ((k2.alloc _).alloc _) h1 hn1 (k3.alloc _) h2 hn2) he).mono ?_
  rintro e w' ⟨rfl, hb⟩
  exact ⟨rfl, (((((Below.refl _ w).alloc (Nat.le_refl _) _).alloc (by simp) _).alloc (by simp; omega) _).alloc (by simp; omega) _).trans (hb.mono (by simp; omega))⟩
theorem ex_1 : seqsS ([97, 8295, 98, 8297, 99].map cls) 0 = [⟨[0, 1, 3, 4], 0, 0, 0⟩, ⟨[2], 1, 1, 1⟩] := by kernel_rfl
theorem ex_2 : seqsS ([97, 8295, 98].map cls) 0 = [⟨[0, 1], 0, 0, 0⟩, ⟨[2], 1, 1, 1⟩] := by kernel_rfl
theorem ex_3 : seqsS ([8235, 97, 8236, 98].map cls) 0 = [⟨[1], 1, 1, 1⟩, ⟨[3], 0, 1, 0⟩] := by kernel_rfl
theorem ex_4 : seqsS (([] : List Int).map cls) 0 = [] := by kernel_rfl
set_option maxRecDepth 100000 in
set_option maxHeartbeats 4000000 in
theorem awake_r (w : World) : Calls Try.prog 26 #[] w fun e w' => e = .returned (.bool true) ∧ Below w.heap.size w w' := by
  have h1 := hide (fun W => is_two W [97, 8295, 98, 8297, 99] [0, 1, 3, 4] [2] 0 0 0 1 1 1 5 4 1 rfl (by decide) rfl (by decide) rfl (by decide) ex_1 rfl rfl rfl)
  have h2 := hide (fun W => is_two W [97, 8295, 98] [0, 1] [2] 0 0 0 1 1 1 3 2 1 rfl (by decide) rfl (by decide) rfl (by decide) ex_2 rfl rfl rfl)
  have h3 := hide (fun W => is_two W [8235, 97, 8236, 98] [1] [3] 1 1 1 0 1 0 4 1 1 rfl (by decide) rfl (by decide) rfl (by decide) ex_3 rfl rfl rfl)
  have h4 := hide (fun W => is_any none none 0 0 0 0 [] [] W (Rd.nil _ _ _) (RunsAt.nil _ _) (by decide) ex_4)
  go_enter Try.func26, Try.ntmps26
  go_wp2_with fail
  refine (h1.out w).mono ?_
  rintro e w1 ⟨rfl, hb1⟩
  have hs1 := hb1.size
  go_wp2_with fail
  refine (h2.out w1).mono ?_
  rintro e w2 ⟨rfl, hb2⟩
  replace hb2 := hb1.trans (hb2.mono hs1)
  have hs2 := hb2.size
  clear hb1
  go_wp2_with fail
  refine (h3.out w2).mono ?_
  rintro e w3 ⟨rfl, hb3⟩
  replace hb3 := hb2.trans (hb3.mono hs2)
  have hs3 := hb3.size
  clear hb2
  go_wp2_with fail
  refine (h4.out w3).mono ?_
  rintro e w4 ⟨rfl, hb4⟩
  replace hb4 := hb3.trans (hb4.mono hs3)
  have hs4 := hb4.size
  clear hb3
  go_wp2_with fail
  refine (removed_any 9 w4).mono ?_
  rintro e w5 ⟨rfl, rfl⟩
  go_wp2_with fail
  refine (removed_any 0 w4).mono ?_
  rintro e w5 ⟨rfl, rfl⟩
  go_wp2_with fail
  go_ret
  exact ⟨rfl, hb4⟩
end Go.Proofs.Ytaojjneajiobnaa

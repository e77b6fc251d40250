/-
  The law WeakMarks: its walk.
-/
import Derived.Test.YtmbjdchknjollaaLawG
import Derived.Deep.RegionLaw
import Derived.IntWalk
namespace Go.Proofs.Ytmbjdchknjollaa
open Go.RowKit

theorem rd_to {k : IntKind} {w : World} {A : Option Addr} {n m : Nat} {zs : List Int} (h : Rd k w A n zs) (hm : m ≤ n) : Rd k w A m (zs.take m) := by
  refine ⟨by rw [List.length_take, h.len]; omega, by have := h.max; omega, fun h0 => ?_⟩
  obtain ⟨b, off, hA, hb, hc⟩ := h.2.2 (by omega)
  refine ⟨b, off, hA, hb, fun j hj => ?_⟩
  rw [hc j (by omega)]
  simp [List.getD, hj]

theorem step_app {P : Program} {t e : TypeId} {k : IntKind} (he : Elt P t e k) {w : World} {ops : Array Oper} {o : Oper} {a : Act} {K : Act → World → Prop} {Q : Exit → Act → World → Prop} {E : Prop} (hgd : o.guard = none) (s x : Operand)
    (ho : o.op = .call { callee := .builtin .append, args := #[s, x], argTypes := #[t, t] }) {B : Nat} {A A' : Option Addr} {n c m c' : Nat} {zs ys : List Int} (hs : a.eval s = .slice A n c) (hx : a.eval x = .slice A' m c')
    (hown : Own B e k w A n c zs) (hr : Rd k w A' m ys) (hnm : n + m ≤ 1000000000) (hB : B ≤ w.heap.size)
    (h : ∀ A2 c2 w', Own B e k w' A2 (n + m) c2 (zs ++ ys) → w.grownBy w' (Value.slice A n c).ownBlock →
      ((Value.slice A2 (n + m) c2).ownBlock = (Value.slice A n c).ownBlock ∨ (Value.slice A2 (n + m) c2).ownBlock = some w.heap.size) → K (a.put o.dst (.slice A2 (n + m) c2)) w') :
    if Region.wanted o (yielded ops a.tmps) = true then Oper.wp P o a w K Q else E := by
  have hw : Region.wanted o (yielded ops a.tmps) = true := by simp [Region.wanted, hgd]
  rw [if_pos hw]
  obtain ⟨A2, c2, w', hrun, h2, h3, h4⟩ := run_app (P := P) he o.type (c' := c') hown hr hnm hB
  unfold Oper.wp execOp
  simp only [ho, resolve, invoke, builtin, Sem.run_bind, Sem.run_pure, Result.andThen_ok, List.map_toArray, List.map_cons, List.map_nil, hs, hx, hrun]
  exact h _ _ _ h2 h3 h4

theorem block_ne {o1 o2 o3 : Option Nat} {h : Nat} (hne : o1 ≠ o2) (h3 : o3 = o1 ∨ o3 = some h) (hlt : ∀ g, o2 = some g → g < h) : o3 ≠ o2 := by
  rcases h3 with rfl | rfl
  · exact hne
  · intro e
    have := hlt h e.symm
    omega
theorem Own.far {B : Nat} {e : TypeId} {k : IntKind} {w : World} {A : Option Addr} {n c q : Nat} {zs : List Int} {o : Option Nat} (h : Own B e k w A n c zs) (ho : o = some q) (hq : w.heap.size ≤ q) : (Value.slice A n c).ownBlock ≠ o := by
  intro he
  have := (h.lt q (he.trans ho)).2
  omega
theorem rd_from {k : IntKind} {w : World} {b off n m : Nat} {zs : List Int} (h : Rd k w (some ⟨b, off, none⟩) n zs) (hm : m ≤ n) : Rd k w (some ⟨b, off + m, none⟩) (n - m) (zs.drop m) := by
  refine ⟨by rw [List.length_drop, h.len], by have := h.max; omega, fun h0 => ?_⟩
  obtain ⟨b', off', hA, hb, hc⟩ := h.2.2 (by omega)
  injection hA with hA
  injection hA with h1 h2
  subst h1; subst h2
  refine ⟨b, off + m, rfl, hb, fun j hj => ?_⟩
  rw [Nat.add_assoc, hc (m + j) (by omega)]
  simp [List.getD]
/-- the two rows: marks, and what stands ahead of them -/
def Twin (B : Nat) (hd : List Int) (c : Int) (v v' : Value) (q n : Nat) (w : World) : Prop :=
  ∃ A1 c1 A2 c2, v = .slice A1 (n + q) c1 ∧ v' = .slice A2 (n + q) c2 ∧ Own B 5 .u8 w A1 (n + q) c1 (hd ++ List.replicate q 8) ∧ Own B 5 .u8 w A2 (n + q) c2 (hd ++ List.replicate q c) ∧
    (Value.slice A1 (n + q) c1).ownBlock ≠ (Value.slice A2 (n + q) c2).ownBlock

set_option maxRecDepth 100000 in
set_option maxHeartbeats 8000000 in
theorem wmarks_walkB (A : Option Addr) (n cap k N : Nat) (l : List Int) (at_ many start c : Int) (b off : Nat) (w : World) (hA : A = some ⟨b, off, none⟩) (hr : Rd .u8 w A n l) (hu : U8 l) (hcap : n ≤ cap) (ha : 0 ≤ at_ ∧ at_ ≤ 255) (hma : 0 ≤ many ∧ many ≤ 255) (hs : 0 ≤ start ∧ start ≤ 255)
    (h0 : 0 < n) (h150 : n ≤ 150) (hk : at_ % (n : Int) = k) (hkn : k < n) (hN : 1 + many % 9 = (N : Int)) (hc : Hid (l[k]? = some c)) (hck : w.cell? ⟨b, off + k, none⟩ = some (.int .u8 c)) (hcap2 : ¬ k + 1 = cap) :
    Calls Try.prog 12 #[.slice A n cap, .int .u8 at_, .int .u8 many, .int .u8 start] w fun e w' => e = .returned (.bool true) ∧ Below w.heap.size w w' := by
  subst hA
  have hm := hr.max
  have ha1 := ha.1
  have hma1 := hma.1
  have hs1 := hs.1
  have hN9 : N ≤ 9 := by omega
  have hn0 : ((n : Int) == 0) = false := by simp; omega
  have hcc : (c != 0) = false ∨ ((c != 0) = true ∧ (c != 1) = false) ∨ ((c != 0) = true ∧ (c != 1) = true ∧ (c != 2) = false) ∨ ((c != 0) = true ∧ (c != 1) = true ∧ (c != 2) = true ∧ (c != 3) = false) ∨
      ((c != 0) = true ∧ (c != 1) = true ∧ (c != 2) = true ∧ (c != 3) = true ∧ (c != 6) = false) ∨ ((c != 0) = true ∧ (c != 1) = true ∧ (c != 2) = true ∧ (c != 3) = true ∧ (c != 6) = true ∧ (c != 13) = false) ∨
      ((c != 0) = true ∧ (c != 1) = true ∧ (c != 2) = true ∧ (c != 3) = true ∧ (c != 6) = true ∧ (c != 13) = true) := by
    simp only [bne_iff_ne, bne_eq_false_iff_eq]; omega
  have hcx : Hid ((c = 0 ∨ c = 1 ∨ c = 2 ∨ c = 3 ∨ c = 6 ∨ c = 13) ∨ (c != 0) = true ∧ (c != 1) = true ∧ (c != 2) = true ∧ (c != 3) = true ∧ (c != 6) = true ∧ (c != 13) = true) := by
    show (c = 0 ∨ _) ∨ _
    simp only [bne_iff_ne]; omega
  have hrk := rd_to hr (show k + 1 ≤ n by omega)
  have hL : l.take (k + 1) = l.take k ++ [c] := by
    obtain ⟨h1, h2⟩ := List.getElem?_eq_some_iff.1 hc.out
    rw [List.take_succ_eq_append_getElem h1, h2]
  have hLh := hide hL
  have huc := hide (hu c (List.mem_of_getElem? hc.out))
  have hln := hide hr.len
  clear hL
  have hcap3 : ¬ cap = k + 1 := fun h => hcap2 h.symm
  rcases hcc with h1 | ⟨h1, h2⟩ | ⟨h1, h2, h3⟩ | ⟨h1, h2, h3, h4⟩ | ⟨h1, h2, h3, h4, h5⟩ | ⟨h1, h2, h3, h4, h5, h6⟩ | ⟨h1, h2, h3, h4, h5, h6⟩
  all_goals first
    | (have hbad : (c != 13) = true := by assumption
       go_enter Try.func12, Try.ntmps12
       go_wp2_with fail
       refine (awake_w _).mono ?_
       rintro e w3 ⟨rfl, hb3⟩
       go_wp2_with fail
       go_ret
       exact ⟨rfl, hb3⟩)
    | skip
  all_goals
    have hci := hide (show c ≠ 8 ∧ isoB c = false by
      rcases hcx.out with h | h
      · rcases h with rfl | rfl | rfl | rfl | rfl | rfl <;> exact ⟨by decide, rfl⟩
      · simp_all)
    go_enter Try.func12, Try.ntmps12
    go_wp2_with (first
      | (at_builtin; refine wpList_app elt8 rfl (.tmp 55) (.tmp 59) rfl rfl rfl (own_empty w.heap.size 5 .u8 w _ rfl (Nat.le_refl _)) (hrk.alloc _) (by omega) (by simp) ?_; intro A1 c1 w1 hown1 hgr1 _; simp only [Nat.zero_add, List.nil_append] at hown1; have hb1 : Below w.heap.size w w1 := ((Below.refl _ _).alloc (Nat.le_refl _) _).grown hgr1 (by simp) (by simp [Value.ownBlock]); clear hgr1)
      | (at_builtin; refine wpList_app elt8 rfl (.tmp 65) (.tmp 66) rfl rfl rfl (own_empty w.heap.size 5 .u8 w1 _ rfl hb1.size) (hown1.rd.alloc _) (by omega) (by simp <;> exact Nat.le_succ_of_le hb1.size) ?_; intro A2 c2 w2 hown2 hgr2 hat2; simp only [Nat.zero_add, List.nil_append] at hown2))
    have hne12 : (Value.slice A1 (k + 1) c1).ownBlock ≠ (Value.slice A2 (k + 1) c2).ownBlock := by
      rw [Nat.zero_add] at hat2
      rcases hat2 with e | e
      · exact hown1.far (q := w1.heap.size) (by rw [e]; rfl) (Nat.le_refl _)
      · exact hown1.far (q := w1.heap.size + 1) (by rw [e]; simp) (by omega)
    have hown12 := (hown1.alloc (.cells #[] 5)).kept hgr2 (.inr (hown1.far (q := w1.heap.size) rfl (Nat.le_refl _)))
    have hb2 := hide ((hb1.alloc hb1.size (.cells #[] 5)).grown hgr2 (by simp; have := hb1.size; omega) (by simp [Value.ownBlock]; exact hb1.size))
    clear hat2 hgr2 hown1
    go_loopw [11, 13, 69] (fun v v' i wr => ∃ q : Nat, q ≤ N ∧ i = .int .i64 q ∧ Twin w.heap.size (l.take (k + 1)) c v v' q (k + 1) wr ∧ Below w.heap.size w wr) (fun _ _ i _ => N - (intOf i).toNat)
    case atStart => exact ⟨0, Nat.zero_le _, rfl, ⟨A1, c1, A2, c2, rfl, rfl, by simpa using hown12, by simpa using hown2, hne12⟩, hb2.out⟩
    case round =>
      obtain ⟨q, hq, rfl, ⟨A3, c3, A4, c4, rfl, rfl, hown3, hown4, hne34⟩, hbel⟩ := hrel
      obtain ⟨wo, rfl⟩ : ∃ wo : World, wo = wr := ⟨_, rfl⟩
      have hszo := hbel.size
      by_cases hqN : q < N
      · go_wp2_with (first
          | (at_builtin; refine wpList_app elt8 rfl (.tmp 71) (.tmp 72) rfl rfl rfl (hown3.alloc _) (own_one _ _ _ _ _ _ rfl (Nat.le_refl _)).rd (by omega) (by simp <;> omega) ?_; intro A5 c5 w5 hown5 hgr5 hat5; have hown45 := hide ((hown4.alloc (.cells #[.int .u8 8] 5)).kept hgr5 (.inr hne34.symm)); have hb5 := hide ((hbel.alloc hszo (.cells #[.int .u8 8] 5)).grown hgr5 (by simp <;> omega) (fun g hg => (hown3.lt g hg).1)); have hsz5 := hb5.out.size)
          | (at_builtin; refine wpList_app elt8 rfl (.tmp 74) (.tmp 76) rfl rfl rfl (hown45.out.alloc _) (own_one _ _ _ _ _ _ rfl (Nat.le_refl _)).rd (by omega) (by simp <;> omega) ?_; intro A6 c6 w6 hown6 hgr6 hat6))
        have hne54 : (Value.slice A5 (k + 1 + q + 1) c5).ownBlock ≠ (Value.slice A4 (k + 1 + q) c4).ownBlock :=
          block_ne hne34 hat5 (fun g hg => by have := (hown4.lt g hg).2; simp; omega)
        have hne65 : (Value.slice A6 (k + 1 + q + 1) c6).ownBlock ≠ (Value.slice A5 (k + 1 + q + 1) c5).ownBlock :=
          block_ne hne54.symm hat6 (fun g hg => by have := (hown5.lt g hg).2; simp; omega)
        have hown56 := (hown5.alloc (.cells #[.int .u8 c] 5)).kept hgr6 (.inr hne54)
        have hb6 := (hb5.out.alloc hsz5 (.cells #[.int .u8 c] 5)).grown hgr6 (by simp <;> omega) (fun g hg => (hown45.out.lt g hg).1)
        rw [List.append_assoc, ← List.replicate_succ'] at hown6 hown56
        go_roundw
        case rel => exact ⟨q + 1, by omega, by go_num, ⟨A5, c5, A6, c6, rfl, rfl, hown56, hown6, hne65.symm⟩, hb6⟩
        case measure => simp [intOf]; omega
      · obtain rfl : q = N := by omega
        clear hqN
        have hrd := (rd_from hr (show k + 1 ≤ n by omega)).below hbel
        go_wp2_with fail
        have e1 : IntKind.i64.wrap ((k : Int) + 1) = (k : Int) + 1 := IntWalk.i64_in _ (by omega)
        have e2 : (0 : Int) ≤ (k : Int) + 1 := by omega
        have e3 : ((k : Int) + 1).toNat = k + 1 := by omega
        have e4 : (k : Int) + 1 ≤ (n : Int) := by omega
        have hd3 := hown3.drew
        have hd4 := hown4.drew
        have hdr := hrd.drew
        have hbd : Below w.heap.size w wo.drew := ⟨hbel.os, hbel.tape, hbel.output, hbel.size, hbel.block⟩
        go_region_law ((first
          | (refine step_app (w := wo.drew) (A := A3) (A' := some ⟨b, off + (k + 1), none⟩) (n := k + 1 + q) (c := c3) (m := n - (k + 1)) (c' := cap - (k + 1)) (zs := l.take (k + 1) ++ List.replicate q 8) (ys := l.drop (k + 1)) (B := w.heap.size) elt8 rfl (.tmp 79) (.tmp 83) rfl (by simp [Act.eval, Act.put]) (by simp [Act.eval, Act.put]) hd3 hdr (by omega) hszo ?_; intro A5 c5 w5 hown5 hgr5 hat5; have hown45 := hide (hd4.kept hgr5 (.inr hne34.symm)); have hb5 := hide (hbd.grown hgr5 hszo (fun g hg => (hown3.lt g hg).1)); have hsz5 := hb5.out.size; have hrd5 := hide ((rd_from hr (show k + 1 ≤ n by omega)).below hb5.out))
          | (refine step_app (A := A4) (A' := some ⟨b, off + (k + 1), none⟩) (n := k + 1 + q) (c := c4) (m := n - (k + 1)) (c' := cap - (k + 1)) (zs := l.take (k + 1) ++ List.replicate q c) (ys := l.drop (k + 1)) (B := w.heap.size) elt8 rfl (.tmp 85) (.tmp 89) rfl (by simp [Act.eval]) (by simp [Act.eval]) hown45.out hrd5.out (by omega) hsz5 ?_; intro A6 c6 w6 hown6 hgr6 hat6)))
        have hne54 : (Value.slice A5 (k + 1 + q + (n - (k + 1))) c5).ownBlock ≠ (Value.slice A4 (k + 1 + q) c4).ownBlock :=
          block_ne hne34 hat5 (fun g hg => (hown4.lt g hg).2)
        have hown56 := hown5.kept hgr6 (.inr hne54)
        have hb6 := hb5.out.grown hgr6 hsz5 (fun g hg => (hown45.out.lt g hg).1)
        have hR : weakP (l.take (k + 1) ++ List.replicate q 8 ++ l.drop (k + 1)) start = weakP (l.take (k + 1) ++ List.replicate q c ++ l.drop (k + 1)) start := by
          rw [hLh.out]
          simp only [List.append_assoc, List.singleton_append]
          exact weak_twin hci.out.1 hci.out.2 q
        have hl5 := hown5.len
        have hl6 := hown6.len
        have hlw5 : (weakP (l.take (k + 1) ++ List.replicate q 8 ++ l.drop (k + 1)) start).length = k + 1 + q + (n - (k + 1)) := (weakP_len _ _).trans hl5
        have hlw6 : (weakP (l.take (k + 1) ++ List.replicate q c ++ l.drop (k + 1)) start).length = k + 1 + q + (n - (k + 1)) := (weakP_len _ _).trans hl6
        have hRh := hide hR
        have hu6 : U8 (l.take (k + 1) ++ List.replicate q c ++ l.drop (k + 1)) := U8.app (U8.app (fun z hz => hu z (List.mem_of_mem_take hz)) (fun z hz => by rw [(List.mem_replicate.1 hz).2]; exact huc.out)) (fun z hz => hu z (List.mem_of_mem_drop hz))
        have hw6 := weakP_u8 hs.1 hu6
        have hyes := hide (sameB_self (weakP (l.take (k + 1) ++ List.replicate q c ++ l.drop (k + 1)) start))
        generalize l.take (k + 1) ++ List.replicate q 8 ++ l.drop (k + 1) = R8 at *
        generalize l.take (k + 1) ++ List.replicate q c ++ l.drop (k + 1) = R0 at *
        have hlh5 := hide hlw5
        have hlh6 := hide hlw6
        clear hl5 hl6 hlw5 hlw6 hR e1 e2 e3 e4 hdr hd3 hd4 hrd hown3 hown4 hgr5 hgr6 hat5 hat6
        go_wp2_with fail
        refine (weak_any A5 _ c5 R8 start w6 hown56.rd (by omega)).mono ?_
        rintro e w7 ⟨A7, c7, rfl, hown7, hb7⟩
        rw [hlh5.out, hRh.out] at hown7
        rw [hlh5.out]
        have hown67 := hown6.below hb7
        have hb7' := hb6.trans (hb7.mono hb6.size)
        go_wp2_with fail
        refine (weak_any A6 _ c6 R0 start w7 hown67.rd (by omega)).mono ?_
        rintro e w8 ⟨A8, c8, rfl, hown8, hb8⟩
        rw [hlh6.out] at hown8 ⊢
        have hown78 := hown7.below hb8
        have hb8' := hb7'.trans (hb8.mono hb7'.size)
        go_wp2_with fail
        refine (same_any A7 A8 _ _ c7 c8 _ _ w8 hown78.rd hown8.rd hw6 hw6).mono ?_
        rintro e w' ⟨rfl, rfl⟩
        rw [hyes.out]
        go_wp2_with fail
        refine (awake_w _).mono ?_
        rintro e w9 ⟨rfl, hb9⟩
        go_wp2_with fail
        go_ret
        exact ⟨rfl, hb8'.trans (hb9.mono hb8'.size)⟩
end Go.Proofs.Ytmbjdchknjollaa

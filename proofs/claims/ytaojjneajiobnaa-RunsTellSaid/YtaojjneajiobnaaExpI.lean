/-
  What holds at the head of the loop of level.Explicit.
-/
import Derived.Test.YtaojjneajiobnaaExp
import Derived.Shelf.Abstract
namespace Go.Proofs.Ytaojjneajiobnaa
open Go.RowKit

/-- two rows of the call's own -/
def ExpRet (n : Nat) (l1 l2 : List Int) (w : World) (e : Ending) (w' : World) : Prop :=
  ∃ g1 c1 g2 c2, e = .returned (.tuple #[.slice (some ⟨g1, 0, none⟩) n c1, .slice (some ⟨g2, 0, none⟩) n c2]) ∧ Own w.heap.size 5 .u8 w' (some ⟨g1, 0, none⟩) n c1 l1 ∧ Own w.heap.size 5 .u8 w' (some ⟨g2, 0, none⟩) n c2 l2 ∧ g1 ≠ g2 ∧ Below w.heap.size w w'
theorem StA.gs_ne {B : Nat} {w : World} {gs : Nat} {r : Option Nat} {s : PS} {c mv : Value} (h : StA B w gs r s c mv) {e : TypeId} {k : IntKind} {A : Option Addr} {n cp : Nat} {zs : List Int} {B' : Nat} (ho : Own B' e k w A n cp zs) (h1 : e ≠ 61) (h2 : e ≠ 58) :
    (Value.slice A n cp).ownBlock ≠ some gs ∧ ∀ g, (Value.slice A n cp).ownBlock = some g → some g ≠ r := by
  obtain ⟨A', cap, hr, hs⟩ := h
  rcases ho.1.2 with ⟨hv, _⟩ | ⟨g', cp', cur, hv, _, hh, _⟩
  · rw [hv]; exact ⟨by simp [Value.ownBlock], fun g hg => by simp [Value.ownBlock] at hg⟩
  · have hb : (Value.slice A n cp).ownBlock = some g' := by rw [hv]; rfl
    rw [hb]
    refine ⟨fun e' => ?_, fun g hg e' => ?_⟩
    · injection e' with e'; subst e'
      rw [hs.box] at hh; injection hh with hh; injection hh with _ ht
      exact h1 ht.symm
    · injection hg with hg; subst hg
      rw [← hr] at e'
      rcases hs.own.2 with ⟨hv', _⟩ | ⟨g2, cp2, cur2, hv', _, hh2, _⟩
      · rw [hv'] at e'; simp [Value.ownBlock] at e'
      · rw [hv'] at e'
        have : g' = g2 := by simpa [Value.ownBlock] using e'
        subst this
        rw [hh2] at hh; injection hh with hh; injection hh with _ ht
        exact h2 ht.symm
theorem Own.fr {B' : Nat} {e : TypeId} {k : IntKind} {w w' : World} {A : Option Addr} {n cp : Nat} {zs : List Int} {gs : Nat} {r : Option Nat} (h : Own B' e k w A n cp zs) (hf : Fr gs r w w') (h1 : (Value.slice A n cp).ownBlock ≠ some gs) (h2 : ∀ g, (Value.slice A n cp).ownBlock = some g → some g ≠ r) : Own B' e k w' A n cp zs := by
  refine ⟨⟨h.1.1, ?_⟩, h.2⟩
  rcases h.1.2 with h0 | ⟨g, cap, cur, hv, hb, hg, hr⟩
  · exact .inl h0
  · have hbk : (Value.slice A n cp).ownBlock = some g := by rw [hv]; rfl
    refine .inr ⟨g, cap, cur, hv, hb, ?_, hr⟩
    rw [hf.block g (lt_of_block hg) (fun e => h1 (by rw [hbk, e])) (h2 g hbk)]
    exact hg
theorem map_fr {w w' : World} {b n : Nat} {D : DataW Unit} {gs : Nat} {r : Option Nat} (h : w.ownsMap Try.prog 5 RF b n D) (hf : Fr gs r w w') (h1 : b ≠ gs) (h2 : some b ≠ r) : w'.ownsMap Try.prog 5 RF b n D := by
  obtain ⟨es, clock, hb, hr⟩ := h
  exact ⟨es, clock, (hf.block b (lt_of_block hb) h1 h2).trans hb, hr⟩
theorem StA.map_ne {B : Nat} {w : World} {gs : Nat} {r : Option Nat} {s : PS} {c mv : Value} (h : StA B w gs r s c mv) {b n : Nat} {D : DataW Unit} (hm : w.ownsMap Try.prog 5 RF b n D) : b ≠ gs ∧ some b ≠ r := by
  obtain ⟨A', cap, hr, hs⟩ := h
  obtain ⟨es, clock, hb, _⟩ := hm
  refine ⟨fun e => ?_, fun e => ?_⟩
  · subst e; rw [hs.box] at hb; cases hb
  · rw [← hr] at e
    rcases hs.own.2 with ⟨hv', _⟩ | ⟨g2, cp2, cur2, hv', _, hh2, _⟩
    · rw [hv'] at e; simp [Value.ownBlock] at e
    · rw [hv'] at e
      have : b = g2 := by simpa [Value.ownBlock] using e
      subst this
      rw [hh2] at hb; cases hb

theorem Own.rowIn {B B' : Nat} {e : TypeId} {k : IntKind} {w : World} {A : Option Addr} {n cp : Nat} {zs : List Int} {gs : Nat} {r : Option Nat} {s : PS} {c mv : Value} (ho : Own B' e k w A n cp zs) (h : StA B w gs r s c mv) (h1 : e ≠ 61) (h2 : e ≠ 58) (hn : 0 < n) : RowIn k w gs r (.slice A n cp) n zs := by
  obtain ⟨q1, q2⟩ := h.gs_ne ho h1 h2
  obtain ⟨g, rfl, _, hg, _⟩ := ho.form hn
  exact ⟨g, 0, cp, rfl, ho.rd, hg, fun e => q1 (by rw [← e]; rfl), q2 g rfl, ho.cap_⟩
theorem StA.other {B : Nat} {w : World} {gs : Nat} {r : Option Nat} {s : PS} {c mv : Value} (h : StA B w gs r s c mv) {p : Addr} (h1 : p.block ≠ gs) (h2 : some p.block ≠ r) (u : Value) : StA B (w.setCell p u) gs r s c mv := by
  obtain ⟨A, cap, hr, hs⟩ := h
  exact ⟨A, cap, hr, (Below.heap_setCell w p u gs (fun e => h1 e.symm)).trans hs.box, ownsRow_setCell_other hs.own (by rw [hr]; exact fun e => h2 e.symm) u⟩
theorem map_other {w : World} {b n : Nat} {D : DataW Unit} (h : w.ownsMap Try.prog 5 RF b n D) {p : Addr} (h1 : p.block ≠ b) (u : Value) : (w.setCell p u).ownsMap Try.prog 5 RF b n D := by
  obtain ⟨es, clock, hb, hr⟩ := h
  exact ⟨es, clock, (Below.heap_setCell w p u b (fun e => h1 e.symm)).trans hb, hr⟩
theorem own_map_ne {B' : Nat} {e : TypeId} {k : IntKind} {w : World} {g n cp b m : Nat} {zs : List Int} {D : DataW Unit} (ho : Own B' e k w (some ⟨g, 0, none⟩) n cp zs) (hm : w.ownsMap Try.prog 5 RF b m D) : g ≠ b := by
  obtain ⟨es, clock, hb, _⟩ := hm
  rintro rfl
  rcases ho.1.2 with ⟨hv, _⟩ | ⟨g', cp', cur, hv, _, hh, _⟩
  · cases hv
  · injection hv with hA; injection hA with hA; injection hA with hA
    subst hA
    rw [hh] at hb; cases hb
theorem own_ty_ne {B1 B2 : Nat} {e1 e2 : TypeId} {k1 k2 : IntKind} {w : World} {g n1 n2 c1 c2 : Nat} {A : Option Addr} {z1 z2 : List Int} (h1 : Own B1 e1 k1 w (some ⟨g, 0, none⟩) n1 c1 z1) (h2 : Own B2 e2 k2 w A n2 c2 z2) (hne : e1 ≠ e2) : (Value.slice A n2 c2).ownBlock ≠ some g := by
  rcases h1.1.2 with ⟨hv, _⟩ | ⟨g', cp', cur, hv, _, hh, _⟩
  · cases hv
  · injection hv with hA; injection hA with hA; injection hA with hA
    subst hA
    rcases h2.1.2 with ⟨hv2, _⟩ | ⟨g2, cp2, cur2, hv2, _, hh2, _⟩
    · rw [hv2]; simp [Value.ownBlock]
    · rw [hv2]
      intro e
      have : g2 = g := by simpa [Value.ownBlock] using e
      subst this
      rw [hh] at hh2; injection hh2 with hh2; injection hh2 with _ ht
      exact hne ht

/-- what holds at the loop's head, behind k places -/
structure XInv (w1 : World) (gs gL gO gm : Nat) (A2 : Option Addr) (n c2 : Nat) (cl : List Int) (base : Int) (cV : Value) (k : Nat) (r : Option Nat) (wr : World) : Prop where
  st : StA w1.heap.size wr gs r (expSt cl base k).1 cV (.slice A2 n c2)
  L : Own w1.heap.size 5 .u8 wr (some ⟨gL, 0, none⟩) n n ((expSt cl base k).2.1 ++ List.replicate (n - k) 0)
  O : Own w1.heap.size 5 .u8 wr (some ⟨gO, 0, none⟩) n n ((expSt cl base k).2.2 ++ List.replicate (n - k) 0)
  M : Own w1.heap.size 3 .i64 wr A2 n c2 (matchS cl)
  map : wr.ownsMap Try.prog 5 RF gm 11 deedD
  bel : Below w1.heap.size w1 wr
  ne : gL ≠ gO
  low : w1.heap.size ≤ gs
theorem rep_set {xs : List Int} {k n : Nat} (h : xs.length = k) (hk : k < n) (v : Int) : (xs ++ List.replicate (n - k) 0).set k v = (xs ++ [v]) ++ List.replicate (n - (k + 1)) 0 := by
  obtain ⟨m, hm⟩ : ∃ m, n - k = m + 1 := ⟨n - k - 1, by omega⟩
  rw [hm, List.set_append_right _ _ (by omega), h, Nat.sub_self, List.replicate_succ, List.set_cons_zero, show n - (k + 1) = m by omega, List.append_assoc]
  rfl
theorem StA.low {B : Nat} {w : World} {gs : Nat} {r : Option Nat} {s : PS} {c mv : Value} (h : StA B w gs r s c mv) : ∀ g, r = some g → B ≤ g := by
  obtain ⟨A, cap, hr, hs⟩ := h
  intro g hg
  exact (hs.own.lt g (hr.trans hg)).1
section
variable {w1 : World} {gs gL gO gm : Nat} {A2 : Option Addr} {n c2 : Nat} {cl : List Int} {base : Int} {cV : Value} {k : Nat} {r : Option Nat} {wr w5 : World}
/-- behind a method, before the stores -/
theorem XInv.meth (h : XInv w1 gs gL gO gm A2 n c2 cl base cV k r wr) {s' : PS} (hst : StB w1.heap.size gs r s' cV (.slice A2 n c2) wr w5) :
    Own w1.heap.size 5 .u8 w5 (some ⟨gL, 0, none⟩) n n ((expSt cl base k).2.1 ++ List.replicate (n - k) 0) ∧ Own w1.heap.size 5 .u8 w5 (some ⟨gO, 0, none⟩) n n ((expSt cl base k).2.2 ++ List.replicate (n - k) 0) ∧
    Own w1.heap.size 3 .i64 w5 A2 n c2 (matchS cl) ∧ w5.ownsMap Try.prog 5 RF gm 11 deedD ∧ Below w1.heap.size w1 w5 := by
  obtain ⟨_, hf⟩ := hst
  obtain ⟨l1, l2⟩ := h.st.gs_ne h.L (by decide) (by decide)
  obtain ⟨o1, o2⟩ := h.st.gs_ne h.O (by decide) (by decide)
  obtain ⟨m1, m2⟩ := h.st.gs_ne h.M (by decide) (by decide)
  obtain ⟨p1, p2⟩ := h.st.map_ne h.map
  exact ⟨h.L.fr hf l1 l2, h.O.fr hf o1 o2, h.M.fr hf m1 m2, map_fr h.map hf p1 p2, hf.below h.bel h.bel.size h.low h.st.low⟩
theorem XInv.next (h : XInv w1 gs gL gO gm A2 n c2 cl base cV k r wr) {s' : PS} {v1 v2 x : Int} (hk : k < n) (hx : cl[k]? = some x) (hst : StB w1.heap.size gs r s' cV (.slice A2 n c2) wr w5) (hs : stepS (fsiAt cl k) (expSt cl base k).1 x = (s', v1, v2)) :
    ∃ r', XInv w1 gs gL gO gm A2 n c2 cl base cV (k + 1) r' ((w5.setCell ⟨gL, k, none⟩ (.int .u8 v1)).setCell ⟨gO, k, none⟩ (.int .u8 v2)) := by
  obtain ⟨hL, hO, hM, hmap, hbel⟩ := h.meth hst
  obtain ⟨⟨r', hsa, _⟩, hf⟩ := hst
  have hg : cl.getD k 0 = x := by simp [List.getD, hx]
  have he : expSt cl base (k + 1) = (s', (expSt cl base k).2.1 ++ [v1], (expSt cl base k).2.2 ++ [v2]) := by
    simp only [expSt, hg, hs]
  obtain ⟨l1, l2⟩ := exp_len cl base k
  obtain ⟨a1, a2⟩ := hsa.gs_ne hL (by decide) (by decide)
  obtain ⟨b1, b2⟩ := hsa.gs_ne hO (by decide) (by decide)
  have hsa2 := hsa.other (p := ⟨gL, k, none⟩) (fun e => a1 (by rw [← e]; rfl)) (a2 gL rfl) (.int .u8 v1)
  have hsa3 := hsa2.other (p := ⟨gO, k, none⟩) (fun e => b1 (by rw [← e]; rfl)) (b2 gO rfl) (.int .u8 v2)
  have hL2 := hL.set_ k v1
  have hL3 := hL2.other (p := ⟨gO, k, none⟩) (fun e => h.ne (by injection e)) (.int .u8 v2)
  have hO2 := hO.other (p := ⟨gL, k, none⟩) (fun e => h.ne (by injection e with e; exact e.symm)) (.int .u8 v1)
  have hO3 := hO2.set_ k v2
  rw [rep_set l1 hk] at hL3
  rw [rep_set l2 hk] at hO3
  have gL1 := (hL.lt gL rfl).1
  have gO1 := (hO.lt gO rfl).1
  refine ⟨r', ⟨by rw [he]; exact hsa3, by rw [he]; exact hL3, by rw [he]; exact hO3, (hM.other (p := ⟨gL, k, none⟩) (own_ty_ne hL hM (by decide)) _).other (p := ⟨gO, k, none⟩) (own_ty_ne hO hM (by decide)) _, map_other (map_other hmap (p := ⟨gL, k, none⟩) (own_map_ne hL hmap) _) (p := ⟨gO, k, none⟩) (own_map_ne hO hmap) _,
    Below.setCell (Below.setCell hbel (p := ⟨gL, k, none⟩) gL1 _) (p := ⟨gO, k, none⟩) gO1 _, h.ne, h.low⟩⟩
end
end Go.Proofs.Ytaojjneajiobnaa

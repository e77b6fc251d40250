/-
  Words for memory that the walks of this seat share: a slice of integers that reads as a list; a slice of the call's own; one-cell blocks; small laws.
-/
import Derived.Test.YtaojjneajiobnaaRows
import Derived.WalkKit
import Derived.WalkSpells
import Derived.WalkLawsBesides
namespace Go.Proofs.Ytaojjneajiobnaa
open Go.RowKit

theorem hide {p : Prop} (h : p) : Hid p := h
theorem ret_int {k : IntKind} {a b : Int} (h : a = b) : Ending.returned (.int k a) = .returned (.int k b) := by rw [h]
theorem ret_bool {a b : Bool} (h : a = b) : Ending.returned (.bool a) = .returned (.bool b) := by rw [h]
theorem addr_add (b o j : Nat) : (⟨b, o, none⟩ : Addr).add j = ⟨b, o + j, none⟩ := by unfold Addr.add; split <;> simp_all

/-- every number is a byte -/
def U8 (zs : List Int) : Prop := ∀ z, z ∈ zs → 0 ≤ z ∧ z ≤ 255
theorem U8.nil : U8 [] := fun _ h => by cases h
theorem U8.cons {z : Int} {zs : List Int} (h : 0 ≤ z ∧ z ≤ 255) (hs : U8 zs) : U8 (z :: zs) := by
  intro x hx
  rcases List.mem_cons.1 hx with rfl | h'
  · exact h
  · exact hs _ h'
theorem U8.app {xs ys : List Int} (h : U8 xs) (k : U8 ys) : U8 (xs ++ ys) := by
  intro x hx
  rcases List.mem_append.1 hx with h' | h'
  · exact h _ h'
  · exact k _ h'
theorem U8.at_ {zs : List Int} (h : U8 zs) {k : Nat} {z : Int} (hz : zs[k]? = some z) : 0 ≤ z ∧ z ≤ 255 := h z (List.mem_of_getElem? hz)

/-- the slice value '.slice A n _' reads as the list zs of integers of kind k -/
def Rd (k : IntKind) (w : World) (A : Option Addr) (n : Nat) (zs : List Int) : Prop :=
  zs.length = n ∧ n ≤ 9223372036854775807 ∧ (0 < n → ∃ b off, A = some ⟨b, off, none⟩ ∧ b < w.heap.size ∧ ∀ j, j < n → w.cell? ⟨b, off + j, none⟩ = some (.int k (zs.getD j 0)))

section
variable {k : IntKind} {w w' : World} {A : Option Addr} {n : Nat} {zs : List Int}
theorem Rd.len (h : Rd k w A n zs) : zs.length = n := h.1
theorem Rd.max (h : Rd k w A n zs) : n ≤ 9223372036854775807 := h.2.1
theorem Rd.at_ (h : Rd k w A n zs) {j : Nat} (hj : j < n) :
    ∃ b off z, A = some ⟨b, off, none⟩ ∧ b < w.heap.size ∧ Hid (zs[j]? = some z) ∧ w.cell? ⟨b, off + j, none⟩ = some (.int k z) := by
  obtain ⟨hl, _, hr⟩ := h
  obtain ⟨b, off, hA, hb, hc⟩ := hr (by omega)
  have hz : zs[j]? = some zs[j] := List.getElem?_eq_getElem (by omega)
  refine ⟨b, off, zs[j], hA, hb, hz, ?_⟩
  rw [hc j hj]
  simp [List.getD, hz]
theorem Rd.cell {b off : Nat} (h : Rd k w (some ⟨b, off, none⟩) n zs) {j : Nat} (hj : j < n) : ∃ z, Hid (zs[j]? = some z) ∧ w.cell? ⟨b, off + j, none⟩ = some (.int k z) := by
  obtain ⟨b', off', z, hA, _, hz, hc⟩ := h.at_ hj
  injection hA with hA
  injection hA with h1 h2
  subst h1; subst h2
  exact ⟨z, hz, hc⟩
theorem Rd.keep (h : Rd k w A n zs) (hs : w.heap.size ≤ w'.heap.size) (hk : ∀ p : Addr, p.block < w.heap.size → w'.cell? p = w.cell? p) : Rd k w' A n zs := by
  refine ⟨h.1, h.2.1, fun hn => ?_⟩
  obtain ⟨b, off, hA, hb, hc⟩ := h.2.2 hn
  exact ⟨b, off, hA, by omega, fun j hj => (hk ⟨b, off + j, none⟩ hb).trans (hc j hj)⟩
theorem Rd.below (h : Rd k w A n zs) (hb : Below w.heap.size w w') : Rd k w' A n zs := h.keep hb.size fun _ hp => hb.cell hp
theorem Rd.drew (h : Rd k w A n zs) : Rd k w.drew A n zs := h
theorem Rd.alloc (h : Rd k w A n zs) (o : Obj) : Rd k (w.alloc o) A n zs := h.keep (by simp) fun p hp => World.cell?_alloc_lt w o p hp
theorem Rd.nil (k : IntKind) (w : World) (A : Option Addr) : Rd k w A 0 [] := ⟨rfl, by omega, fun h => absurd h (by omega)⟩
theorem Rd.of_block {b : Nat} {t : TypeId} {cs : Array Value} (hb : w.heap[b]? = some (.cells cs t (0, 0))) (hl : zs.length = n) (hm : n ≤ 9223372036854775807)
    (hc : ∀ j, j < n → cs[j]? = some (.int k (zs.getD j 0))) : Rd k w (some ⟨b, 0, none⟩) n zs :=
  ⟨hl, hm, fun _ => ⟨b, 0, rfl, lt_of_block hb, fun j hj => by rw [Nat.zero_add, cell_of_row w b j cs t (0, 0) hb, hc j hj]⟩⟩
end

/-- a slice of the call's own, from block B on, of elements of type e -/
def Own (B : Nat) (e : TypeId) (k : IntKind) (w : World) (A : Option Addr) (n c : Nat) (zs : List Int) : Prop :=
  w.ownsRow B e 1 (.slice A n c) n (zs.map (.int k)) ∧ n ≤ 9223372036854775807

section
variable {B : Nat} {e : TypeId} {k : IntKind} {w w' : World} {A : Option Addr} {n c : Nat} {zs : List Int}
theorem Own.len (h : Own B e k w A n c zs) : zs.length = n := by simpa using h.1.1
theorem Own.rd (h : Own B e k w A n c zs) : Rd k w A n zs := by
  refine ⟨h.len, h.2, fun hn => ?_⟩
  rcases h.1.2 with ⟨_, h0⟩ | ⟨g, cap, cur, hv, _, hg, _⟩
  · omega
  · injection hv with hA _ hc
    subst hA
    refine ⟨g, 0, rfl, lt_of_block hg, fun j hj => ?_⟩
    have h2 := h.1.cells (g := g) rfl j (.int k (zs.getD j 0)) (by
      have : j < zs.length := by rw [h.len]; exact hj
      simp [List.getD, List.getElem?_eq_getElem this])
    rwa [addr_add] at h2
theorem Own.none_ (B : Nat) (e : TypeId) (k : IntKind) (w : World) : Own B e k w none 0 0 [] := ⟨World.ownsRow_nil w B e 1, by omega⟩
theorem Own.lt (h : Own B e k w A n c zs) : ∀ g, (Value.slice A n c).ownBlock = some g → B ≤ g ∧ g < w.heap.size := h.1.lt
theorem Own.kept {row : Option Nat} (h : Own B e k w A n c zs) (hg : w.grownBy w' row) (hne : (Value.slice A n c).ownBlock = none ∨ (Value.slice A n c).ownBlock ≠ row) : Own B e k w' A n c zs := ⟨h.1.kept hg hne, h.2⟩
theorem Own.alloc (h : Own B e k w A n c zs) (o : Obj) : Own B e k (w.alloc o) A n c zs := ⟨h.1.alloc o, h.2⟩
theorem Own.drew (h : Own B e k w A n c zs) : Own B e k w.drew A n c zs := h
theorem Own.below (h : Own B e k w A n c zs) (hb : Below w.heap.size w w') : Own B e k w' A n c zs :=
  h.kept (row := none) ⟨hb.os, hb.tape, hb.output, hb.size, fun i hi _ => hb.block i hi⟩ (by cases (Value.slice A n c).ownBlock <;> simp)
theorem Own.more {B' : Nat} (h : Own B e k w A n c zs) (hB : B' ≤ B) : Own B' e k w A n c zs := by
  refine ⟨⟨h.1.1, ?_⟩, h.2⟩
  rcases h.1.2 with h0 | ⟨g, cap, cur, hv, hb, r⟩
  · exact .inl h0
  · exact .inr ⟨g, cap, cur, hv, by omega, r⟩
theorem Own.set_ {g : Nat} (h : Own B e k w (some ⟨g, 0, none⟩) n c zs) (j : Nat) (z : Int) : Own B e k (w.setCell ⟨g, j, none⟩ (.int k z)) (some ⟨g, 0, none⟩) n c (zs.set j z) := by
  refine ⟨?_, h.2⟩
  have := (h.1.stored j (.int k z)).1
  simpa [List.map_set] using this
theorem Own.other (h : Own B e k w A n c zs) {p : Addr} (hp : (Value.slice A n c).ownBlock ≠ some p.block) (u : Value) : Own B e k (w.setCell p u) A n c zs := ⟨ownsRow_setCell_other h.1 hp u, h.2⟩
end

theorem Own.form {B : Nat} {e : TypeId} {k : IntKind} {w : World} {A : Option Addr} {n c : Nat} {zs : List Int} (h : Own B e k w A n c zs) (hn : 0 < n) :
    ∃ g, A = some ⟨g, 0, none⟩ ∧ B ≤ g ∧ g < w.heap.size ∧ ∀ j, w.frozen? ⟨g, j, none⟩ = false := by
  rcases h.1.2 with ⟨_, h0⟩ | ⟨g, cap, cur, hv, hb, hg, _⟩
  · omega
  · injection hv with hA _ hc
    refine ⟨g, hA, hb, lt_of_block hg, fun j => ?_⟩
    simp [World.frozen?, hg]

theorem Own.at_ {B : Nat} {e : TypeId} {k : IntKind} {w : World} {A : Option Addr} {n c : Nat} {zs : List Int} (h : Own B e k w A n c zs) {j : Nat} (hj : j < n) :
    ∃ g z, A = some ⟨g, 0, none⟩ ∧ B ≤ g ∧ g < w.heap.size ∧ Hid (zs[j]? = some z) ∧ w.cell? ⟨g, j, none⟩ = some (.int k z) ∧ w.frozen? ⟨g, j, none⟩ = false := by
  obtain ⟨g, rfl, hB, hg, hf⟩ := h.form (by omega)
  obtain ⟨b, off, z, hA, _, hz, hc⟩ := h.rd.at_ hj
  injection hA with hA
  injection hA with h1 h2
  subst h1; subst h2
  rw [Nat.zero_add] at hc
  exact ⟨g, z, rfl, hB, hg, hz, hc, hf j⟩

/-- one variable in a block of its own -/
def Var (w : World) (g : Nat) (t : TypeId) (v : Value) : Prop := w.heap[g]? = some (.cells #[v] t (0, 0))
section
variable {w w' : World} {g : Nat} {t : TypeId} {v u : Value}
theorem Var.cell (h : Var w g t v) : w.cell? ⟨g, 0, none⟩ = some v := cell_of_one h
theorem Var.free (h : Var w g t v) : w.frozen? ⟨g, 0, none⟩ = false := free_of_one h
theorem Var.lt (h : Var w g t v) : g < w.heap.size := lt_of_block h
theorem Var.drew (h : Var w g t v) : Var w.drew g t v := h
theorem Var.alloc (h : Var w g t v) (o : Obj) : Var (w.alloc o) g t v := (Below.heap_alloc w o g h.lt).trans h
theorem Var.new (w : World) (t : TypeId) (v : Value) : Var (w.alloc (.cells #[v] t)) w.heap.size t v := heap_alloc_new w _
theorem Var.set_ (h : Var w g t v) : Var (w.setCell ⟨g, 0, none⟩ u) g t u := one_setCell h
theorem Var.other (h : Var w g t v) {p : Addr} (hp : g ≠ p.block) (u : Value) : Var (w.setCell p u) g t v := (Below.heap_setCell w p u g hp).trans h
theorem Var.below {B : Nat} (h : Var w g t v) (hb : Below B w w') (hg : g < B) : Var w' g t v := (hb.block g hg).trans h
theorem Var.grown {row : Option Nat} (h : Var w g t v) (hb : w.grownBy w' row) (hg : some g ≠ row) : Var w' g t v := (hb.block g h.lt hg).trans h
theorem Var.ne_ {g' : Nat} {t' : TypeId} {v' : Value} (h : Var w g t v) (h' : Var w g' t' v') (hne : t ≠ t') : g ≠ g' := by
  rintro rfl
  unfold Var at h h'
  rw [h] at h'
  injection h' with h'
  injection h' with _ ht
  exact hne ht
end

theorem Own.ne_ {B : Nat} {e : TypeId} {k : IntKind} {w : World} {A : Option Addr} {n c : Nat} {zs : List Int} {g : Nat} {t : TypeId} {v : Value} (h : Own B e k w A n c zs) (hg : Var w g t v) (hne : t ≠ e) :
    (Value.slice A n c).ownBlock ≠ some g := by
  rcases h.1.2 with ⟨hv, _⟩ | ⟨g', cap, cur, hv, _, hh, _⟩
  · rw [hv]; simp [Value.ownBlock]
  · rw [hv]
    intro he
    simp only [Value.ownBlock, Option.some.injEq] at he
    subst he
    unfold Var at hg
    rw [hg] at hh
    injection hh with hh
    injection hh with _ ht
    exact hne ht

theorem grown_trans {a b c : World} {r : Option Nat} (h : a.grownBy b r) (k : b.grownBy c r) : a.grownBy c r :=
  ⟨k.os.trans h.os, k.tape.trans h.tape, k.output.trans h.output, Nat.le_trans h.size k.size, fun i hi hne => (k.block i (Nat.lt_of_lt_of_le hi h.size) hne).trans (h.block i hi hne)⟩
theorem grown_setCell {a w : World} {g : Nat} (h : a.grownBy w (some g)) {p : Addr} (hp : p.block = g ∨ a.heap.size ≤ p.block) (u : Value) : a.grownBy (w.setCell p u) (some g) :=
  ⟨h.os, h.tape, h.output, by simpa [World.setCell] using h.size, fun i hi hne => (Below.heap_setCell w p u i (by
    rintro rfl
    rcases hp with hp | hp
    · exact hne (by rw [hp])
    · omega)).trans (h.block i hi hne)⟩
theorem grown_of_below {a w : World} (h : Below a.heap.size a w) (row : Option Nat) : a.grownBy w row := ⟨h.os, h.tape, h.output, h.size, fun i hi _ => h.block i hi⟩
theorem below_of_grown {a w : World} {row : Option Nat} {B : Nat} (h : a.grownBy w row) (hB : B ≤ a.heap.size) (hr : ∀ g, row = some g → B ≤ g) : Below B a w :=
  (Below.refl B a).grown h hB hr

/-! ### append onto a slice of the call's own, from whatever slice -/
theorem own_val {B : Nat} {e : TypeId} {w : World} {v : Value} {n : Nat} {xs : List Value} (h : w.ownsRow B e 1 v n xs) : ∃ A c, v = .slice A n c := by
  rcases h.2 with ⟨rfl, rfl⟩ | ⟨g, cap, cur, rfl, _⟩
  · exact ⟨none, 0, rfl⟩
  · exact ⟨_, _, rfl⟩
theorem map_getD {k : IntKind} {zs : List Int} {j : Nat} {u : Value} (h : (zs.map (Value.int k))[j]? = some u) : j < zs.length ∧ u = .int k (zs.getD j 0) := by
  rw [List.getElem?_map] at h
  cases hz : zs[j]? with
  | none => rw [hz] at h; cases h
  | some z =>
    rw [hz] at h
    injection h with h
    exact ⟨(List.getElem?_eq_some_iff.1 hz).1, by simp [List.getD, hz, h]⟩

/-- what an element type must be for the appends below: its zero, one cell, a few bytes -/
structure Elt (P : Program) (t e : TypeId) (k : IntKind) : Prop where
  ht : P.underlying t = some (.slice e)
  hi : ∃ i z b, P.info? e = some i ∧ i.zero = some z ∧ i.size = 1 ∧ i.bytes = b ∧ b ≤ 8 ∧ z = Value.int k 0

theorem run_app {P : Program} {t e : TypeId} {k : IntKind} (he : Elt P t e k) (ty : TypeId) {w : World} {B : Nat} {A A' : Option Addr} {n c m c' : Nat} {zs ys : List Int}
    (hown : Own B e k w A n c zs) (hr : Rd k w A' m ys) (hnm : n + m ≤ 1000000000) (hB : B ≤ w.heap.size) :
    ∃ A2 c2 w', (Builtin.append_ #[t, t] ty #[.slice A n c, .slice A' m c']).run P w = .ok (.slice A2 (n + m) c2) w' ∧ Own B e k w' A2 (n + m) c2 (zs ++ ys) ∧
      w.grownBy w' (Value.slice A n c).ownBlock ∧ ((Value.slice A2 (n + m) c2).ownBlock = (Value.slice A n c).ownBlock ∨ (Value.slice A2 (n + m) c2).ownBlock = some w.heap.size) := by
  obtain ⟨ht, i, z, b, hi, hz, hs, hb, hb8, rfl⟩ := he
  have h63 : n + m ≤ maxLen := by simp only [maxLen]; omega
  have hby : (n + m) * b ≤ 140737488355328 := Nat.le_trans (Nat.mul_le_mul hnm hb8) (by decide)
  have hall : ∀ u ∈ ys.map (Value.int k), u.oneCell' = true := ints_oneCell k ys
  have key : ∀ a : Addr, (∀ j u, (ys.map (Value.int k))[j]? = some u → w.cell? (a.add j) = some u) →
      ∃ A2 c2 w', (Builtin.append_ #[t, t] ty #[.slice A n c, .slice (some a) m c']).run P w = .ok (.slice A2 (n + m) c2) w' ∧ Own B e k w' A2 (n + m) c2 (zs ++ ys) ∧
        w.grownBy w' (Value.slice A n c).ownBlock ∧ ((Value.slice A2 (n + m) c2).ownBlock = (Value.slice A n c).ownBlock ∨ (Value.slice A2 (n + m) c2).ownBlock = some w.heap.size) := by
    intro a hc
    obtain ⟨v', w', hrun, h2, h3, _, h5⟩ := run_append_own_at (P := P) w B t ty e i (.int k 0) 1 b ht hi hz hs hb rfl (by omega) (.slice A n c) n (zs.map (.int k)) hown.1 a m c' (ys.map (.int k))
      (by rw [List.length_map, hr.len, Nat.mul_one]) hc hall h63 hby hB
    obtain ⟨A2, c2, rfl⟩ := own_val h2
    exact ⟨A2, c2, w', hrun, ⟨by rw [List.map_append]; exact h2, by omega⟩, h3, h5⟩
  rcases Nat.eq_zero_or_pos m with hm | hm
  · subst hm
    have hy : ys = [] := List.eq_nil_of_length_eq_zero hr.len
    subst hy
    cases A' with
    | none =>
      refine ⟨A, c, w, ?_, by simpa using hown, World.grownBy.refl _ _, .inl rfl⟩
      rcases hown.1.2 with ⟨hv, rfl⟩ | ⟨g, cap, cur, hv, _, _, hnc, _⟩
      · injection hv with hA _ hc; subst hA; subst hc
        simp [Builtin.append_, run_underlying ht, sizeOf, typeInfo, hi, Builtin.lenOf, Builtin.firstCells]
      · injection hv with hA _ hc; subst hA; subst hc
        simp [Builtin.append_, run_underlying ht, sizeOf, typeInfo, hi, Builtin.lenOf, Builtin.firstCells, hnc, storeCells]
    | some a => exact key a (fun j u hu => by simp at hu)
  · obtain ⟨b', off, rfl, _, hc⟩ := hr.2.2 hm
    exact key _ (fun j u hu => by
      obtain ⟨hj, rfl⟩ := map_getD hu
      rw [addr_add]
      exact hc j (by rw [← hr.len]; exact hj))

theorem wpList_app {P : Program} {t e : TypeId} {k : IntKind} (he : Elt P t e k) {w : World} {ops : Array Oper} {rest : List Oper} {o : Oper} {a : Act} {Q : Exit → Act → World → Prop} (hgd : o.guard = none) (s x : Operand)
    (ho : o.op = .call { callee := .builtin .append, args := #[s, x], argTypes := #[t, t] }) {B : Nat} {A A' : Option Addr} {n c m c' : Nat} {zs ys : List Int} (hs : a.eval s = .slice A n c) (hx : a.eval x = .slice A' m c')
    (hown : Own B e k w A n c zs) (hr : Rd k w A' m ys) (hnm : n + m ≤ 1000000000) (hB : B ≤ w.heap.size)
    (h : ∀ A2 c2 w', Own B e k w' A2 (n + m) c2 (zs ++ ys) → w.grownBy w' (Value.slice A n c).ownBlock →
      ((Value.slice A2 (n + m) c2).ownBlock = (Value.slice A n c).ownBlock ∨ (Value.slice A2 (n + m) c2).ownBlock = some w.heap.size) → wpList P ops Q rest (a.put o.dst (.slice A2 (n + m) c2)) w') :
    wpList P ops Q (o :: rest) a w := by
  obtain ⟨A2, c2, w', hrun, h2, h3, h4⟩ := run_app (P := P) he o.type (c' := c') hown hr hnm hB
  refine wpList_plain hgd fun K hK => ?_
  unfold Oper.wp execOp
  simp only [ho, resolve, invoke, builtin, Sem.run_bind, Sem.run_pure, Result.andThen_ok, List.map_toArray, List.map_cons, List.map_nil, hs, hx, hrun]
  exact hK _ _ (h A2 c2 w' h2 h3 h4)

theorem own_empty (B : Nat) (e : TypeId) (k : IntKind) (w : World) (g : Nat) (hg : g = w.heap.size) (hB : B ≤ g) : Own B e k (w.alloc (.cells #[] e)) (some ⟨g, 0, none⟩) 0 0 [] := by
  subst hg
  exact ⟨World.ownsRow_made w #[] 0 hB (by decide) rfl, by omega⟩

end Go.Proofs.Ytaojjneajiobnaa

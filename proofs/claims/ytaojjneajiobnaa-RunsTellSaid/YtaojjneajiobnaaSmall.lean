/-
  The small functions' contracts: bytes, places, what opens an isolate; more words for memory.
-/
import Derived.Test.YtaojjneajiobnaaBase
import Derived.Deep.RegionLaw
import Derived.Deep.QuietTactic
import Derived.BigQuiet
import Derived.IntWalk
namespace Go.Proofs.Ytaojjneajiobnaa
open Go.RowKit

theorem info5 : (Try.prog.info? 5).map (fun i => (i.zero, i.size, i.bytes)) = some (some (.int .u8 0), 1, 1) := by kernel_rfl
theorem elt8 : Elt Try.prog 22 5 .u8 := by
  obtain ⟨i, h1, h2, h3, h4⟩ := info_parts info5
  exact ⟨Try.underlying22, i, _, 1, h1, h2, h3, h4, by omega, rfl⟩
theorem info3 : (Try.prog.info? 3).map (fun i => (i.zero, i.size, i.bytes)) = some (some (.int .i64 0), 1, 8) := by kernel_rfl
theorem elt64 : Elt Try.prog 28 3 .i64 := by
  obtain ⟨i, h1, h2, h3, h4⟩ := info_parts info3
  exact ⟨Try.underlying28, i, _, 8, h1, h2, h3, h4, by omega, rfl⟩
theorem info21 : (Try.prog.info? 21).map (fun i => (i.zero, i.size, i.bytes)) = some (some (.int .i32 0), 1, 4) := by kernel_rfl
theorem elt32 : Elt Try.prog 23 21 .i32 := by
  obtain ⟨i, h1, h2, h3, h4⟩ := info_parts info21
  exact ⟨Try.underlying23, i, _, 4, h1, h2, h3, h4, by omega, rfl⟩

/-- the call answers a slice of its own that reads as zs -/
def RetSl (B : Nat) (e : TypeId) (k : IntKind) (zs : List Int) (w : World) (en : Ending) (w' : World) : Prop :=
  ∃ A c, en = .returned (.slice A zs.length c) ∧ Own B e k w' A zs.length c zs ∧ Below B w w'

theorem own_one (B : Nat) (e : TypeId) (k : IntKind) (z : Int) (w : World) (g : Nat) (hg : g = w.heap.size) (hB : B ≤ g) : Own B e k (w.alloc (.cells #[.int k z] e)) (some ⟨g, 0, none⟩) 1 1 [z] := by
  subst hg
  exact ⟨⟨rfl, .inr ⟨w.heap.size, 1, #[.int k z], rfl, hB, heap_alloc_new w _, Nat.le_refl _, by decide, rfl, rfl⟩⟩, by omega⟩

theorem rd_to {k : IntKind} {w : World} {A : Option Addr} {n m : Nat} {zs : List Int} (h : Rd k w A n zs) (hm : m ≤ n) : Rd k w A m (zs.take m) := by
  refine ⟨by rw [List.length_take, h.len]; omega, by have := h.max; omega, fun h0 => ?_⟩
  obtain ⟨b, off, hA, hb, hc⟩ := h.2.2 (by omega)
  refine ⟨b, off, hA, hb, fun j hj => ?_⟩
  rw [hc j (by omega)]
  simp [List.getD, hj]

theorem rd_from {k : IntKind} {w : World} {b off n m : Nat} {zs : List Int} (h : Rd k w (some ⟨b, off, none⟩) n zs) (hm : m ≤ n) : Rd k w (some ⟨b, off + m, none⟩) (n - m) (zs.drop m) := by
  refine ⟨by rw [List.length_drop, h.len], by have := h.max; omega, fun h0 => ?_⟩
  obtain ⟨b', off', hA, hb, hc⟩ := h.2.2 (by omega)
  injection hA with hA
  injection hA with h1 h2
  subst h1; subst h2
  refine ⟨b, off + m, rfl, hb, fun j hj => ?_⟩
  rw [Nat.add_assoc, hc (m + j) (by omega)]
  simp [List.getD]
theorem step_app {P : Program} {t e : TypeId} {k : IntKind} (he : Elt P t e k) {w : World} {ops : Array Oper} {o : Oper} {a : Act} {K : Act → World → Prop} {Q : Exit → Act → World → Prop} {E : Prop} (hgd : o.guard = none) (s x : Operand)
    (ho : o.op = .call { callee := .builtin .append, args := #[s, x], argTypes := #[t, t] }) {B : Nat} {A A' : Option Addr} {n c m c' : Nat} {zs ys : List Int} (hs : a.eval s = .slice A n c) (hx : a.eval x = .slice A' m c')
    (hown : Own B e k w A n c zs) (hr : Rd k w A' m ys) (hnm : n + m ≤ 1000000000) (hB : B ≤ w.heap.size)
    (h : ∀ A2 c2 w', Own B e k w' A2 (n + m) c2 (zs ++ ys) → w.grownBy w' (Value.slice A n c).ownBlock →
      ((Value.slice A2 (n + m) c2).ownBlock = (Value.slice A n c).ownBlock ∨ (Value.slice A2 (n + m) c2).ownBlock = some w.heap.size) → K (a.put o.dst (.slice A2 (n + m) c2)) w') :
    if Region.wanted o (yielded ops a.tmps) = true then Oper.wp P o a w K Q else E := by
  have hw : Region.wanted o (yielded ops a.tmps) = true := by simp [Region.wanted, hgd]
  rw [if_pos hw]
  obtain ⟨A2, c2, w', hrun, h2, h3, h4⟩ := run_app (P := P) he o.type (c' := c') hown hr hnm hB
  unfold Oper.wp execOp
  simp only [ho, resolve, invoke, builtin, Sem.run_bind, Sem.run_pure, Result.andThen_ok, List.map_toArray, List.map_cons, List.map_nil, hs, hx, hrun]
  exact h _ _ _ h2 h3 h4

theorem block_ne {o1 o2 o3 : Option Nat} {h : Nat} (hne : o1 ≠ o2) (h3 : o3 = o1 ∨ o3 = some h) (hlt : ∀ g, o2 = some g → g < h) : o3 ≠ o2 := by
  rcases h3 with rfl | rfl
  · exact hne
  · intro e
    have := hlt h e.symm
    omega
theorem Own.far {B : Nat} {e : TypeId} {k : IntKind} {w : World} {A : Option Addr} {n c q : Nat} {zs : List Int} {o : Option Nat} (h : Own B e k w A n c zs) (ho : o = some q) (hq : w.heap.size ≤ q) : (Value.slice A n c).ownBlock ≠ o := by
  intro he
  have := (h.lt q (he.trans ho)).2
  omega

/-! ### Same -/
theorem strOfNums_inj : ∀ (xs ys : List Int), U8 xs → U8 ys → strOfNums xs = strOfNums ys → xs = ys := by
  intro xs ys hx hy h
  have h1 : (strOfNums xs).data.toList = (strOfNums ys).data.toList := by rw [h]
  rw [strOfNums_data, strOfNums_data] at h1
  clear h
  induction xs generalizing ys with
  | nil => cases ys with
    | nil => rfl
    | cons y ys => simp at h1
  | cons x xs ih => cases ys with
    | nil => simp at h1
    | cons y ys =>
      simp only [List.map_cons, List.cons.injEq] at h1
      obtain ⟨h1, h2⟩ := h1
      have hx0 := hx x (by simp)
      have hy0 := hy y (by simp)
      have h3 : (UInt8.ofNat x.toNat).toNat = (UInt8.ofNat y.toNat).toNat := by rw [h1]
      simp only [UInt8.toNat_ofNat'] at h3
      rw [Nat.mod_eq_of_lt (by omega), Nat.mod_eq_of_lt (by omega)] at h3
      have : x = y := by omega
      subst this
      rw [ih ys (fun z hz => hx z (by simp [hz])) (fun z hz => hy z (by simp [hz])) h2]

theorem run_conv (w : World) (A : Option Addr) (n c : Nat) (zs : List Int) (h : Rd .u8 w A n zs) :
    (convert 22 9 (.slice A n c)).run Try.prog w = .ok (.string (strOfNums zs)) w := by
  rcases Nat.eq_zero_or_pos n with rfl | hn
  · have hz : zs = [] := List.eq_nil_of_length_eq_zero h.len
    subst hz
    rw [run_convert_bytes_string w 22 9 5 _ 0 c Try.underlying22 Try.underlying5 Try.underlying9]
    cases A <;> simp [Conv.bytesToString, loadCells]
    all_goals rfl
  · obtain ⟨b, off, rfl, _, hc⟩ := h.2.2 hn
    exact run_convert_bytes_arg w 22 5 Try.underlying22 Try.underlying5 b off n c zs h.len hc 9 Try.underlying9

def sameB (xs ys : List Int) : Bool := decide (xs = ys)
set_option maxHeartbeats 400000 in
theorem same_any (A A' : Option Addr) (n n' c c' : Nat) (xs ys : List Int) (w : World) (hx : Rd .u8 w A n xs) (hy : Rd .u8 w A' n' ys) (ux : U8 xs) (uy : U8 ys) :
    Calls Try.prog 21 #[.slice A n c, .slice A' n' c'] w fun e w' => e = .returned (.bool (sameB xs ys)) ∧ w = w' := by
  have r1 := run_conv w A n c xs hx
  have r2 := run_conv w A' n' c' ys hy
  have h3 : ((strOfNums xs).toList == (strOfNums ys).toList) = sameB xs ys := by
    unfold sameB
    rw [ByteArray.toList_eq, ByteArray.toList_eq]
    by_cases h : xs = ys
    · subst h; simp
    · have : (strOfNums xs).data.toList ≠ (strOfNums ys).data.toList := fun h' => h (strOfNums_inj xs ys ux uy (by
        have : (strOfNums xs).data = (strOfNums ys).data := Array.toList_inj.1 h'
        rw [ByteArray.ext_iff]; exact this))
      rw [decide_eq_false h]
      exact beq_eq_false_iff_ne.2 this
  clear hx hy
  generalize strOfNums xs = s1 at *
  generalize strOfNums ys = s2 at *
  have H := hide h3
  clear h3
  go_enter Try.func21, Try.ntmps21
  go_wp2
  go_ret
  exact ⟨ret_bool H.out, rfl⟩



theorem sameB_self (l : List Int) : sameB l l = true := by simp [sameB]

/-! ### what opens an isolate -/
def opS (c : Int) : Bool := 19 ≤ c && c ≤ 21
theorem opS_cases (c : Int) : c = 19 ∨ c = 20 ∨ c = 21 ∨ ((c == 19) = false ∧ (c == 20) = false ∧ (c == 21) = false ∧ Hid (opS c = false)) := by
  simp only [beq_eq_false_iff_ne, Hid, opS]
  by_cases h1 : c = 19
  · exact .inl h1
  · by_cases h2 : c = 20
    · exact .inr (.inl h2)
    · by_cases h3 : c = 21
      · exact .inr (.inr (.inl h3))
      · exact .inr (.inr (.inr ⟨h1, h2, h3, by simp; omega⟩))
set_option maxHeartbeats 400000 in
theorem op45 (c : Int) (w : World) : Calls Try.prog 45 #[.int .u8 c] w fun e w' => e = .returned (.bool (opS c)) ∧ w = w' := by
  rcases opS_cases c with rfl | rfl | rfl | ⟨h1, h2, h3, h4⟩
  all_goals
    go_enter Try.func45, Try.ntmps45
    go_wp2
    go_ret
    first | exact ⟨rfl, rfl⟩ | exact ⟨ret_bool h4.out.symm, rfl⟩
set_option maxHeartbeats 400000 in
theorem op54 (c : Int) (w : World) : Calls Try.prog 54 #[.int .u8 c] w fun e w' => e = .returned (.bool (opS c)) ∧ w = w' := by
  rcases opS_cases c with rfl | rfl | rfl | ⟨h1, h2, h3, h4⟩
  all_goals
    go_enter Try.func54, Try.ntmps54
    go_wp2
    go_ret
    first | exact ⟨rfl, rfl⟩ | exact ⟨ret_bool h4.out.symm, rfl⟩
theorem opS_two (c : Int) : (19 ≤ c ∧ c ≤ 21 ∧ Hid (opS c = true)) ∨ (c < 19 ∧ Hid (opS c = false)) ∨ (19 ≤ c ∧ decide (c ≤ 21) = false ∧ Hid (opS c = false)) := by
  simp only [Hid, opS]
  by_cases h1 : 19 ≤ c
  · by_cases h2 : c ≤ 21
    · exact .inl ⟨h1, h2, by simp; omega⟩
    · exact .inr (.inr ⟨h1, by simp; omega, by simp; omega⟩)
  · exact .inr (.inl ⟨by omega, by simp; omega⟩)
set_option maxHeartbeats 400000 in
theorem op22 (c : Int) (w : World) : Calls Try.prog 22 #[.int .u8 c] w fun e w' => e = .returned (.bool (opS c)) ∧ w = w' := by
  rcases opS_two c with ⟨h1, h2, h3⟩ | ⟨h1, h3⟩ | ⟨h1, h2, h3⟩
  all_goals
    go_enter Try.func22, Try.ntmps22
    go_wp2
    go_ret
    exact ⟨ret_bool h3.out.symm, rfl⟩
set_option maxHeartbeats 400000 in
theorem op41 (c : Int) (w : World) : Calls Try.prog 41 #[.int .u8 c] w fun e w' => e = .returned (.bool (opS c)) ∧ w = w' := by
  rcases opS_two c with ⟨h1, h2, h3⟩ | ⟨h1, h3⟩ | ⟨h1, h2, h3⟩
  all_goals
    go_enter Try.func41, Try.ntmps41
    go_wp2
    go_ret
    exact ⟨ret_bool h3.out.symm, rfl⟩
end Go.Proofs.Ytaojjneajiobnaa

/-
  One more sequence: the append.
-/
import Derived.Test.YtaojjneajiobnaaRunK
import Derived.Test.YtaojjneajiobnaaAwL
namespace Go.Proofs.Ytaojjneajiobnaa
open Go.RowKit Go.Maps

theorem info49 : (Try.prog.info? 49).map (fun i => (i.zero, i.size, i.bytes)) = some (some (.agg #[.slice none 0 0, .int .u8 0, .int .u8 0, .int .u8 0]), 4, 32) := by kernel_rfl
theorem run_appQ {w : World} {B : Nat} {v : Value} {n g c' : Nat} {ys : List Value} {lv st : Int} (ty : TypeId) (hown : w.ownsRow B 49 4 v n ys) (hg : w.heap[g]? = some (.cells #[.slice none 0 0, .int .u8 lv, .int .u8 st, .int .u8 0] 49 (0, 0))) (hn : n ≤ 1000000) (hB : B ≤ w.heap.size) :
    ∃ A2 c2 w', (Builtin.append_ #[43, 43] ty #[v, .slice (some ⟨g, 0, none⟩) 1 c']).run Try.prog w = .ok (.slice A2 (n + 1) c2) w' ∧ w'.ownsRow B 49 4 (.slice A2 (n + 1) c2) (n + 1) (ys ++ [.slice none 0 0, .int .u8 lv, .int .u8 st, .int .u8 0]) ∧ w.grownBy w' v.ownBlock := by
  obtain ⟨i, hi, hz, hs, hby⟩ := info_parts info49
  obtain ⟨v', w', hrun, h2, h3, _, h5⟩ := run_append_own_at (P := Try.prog) w B 43 ty 49 i _ 4 32 Try.underlying43 hi hz hs hby rfl (by omega) v n ys hown ⟨g, 0, none⟩ 1 c' [.slice none 0 0, .int .u8 lv, .int .u8 st, .int .u8 0]
    rfl (fun j u hu => by rw [addr_add, Nat.zero_add, cell_of_row _ _ _ _ _ _ hg]; simpa using hu) (by intro u hu; simp at hu; rcases hu with rfl | rfl | rfl | rfl <;> rfl) (by simp only [maxLen]; omega) (by omega) hB
  obtain ⟨A2, c2, rfl⟩ := own_form h2 (by omega)
  exact ⟨_, c2, w', hrun, h2, h3⟩
theorem wpList_appQ {w : World} {ops : Array Oper} {rest : List Oper} {o : Oper} {a : Act} {Q : Exit → Act → World → Prop} (hgd : o.guard = none) (s x : Operand)
    (ho : o.op = .call { callee := .builtin .append, args := #[s, x], argTypes := #[43, 43] }) {B : Nat} {v : Value} {n g c' : Nat} {ys : List Value} {lv st : Int} (hs : a.eval s = v) (hx : a.eval x = .slice (some ⟨g, 0, none⟩) 1 c')
    (hown : w.ownsRow B 49 4 v n ys) (hg : w.heap[g]? = some (.cells #[.slice none 0 0, .int .u8 lv, .int .u8 st, .int .u8 0] 49 (0, 0))) (hn : n ≤ 1000000) (hB : B ≤ w.heap.size)
    (h : ∀ A2 c2 w', w'.ownsRow B 49 4 (.slice A2 (n + 1) c2) (n + 1) (ys ++ [.slice none 0 0, .int .u8 lv, .int .u8 st, .int .u8 0]) → w.grownBy w' v.ownBlock → wpList Try.prog ops Q rest (a.put o.dst (.slice A2 (n + 1) c2)) w') :
    wpList Try.prog ops Q (o :: rest) a w := by
  obtain ⟨A2, c2, w', hrun, h2, h3⟩ := run_appQ o.type (c' := c') hown hg hn hB
  refine wpList_plain hgd fun K hK => wp_val (v := .slice A2 (n + 1) c2) ?_ (hK _ _ (h A2 c2 w' h2 h3))
  unfold execOp
  simp only [ho, resolve, invoke, builtin, Sem.run_bind, Sem.run_pure, Result.andThen_ok, List.map_toArray, List.map_cons, List.map_nil, hs, hx, hrun]
theorem Sq.form {B : Nat} {w : World} {v : Value} {xs : List QV} (h : Sq B w v xs) : ∃ A c, v = .slice A xs.length c := by
  rcases h.row.2 with ⟨rfl, h0⟩ | ⟨g, cap, cur, rfl, _⟩
  · exact ⟨none, 0, by rw [h0]⟩
  · exact ⟨_, _, rfl⟩
theorem lvAt_bd {lv kp : List Int} (h : ∀ x ∈ lv, 0 ≤ x ∧ x ≤ 125) (t : Nat) : 0 ≤ lvAt lv kp t ∧ lvAt lv kp t ≤ 125 := by
  unfold lvAt
  generalize (kp.getD t 0).toNat = i
  cases hx : lv[i]? with
  | none => rw [List.getD, hx]; exact ⟨by decide, by decide⟩
  | some y => rw [List.getD, hx]; exact h y (List.mem_of_getElem? hx)
theorem atS_bd {lv kp : List Int} {base n : Int} (h : ∀ x ∈ lv, 0 ≤ x ∧ x ≤ 125) (hb : 0 ≤ base ∧ base ≤ 1) : 0 ≤ atS lv kp base n ∧ atS lv kp base n ≤ 255 := by
  unfold atS
  split
  · omega
  · have := lvAt_bd (kp := kp) h n.toNat
    omega
theorem getD_of' {xs : List Int} {k : Nat} {z : Int} (h : xs[k]? = some z) : xs.getD k 0 = z := by simp [List.getD, h]
end Go.Proofs.Ytaojjneajiobnaa

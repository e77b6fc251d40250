/-
  What opens one within the other, and is closed the other way about.
-/
import Derived.Test.YtaojjneajiobnaaNst
namespace Go.Proofs.Ytaojjneajiobnaa

theorem end_embed {s : PS} {k : Nat} (hf : Fit s k) (x : Int) : endS (embedS s x) = s := by
  by_cases hc : 125 < nextS s.top.lv (x == 15 || x == 18) ∨ 0 < s.is + s.em
  · by_cases hi : s.is = 0
    · rw [embed_no0 hc hi, end_b (by simp only; omega) (by simp only; omega)]
      exact ps_eq rfl rfl (by simp only; omega) rfl
    · rw [embed_no1 hc hi, end_a (by omega)]
  · rw [embed_yes hc, push_yes hc]
    rw [end_e (by simp only; omega) (by simp only; omega) ⟨rfl, by simp only [List.length_cons]; have := List.length_pos_iff.2 hf.ne; omega⟩]
    rfl
/-- a step where no FSI is -/
def stepN (s : PS) (x : Int) : PS := (stepS false s x).1
theorem step_f {f g : Bool} {s : PS} {x : Int} (hx : x ≠ 21) : stepS f s x = stepS g s x := by
  have : (x == 21) = false := by simpa using hx
  unfold stepS
  rw [this]
  simp
theorem exp_fold {cl : List Int} (base : Int) (h : ∀ x ∈ cl, x ≠ 21) : ∀ k, k ≤ cl.length → (expSt cl base k).1 = (cl.take k).foldl stepN (start base)
  | 0, _ => by simp [expSt]
  | k + 1, hk => by
    have ih := exp_fold base h k (by omega)
    have hg : cl.getD k 0 = cl[k] := by simp [List.getD, List.getElem?_eq_getElem (show k < cl.length by omega)]
    rw [List.take_succ_eq_append_getElem (by omega), List.foldl_append, ← ih]
    show (stepS (fsiAt cl k) (expSt cl base k).1 (cl.getD k 0)).1 = _
    rw [hg, step_f (g := false) (h _ (List.getElem_mem _))]
    rfl
theorem level_in {cl : List Int} (base : Int) (h : ∀ x ∈ cl, x ≠ 21) {k : Nat} (hk : cl[k]? = some 0) : (levelsS cl base)[k]? = some ((cl.take k).foldl stepN (start base)).top.lv := by
  have hl : k < cl.length := (List.getElem?_eq_some_iff.1 hk).1
  rw [levels_at hl, getD_of hk, exp_fold base h k (by omega)]
  rfl

/-! ### kinds -/
def openR (k : Int) : Int := if k % 6 = 0 then 8234 else if k % 6 = 1 then 8235 else if k % 6 = 2 then 8237 else if k % 6 = 3 then 8238 else if k % 6 = 4 then 8294 else 8295
def closeR (k : Int) : Int := if k % 6 < 4 then 8236 else 8297
def openC (k : Int) : Int := if k % 6 = 0 then 14 else if k % 6 = 1 then 15 else if k % 6 = 2 then 17 else if k % 6 = 3 then 18 else if k % 6 = 4 then 19 else 20
def closeC (k : Int) : Int := if k % 6 < 4 then 16 else 22
theorem kind_cases (k : Int) : k % 6 = 0 ∨ k % 6 = 1 ∨ k % 6 = 2 ∨ k % 6 = 3 ∨ k % 6 = 4 ∨ k % 6 = 5 := by omega
theorem cls_consts : cls 8234 = 14 ∧ cls 8235 = 15 ∧ cls 8237 = 17 ∧ cls 8238 = 18 ∧ cls 8294 = 19 ∧ cls 8295 = 20 ∧ cls 8236 = 16 ∧ cls 8297 = 22 ∧ cls 97 = 0 ∧ cls 98 = 0 := by decide +kernel
theorem cls_open (k : Int) : cls (openR k) = openC k := by
  obtain ⟨h0, h1, h2, h3, h4, h5, _⟩ := cls_consts
  unfold openR openC
  rcases kind_cases k with h | h | h | h | h | h <;> simp [*]
theorem cls_close (k : Int) : cls (closeR k) = closeC k := by
  obtain ⟨_, _, _, _, _, _, h6, h7, _⟩ := cls_consts
  unfold closeR closeC
  split <;> assumption
/-- all that LevelDepth lays -/
def depthR (K : List Int) : List Int := K.map openR ++ [97] ++ (K.reverse.map closeR) ++ [98]
def depthC (K : List Int) : List Int := K.map openC ++ [0] ++ (K.reverse.map closeC) ++ [0]
theorem depth_cls (K : List Int) : (depthR K).map cls = depthC K := by
  obtain ⟨_, _, _, _, _, _, _, _, h8, h9⟩ := cls_consts
  unfold depthR depthC
  simp only [List.map_append, List.map_map, List.map_cons, List.map_nil, h8, h9]
  rw [show (cls ∘ openR) = openC from funext cls_open, show (cls ∘ closeR) = closeC from funext cls_close]
theorem openC_in (k : Int) : openC k = 14 ∨ openC k = 15 ∨ openC k = 17 ∨ openC k = 18 ∨ openC k = 19 ∨ openC k = 20 := by
  unfold openC
  rcases kind_cases k with h | h | h | h | h | h <;> simp [h]
theorem closeC_in (k : Int) : closeC k = 16 ∨ closeC k = 22 := by unfold closeC; split <;> simp
theorem depth_no21 (K : List Int) : ∀ x ∈ depthC K, x ≠ 21 := by
  intro x hx
  simp only [depthC, List.mem_append, List.mem_map, List.mem_singleton] at hx
  rcases hx with ((⟨k, _, rfl⟩ | rfl) | ⟨k, _, rfl⟩) | rfl
  · have := openC_in k; omega
  · decide
  · have := closeC_in k; omega
  · decide
def oddK (k : Int) : Bool := decide (k % 6 % 2 = 1)
theorem stepN_open (s : PS) (k : Int) : (k % 6 < 4 ∧ stepN s (openC k) = embedS s (openC k) ∧ (openC k == 15 || openC k == 18) = oddK k) ∨ (¬ k % 6 < 4 ∧ stepN s (openC k) = openS s (oddK k)) := by
  unfold stepN openC oddK
  rcases kind_cases k with h | h | h | h | h | h <;> simp [h, stepS]
theorem stepN_back {s : PS} {j : Nat} (hf : Fit s j) (k : Int) : stepN (stepN s (openC k)) (closeC k) = s := by
  rcases stepN_open s k with ⟨h1, h2, _⟩ | ⟨h1, h2⟩
  · rw [h2, show closeC k = 16 by unfold closeC; rw [if_pos h1]]
    exact end_embed hf _
  · rw [h2, show closeC k = 22 by unfold closeC; rw [if_neg h1]]
    exact deep_last (deep_new s _)
theorem stepN_fit {s : PS} {j : Nat} (hf : Fit s j) (k : Int) : Fit (stepN s (openC k)) (j + 1) := by
  rcases stepN_open s k with ⟨h1, h2, _⟩ | ⟨h1, h2⟩ <;> rw [h2]
  · exact embed_fit hf _
  · exact open_fit hf _
theorem fold_back : ∀ (K : List Int) (s : PS) (j : Nat), Fit s j → (K.map openC ++ [0] ++ (K.reverse.map closeC)).foldl stepN s = s
  | [], s, _, _ => rfl
  | k :: K, s, j, hf => by
    have ih := fold_back K (stepN s (openC k)) (j + 1) (stepN_fit hf k)
    have e : (k :: K).map openC ++ [0] ++ ((k :: K).reverse.map closeC) = openC k :: (K.map openC ++ [0] ++ (K.reverse.map closeC) ++ [closeC k]) := by simp
    rw [e, List.foldl_cons, List.foldl_append, ih]
    exact stepN_back hf k
/-- the state behind all that opens -/
def opnS (base : Int) (K : List Int) : PS := (K.map openC).foldl stepN (start base)
theorem opn_fit {base : Int} (hb : 0 ≤ base ∧ base ≤ 1) (K : List Int) : ∃ j, Fit (opnS base K) j := by
  have : ∀ (K : List Int) (s : PS) (j : Nat), Fit s j → ∃ j, Fit ((K.map openC).foldl stepN s) j := by
    intro K
    induction K with
    | nil => exact fun s j h => ⟨j, h⟩
    | cons k K ih => exact fun s j h => ih _ (j + 1) (stepN_fit h k)
  exact this K _ 0 (start_fit hb).1
theorem depth_inner (base : Int) (K : List Int) : (levelsS (depthC K) base)[K.length]? = some (opnS base K).top.lv := by
  have hk : (depthC K)[K.length]? = some 0 := by
    unfold depthC
    rw [List.append_assoc, List.append_assoc, List.getElem?_append_right (by simp)]
    simp
  rw [level_in base (depth_no21 K) hk]
  unfold depthC opnS
  rw [List.append_assoc, List.append_assoc, List.take_append_of_le_length (by simp), List.take_of_length_le (by simp)]
theorem depth_last {base : Int} (hb : 0 ≤ base ∧ base ≤ 1) (K : List Int) : (levelsS (depthC K) base)[2 * K.length + 1]? = some base := by
  have hl : (K.map openC ++ [0] ++ (K.reverse.map closeC)).length = 2 * K.length + 1 := by simp; omega
  have hk : (depthC K)[2 * K.length + 1]? = some 0 := by
    unfold depthC
    rw [List.getElem?_append_right (by omega), hl, Nat.sub_self]; rfl
  rw [level_in base (depth_no21 K) hk]
  unfold depthC
  rw [List.take_append_of_le_length (by omega), List.take_of_length_le (by omega), fold_back K _ 0 (start_fit hb).1]
  rfl
theorem depth_len (K : List Int) : (depthR K).length = 2 * K.length + 2 := by unfold depthR; simp; omega
/-- how LevelDepth keeps the level -/
theorem opn_step (base : Int) (K : List Int) (k : Int) : opnS base (K ++ [k]) = stepN (opnS base K) (openC k) := by
  unfold opnS; rw [List.map_append, List.foldl_append]; rfl
theorem keep_step (s : PS) (k : Int) : (125 < nextS s.top.lv (oddK k) ∨ 0 < s.is + s.em → (stepN s (openC k)).top = s.top ∧ 0 < (stepN s (openC k)).is + (stepN s (openC k)).em) ∧
    (¬ (125 < nextS s.top.lv (oddK k) ∨ 0 < s.is + s.em) → (stepN s (openC k)).top.lv = nextS s.top.lv (oddK k) ∧ (stepN s (openC k)).is + (stepN s (openC k)).em = 0) := by
  rcases stepN_open s k with ⟨h1, h2, h3⟩ | ⟨h1, h2⟩
  · rw [h2]
    constructor
    · intro hc
      rw [← h3] at hc
      by_cases hi : s.is = 0
      · rw [embed_no0 hc hi]; exact ⟨rfl, by simp only; omega⟩
      · rw [embed_no1 hc hi]; exact ⟨rfl, by omega⟩
    · intro hc
      rw [← h3] at hc ⊢
      rw [embed_yes hc, push_yes hc]
      exact ⟨rfl, by simp only; omega⟩
  · rw [h2]
    constructor
    · intro hc
      rw [open_no hc]; exact ⟨rfl, by simp only; omega⟩
    · intro hc
      rw [open_yes hc, push_yes hc]
      exact ⟨rfl, by simp only; omega⟩
end Go.Proofs.Ytaojjneajiobnaa

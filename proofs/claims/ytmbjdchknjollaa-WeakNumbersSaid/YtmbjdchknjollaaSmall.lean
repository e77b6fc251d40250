/-
  The small functions' contracts: bytes, strings, searches.
-/
import Derived.Test.YtmbjdchknjollaaBase
namespace Go.Proofs.Ytmbjdchknjollaa
open Go.RowKit

/-! ### Same -/
theorem strOfNums_inj : ∀ (xs ys : List Int), U8 xs → U8 ys → strOfNums xs = strOfNums ys → xs = ys := by
  intro xs ys hx hy h
  have h1 : (strOfNums xs).data.toList = (strOfNums ys).data.toList := by rw [h]
  rw [strOfNums_data, strOfNums_data] at h1
  clear h
  induction xs generalizing ys with
  | nil => cases ys with
    | nil => rfl
    | cons y ys => simp at h1
  | cons x xs ih => cases ys with
    | nil => simp at h1
    | cons y ys =>
      simp only [List.map_cons, List.cons.injEq] at h1
      obtain ⟨h1, h2⟩ := h1
      have hx0 := hx x (by simp)
      have hy0 := hy y (by simp)
      have h3 : (UInt8.ofNat x.toNat).toNat = (UInt8.ofNat y.toNat).toNat := by rw [h1]
      simp only [UInt8.toNat_ofNat'] at h3
      rw [Nat.mod_eq_of_lt (by omega), Nat.mod_eq_of_lt (by omega)] at h3
      have : x = y := by omega
      subst this
      rw [ih ys (fun z hz => hx z (by simp [hz])) (fun z hz => hy z (by simp [hz])) h2]

theorem run_conv (w : World) (A : Option Addr) (n c : Nat) (zs : List Int) (h : Rd .u8 w A n zs) :
    (convert 22 9 (.slice A n c)).run Try.prog w = .ok (.string (strOfNums zs)) w := by
  rcases Nat.eq_zero_or_pos n with rfl | hn
  · have hz : zs = [] := List.eq_nil_of_length_eq_zero h.len
    subst hz
    rw [run_convert_bytes_string w 22 9 5 _ 0 c Try.underlying22 Try.underlying5 Try.underlying9]
    cases A <;> simp [Conv.bytesToString, loadCells]
    all_goals rfl
  · obtain ⟨b, off, rfl, _, hc⟩ := h.2.2 hn
    exact run_convert_bytes_arg w 22 5 Try.underlying22 Try.underlying5 b off n c zs h.len hc 9 Try.underlying9

def sameB (xs ys : List Int) : Bool := decide (xs = ys)
set_option maxHeartbeats 400000 in
theorem same_any (A A' : Option Addr) (n n' c c' : Nat) (xs ys : List Int) (w : World) (hx : Rd .u8 w A n xs) (hy : Rd .u8 w A' n' ys) (ux : U8 xs) (uy : U8 ys) :
    Calls Try.prog 17 #[.slice A n c, .slice A' n' c'] w fun e w' => e = .returned (.bool (sameB xs ys)) ∧ w = w' := by
  have r1 := run_conv w A n c xs hx
  have r2 := run_conv w A' n' c' ys hy
  have h3 : ((strOfNums xs).toList == (strOfNums ys).toList) = sameB xs ys := by
    unfold sameB
    rw [ByteArray.toList_eq, ByteArray.toList_eq]
    by_cases h : xs = ys
    · subst h; simp
    · have : (strOfNums xs).data.toList ≠ (strOfNums ys).data.toList := fun h' => h (strOfNums_inj xs ys ux uy (by
        have : (strOfNums xs).data = (strOfNums ys).data := Array.toList_inj.1 h'
        rw [ByteArray.ext_iff]; exact this))
      rw [decide_eq_false h]
      exact beq_eq_false_iff_ne.2 this
  clear hx hy
  generalize strOfNums xs = s1 at *
  generalize strOfNums ys = s2 at *
  have H := hide h3
  clear h3
  go_enter Try.func17, Try.ntmps17
  go_wp2
  go_ret
  exact ⟨ret_bool H.out, rfl⟩


/-! ### the classes -/
def neuS (c : Int) : Bool := (10 ≤ c && c ≤ 13) || (19 ≤ c && c ≤ 22)
def wayS (c : Int) : Int := if c = 0 then 0 else if c = 1 ∨ c = 3 ∨ c = 6 then 1 else 255
def way9 (c : Int) : Int := if c = 0 then 0 else if c = 1 ∨ c = 3 ∨ c = 6 then 1 else 9
def implS (c l : Int) : Int := if c = 0 then l + l % 2 else if c = 1 then l + (1 - l % 2) else if c = 3 ∨ c = 6 then l + (2 - l % 2) else l
def impl8 (c l : Int) : Int := implS c l % 256

set_option maxHeartbeats 400000 in
theorem way_any (c : Int) (w : World) : Calls Try.prog 28 #[.int .u8 c] w fun e w' => e = .returned (.int .u8 (wayS c)) ∧ w = w' := by
  go_enter Try.func28, Try.ntmps28
  go_wp2
  all_goals (go_ret; refine ⟨ret_int ?_, rfl⟩; simp_all [wayS])
set_option maxHeartbeats 400000 in
theorem way9_any (c : Int) (w : World) : Calls Try.prog 29 #[.int .u8 c] w fun e w' => e = .returned (.int .u8 (way9 c)) ∧ w = w' := by
  go_enter Try.func29, Try.ntmps29
  go_wp2
  all_goals (go_ret; refine ⟨ret_int ?_, rfl⟩; simp_all [way9])
set_option maxHeartbeats 400000 in
theorem neu_ref (c : Int) (w : World) : Calls Try.prog 14 #[.int .u8 c] w fun e w' => e = .returned (.bool (neuS c)) ∧ w = w' := by
  go_enter Try.func14, Try.ntmps14
  go_wp2
  all_goals (go_ret; refine ⟨ret_bool ?_, rfl⟩; simp_all [neuS]; try omega)
theorem and_one_nat : ∀ n : Fin 256, bits .and .u8 (n.val : Int) 1 = ((n.val % 2 : Nat) : Int) := by decide +kernel
theorem and_one {l : Int} (h0 : 0 ≤ l) (h1 : l ≤ 255) : bits .and .u8 l 1 = l % 2 := by
  obtain ⟨n, rfl⟩ := Int.eq_ofNat_of_zero_le h0
  have := and_one_nat ⟨n, by omega⟩
  simpa using this
theorem ix0 (w : World) : (Instr.index 38 (.agg #[.int .u8 0, .int .u8 1, .int .u8 2, .int .u8 1, .int .u8 0, .int .u8 1]) (.int .u8 0)).run Try.prog w = .ok (.agg #[.int .u8 0, .int .u8 1, .int .u8 2]) w := by kernel_rfl
theorem ix1 (w : World) : (Instr.index 38 (.agg #[.int .u8 0, .int .u8 1, .int .u8 2, .int .u8 1, .int .u8 0, .int .u8 1]) (.int .u8 1)).run Try.prog w = .ok (.agg #[.int .u8 1, .int .u8 0, .int .u8 1]) w := by kernel_rfl
set_option maxHeartbeats 400000 in
theorem impl_any (c l : Int) (hl : 0 ≤ l ∧ l ≤ 255) (w : World) : Calls Try.prog 15 #[.int .u8 c, .int .u8 l] w fun e w' => e = .returned (.int .u8 (impl8 c l)) ∧ Below w.heap.size w w' := by
  have hb0 := and_one hl.1 hl.2
  have hl1 := hl.1
  have hl2 := hl.2
  have i0 := ix0
  have i1 := ix1
  clear hl
  rcases (by omega : l % 2 = 0 ∨ l % 2 = 1) with h2 | h2
  all_goals
    rw [h2] at hb0
    have H2 := hide h2
    clear h2
    go_enter Try.func15, Try.ntmps15
    go_wp2
    all_goals (go_ret; refine ⟨ret_int ?_, (Below.refl _ _).alloc (Nat.le_refl _) _⟩; have := H2.out; simp_all [impl8, implS]; try omega)
set_option maxHeartbeats 400000 in
theorem impl_ref (c l : Int) (hl : 0 ≤ l ∧ l ≤ 255) (w : World) : Calls Try.prog 16 #[.int .u8 c, .int .u8 l] w fun e w' => e = .returned (.int .u8 (impl8 c l)) ∧ w = w' := by
  have hl1 := hl.1
  have hl2 := hl.2
  clear hl
  go_enter Try.func16, Try.ntmps16
  go_wp2
  all_goals (go_ret; refine ⟨ret_int ?_, rfl⟩; simp_all [impl8, implS]; try omega)

/-! ### slices.Contains -/
def idxFrom (x : Int) : List Int → Nat → Int
  | [], _ => -1
  | z :: zs, k => if x = z then k else idxFrom x zs (k + 1)
theorem idx_hit {x z : Int} {zs : List Int} {k : Nat} (hk : zs[k]? = some z) (h : (x == z) = true) : idxFrom x (zs.drop k) k = k := by
  obtain ⟨hk', rfl⟩ := List.getElem?_eq_some_iff.1 hk
  rw [List.drop_eq_getElem_cons hk']
  simp only [beq_iff_eq] at h
  simp [idxFrom, h]
theorem idx_miss {x z : Int} {zs : List Int} {k : Nat} (hk : zs[k]? = some z) (h : (x == z) = false) : idxFrom x (zs.drop k) k = idxFrom x (zs.drop (k+1)) (k+1) := by
  obtain ⟨hk', rfl⟩ := List.getElem?_eq_some_iff.1 hk
  rw [List.drop_eq_getElem_cons hk']
  simp only [beq_eq_false_iff_ne] at h
  simp [idxFrom, h]
set_option maxHeartbeats 400000 in
theorem index_any (A : Option Addr) (n c : Nat) (zs : List Int) (x : Int) (w : World) (h : Rd .u8 w A n zs) :
    Calls Try.prog 44 #[.slice A n c, .int .u8 x] w fun e w' => e = .returned (.int .i64 (idxFrom x zs 0)) ∧ w = w' := by
  have hm := h.max
  go_enter Try.func44, Try.ntmps44
  go_wp2
  go_loop [8] (fun i => ∃ k : Nat, k ≤ n ∧ i = .int .i64 k ∧ Hid (idxFrom x zs 0 = idxFrom x (zs.drop k) k)) (fun i => n - (intOf i).toNat)
  case atStart => exact ⟨0, Nat.zero_le _, rfl, hide rfl⟩
  case round =>
    obtain ⟨k, hk, rfl, he⟩ := hrel
    by_cases hlt : k < n
    · obtain ⟨b, off, z, rfl, _, hz, hck⟩ := h.at_ hlt
      by_cases hx : (x == z) = true
      · go_wp2
        go_ret
        exact ⟨ret_int (he.out.trans (idx_hit hz.out (by simpa using hx))).symm, rfl⟩
      · have hx' : (x == z) = false := by simpa using hx
        clear hx
        have hn := hide (idx_miss hz.out hx')
        go_wp2
        go_round
        case rel => exact ⟨k + 1, by omega, by go_num, hide (he.out.trans hn.out)⟩
        case measure => simp [intOf]; omega
    · obtain rfl : k = n := by omega
      clear hlt
      go_wp2
      go_ret
      exact ⟨ret_int (he.out.trans (by rw [List.drop_of_length_le (by rw [h.len]; exact Nat.le_refl _)]; rfl)).symm, rfl⟩
theorem idx_lo (x : Int) : ∀ (zs : List Int) (k : Nat), -1 ≤ idxFrom x zs k
  | [], _ => by simp [idxFrom]
  | z :: zs, k => by unfold idxFrom; split; omega; exact idx_lo x zs (k + 1)
theorem idx_mem (x : Int) : ∀ (zs : List Int) (k : Nat), decide (0 ≤ idxFrom x zs k) = decide (x ∈ zs)
  | [], _ => by simp [idxFrom]
  | z :: zs, k => by
    unfold idxFrom
    split
    next h => simp [h]
    next h => rw [idx_mem x zs (k + 1)]; simp [h]
set_option maxHeartbeats 400000 in
theorem contains_any (A : Option Addr) (n c : Nat) (zs : List Int) (x : Int) (w : World) (h : Rd .u8 w A n zs) :
    Calls Try.prog 26 #[.slice A n c, .int .u8 x] w fun e w' => e = .returned (.bool (decide (x ∈ zs))) ∧ w = w' := by
  have hm := hide (idx_mem x zs 0)
  go_enter Try.func26, Try.ntmps26
  go_wp2_with (go_at_call 44; refine (index_any _ _ _ zs _ _ h).mono ?_; rintro e w' ⟨rfl, rfl⟩)
  generalize idxFrom x zs 0 = q at *
  go_wp2
  go_ret
  exact ⟨ret_bool hm.out, rfl⟩
set_option maxHeartbeats 400000 in
theorem neu_any (c : Int) (w : World) : Calls Try.prog 13 #[.int .u8 c] w fun e w' => e = .returned (.bool (neuS c)) ∧ Below w.heap.size w w' := by
  have hm : Hid (decide (c ∈ [10, 11, 12, 13, 19, 20, 21, 22]) = neuS c) := by
    show decide (c ∈ [10, 11, 12, 13, 19, 20, 21, 22]) = neuS c
    rw [Bool.eq_iff_iff]
    simp [neuS]
    omega
  go_enter Try.func13, Try.ntmps13
  go_wp2_with fail
  refine (contains_any _ _ _ [10, 11, 12, 13, 19, 20, 21, 22] _ _ (Rd.of_block (heap_alloc_new _ _) rfl (by decide) ?_)).mono ?_
  · intro j hj
    match j, hj with
    | 0, _ | 1, _ | 2, _ | 3, _ | 4, _ | 5, _ | 6, _ | 7, _ => rfl
  rintro e w' ⟨rfl, rfl⟩
  generalize decide (c ∈ [10, 11, 12, 13, 19, 20, 21, 22]) = q at *
  go_wp2
  go_ret
  exact ⟨ret_bool hm.out, (Below.refl _ _).alloc (Nat.le_refl _) _⟩

end Go.Proofs.Ytmbjdchknjollaa

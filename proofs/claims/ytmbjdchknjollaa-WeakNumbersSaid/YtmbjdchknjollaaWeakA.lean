/-
  The walks of the rules of weak.Weak that go over a row once: marks, numbers, arabic, rest, letters.
-/
import Derived.Test.YtmbjdchknjollaaWeakMath
namespace Go.Proofs.Ytmbjdchknjollaa
open Go.RowKit

/-- the rule has changed the row's own cells alone, to zs -/
def RowPost (B : Nat) (w : World) (A : Option Addr) (n c : Nat) (zs : List Int) (e : Ending) (w' : World) : Prop :=
  e = .returned (.tuple #[]) ∧ Own B 5 .u8 w' A n c zs ∧ w.grownBy w' (Value.slice A n c).ownBlock

theorem grown_alloc_left {w w' : World} {o : Obj} {row : Option Nat} (h : (w.alloc o).grownBy w' row) : w.grownBy w' row := grown_trans (World.grownBy_alloc w o row) h
theorem box_cells {w' : World} {g : Nat} {v u : Value} {t : TypeId} (h : w'.heap[g]? = some (.cells #[v, u] t (0, 0))) : w'.cell? ⟨g, 0, none⟩ = some v ∧ w'.cell? ⟨g, 1, none⟩ = some u := by
  constructor <;> (rw [cell_of_row w' g _ _ _ _ h]; rfl)

theorem markF_1 {l c : Int} (h : (c == 8) = true) (hi : isoB l = true) : markF l c = (l, 13) := by simp at h; simp [markF, h, hi]
theorem markF_2 {l c : Int} (h : (c == 8) = true) (hi : isoB l = false) : markF l c = (l, l) := by simp at h; simp [markF, h, hi]
theorem markF_3 {l c : Int} (h : (c == 8) = false) (hi : isoB c = true) : markF l c = (c, 13) := by simp at h; simp [markF, h, hi]
theorem markF_4 {l c : Int} (h : (c == 8) = false) (hi : isoB c = false) : markF l c = (c, c) := by simp at h; simp [markF, h, hi]
theorem isoB_cases (c : Int) : (isoB c = true ∧ 19 ≤ c ∧ c ≤ 22) ∨ (isoB c = false ∧ c < 19) ∨ (isoB c = false ∧ 19 ≤ c ∧ 22 < c) := by
  unfold isoB
  by_cases h1 : 19 ≤ c
  · by_cases h2 : c ≤ 22
    · exact .inl ⟨by simp [h1, h2], h1, h2⟩
    · exact .inr (.inr ⟨by simp; omega, h1, by omega⟩)
  · exact .inr (.inl ⟨by simp; omega, by omega⟩)

set_option maxHeartbeats 4000000 in
theorem marks_any (B : Nat) (A : Option Addr) (n c : Nat) (zs : List Int) (s : Int) (w : World) (hown : Own B 5 .u8 w A n c zs) :
    Calls Try.prog 38 #[.agg #[.slice A n c, .int .u8 s]] w (RowPost B w A n c (marksS s zs)) := by
  have hm := hown.2
  have hln := hide hown.len
  have hown0 := hown.alloc (.cells #[.slice A n c, .int .u8 s] 45)
  have hbox0 : Hid ((w.alloc (.cells #[.slice A n c, .int .u8 s] 45)).heap[w.heap.size]? = some (.cells #[.slice A n c, .int .u8 s] 45 (0, 0))) := heap_alloc_new w _
  have hne : Hid (some w.heap.size ≠ (Value.slice A n c).ownBlock) := by
    intro h
    have := hown.lt _ h.symm
    omega
  have hsz : Hid (w.heap.size < (w.alloc (.cells #[.slice A n c, .int .u8 s] 45)).heap.size) := by show _ < _; simp
  obtain ⟨hc0, hc1⟩ := box_cells hbox0.out
  go_enter Try.func38, Try.ntmps38
  go_wp2
  clear hc0 hc1
  go_loopw [2, 10] (fun l i wr => ∃ k : Nat, k ≤ n ∧ i = .int .i64 k ∧ l = .int .u8 (scanSt markF s (zs.take k)) ∧ Own B 5 .u8 wr A n c (inPl markF s zs k) ∧
      (w.alloc (.cells #[.slice A n c, .int .u8 s] 45)).grownBy wr (Value.slice A n c).ownBlock) (fun _ i _ => n - (intOf i).toNat)
  case atStart => exact ⟨0, Nat.zero_le _, rfl, rfl, by rw [inPl_zero]; exact hown0, World.grownBy.refl _ _⟩
  case round =>
    obtain ⟨k, hk, rfl, rfl, hownr, hgr⟩ := hrel
    obtain ⟨hc0, hc1⟩ := box_cells ((hgr.block _ hsz.out hne.out).trans hbox0.out)
    by_cases hkn : k < n
    · obtain ⟨g, z, rfl, _, hgl, hz, hck, hfk⟩ := hownr.at_ hkn
      have hz' := inPl_of markF hz.out
      have hst := hide (scanSt_take markF s hz')
      have hin := hide (inPl_step markF s hz')
      have hsm := hide (fun h => inPl_same markF s hz' h)
      generalize scanSt markF s (zs.take k) = L at *
      have hg1 : ¬ g = w.heap.size := fun h => hne.out (by rw [← h]; rfl)
      have hg2 : ¬ w.heap.size = g := fun h => hg1 h.symm
      by_cases h8 : (z == 8) = true
      · rcases isoB_cases L with ⟨hi, h1, h2⟩ | ⟨hi, h1⟩ | ⟨hi, h1, h2⟩
        all_goals
          have hmf := hide (by first | exact markF_1 (l := L) h8 hi | exact markF_2 (l := L) h8 hi)
          go_wp2
          go_roundw
          case rel => exact ⟨k + 1, by omega, by go_num, by rw [hst.out, hmf.out], by rw [hin.out, hmf.out]; exact hownr.set_ k L, grown_setCell (p := ⟨g, k, none⟩) hgr (.inl rfl) _⟩
          case measure => simp [intOf]; omega
      · have h8' : (z == 8) = false := by simpa using h8
        clear h8
        rcases isoB_cases z with ⟨hi, h1, h2⟩ | ⟨hi, h1⟩ | ⟨hi, h1, h2⟩
        all_goals
          have hmf := hide (by first | exact markF_3 (l := L) h8' hi | exact markF_4 (l := L) h8' hi)
          go_wp2
          go_roundw
          case rel => exact ⟨k + 1, by omega, by go_num, by rw [hst.out, hmf.out], by rw [hsm.out (by rw [hmf.out])]; exact hownr, hgr⟩
          case measure => simp [intOf]; omega
    · obtain rfl : k = n := by omega
      clear hkn
      go_wp2
      go_end0
      rw [inPl_all markF s zs hln.out] at hownr
      exact ⟨rfl, hownr, grown_alloc_left hgr⟩

theorem numF_l {behind to s c : Int} (h : c = 0 ∨ c = 1 ∨ c = 2) : numF behind to s c = (c, c) := by simp [numF, h]
theorem numF_e {behind to s : Int} (h : (s == behind) = true) : numF behind to s 3 = (to, s) := by simp at h; simp [numF, h]
theorem numF_n {behind to s : Int} (h : (s == behind) = false) : numF behind to s 3 = (3, s) := by simp at h; simp [numF, h]
theorem numF_o {behind to s c : Int} (h0 : (c == 0) = false) (h1 : (c == 1) = false) (h2 : (c == 2) = false) (h3 : (c == 3) = false) : numF behind to s c = (c, s) := by
  simp at h0 h1 h2 h3; simp [numF, h0, h1, h2, h3]
theorem num_cases (c : Int) : (c = 0 ∨ c = 1 ∨ c = 2) ∨ c = 3 ∨ ((c == 0) = false ∧ (c == 1) = false ∧ (c == 2) = false ∧ (c == 3) = false) := by
  simp only [beq_eq_false_iff_ne]; omega

set_option maxHeartbeats 4000000 in
theorem numbers_any (B : Nat) (A : Option Addr) (n c : Nat) (zs : List Int) (s behind to : Int) (w : World) (hown : Own B 5 .u8 w A n c zs) :
    Calls Try.prog 47 #[.agg #[.slice A n c, .int .u8 s], .int .u8 behind, .int .u8 to] w (RowPost B w A n c (numS behind to s zs)) := by
  have hm := hown.2
  have hln := hide hown.len
  have hown0 := hown.alloc (.cells #[.slice A n c, .int .u8 s] 45)
  have hbox0 : Hid ((w.alloc (.cells #[.slice A n c, .int .u8 s] 45)).heap[w.heap.size]? = some (.cells #[.slice A n c, .int .u8 s] 45 (0, 0))) := heap_alloc_new w _
  have hne : Hid (some w.heap.size ≠ (Value.slice A n c).ownBlock) := by
    intro h
    have := hown.lt _ h.symm
    omega
  have hsz : Hid (w.heap.size < (w.alloc (.cells #[.slice A n c, .int .u8 s] 45)).heap.size) := by show _ < _; simp
  obtain ⟨hc0, hc1⟩ := box_cells hbox0.out
  go_enter Try.func47, Try.ntmps47
  go_wp2
  clear hc0 hc1
  go_loopw [6, 14] (fun l i wr => ∃ k : Nat, k ≤ n ∧ i = .int .i64 k ∧ l = .int .u8 (scanSt (numF behind to) s (zs.take k)) ∧ Own B 5 .u8 wr A n c (inPl (numF behind to) s zs k) ∧
      (w.alloc (.cells #[.slice A n c, .int .u8 s] 45)).grownBy wr (Value.slice A n c).ownBlock) (fun _ i _ => n - (intOf i).toNat)
  case atStart => exact ⟨0, Nat.zero_le _, rfl, rfl, by rw [inPl_zero]; exact hown0, World.grownBy.refl _ _⟩
  case round =>
    obtain ⟨k, hk, rfl, rfl, hownr, hgr⟩ := hrel
    obtain ⟨hc0, hc1⟩ := box_cells ((hgr.block _ hsz.out hne.out).trans hbox0.out)
    by_cases hkn : k < n
    · obtain ⟨g, z, rfl, _, hgl, hz, hck, hfk⟩ := hownr.at_ hkn
      have hz' := inPl_of (numF behind to) hz.out
      have hst := hide (scanSt_take (numF behind to) s hz')
      have hin := hide (inPl_step (numF behind to) s hz')
      have hsm := hide (fun h => inPl_same (numF behind to) s hz' h)
      clear hz'
      generalize scanSt (numF behind to) s (zs.take k) = L at *
      have hg1 : ¬ g = w.heap.size := fun h => hne.out (by rw [← h]; rfl)
      have hg2 : ¬ w.heap.size = g := fun h => hg1 h.symm
      rcases num_cases z with hL | rfl | ⟨h0, h1, h2, h3⟩
      · rcases hL with rfl | rfl | rfl
        all_goals
          go_wp2
          go_roundw
          case rel => exact ⟨k + 1, by omega, by go_num, by rw [hst.out, numF_l (by omega)], by rw [hsm.out (by rw [numF_l (by omega)])]; exact hownr, hgr⟩
          case measure => simp [intOf]; omega
      · by_cases hb : (L == behind) = true
        · have hmf := hide (numF_e (to := to) hb)
          go_wp2
          go_roundw
          case rel => exact ⟨k + 1, by omega, by go_num, by rw [hst.out, hmf.out], by rw [hin.out, hmf.out]; exact hownr.set_ k to, grown_setCell (p := ⟨g, k, none⟩) hgr (.inl rfl) _⟩
          case measure => simp [intOf]; omega
        · have hb' : (L == behind) = false := by simpa using hb
          clear hb
          have hmf := hide (numF_n (to := to) hb')
          go_wp2
          go_roundw
          case rel => exact ⟨k + 1, by omega, by go_num, by rw [hst.out, hmf.out], by rw [hsm.out (by rw [hmf.out])]; exact hownr, hgr⟩
          case measure => simp [intOf]; omega
      · have hmf := hide (numF_o (behind := behind) (to := to) (s := L) h0 h1 h2 h3)
        go_wp2
        go_roundw
        case rel => exact ⟨k + 1, by omega, by go_num, by rw [hst.out, hmf.out], by rw [hsm.out (by rw [hmf.out])]; exact hownr, hgr⟩
        case measure => simp [intOf]; omega
    · obtain rfl : k = n := by omega
      clear hkn
      go_wp2
      go_end0
      rw [inPl_all (numF behind to) s zs hln.out] at hownr
      exact ⟨rfl, hownr, grown_alloc_left hgr⟩

theorem alF_1 (u : Unit) : alF u 2 = (1, ()) := rfl
theorem alF_2 {u : Unit} {c : Int} (h : (c == 2) = false) : alF u c = (c, ()) := by simp at h; simp [alF, h]

set_option maxHeartbeats 4000000 in
theorem arabic_any (B : Nat) (A : Option Addr) (n c : Nat) (zs : List Int) (s : Int) (w : World) (hown : Own B 5 .u8 w A n c zs) :
    Calls Try.prog 39 #[.agg #[.slice A n c, .int .u8 s]] w (RowPost B w A n c (arabS s zs)) := by
  have hm := hown.2
  have hln := hide hown.len
  have hown0 := hown.alloc (.cells #[.slice A n c, .int .u8 s] 45)
  have hbox0 : Hid ((w.alloc (.cells #[.slice A n c, .int .u8 s] 45)).heap[w.heap.size]? = some (.cells #[.slice A n c, .int .u8 s] 45 (0, 0))) := heap_alloc_new w _
  have hne : Hid (some w.heap.size ≠ (Value.slice A n c).ownBlock) := by
    intro h
    have := hown.lt _ h.symm
    omega
  have hsz : Hid (w.heap.size < (w.alloc (.cells #[.slice A n c, .int .u8 s] 45)).heap.size) := by show _ < _; simp
  obtain ⟨hc0, hc1⟩ := box_cells hbox0.out
  go_enter Try.func39, Try.ntmps39
  go_wp2_with fail
  refine (numbers_any B A n c zs s 2 6 _ hown0).mono ?_
  rintro e w1 ⟨rfl, hown1, hgr1⟩
  clear hc0 hc1 hown0
  have hlen1 := hide hown1.len
  have hY : Hid (arabS s zs = scan alF () (numS 2 6 s zs)) := rfl
  generalize numS 2 6 s zs = ys at *
  have hbox1 := hide ((hgr1.block _ hsz.out hne.out).trans hbox0.out)
  have hsz1 := hide (Nat.lt_of_lt_of_le hsz.out hgr1.size)
  obtain ⟨hc0, hc1⟩ := box_cells hbox1.out
  go_wp2_with fail
  clear hc0 hc1
  go_loopw [9] (fun i wr => ∃ k : Nat, k ≤ n ∧ i = .int .i64 k ∧ Own B 5 .u8 wr A n c (inPl alF () ys k) ∧ w1.grownBy wr (Value.slice A n c).ownBlock) (fun i _ => n - (intOf i).toNat)
  case atStart => exact ⟨0, Nat.zero_le _, rfl, by rw [inPl_zero]; exact hown1, World.grownBy.refl _ _⟩
  case round =>
    obtain ⟨k, hk, rfl, hownr, hgr⟩ := hrel
    obtain ⟨hc0, hc1⟩ := box_cells ((hgr.block _ hsz1.out hne.out).trans hbox1.out)
    by_cases hkn : k < n
    · obtain ⟨g, z, rfl, _, hgl, hz, hck, hfk⟩ := hownr.at_ hkn
      have hz' := inPl_of alF hz.out
      have hin := hide (inPl_step alF () hz')
      have hsm := hide (fun h => inPl_same alF () hz' h)
      clear hz'
      have hg1 : ¬ g = w.heap.size := fun h => hne.out (by rw [← h]; rfl)
      have hg2 : ¬ w.heap.size = g := fun h => hg1 h.symm
      by_cases hb : (z == 2) = true
      · obtain rfl : z = 2 := by simpa using hb
        clear hb
        go_wp2
        go_roundw
        case rel => exact ⟨k + 1, by omega, by go_num, by rw [hin.out, alF_1]; exact hownr.set_ k 1, grown_setCell (p := ⟨g, k, none⟩) hgr (.inl rfl) _⟩
        case measure => simp [intOf]; omega
      · have hb' : (z == 2) = false := by simpa using hb
        clear hb
        have hmf := hide (alF_2 (u := scanSt alF () (ys.take k)) hb')
        go_wp2
        go_roundw
        case rel => exact ⟨k + 1, by omega, by go_num, by rw [hsm.out (by rw [hmf.out])]; exact hownr, hgr⟩
        case measure => simp [intOf]; omega
    · obtain rfl : k = n := by omega
      clear hkn
      go_wp2
      go_end0
      rw [inPl_all alF () ys hlen1.out] at hownr
      exact ⟨rfl, by rw [hY.out]; exact hownr, grown_alloc_left (grown_trans hgr1 hgr)⟩

theorem restF_1 {u : Unit} {c : Int} (h : c = 4 ∨ c = 5 ∨ c = 7) : restF u c = (13, ()) := by simp [restF, h]
theorem restF_2 {u : Unit} {c : Int} (h4 : (c == 4) = false) (h5 : (c == 5) = false) (h7 : (c == 7) = false) : restF u c = (c, ()) := by simp at h4 h5 h7; simp [restF, h4, h5, h7]
theorem rest_cases (c : Int) : (c = 4 ∨ c = 5 ∨ c = 7) ∨ ((c == 4) = false ∧ (c == 5) = false ∧ (c == 7) = false) := by
  simp only [beq_eq_false_iff_ne]; omega

set_option maxHeartbeats 4000000 in
theorem rest_any (B : Nat) (A : Option Addr) (n c : Nat) (zs : List Int) (s : Int) (w : World) (hown : Own B 5 .u8 w A n c zs) :
    Calls Try.prog 42 #[.agg #[.slice A n c, .int .u8 s]] w (RowPost B w A n c (restS zs)) := by
  have hm := hown.2
  have hln := hide hown.len
  have hown0 := hown.alloc (.cells #[.slice A n c, .int .u8 s] 45)
  have hbox0 : Hid ((w.alloc (.cells #[.slice A n c, .int .u8 s] 45)).heap[w.heap.size]? = some (.cells #[.slice A n c, .int .u8 s] 45 (0, 0))) := heap_alloc_new w _
  have hne : Hid (some w.heap.size ≠ (Value.slice A n c).ownBlock) := by
    intro h
    have := hown.lt _ h.symm
    omega
  have hsz : Hid (w.heap.size < (w.alloc (.cells #[.slice A n c, .int .u8 s] 45)).heap.size) := by show _ < _; simp
  obtain ⟨hc0, hc1⟩ := box_cells hbox0.out
  go_enter Try.func42, Try.ntmps42
  go_wp2
  clear hc0 hc1
  go_loopw [7] (fun i wr => ∃ k : Nat, k ≤ n ∧ i = .int .i64 k ∧ Own B 5 .u8 wr A n c (inPl restF () zs k) ∧ (w.alloc (.cells #[.slice A n c, .int .u8 s] 45)).grownBy wr (Value.slice A n c).ownBlock) (fun i _ => n - (intOf i).toNat)
  case atStart => exact ⟨0, Nat.zero_le _, rfl, by rw [inPl_zero]; exact hown0, World.grownBy.refl _ _⟩
  case round =>
    obtain ⟨k, hk, rfl, hownr, hgr⟩ := hrel
    obtain ⟨hc0, hc1⟩ := box_cells ((hgr.block _ hsz.out hne.out).trans hbox0.out)
    by_cases hkn : k < n
    · obtain ⟨g, z, rfl, _, hgl, hz, hck, hfk⟩ := hownr.at_ hkn
      have hz' := inPl_of restF hz.out
      have hin := hide (inPl_step restF () hz')
      have hsm := hide (fun h => inPl_same restF () hz' h)
      clear hz'
      have hg1 : ¬ g = w.heap.size := fun h => hne.out (by rw [← h]; rfl)
      have hg2 : ¬ w.heap.size = g := fun h => hg1 h.symm
      rcases rest_cases z with hL | ⟨h4, h5, h7⟩
      · rcases hL with rfl | rfl | rfl
        all_goals
          go_wp2
          go_roundw
          case rel => exact ⟨k + 1, by omega, by go_num, by rw [hin.out, restF_1 (by omega)]; exact hownr.set_ k 13, grown_setCell (p := ⟨g, k, none⟩) hgr (.inl rfl) _⟩
          case measure => simp [intOf]; omega
      · have hmf := hide (restF_2 (u := scanSt restF () (zs.take k)) h4 h5 h7)
        go_wp2
        go_roundw
        case rel => exact ⟨k + 1, by omega, by go_num, by rw [hsm.out (by rw [hmf.out])]; exact hownr, hgr⟩
        case measure => simp [intOf]; omega
    · obtain rfl : k = n := by omega
      clear hkn
      go_wp2
      go_end0
      rw [inPl_all restF () zs hln.out] at hownr
      exact ⟨rfl, hownr, grown_alloc_left hgr⟩

set_option maxHeartbeats 1000000 in
theorem letters_any (B : Nat) (A : Option Addr) (n c : Nat) (zs : List Int) (s : Int) (w : World) (hown : Own B 5 .u8 w A n c zs) :
    Calls Try.prog 43 #[.agg #[.slice A n c, .int .u8 s]] w (RowPost B w A n c (numS 0 0 s zs)) := by
  have hown0 := hown.alloc (.cells #[.slice A n c, .int .u8 s] 45)
  go_enter Try.func43, Try.ntmps43
  go_wp2_with fail
  refine (numbers_any B A n c zs s 0 0 _ hown0).mono ?_
  rintro e w1 ⟨rfl, hown1, hgr1⟩
  go_wp2_with fail
  go_end0
  exact ⟨rfl, hown1, grown_alloc_left hgr1⟩
end Go.Proofs.Ytmbjdchknjollaa

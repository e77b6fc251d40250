/-
  Isolates and their ends: level.Match.
-/
import Derived.Test.YtaojjneajiobnaaCls
import Derived.RegionTactic
import Derived.BigRegion
namespace Go.Proofs.Ytaojjneajiobnaa
open Go.RowKit

/-- a place of the row: what stands there, and which isolates are open -/
def mStep (n : Int) (s : List Int × List Int) (i : Nat) (c : Int) : List Int × List Int :=
  if opS c then (s.1.set i n, s.2 ++ [(i : Int)])
  else if c = 22 ∧ s.2 ≠ [] then ((s.1.set i (s.2.getLastD 0)).set (s.2.getLastD 0).toNat i, s.2.dropLast)
  else (s.1.set i (-1), s.2)
def mSt (l : List Int) : Nat → List Int × List Int
  | 0 => (List.replicate l.length 0, [])
  | k + 1 => mStep l.length (mSt l k) k (l.getD k 0)
def matchS (l : List Int) : List Int := (mSt l l.length).1
theorem mSt_len (l : List Int) : ∀ k, (mSt l k).1.length = l.length
  | 0 => by simp [mSt]
  | k + 1 => by
    have ih := mSt_len l k
    unfold mSt mStep
    split
    · simpa using ih
    · split <;> simpa using ih
theorem mSt_open (l : List Int) : ∀ k, ∀ x ∈ (mSt l k).2, 0 ≤ x ∧ x < k
  | 0 => by intro x hx; simp [mSt] at hx
  | k + 1 => by
    have ih := mSt_open l k
    intro x hx
    unfold mSt mStep at hx
    split at hx
    · rcases List.mem_append.1 hx with h | h
      · have := ih x h; omega
      · have : x = k := by simpa using h
        omega
    · split at hx
      · have := ih x (List.dropLast_subset _ hx); omega
      · have := ih x hx; omega
theorem mSt_open_len (l : List Int) : ∀ k, (mSt l k).2.length ≤ k
  | 0 => by simp [mSt]
  | k + 1 => by
    have ih := mSt_open_len l k
    unfold mSt mStep
    split
    · simpa using ih
    · split
      · simp; omega
      · simp; omega
theorem mSt_step {l : List Int} {k : Nat} {c : Int} (hc : l[k]? = some c) : mSt l (k + 1) = mStep l.length (mSt l k) k c := by
  show mStep l.length (mSt l k) k (l.getD k 0) = _
  simp [List.getD, hc]

theorem Own.cellG {B : Nat} {e : TypeId} {k : IntKind} {w : World} {g n c : Nat} {zs : List Int} (h : Own B e k w (some ⟨g, 0, none⟩) n c zs) {j : Nat} (hj : j < n) : ∃ z, w.cell? ⟨g, j, none⟩ = some (.int k z) ∧ w.frozen? ⟨g, j, none⟩ = false := by
  obtain ⟨g', z, hA, _, _, _, hc, hf⟩ := h.at_ hj
  injection hA with hA
  injection hA with h1
  subst h1
  exact ⟨z, hc, hf⟩
theorem Own.less {B : Nat} {e : TypeId} {k : IntKind} {w : World} {A : Option Addr} {n m c : Nat} {zs : List Int} (h : Own B e k w A n c zs) (hm : m ≤ n) : Own B e k w A m c (zs.take m) := by
  refine ⟨⟨by rw [List.length_map, List.length_take, h.len]; omega, ?_⟩, by have := h.2; omega⟩
  rcases h.1.2 with ⟨hv, h0⟩ | ⟨g, cap, cur, hv, hb, hg, hnc, hcm, hs, ht⟩
  · injection hv with h1 h2 h3
    subst h1; subst h2; subst h3
    obtain rfl : m = 0 := by omega
    exact .inl ⟨rfl, by simp⟩
  · injection hv with h1 h2 h3
    subst h1; subst h3
    refine .inr ⟨g, c, cur, rfl, hb, hg, by omega, hcm, hs, ?_⟩
    rw [List.map_take, ← ht, List.take_take, Nat.mul_one, Nat.mul_one, Nat.min_eq_left hm]
theorem Own.cap_ {B : Nat} {e : TypeId} {k : IntKind} {w : World} {A : Option Addr} {n c : Nat} {zs : List Int} (h : Own B e k w A n c zs) : n ≤ c := by
  rcases h.1.2 with ⟨hv, h0⟩ | ⟨g, cap, cur, hv, _, _, hnc, _⟩
  · have : n = 0 := by simpa using h0
    omega
  · injection hv with h1 h2 h3
    subst h3
    exact hnc
theorem take_dropLast {l : List Int} {m : Nat} (h : l.length = m + 1) : l.take m = l.dropLast := by
  rw [List.dropLast_eq_take, h, Nat.add_sub_cancel]

theorem m_cases (c : Int) : opS c = true ∨ c = 22 ∨ (opS c = false ∧ (c == 22) = false ∧ Hid (c ≠ 22)) := by
  by_cases h : c = 22
  · exact .inr (.inl h)
  · cases ho : opS c
    · exact .inr (.inr ⟨rfl, by simpa using h, h⟩)
    · exact .inl rfl

theorem mStep_o {n : Int} {s : List Int × List Int} {i : Nat} {c : Int} (h : opS c = true) : mStep n s i c = (s.1.set i n, s.2 ++ [(i : Int)]) := by simp [mStep, h]
theorem mStep_d {n : Int} {s : List Int × List Int} {i : Nat} {c : Int} (h : opS c = false) (h' : c ≠ 22) : mStep n s i c = (s.1.set i (-1), s.2) := by simp [mStep, h, h']
theorem mStep_z {n : Int} {s : List Int × List Int} {i : Nat} (h : s.2 = []) : mStep n s i 22 = (s.1.set i (-1), s.2) := by simp [mStep, h, opS]
theorem mStep_p {n : Int} {s : List Int × List Int} {i j q : Nat} (hl : s.2.length = j + 1) (h : s.2[j]? = some (q : Int)) : mStep n s i 22 = ((s.1.set i q).set q i, s.2.take j) := by
  have h1 : s.2 ≠ [] := by intro e; rw [e] at hl; simp at hl
  have h2 : s.2.getLastD 0 = q := by
    rw [List.getLastD_eq_getLast?, List.getLast?_eq_getElem?, hl, Nat.add_sub_cancel, h]; rfl
  rw [take_dropLast hl]
  unfold mStep
  rw [if_neg (by decide), if_pos ⟨rfl, h1⟩, h2]
  rfl

set_option maxRecDepth 100000 in
set_option maxHeartbeats 4000000 in
theorem match_any (A : Option Addr) (n c : Nat) (l : List Int) (w : World) (hr : Rd .u8 w A n l) (hn : n ≤ 1000000) :
    Calls Try.prog 17 #[.slice A n c] w (RetSl w.heap.size 3 .i64 (matchS l) w) := by
  have hm := hr.max
  have hln := hide hr.len
  have hmk := run_mk elt64 n (by omega)
  have hout0 := own_mk w.heap.size 3 .i64 n w _ rfl (Nat.le_refl _) (by omega)
  go_enter Try.func17, Try.ntmps17
  go_wp2
  clear hmk
  go_loopw [4, 13] (fun o i wr => ∃ k A1 m c1, k ≤ n ∧ i = .int .i64 ((k : Nat) : Int) ∧ o = .slice A1 m c1 ∧ Own w.heap.size 3 .i64 wr A1 m c1 (mSt l k).2 ∧ Own w.heap.size 3 .i64 wr (some ⟨w.heap.size, 0, none⟩) n n (mSt l k).1 ∧
      (Value.slice A1 m c1).ownBlock ≠ some w.heap.size ∧ Below w.heap.size w wr) (fun _ i _ => n - (intOf i).toNat)
  case atStart => exact ⟨0, none, 0, 0, Nat.zero_le _, rfl, rfl, Own.none_ _ _ _ _, by unfold mSt; rw [hln.out]; exact hout0, by simp [Value.ownBlock], (Below.refl _ _).alloc (Nat.le_refl _) _⟩
  case round =>
    obtain ⟨k, A1, m, c1, hk, rfl, rfl, hop, hout, hne, hbel⟩ := hrel
    obtain ⟨wo, rfl⟩ : ∃ wo : World, wo = wr := ⟨_, rfl⟩
    have hsz := hbel.size
    by_cases hkn : k < n
    · obtain ⟨b, off, z, rfl, hbw, hz, hck⟩ := (hr.below hbel).at_ hkn
      have hst := hide (mSt_step hz.out)
      have hopn := hide (mSt_open l k)
      have hml := hide hop.len
      have hmk1 : m ≤ k := by rw [← hop.len]; exact mSt_open_len l k
      generalize hS : mSt l k = s at *
      have hS' := hide hS
      clear hS
      rcases m_cases z with ho | rfl | ⟨ho, hz22, hz22'⟩
      · have hO := hide ho
        clear ho
        go_wp2_with fail
        refine (op45 z wo).mono ?_
        rintro e w' ⟨rfl, rfl⟩
        rw [hO.out]
        go_wp2_with (at_builtin; refine wpList_app elt64 rfl (.tmp 28) (.tmp 30) rfl rfl rfl (hop.alloc _) (own_one _ _ _ _ _ _ rfl (Nat.le_refl _)).rd (by omega) (by simp <;> omega) ?_; intro A3 c3 w3 hop3 hgr3 hat3; have hout3 := (hout.alloc (.cells #[.int .i64 k] 3)).kept hgr3 (.inr (fun e => hne e.symm)); obtain ⟨z0, hc0, hf0⟩ := hout3.cellG hkn)
        have hb3 := (hbel.alloc hsz (.cells #[.int .i64 k] 3)).grown hgr3 (by simp <;> omega) (fun g hg => (hop.lt g hg).1)
        have hgl := (hout.lt w.heap.size rfl).2
        have hlt3 : ∀ g, some w.heap.size = some g → g < (wo.alloc (.cells #[.int .i64 k] 3)).heap.size := fun g hg => by cases hg; simp; omega
        have hne3 := block_ne hne hat3 hlt3
        go_roundw
        case rel => exact ⟨k + 1, A3, m + 1, c3, by omega, by go_num, rfl, by rw [hst.out, mStep_o hO.out]; exact hop3.other hne3 _, by rw [hst.out, mStep_o hO.out, hln.out]; exact hout3.set_ k n, hne3, Below.setCell hb3 (p := ⟨w.heap.size, k, none⟩) (Nat.le_refl _) _⟩
        case measure => simp [intOf]; omega
      · cases m with
        | zero =>
          have hs0 : s.2 = [] := List.eq_nil_of_length_eq_zero hml.out
          have hS0 := hide hs0
          clear hs0
          obtain ⟨z0, hc0, hf0⟩ := hout.cellG hkn
          go_wp2_with fail
          refine (op45 22 wo).mono ?_
          rintro e w' ⟨rfl, rfl⟩
          rw [show opS 22 = false from rfl]
          go_wp2
          go_roundw
          case rel => exact ⟨k + 1, A1, 0, c1, by omega, by go_num, rfl, by rw [hst.out, mStep_z hS0.out]; exact hop.other hne _, by rw [hst.out, mStep_z hS0.out]; exact hout.set_ k (-1), hne, Below.setCell hbel (p := ⟨w.heap.size, k, none⟩) (Nat.le_refl _) _⟩
          case measure => simp [intOf]; omega
        | succ j =>
          obtain ⟨g, zk, rfl, hgB, hgl, hzk, hcg, _⟩ := hop.at_ (show j < j + 1 by omega)
          obtain ⟨hq0, hqk⟩ := hopn.out zk (List.mem_of_getElem? hzk.out)
          obtain ⟨q, rfl⟩ := Int.eq_ofNat_of_zero_le hq0
          have hqk' : q < k := by omega
          obtain ⟨z0, hc0, hf0⟩ := hout.cellG hkn
          obtain ⟨z1, hc1, hf1⟩ := hout.cellG (show q < n by omega)
          go_wp2_with fail
          refine (op45 22 wo).mono ?_
          rintro e w' ⟨rfl, rfl⟩
          rw [show opS 22 = false from rfl]
          go_wp2_with fail
          have e1 : IntKind.i64.wrap ((j : Int) + 1 - 1) = (j : Int) := by rw [show (j : Int) + 1 - 1 = j by omega]; exact IntWalk.i64_in _ (by omega)
          have hcj := hop.cap_
          have e2 : (j : Int) ≤ (c1 : Int) := by omega
          have e3 : (0 : Int) ≤ (j : Int) := by omega
          have e4 : (k : Int) < (n : Int) := by omega
          have e5 : (0 : Int) ≤ (k : Int) := by omega
          have e6 : (q : Int) < (n : Int) := by omega
          have e7 : (0 : Int) ≤ (q : Int) := by omega
          have n1 : ¬ k = q := by omega
          have n2 : ¬ q = k := by omega
          go_region
          go_wp2
          have hopj := (((hop.less (show j ≤ j + 1 by omega)).other (p := ⟨w.heap.size, k, none⟩) hne (.int .i64 q)).other (p := ⟨w.heap.size, q, none⟩) hne (.int .i64 k)).drew
          have houtj := ((hout.set_ k (q : Int)).set_ q (k : Int)).drew
          have hbj : Below w.heap.size w ((wo.setCell ⟨w.heap.size, k, none⟩ (.int .i64 q)).setCell ⟨w.heap.size, q, none⟩ (.int .i64 k)).drew := hB_drewN (Below.setCell (Below.setCell hbel (p := ⟨w.heap.size, k, none⟩) (Nat.le_refl _) _) (p := ⟨w.heap.size, q, none⟩) (Nat.le_refl _) _) 1
          go_roundw
          case rel => exact ⟨k + 1, _, j, c1, by omega, by go_num, rfl, by rw [hst.out, mStep_p hml.out hzk.out]; exact hopj, by rw [hst.out, mStep_p hml.out hzk.out]; exact houtj, hne, hbj⟩
          case measure => simp [intOf]; omega
      · obtain ⟨z0, hc0, hf0⟩ := hout.cellG hkn
        have hO := hide ho
        clear ho
        go_wp2_with fail
        refine (op45 z wo).mono ?_
        rintro e w' ⟨rfl, rfl⟩
        rw [hO.out]
        go_wp2
        go_roundw
        case rel => exact ⟨k + 1, A1, m, c1, by omega, by go_num, rfl, by rw [hst.out, mStep_d hO.out hz22'.out]; exact hop.other hne _, by rw [hst.out, mStep_d hO.out hz22'.out]; exact hout.set_ k (-1), hne, Below.setCell hbel (p := ⟨w.heap.size, k, none⟩) (Nat.le_refl _) _⟩
        case measure => simp [intOf]; omega
    · obtain rfl : k = n := by omega
      clear hkn
      go_wp2
      go_ret
      have e : matchS l = (mSt l k).1 := by unfold matchS; rw [hln.out]
      have e2 : (matchS l).length = k := by rw [e, mSt_len, hln.out]
      exact ⟨_, _, by rw [e2]; rfl, by rw [e2, e]; exact hout, hbel⟩
end Go.Proofs.Ytaojjneajiobnaa

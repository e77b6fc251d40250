/-
  The reference of layer 19: closed.
-/
import Derived.Test.YtaojjneajiobnaaRfG
namespace Go.Proofs.Ytaojjneajiobnaa
open Go.RowKit

/-- what holds while closed goes down the stack -/
structure CInv (w : World) (s : PS) (stk : List Ent) (q b c : Nat) (wr : World) : Prop where
  len : stk.length = q + 1
  box : wr.heap[w.heap.size]? = some (.cells #[.slice (some ⟨b, 0, none⟩) (q + 1) c, .int .i64 s.is, .int .i64 0, .int .i64 s.nw] 72 (0, 0))
  res : wr.heap[w.heap.size + 1]? = some (.cells #[.slice none 0 0, .int .i64 0, .int .i64 0, .int .i64 0] 72 (0, 0))
  blt : b < wr.heap.size
  cap : q + 1 ≤ c
  cell : EC wr b (stk.reverse.map mapE)
  bel : Below w.heap.size w wr
  two : w.heap.size + 1 + 1 ≤ wr.heap.size
theorem CInv.below {w : World} {s : PS} {stk : List Ent} {q b c : Nat} {wr wr' : World} (h : CInv w s stk q b c wr) (hb : Below wr.heap.size wr wr') : CInv w s stk q b c wr' :=
  ⟨h.len, (hb.block _ (lt_of_block h.box)).trans h.box, (hb.block _ (lt_of_block h.res)).trans h.res, by have := hb.size; have := h.blt; omega, h.cap, cells_below h.cell hb, h.bel.trans (hb.mono h.bel.size), by have := hb.size; have := h.two; omega⟩
theorem CInv.rs {w : World} {s : PS} {stk : List Ent} {q b c : Nat} {wr : World} (h : CInv w s stk q b c wr) : RS wr (.agg #[.slice (some ⟨b, 0, none⟩) (q + 1) c, .int .i64 s.is, .int .i64 0, .int .i64 s.nw]) { s with stk := stk, em := 0 } :=
  RS.box h.blt h.cap h.len h.cell rfl rfl rfl
set_option maxRecDepth 100000 in
set_option maxHeartbeats 8000000 in
theorem refclosed_any {s : PS} {k : Nat} {v : Value} {w : World} (h : RS w v s) (hf : Fit s k) (h2 : Fit2 s) (hk : k ≤ 99999) : Calls Try.prog 44 #[v] w (RetS (closeS s) w) := by
  obtain ⟨b, c, rfl, hb, hc, hcell⟩ := id h
  have hni := hf.is
  have hnn := hf.nw
  obtain ⟨m, hm, _⟩ := RS.top (w := w) (b := b) hf hcell
  have HM := hide hm
  rw [hm] at hc h ⊢
  have hl : m ≤ k := by have := hf.len; omega
  clear hm
  have hB2 := hide (show Below w.heap.size w ((w.alloc (.cells #[.slice (some ⟨b, 0, none⟩) (m + 1) c, .int .i64 s.is, .int .i64 s.em, .int .i64 s.nw] 72)).alloc (.cells #[.slice none 0 0, .int .i64 0, .int .i64 0, .int .i64 0] 72)) from ((Below.refl _ _).alloc (Nat.le_refl _) _).alloc (by simp) _)
  have hfl := fE2
  have HC := hide hcell
  clear hcell h
  by_cases h1 : 0 < s.is
  · have e := hide (close_a h1)
    have t1 : decide (0 < (s.is : Int)) = true := by simp; omega
    have hw : IntKind.i64.wrap ((s.is : Int) - 1) = (s.is : Int) - 1 := IntWalk.i64_in _ (by omega)
    go_enter Try.func44, Try.ntmps44
    go_wp2_with fail
    refine bodyPost_ret (results_cell_row rfl _ _ (w.heap.size + 1) 72 #[.slice (some ⟨b, 0, none⟩) (m + 1) c, .int .i64 ((s.is : Int) - 1), .int .i64 s.em, .int .i64 s.nw] (0, 0) _ rfl (heap_at_new _ _ _ (by simp)) Try.underlying72 rfl (by kernel_rfl)) rfl ⟨_, rfl, ?_, ((Below.refl _ _).alloc (Nat.le_refl _) _).alloc (by simp) _⟩
    rw [e.out]
    exact RS.box (by simp; omega) hc HM.out (cells_two HC.out) (by simp only; omega) rfl rfl
  · have t1 : decide (0 < (s.is : Int)) = false := by simp; omega
    by_cases hn : 0 < s.nw
    · have t2 : ((s.nw : Int) == 0) = false := by simp; omega
      have hE := hide (close_b h1 hn)
      obtain ⟨pre0, t0, rest0, hd1, hd2, hd3, hd4, hd5⟩ := close_parts h2 hn
      have hD := hide (And.intro hd1 hd3)
      clear hd1 hd2 hd3 hd4 hd5 h2
      go_enter Try.func44, Try.ntmps44
      go_wp2_with fail
      have hinv0 : CInv w s s.stk m b c ((w.alloc (.cells #[.slice (some ⟨b, 0, none⟩) (m + 1) c, .int .i64 s.is, .int .i64 0, .int .i64 s.nw] 72)).alloc (.cells #[.slice none 0 0, .int .i64 0, .int .i64 0, .int .i64 0] 72)) :=
        ⟨HM.out, heap_at_old _ (heap_at_new _ _ _ rfl), heap_at_new _ _ _ (by simp), by simp; omega, hc, cells_two HC.out, ((Below.refl _ _).alloc (Nat.le_refl _) _).alloc (by simp) _, by simp⟩
      go_loopg [] s.stk.length (fun kx wr => ∃ (pre stk : List Ent) (q b' c' : Nat), Hid (s.stk = pre ++ stk ∧ (∀ e ∈ pre, e.iso = false) ∧ stk ≠ []) ∧ stk.length ≤ kx ∧ CInv w s stk q b' c' wr)
      case atStart => exact ⟨[], s.stk, m, b, c, hide ⟨rfl, fun e he => (by cases he), hf.ne⟩, Nat.le_refl _, hinv0⟩
      case round =>
        clear hinv0
        obtain ⟨pre, stk, q, b', c', hps, hkx, inv⟩ := hrel
        have hlen := congrArg List.length hps.out.1
        rw [List.length_append, HM.out, inv.len] at hlen
        have hfs : Fit { s with stk := stk, em := 0 } k := hf.sub (fun e he => by rw [hps.out.1]; exact List.mem_append.2 (.inr he)) hps.out.2.2 (by rw [HM.out, inv.len]; omega) _ _ _ hf.is (Nat.zero_le _) hf.nw
        cases stk with
        | nil => exact absurd rfl hps.out.2.2
        | cons t rest =>
          have htop := hide (reftop_any inv.rs hfs (by omega))
          rw [show (({ s with stk := t :: rest, em := 0 } : PS)).top = t from rfl] at htop
          obtain ⟨p0, p1, p2, p3, p4⟩ := f72 inv.box
          have HINV := hide inv
          have HFS := hide hfs
          clear inv hfs hlen
          have hiso : (mapE t).iso = t.iso := rfl
          obtain ⟨lv, ov, iso⟩ := t
          unfold RetE entV at htop
          rw [hiso] at htop
          clear hiso
          generalize (mapE ⟨lv, ov, iso⟩).lv = y0 at *
          generalize (mapE ⟨lv, ov, iso⟩).ov = y1 at *
          cases iso
          · go_wp2_with fail
            refine htop.out.mono ?_
            rintro en w1 ⟨rfl, hb1⟩
            have inv1 := hide (HINV.out.below hb1)
            obtain ⟨r0, r1, r2, r3, r4⟩ := f72 inv1.out.box
            clear p0 p1 p2 p3 p4 htop HINV hb1
            go_wp2_with fail
            refine (refpop_any inv1.out.rs HFS.out (by omega)).mono ?_
            rintro en w3 ⟨v5, rfl, hR5, hb3⟩
            have hnx := hide (close_next hps.out.1 hps.out.2.1 hD.out.1 hD.out.2)
            have hrl : rest.length = q := by have := inv1.out.len; simpa using this
            obtain ⟨q', rfl⟩ : ∃ q', q = q' + 1 := ⟨q - 1, by have := List.length_pos_iff.2 hnx.out.2.2; omega⟩
            obtain ⟨b5, c5, hv5, hb5, hc5, hcell5⟩ := id hR5
            rw [show (({ ({ s with stk := ⟨lv, ov, false⟩ :: rest, em := 0 } : PS) with stk := (⟨lv, ov, false⟩ :: rest).tail } : PS)).stk.length = q' + 1 from hrl] at hv5 hc5
            subst hv5
            have hbx := (hb3.block _ (lt_of_block inv1.out.box)).trans inv1.out.box
            have hrs := (hb3.block _ (lt_of_block inv1.out.res)).trans inv1.out.res
            have hne5 := hcell5.ne hbx (by decide)
            have hB5 := inv1.out.bel.trans (hb3.mono inv1.out.bel.size)
            have htwo := inv1.out.two
            have hsz3 := hb3.size
            have hinv5 : CInv w s rest q' b5 c5 (w3.setRow w.heap.size #[.slice (some ⟨b5, 0, none⟩) (q' + 1) c5, .int .i64 s.is, .int .i64 0, .int .i64 s.nw]) :=
              ⟨hrl, setRow_heap _ _ _ _ _ _ hbx, (setRow_other _ _ _ _ (by omega)).trans hrs, by rw [setRow_size]; exact hb5, hc5, hcell5.same (setRow_other _ _ _ _ hne5), below_setRow hB5 (Nat.le_refl _) _, by rw [setRow_size]; omega⟩
            have HI5 := hide hinv5
            have HBX := hide hbx
            clear hbx hrs hne5 hB5 hinv5 hcell5 hR5 r0 r1 r2 r3 r4
            go_wp2_with (refine wpList_store_row rfl 72 (.tmp 1) (.tmp 21) rfl w.heap.size #[.slice (some ⟨b5, 0, none⟩) (q' + 1) c5, .int .i64 s.is, .int .i64 0, .int .i64 s.nw] rfl rfl 72 _ HBX.out (by kernel_rfl) rfl (by simp [Value.oneCell']) ?_)
            go_roundg rest.length
            case measure => have := hkx; simp at this; omega
            case rel => exact ⟨pre ++ [⟨lv, ov, false⟩], rest, q', b5, c5, hnx, Nat.le_refl _, HI5.out⟩
          · have hE2 := hide (hE.out.trans (by rw [close_stop hps.out.1 hps.out.2.1 rfl]))
            clear hE
            go_wp2_with fail
            refine htop.out.mono ?_
            rintro en w1 ⟨rfl, hb1⟩
            have inv1 := hide (HINV.out.below hb1)
            obtain ⟨r0, r1, r2, r3, r4⟩ := f72 inv1.out.box
            have hbs := inv1.out.cell.ne inv1.out.box (by decide)
            have hw : IntKind.i64.wrap ((s.nw : Int) - 1) = (s.nw : Int) - 1 := IntWalk.i64_in _ (by omega)
            have hcell2 : EC (w1.setCell ⟨w.heap.size, 3, none⟩ (.int .i64 ((s.nw : Int) - 1))) b' ((⟨lv, ov, true⟩ :: rest : List Ent).reverse.map mapE) :=
              inv1.out.cell.same (Below.heap_setCell w1 ⟨w.heap.size, 3, none⟩ (.int .i64 ((s.nw : Int) - 1)) b' hbs)
            have hrl : rest.length = q := by have := inv1.out.len; simpa using this
            have hRS := RS.box (s := { stk := ⟨lv, ov, true⟩ :: rest, is := s.is, em := 0, nw := s.nw - 1 }) (w := w1.setCell ⟨w.heap.size, 3, none⟩ (.int .i64 ((s.nw : Int) - 1))) (b := b') (c := c') (m := q + 1) (v0 := s.is) (v1 := 0) (v2 := (s.nw : Int) - 1) (by have := inv1.out.blt; simpa [World.setCell] using this) inv1.out.cap inv1.out.len hcell2 rfl rfl (by simp only; omega)
            have hpop := hide (refpop_any hRS (HFS.out.with s.is 0 (s.nw - 1) hf.is (Nat.zero_le _) (by omega)) (by omega))
            have hB4 := hide (Below.setCell inv1.out.bel (p := ⟨w.heap.size, 3, none⟩) (Nat.le_refl _) (.int .i64 ((s.nw : Int) - 1)))
            have hres := hide ((Below.heap_setCell w1 ⟨w.heap.size, 3, none⟩ (.int .i64 ((s.nw : Int) - 1)) (w.heap.size + 1) (by show w.heap.size + 1 ≠ w.heap.size; omega)).trans inv1.out.res)
            have htwo := inv1.out.two
            have hsz4 : w.heap.size + 1 + 1 ≤ (w1.setCell ⟨w.heap.size, 3, none⟩ (.int .i64 ((s.nw : Int) - 1))).heap.size := by simpa [World.setCell] using htwo
            clear p0 p1 p2 p3 p4 htop HINV hb1 hRS hcell2 hbs
            go_wp2_with fail
            refine hpop.out.mono ?_
            rintro en w3 ⟨v5, rfl, hR5, hb3⟩
            obtain ⟨b5, c5, hv5, hb5, hc5, _⟩ := id hR5
            rw [show (({ ({ stk := ⟨lv, ov, true⟩ :: rest, is := s.is, em := 0, nw := s.nw - 1 } : PS) with stk := (⟨lv, ov, true⟩ :: rest).tail } : PS)).stk.length = q from hrl] at hv5 hc5
            subst hv5
            have hrs := hide ((hb3.block _ (lt_of_block hres.out)).trans hres.out)
            have hB5 := hide (hB4.out.trans (hb3.mono (by omega)))
            clear r0 r1 r2 r3 r4
            go_wp2_with (refine wpList_store_row rfl 72 (.tmp 2) (.tmp 27) rfl (w.heap.size + 1) #[.slice (some ⟨b5, 0, none⟩) q c5, .int .i64 s.is, .int .i64 0, .int .i64 ((s.nw - 1 : Nat) : Int)] rfl rfl 72 _ hrs.out (by kernel_rfl) rfl (by simp [Value.oneCell']) ?_)
            refine bodyPost_ret (results_cell_row rfl _ _ (w.heap.size + 1) 72 #[.slice (some ⟨b5, 0, none⟩) q c5, .int .i64 s.is, .int .i64 0, .int .i64 ((s.nw - 1 : Nat) : Int)] (0, 0) _ rfl (setRow_heap _ _ _ _ _ _ hrs.out) Try.underlying72 rfl (by kernel_rfl)) rfl ⟨_, rfl, ?_, below_setRow hB5.out (by omega) _⟩
            rw [hE2.out]
            exact hR5.row hrs.out (by decide)
    · have t2 : ((s.nw : Int) == 0) = true := by simp; omega
      have e := hide (close_c h1 hn)
      go_enter Try.func44, Try.ntmps44
      go_wp2_with fail
      refine bodyPost_ret (results_cell_row rfl _ _ (w.heap.size + 1) 72 #[.slice (some ⟨b, 0, none⟩) (m + 1) c, .int .i64 s.is, .int .i64 s.em, .int .i64 s.nw] (0, 0) _ rfl (heap_at_new _ _ _ (by simp)) Try.underlying72 rfl (by kernel_rfl)) rfl ⟨_, rfl, ?_, ((Below.refl _ _).alloc (Nat.le_refl _) _).alloc (by simp) _⟩
      rw [e.out]
      exact RS.box (by simp; omega) hc HM.out (cells_two HC.out) rfl rfl rfl
end Go.Proofs.Ytaojjneajiobnaa

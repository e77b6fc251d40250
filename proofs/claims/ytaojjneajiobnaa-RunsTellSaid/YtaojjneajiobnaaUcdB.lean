/-
  Layer 2: the document's tables.
-/
import Derived.Test.YtaojjneajiobnaaUcdA
namespace Go.Proofs.Ytaojjneajiobnaa
open Go.RowKit

set_option maxRecDepth 1000000 in
set_option maxHeartbeats 4000000 in
theorem rows1_any (w : World) : Calls Try.prog 81 #[] w (TabRet 112 34 (tabI tab1) w) := by
  go_enter Try.func81, Try.ntmps81
  refine tab_body (v := .slice (some ⟨w.heap.size, 0, none⟩) 34 34) (cells := tabI tab1) (e := 112) ?_ ?_ ?_ ?_
  · rfl
  · rfl
  · as_aux_lemma => kernel_rfl
  · exact ⟨rfl, rfl⟩

set_option maxRecDepth 1000000 in
set_option maxHeartbeats 4000000 in
theorem rows2_any (w : World) : Calls Try.prog 82 #[] w (TabRet 112 34 (tabI tab2) w) := by
  go_enter Try.func82, Try.ntmps82
  refine tab_body (v := .slice (some ⟨w.heap.size, 0, none⟩) 34 34) (cells := tabI tab2) (e := 112) ?_ ?_ ?_ ?_
  · rfl
  · rfl
  · as_aux_lemma => kernel_rfl
  · exact ⟨rfl, rfl⟩

set_option maxRecDepth 1000000 in
set_option maxHeartbeats 4000000 in
theorem rows3_any (w : World) : Calls Try.prog 83 #[] w (TabRet 112 34 (tabI tab3) w) := by
  go_enter Try.func83, Try.ntmps83
  refine tab_body (v := .slice (some ⟨w.heap.size, 0, none⟩) 34 34) (cells := tabI tab3) (e := 112) ?_ ?_ ?_ ?_
  · rfl
  · rfl
  · as_aux_lemma => kernel_rfl
  · exact ⟨rfl, rfl⟩

set_option maxRecDepth 1000000 in
set_option maxHeartbeats 4000000 in
theorem rows4_any (w : World) : Calls Try.prog 84 #[] w (TabRet 112 34 (tabI tab4) w) := by
  go_enter Try.func84, Try.ntmps84
  refine tab_body (v := .slice (some ⟨w.heap.size, 0, none⟩) 34 34) (cells := tabI tab4) (e := 112) ?_ ?_ ?_ ?_
  · rfl
  · rfl
  · as_aux_lemma => kernel_rfl
  · exact ⟨rfl, rfl⟩

set_option maxRecDepth 1000000 in
set_option maxHeartbeats 4000000 in
theorem rows5_any (w : World) : Calls Try.prog 85 #[] w (TabRet 112 30 (tabI tab5) w) := by
  go_enter Try.func85, Try.ntmps85
  refine tab_body (v := .slice (some ⟨w.heap.size, 0, none⟩) 30 30) (cells := tabI tab5) (e := 112) ?_ ?_ ?_ ?_
  · rfl
  · rfl
  · as_aux_lemma => kernel_rfl
  · exact ⟨rfl, rfl⟩

end Go.Proofs.Ytaojjneajiobnaa

/-
  The walks of line.of, some words each (printed by a program of mine). No condition. Own work.
-/
import Derived.Test.YtdpfcjhhabcheaaDoorOf
namespace Go.Proofs.YtdpfcjhhabcheaaDoor
open Go Go.RowKit

set_option maxRecDepth 100000 in
set_option maxHeartbeats 6400000 in
theorem of_mount (s : ByteArray) (h : s.toList = [109, 111, 117, 110, 116]) (w : World) : Calls Tryd.prog 46 #[.string s] w fun e w' => e = .returned (ofV (some ⟨0, 0, false, false, false⟩)) ∧ Below w.heap.size w w' := by
  go_enter Tryd.func46, Tryd.ntmps46
  go_wp2_with fail
  refine bodyPost_ret (v := ofV (some ⟨0, 0, false, false, false⟩)) ?_ rfl ⟨rfl, ?_⟩
  · rw [results_cell_tmp rfl]
    go_simp
    rfl
  · exact bnew _ _
set_option maxRecDepth 100000 in
set_option maxHeartbeats 6400000 in
theorem of_send (s : ByteArray) (h : s.toList = [115, 101, 110, 100]) (w : World) : Calls Tryd.prog 46 #[.string s] w fun e w' => e = .returned (ofV (some ⟨0, 0, false, false, false⟩)) ∧ Below w.heap.size w w' := by
  go_enter Tryd.func46, Tryd.ntmps46
  go_wp2_with fail
  refine bodyPost_ret (v := ofV (some ⟨0, 0, false, false, false⟩)) ?_ rfl ⟨rfl, ?_⟩
  · rw [results_cell_tmp rfl]
    go_simp
    rfl
  · exact bnew _ _
set_option maxRecDepth 100000 in
set_option maxHeartbeats 6400000 in
theorem of_receipts (s : ByteArray) (h : s.toList = [114, 101, 99, 101, 105, 112, 116, 115]) (w : World) : Calls Tryd.prog 46 #[.string s] w fun e w' => e = .returned (ofV (some ⟨0, 0, false, false, false⟩)) ∧ Below w.heap.size w w' := by
  go_enter Tryd.func46, Tryd.ntmps46
  go_wp2_with fail
  refine bodyPost_ret (v := ofV (some ⟨0, 0, false, false, false⟩)) ?_ rfl ⟨rfl, ?_⟩
  · rw [results_cell_tmp rfl]
    go_simp
    rfl
  · exact bnew _ _
set_option maxRecDepth 100000 in
set_option maxHeartbeats 6400000 in
theorem of_round (s : ByteArray) (h : s.toList = [114, 111, 117, 110, 100]) (w : World) : Calls Tryd.prog 46 #[.string s] w fun e w' => e = .returned (ofV (some ⟨0, 0, false, false, false⟩)) ∧ Below w.heap.size w w' := by
  go_enter Tryd.func46, Tryd.ntmps46
  go_wp2_with fail
  refine bodyPost_ret (v := ofV (some ⟨0, 0, false, false, false⟩)) ?_ rfl ⟨rfl, ?_⟩
  · rw [results_cell_tmp rfl]
    go_simp
    rfl
  · exact bnew _ _
end Go.Proofs.YtdpfcjhhabcheaaDoor

/-
  The walks of line.of, some words each (printed by a program of mine). No condition. Own work.
-/
import Derived.Test.YtdpfcjhhabcheaaDoorOf
namespace Go.Proofs.YtdpfcjhhabcheaaDoor
open Go Go.RowKit

set_option maxRecDepth 100000 in
set_option maxHeartbeats 6400000 in
theorem of_audit (s : ByteArray) (h : s.toList = [97, 117, 100, 105, 116]) (w : World) : Calls Tryd.prog 46 #[.string s] w fun e w' => e = .returned (ofV (some ⟨0, 0, false, false, true⟩)) ∧ Below w.heap.size w w' := by
  go_enter Tryd.func46, Tryd.ntmps46
  go_wp2_with fail
  refine bodyPost_ret (v := ofV (some ⟨0, 0, false, false, true⟩)) ?_ rfl ⟨rfl, ?_⟩
  · rw [results_cell_tmp rfl]
    go_simp
    rfl
  · exact bnew _ _
set_option maxRecDepth 100000 in
set_option maxHeartbeats 6400000 in
theorem of_sync (s : ByteArray) (h : s.toList = [115, 121, 110, 99]) (w : World) : Calls Tryd.prog 46 #[.string s] w fun e w' => e = .returned (ofV (some ⟨0, 0, false, false, false⟩)) ∧ Below w.heap.size w w' := by
  go_enter Tryd.func46, Tryd.ntmps46
  go_wp2_with fail
  refine bodyPost_ret (v := ofV (some ⟨0, 0, false, false, false⟩)) ?_ rfl ⟨rfl, ?_⟩
  · rw [results_cell_tmp rfl]
    go_simp
    rfl
  · exact bnew _ _
set_option maxRecDepth 100000 in
set_option maxHeartbeats 6400000 in
theorem of_close (s : ByteArray) (h : s.toList = [99, 108, 111, 115, 101]) (w : World) : Calls Tryd.prog 46 #[.string s] w fun e w' => e = .returned (ofV (some ⟨0, 0, false, false, false⟩)) ∧ Below w.heap.size w w' := by
  go_enter Tryd.func46, Tryd.ntmps46
  go_wp2_with fail
  refine bodyPost_ret (v := ofV (some ⟨0, 0, false, false, false⟩)) ?_ rfl ⟨rfl, ?_⟩
  · rw [results_cell_tmp rfl]
    go_simp
    rfl
  · exact bnew _ _
set_option maxRecDepth 100000 in
set_option maxHeartbeats 6400000 in
theorem of_stat (s : ByteArray) (h : s.toList = [115, 116, 97, 116]) (w : World) : Calls Tryd.prog 46 #[.string s] w fun e w' => e = .returned (ofV (some ⟨0, 0, false, false, false⟩)) ∧ Below w.heap.size w w' := by
  go_enter Tryd.func46, Tryd.ntmps46
  go_wp2_with fail
  refine bodyPost_ret (v := ofV (some ⟨0, 0, false, false, false⟩)) ?_ rfl ⟨rfl, ?_⟩
  · rw [results_cell_tmp rfl]
    go_simp
    rfl
  · exact bnew _ _
end Go.Proofs.YtdpfcjhhabcheaaDoor

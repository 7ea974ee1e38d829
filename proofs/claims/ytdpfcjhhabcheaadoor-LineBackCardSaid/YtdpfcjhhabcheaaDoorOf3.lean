/-
  The walks of line.of, some words each (printed by a program of mine). No condition. Own work.
-/
import Derived.Test.YtdpfcjhhabcheaaDoorOf
namespace Go.Proofs.YtdpfcjhhabcheaaDoor
open Go Go.RowKit

set_option maxRecDepth 100000 in
set_option maxHeartbeats 6400000 in
theorem of_hold (s : ByteArray) (h : s.toList = [104, 111, 108, 100]) (w : World) : Calls Tryd.prog 46 #[.string s] w fun e w' => e = .returned (ofV (some ⟨1, 1, true, false, false⟩)) ∧ Below w.heap.size w w' := by
  go_enter Tryd.func46, Tryd.ntmps46
  go_wp2_with fail
  refine bodyPost_ret (v := ofV (some ⟨1, 1, true, false, false⟩)) ?_ rfl ⟨rfl, ?_⟩
  · rw [results_cell_tmp rfl]
    go_simp
    rfl
  · exact bnew _ _
set_option maxRecDepth 100000 in
set_option maxHeartbeats 6400000 in
theorem of_vhold (s : ByteArray) (h : s.toList = [118, 104, 111, 108, 100]) (w : World) : Calls Tryd.prog 46 #[.string s] w fun e w' => e = .returned (ofV (some ⟨1, 1, true, false, false⟩)) ∧ Below w.heap.size w w' := by
  go_enter Tryd.func46, Tryd.ntmps46
  go_wp2_with fail
  refine bodyPost_ret (v := ofV (some ⟨1, 1, true, false, false⟩)) ?_ rfl ⟨rfl, ?_⟩
  · rw [results_cell_tmp rfl]
    go_simp
    rfl
  · exact bnew _ _
set_option maxRecDepth 100000 in
set_option maxHeartbeats 6400000 in
theorem of_release (s : ByteArray) (h : s.toList = [114, 101, 108, 101, 97, 115, 101]) (w : World) : Calls Tryd.prog 46 #[.string s] w fun e w' => e = .returned (ofV (some ⟨0, 0, true, false, false⟩)) ∧ Below w.heap.size w w' := by
  go_enter Tryd.func46, Tryd.ntmps46
  go_wp2_with fail
  refine bodyPost_ret (v := ofV (some ⟨0, 0, true, false, false⟩)) ?_ rfl ⟨rfl, ?_⟩
  · rw [results_cell_tmp rfl]
    go_simp
    rfl
  · exact bnew _ _
set_option maxRecDepth 100000 in
set_option maxHeartbeats 6400000 in
theorem of_vrelease (s : ByteArray) (h : s.toList = [118, 114, 101, 108, 101, 97, 115, 101]) (w : World) : Calls Tryd.prog 46 #[.string s] w fun e w' => e = .returned (ofV (some ⟨0, 0, true, false, false⟩)) ∧ Below w.heap.size w w' := by
  go_enter Tryd.func46, Tryd.ntmps46
  go_wp2_with fail
  refine bodyPost_ret (v := ofV (some ⟨0, 0, true, false, false⟩)) ?_ rfl ⟨rfl, ?_⟩
  · rw [results_cell_tmp rfl]
    go_simp
    rfl
  · exact bnew _ _
set_option maxRecDepth 100000 in
set_option maxHeartbeats 6400000 in
theorem of_crash (s : ByteArray) (h : s.toList = [99, 114, 97, 115, 104]) (w : World) : Calls Tryd.prog 46 #[.string s] w fun e w' => e = .returned (ofV (some ⟨0, 64, false, false, false⟩)) ∧ Below w.heap.size w w' := by
  go_enter Tryd.func46, Tryd.ntmps46
  go_wp2_with fail
  refine bodyPost_ret (v := ofV (some ⟨0, 64, false, false, false⟩)) ?_ rfl ⟨rfl, ?_⟩
  · rw [results_cell_tmp rfl]
    go_simp
    rfl
  · exact bnew _ _
end Go.Proofs.YtdpfcjhhabcheaaDoor

/-
  The walks of line.of, some words each (printed by a program of mine). No condition. Own work.
-/
import Derived.Test.YtdpfcjhhabcheaaDoorOf
namespace Go.Proofs.YtdpfcjhhabcheaaDoor
open Go Go.RowKit

set_option maxRecDepth 100000 in
set_option maxHeartbeats 6400000 in
theorem of_write (s : ByteArray) (h : s.toList = [119, 114, 105, 116, 101]) (w : World) : Calls Tryd.prog 46 #[.string s] w fun e w' => e = .returned (ofV (some ⟨1, 1, false, true, false⟩)) ∧ Below w.heap.size w w' := by
  go_enter Tryd.func46, Tryd.ntmps46
  go_wp2_with fail
  refine bodyPost_ret (v := ofV (some ⟨1, 1, false, true, false⟩)) ?_ rfl ⟨rfl, ?_⟩
  · rw [results_cell_tmp rfl]
    go_simp
    rfl
  · exact bnew _ _
set_option maxRecDepth 100000 in
set_option maxHeartbeats 6400000 in
theorem of_read (s : ByteArray) (h : s.toList = [114, 101, 97, 100]) (w : World) : Calls Tryd.prog 46 #[.string s] w fun e w' => e = .returned (ofV (some ⟨1, 1, false, false, false⟩)) ∧ Below w.heap.size w w' := by
  go_enter Tryd.func46, Tryd.ntmps46
  go_wp2_with fail
  refine bodyPost_ret (v := ofV (some ⟨1, 1, false, false, false⟩)) ?_ rfl ⟨rfl, ?_⟩
  · rw [results_cell_tmp rfl]
    go_simp
    rfl
  · exact bnew _ _
set_option maxRecDepth 100000 in
set_option maxHeartbeats 6400000 in
theorem of_purge (s : ByteArray) (h : s.toList = [112, 117, 114, 103, 101]) (w : World) : Calls Tryd.prog 46 #[.string s] w fun e w' => e = .returned (ofV (some ⟨1, 1, false, false, false⟩)) ∧ Below w.heap.size w w' := by
  go_enter Tryd.func46, Tryd.ntmps46
  go_wp2_with fail
  refine bodyPost_ret (v := ofV (some ⟨1, 1, false, false, false⟩)) ?_ rfl ⟨rfl, ?_⟩
  · rw [results_cell_tmp rfl]
    go_simp
    rfl
  · exact bnew _ _
set_option maxRecDepth 100000 in
set_option maxHeartbeats 6400000 in
theorem of_tick (s : ByteArray) (h : s.toList = [116, 105, 99, 107]) (w : World) : Calls Tryd.prog 46 #[.string s] w fun e w' => e = .returned (ofV (some ⟨1, 1, false, false, false⟩)) ∧ Below w.heap.size w w' := by
  go_enter Tryd.func46, Tryd.ntmps46
  go_wp2_with fail
  refine bodyPost_ret (v := ofV (some ⟨1, 1, false, false, false⟩)) ?_ rfl ⟨rfl, ?_⟩
  · rw [results_cell_tmp rfl]
    go_simp
    rfl
  · exact bnew _ _
set_option maxRecDepth 100000 in
set_option maxHeartbeats 6400000 in
theorem of_arm (s : ByteArray) (h : s.toList = [97, 114, 109]) (w : World) : Calls Tryd.prog 46 #[.string s] w fun e w' => e = .returned (ofV (some ⟨1, 1, false, false, false⟩)) ∧ Below w.heap.size w w' := by
  go_enter Tryd.func46, Tryd.ntmps46
  go_wp2_with fail
  refine bodyPost_ret (v := ofV (some ⟨1, 1, false, false, false⟩)) ?_ rfl ⟨rfl, ?_⟩
  · rw [results_cell_tmp rfl]
    go_simp
    rfl
  · exact bnew _ _
set_option maxRecDepth 100000 in
set_option maxHeartbeats 6400000 in
theorem of_vtick (s : ByteArray) (h : s.toList = [118, 116, 105, 99, 107]) (w : World) : Calls Tryd.prog 46 #[.string s] w fun e w' => e = .returned (ofV (some ⟨1, 1, false, false, false⟩)) ∧ Below w.heap.size w w' := by
  go_enter Tryd.func46, Tryd.ntmps46
  go_wp2_with fail
  refine bodyPost_ret (v := ofV (some ⟨1, 1, false, false, false⟩)) ?_ rfl ⟨rfl, ?_⟩
  · rw [results_cell_tmp rfl]
    go_simp
    rfl
  · exact bnew _ _
set_option maxRecDepth 100000 in
set_option maxHeartbeats 6400000 in
theorem of_deliver (s : ByteArray) (h : s.toList = [100, 101, 108, 105, 118, 101, 114]) (w : World) : Calls Tryd.prog 46 #[.string s] w fun e w' => e = .returned (ofV (some ⟨1, 1, false, false, false⟩)) ∧ Below w.heap.size w w' := by
  go_enter Tryd.func46, Tryd.ntmps46
  go_wp2_with fail
  refine bodyPost_ret (v := ofV (some ⟨1, 1, false, false, false⟩)) ?_ rfl ⟨rfl, ?_⟩
  · rw [results_cell_tmp rfl]
    go_simp
    rfl
  · exact bnew _ _
end Go.Proofs.YtdpfcjhhabcheaaDoor

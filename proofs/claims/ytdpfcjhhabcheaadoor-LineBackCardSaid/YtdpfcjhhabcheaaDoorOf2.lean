/-
  The walks of line.of, some words each (printed by a program of mine). No condition. Own work.
-/
import Derived.Test.YtdpfcjhhabcheaaDoorOf
namespace Go.Proofs.YtdpfcjhhabcheaaDoor
open Go Go.RowKit

set_option maxRecDepth 100000 in
set_option maxHeartbeats 6400000 in
theorem of_lose (s : ByteArray) (h : s.toList = [108, 111, 115, 101]) (w : World) : Calls Tryd.prog 46 #[.string s] w fun e w' => e = .returned (ofV (some ⟨1, 1, false, false, false⟩)) ∧ Below w.heap.size w w' := by
  go_enter Tryd.func46, Tryd.ntmps46
  go_wp2_with fail
  refine bodyPost_ret (v := ofV (some ⟨1, 1, false, false, false⟩)) ?_ rfl ⟨rfl, ?_⟩
  · rw [results_cell_tmp rfl]
    go_simp
    rfl
  · exact bnew _ _
set_option maxRecDepth 100000 in
set_option maxHeartbeats 6400000 in
theorem of_twice (s : ByteArray) (h : s.toList = [116, 119, 105, 99, 101]) (w : World) : Calls Tryd.prog 46 #[.string s] w fun e w' => e = .returned (ofV (some ⟨1, 1, false, false, false⟩)) ∧ Below w.heap.size w w' := by
  go_enter Tryd.func46, Tryd.ntmps46
  go_wp2_with fail
  refine bodyPost_ret (v := ofV (some ⟨1, 1, false, false, false⟩)) ?_ rfl ⟨rfl, ?_⟩
  · rw [results_cell_tmp rfl]
    go_simp
    rfl
  · exact bnew _ _
set_option maxRecDepth 100000 in
set_option maxHeartbeats 6400000 in
theorem of_run (s : ByteArray) (h : s.toList = [114, 117, 110]) (w : World) : Calls Tryd.prog 46 #[.string s] w fun e w' => e = .returned (ofV (some ⟨1, 1, false, false, false⟩)) ∧ Below w.heap.size w w' := by
  go_enter Tryd.func46, Tryd.ntmps46
  go_wp2_with fail
  refine bodyPost_ret (v := ofV (some ⟨1, 1, false, false, false⟩)) ?_ rfl ⟨rfl, ?_⟩
  · rw [results_cell_tmp rfl]
    go_simp
    rfl
  · exact bnew _ _
set_option maxRecDepth 100000 in
set_option maxHeartbeats 6400000 in
theorem of_readat (s : ByteArray) (h : s.toList = [114, 101, 97, 100, 97, 116]) (w : World) : Calls Tryd.prog 46 #[.string s] w fun e w' => e = .returned (ofV (some ⟨2, 2, false, false, false⟩)) ∧ Below w.heap.size w w' := by
  go_enter Tryd.func46, Tryd.ntmps46
  go_wp2_with fail
  refine bodyPost_ret (v := ofV (some ⟨2, 2, false, false, false⟩)) ?_ rfl ⟨rfl, ?_⟩
  · rw [results_cell_tmp rfl]
    go_simp
    rfl
  · exact bnew _ _
set_option maxRecDepth 100000 in
set_option maxHeartbeats 6400000 in
theorem of_retain (s : ByteArray) (h : s.toList = [114, 101, 116, 97, 105, 110]) (w : World) : Calls Tryd.prog 46 #[.string s] w fun e w' => e = .returned (ofV (some ⟨2, 2, false, false, false⟩)) ∧ Below w.heap.size w w' := by
  go_enter Tryd.func46, Tryd.ntmps46
  go_wp2_with fail
  refine bodyPost_ret (v := ofV (some ⟨2, 2, false, false, false⟩)) ?_ rfl ⟨rfl, ?_⟩
  · rw [results_cell_tmp rfl]
    go_simp
    rfl
  · exact bnew _ _
end Go.Proofs.YtdpfcjhhabcheaaDoor

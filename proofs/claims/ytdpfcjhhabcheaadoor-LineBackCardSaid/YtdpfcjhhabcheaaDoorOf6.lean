/-
  The walks of line.of, some words each (printed by a program of mine). No condition. Own work.
-/
import Derived.Test.YtdpfcjhhabcheaaDoorOf
namespace Go.Proofs.YtdpfcjhhabcheaaDoor
open Go Go.RowKit

set_option maxRecDepth 100000 in
set_option maxHeartbeats 6400000 in
theorem of_none (s : ByteArray) (h0 : ¬ s.toList = [119, 114, 105, 116, 101]) (h1 : ¬ s.toList = [114, 101, 97, 100]) (h2 : ¬ s.toList = [112, 117, 114, 103, 101]) (h3 : ¬ s.toList = [116, 105, 99, 107]) (h4 : ¬ s.toList = [97, 114, 109]) (h5 : ¬ s.toList = [118, 116, 105, 99, 107]) (h6 : ¬ s.toList = [100, 101, 108, 105, 118, 101, 114]) (h7 : ¬ s.toList = [108, 111, 115, 101]) (h8 : ¬ s.toList = [116, 119, 105, 99, 101]) (h9 : ¬ s.toList = [114, 117, 110]) (h10 : ¬ s.toList = [114, 101, 97, 100, 97, 116]) (h11 : ¬ s.toList = [114, 101, 116, 97, 105, 110]) (h12 : ¬ s.toList = [104, 111, 108, 100]) (h13 : ¬ s.toList = [118, 104, 111, 108, 100]) (h14 : ¬ s.toList = [114, 101, 108, 101, 97, 115, 101]) (h15 : ¬ s.toList = [118, 114, 101, 108, 101, 97, 115, 101]) (h16 : ¬ s.toList = [99, 114, 97, 115, 104]) (h17 : ¬ s.toList = [97, 117, 100, 105, 116]) (h18 : ¬ s.toList = [115, 121, 110, 99]) (h19 : ¬ s.toList = [99, 108, 111, 115, 101]) (h20 : ¬ s.toList = [115, 116, 97, 116]) (h21 : ¬ s.toList = [109, 111, 117, 110, 116]) (h22 : ¬ s.toList = [115, 101, 110, 100]) (h23 : ¬ s.toList = [114, 101, 99, 101, 105, 112, 116, 115]) (h24 : ¬ s.toList = [114, 111, 117, 110, 100]) (w : World) : Calls Tryd.prog 46 #[.string s] w fun e w' => e = .returned (ofV none) ∧ Below w.heap.size w w' := by
  have b0 : (s.toList == [119, 114, 105, 116, 101]) = false := by simpa using h0
  have b1 : (s.toList == [114, 101, 97, 100]) = false := by simpa using h1
  have b2 : (s.toList == [112, 117, 114, 103, 101]) = false := by simpa using h2
  have b3 : (s.toList == [116, 105, 99, 107]) = false := by simpa using h3
  have b4 : (s.toList == [97, 114, 109]) = false := by simpa using h4
  have b5 : (s.toList == [118, 116, 105, 99, 107]) = false := by simpa using h5
  have b6 : (s.toList == [100, 101, 108, 105, 118, 101, 114]) = false := by simpa using h6
  have b7 : (s.toList == [108, 111, 115, 101]) = false := by simpa using h7
  have b8 : (s.toList == [116, 119, 105, 99, 101]) = false := by simpa using h8
  have b9 : (s.toList == [114, 117, 110]) = false := by simpa using h9
  have b10 : (s.toList == [114, 101, 97, 100, 97, 116]) = false := by simpa using h10
  have b11 : (s.toList == [114, 101, 116, 97, 105, 110]) = false := by simpa using h11
  have b12 : (s.toList == [104, 111, 108, 100]) = false := by simpa using h12
  have b13 : (s.toList == [118, 104, 111, 108, 100]) = false := by simpa using h13
  have b14 : (s.toList == [114, 101, 108, 101, 97, 115, 101]) = false := by simpa using h14
  have b15 : (s.toList == [118, 114, 101, 108, 101, 97, 115, 101]) = false := by simpa using h15
  have b16 : (s.toList == [99, 114, 97, 115, 104]) = false := by simpa using h16
  have b17 : (s.toList == [97, 117, 100, 105, 116]) = false := by simpa using h17
  have b18 : (s.toList == [115, 121, 110, 99]) = false := by simpa using h18
  have b19 : (s.toList == [99, 108, 111, 115, 101]) = false := by simpa using h19
  have b20 : (s.toList == [115, 116, 97, 116]) = false := by simpa using h20
  have b21 : (s.toList == [109, 111, 117, 110, 116]) = false := by simpa using h21
  have b22 : (s.toList == [115, 101, 110, 100]) = false := by simpa using h22
  have b23 : (s.toList == [114, 101, 99, 101, 105, 112, 116, 115]) = false := by simpa using h23
  have b24 : (s.toList == [114, 111, 117, 110, 100]) = false := by simpa using h24
  clear h0 h1 h2 h3 h4 h5 h6 h7 h8 h9 h10 h11 h12 h13 h14 h15 h16 h17 h18 h19 h20 h21 h22 h23 h24
  go_enter Tryd.func46, Tryd.ntmps46
  go_wp2_with fail
  refine bodyPost_ret (v := ofV none) ?_ rfl ⟨rfl, ?_⟩
  · rw [results_cell_tmp rfl]
    go_simp
    rfl
  · exact bnew _ _
end Go.Proofs.YtdpfcjhhabcheaaDoor

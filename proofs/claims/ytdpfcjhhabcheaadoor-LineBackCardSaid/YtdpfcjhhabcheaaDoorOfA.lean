/-
  The walks of line.of, some words each (printed by a program of mine). No condition. Own work.
-/
import Derived.Test.YtdpfcjhhabcheaaDoorOf1
import Derived.Test.YtdpfcjhhabcheaaDoorOf2
import Derived.Test.YtdpfcjhhabcheaaDoorOf3
import Derived.Test.YtdpfcjhhabcheaaDoorOf4
import Derived.Test.YtdpfcjhhabcheaaDoorOf5
import Derived.Test.YtdpfcjhhabcheaaDoorOf6
namespace Go.Proofs.YtdpfcjhhabcheaaDoor
open Go Go.RowKit

theorem of_any (s : ByteArray) (w : World) : Calls Tryd.prog 46 #[.string s] w fun e w' => e = .returned (ofV (ofW s.toList)) ∧ Below w.heap.size w w' := by
  unfold ofW
  by_cases h0 : s.toList = [119, 114, 105, 116, 101]
  · rw [if_pos h0]; exact of_write s h0 w
  rw [if_neg h0]
  by_cases h1 : s.toList = [114, 101, 97, 100]
  · rw [if_pos h1]; exact of_read s h1 w
  rw [if_neg h1]
  by_cases h2 : s.toList = [112, 117, 114, 103, 101]
  · rw [if_pos h2]; exact of_purge s h2 w
  rw [if_neg h2]
  by_cases h3 : s.toList = [116, 105, 99, 107]
  · rw [if_pos h3]; exact of_tick s h3 w
  rw [if_neg h3]
  by_cases h4 : s.toList = [97, 114, 109]
  · rw [if_pos h4]; exact of_arm s h4 w
  rw [if_neg h4]
  by_cases h5 : s.toList = [118, 116, 105, 99, 107]
  · rw [if_pos h5]; exact of_vtick s h5 w
  rw [if_neg h5]
  by_cases h6 : s.toList = [100, 101, 108, 105, 118, 101, 114]
  · rw [if_pos h6]; exact of_deliver s h6 w
  rw [if_neg h6]
  by_cases h7 : s.toList = [108, 111, 115, 101]
  · rw [if_pos h7]; exact of_lose s h7 w
  rw [if_neg h7]
  by_cases h8 : s.toList = [116, 119, 105, 99, 101]
  · rw [if_pos h8]; exact of_twice s h8 w
  rw [if_neg h8]
  by_cases h9 : s.toList = [114, 117, 110]
  · rw [if_pos h9]; exact of_run s h9 w
  rw [if_neg h9]
  by_cases h10 : s.toList = [114, 101, 97, 100, 97, 116]
  · rw [if_pos h10]; exact of_readat s h10 w
  rw [if_neg h10]
  by_cases h11 : s.toList = [114, 101, 116, 97, 105, 110]
  · rw [if_pos h11]; exact of_retain s h11 w
  rw [if_neg h11]
  by_cases h12 : s.toList = [104, 111, 108, 100]
  · rw [if_pos h12]; exact of_hold s h12 w
  rw [if_neg h12]
  by_cases h13 : s.toList = [118, 104, 111, 108, 100]
  · rw [if_pos h13]; exact of_vhold s h13 w
  rw [if_neg h13]
  by_cases h14 : s.toList = [114, 101, 108, 101, 97, 115, 101]
  · rw [if_pos h14]; exact of_release s h14 w
  rw [if_neg h14]
  by_cases h15 : s.toList = [118, 114, 101, 108, 101, 97, 115, 101]
  · rw [if_pos h15]; exact of_vrelease s h15 w
  rw [if_neg h15]
  by_cases h16 : s.toList = [99, 114, 97, 115, 104]
  · rw [if_pos h16]; exact of_crash s h16 w
  rw [if_neg h16]
  by_cases h17 : s.toList = [97, 117, 100, 105, 116]
  · rw [if_pos h17]; exact of_audit s h17 w
  rw [if_neg h17]
  by_cases h18 : s.toList = [115, 121, 110, 99]
  · rw [if_pos h18]; exact of_sync s h18 w
  rw [if_neg h18]
  by_cases h19 : s.toList = [99, 108, 111, 115, 101]
  · rw [if_pos h19]; exact of_close s h19 w
  rw [if_neg h19]
  by_cases h20 : s.toList = [115, 116, 97, 116]
  · rw [if_pos h20]; exact of_stat s h20 w
  rw [if_neg h20]
  by_cases h21 : s.toList = [109, 111, 117, 110, 116]
  · rw [if_pos h21]; exact of_mount s h21 w
  rw [if_neg h21]
  by_cases h22 : s.toList = [115, 101, 110, 100]
  · rw [if_pos h22]; exact of_send s h22 w
  rw [if_neg h22]
  by_cases h23 : s.toList = [114, 101, 99, 101, 105, 112, 116, 115]
  · rw [if_pos h23]; exact of_receipts s h23 w
  rw [if_neg h23]
  by_cases h24 : s.toList = [114, 111, 117, 110, 100]
  · rw [if_pos h24]; exact of_round s h24 w
  rw [if_neg h24]
  exact of_none s h0 h1 h2 h3 h4 h5 h6 h7 h8 h9 h10 h11 h12 h13 h14 h15 h16 h17 h18 h19 h20 h21 h22 h23 h24 w
end Go.Proofs.YtdpfcjhhabcheaaDoor

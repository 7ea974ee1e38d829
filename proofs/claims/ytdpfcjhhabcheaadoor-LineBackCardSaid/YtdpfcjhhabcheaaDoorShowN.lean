/-
  The contract of line.Show at an event that may not be. No condition. Own work.
-/
import Derived.Test.YtdpfcjhhabcheaaDoorParse
import Derived.Test.YtdpfcjhhabcheaaDoorJoinL
namespace Go.Proofs.YtdpfcjhhabcheaaDoor
open Go Go.RowKit

set_option maxRecDepth 100000 in
set_option maxHeartbeats 3200000 in
theorem show_no (e : Ev) (v : Value) (hn : e.nums.length ≤ 100000) (ha : e.asks.length ≤ 100000) (hm : e.name.size ≤ 100000) (hno : evOk e = false) (w : World) (hv : EvAt w w.heap.size e v) :
    Calls Tryd.prog 22 #[v] w fun x w' => x = .returned (.tuple #[.string ⟨#[]⟩, .int .i64 2]) ∧ Below w.heap.size w w' := by
  have hC : ∀ W, Below w.heap.size w W → Calls Tryd.prog 24 #[v] W fun x w' => x = .returned (.int .i64 2) ∧ Below W.heap.size W w' := fun W hb => by
    have h := check_any e v hn ha hm W ((hv.below hb).up hb.size)
    rw [hno] at h
    exact h
  have HC := Lib.hid hC
  obtain ⟨A1, c1, A2, c2, rfl, -, -⟩ := hv
  clear hC hno
  go_enter Tryd.func22, Tryd.ntmps22
  go_wp2_with fail
  refine (HC.out _ (bnew w _)).mono ?_
  rintro e1 w1 ⟨rfl, hb1⟩
  have b1 := bthen (bnew w _) hb1
  clear hb1
  go_wp2_with fail
  go_ret2
  exact ⟨rfl, b1⟩
end Go.Proofs.YtdpfcjhhabcheaaDoor

/-
  The reference's Right, kind 1: UNDER WAY (one goal of 19 left). Own work.
-/
import Derived.Test.YtdpfcjhhabcheaaDoorRRight
namespace Go.Proofs.YtdpfcjhhabcheaaDoor
open Go.RowKit

set_option maxRecDepth 100000 in
set_option maxHeartbeats 3200000 in
theorem rright_one (e t c g u : Int) (r n : ByteArray) (h1 : 0 ≤ e) (h2 : e ≤ 4294967295) (h3 : 0 ≤ t) (h4 : t ≤ 1099511627776) (w : World) : Calls Tryd.prog 34 #[RVal 1 e t c g u r n] w fun x w' => x = .returned (.bool (decide (0 ≤ c ∧ c ≤ 4096 ∧ r.size = 32 ∧ g = 0 ∧ u = 0 ∧ n.toList = []))) ∧ Below w.heap.size w w' := by
  have a1 : ¬ e < 0 := by omega
  have a2 : ¬ 4294967295 < e := by omega
  have a3 : ¬ t < 0 := by omega
  have a4 : ¬ 1099511627776 < t := by omega
  clear h1 h2 h3 h4
  go_enter Tryd.func34, Tryd.ntmps34
  go_wp2
  all_goals go_ret
  all_goals refine ⟨ret_bool ?_, bnew _ _⟩
  all_goals first
    | (simp; omega)
    | (simp_all; done)
    | (simp_all; omega)
    | (have q : r.size = 32 := by omega
       rw [q]
       simp_all
       cases n.toList <;> simp)
end Go.Proofs.YtdpfcjhhabcheaaDoor

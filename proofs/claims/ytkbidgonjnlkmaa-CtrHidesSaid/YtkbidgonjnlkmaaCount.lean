/-
  The contract of ctr.Count: a counter's block. No condition. Own work.
-/
import Derived.Test.YtkbidgonjnlkmaaOct2
namespace Go.Proofs.Ytkbidgonjnlkmaa
open Go.RowKit

def cntL (e s i : Int) : List (Nat × Int) := [(1, 117), (3, 0), (4, e), (4, s), (4, i)]
set_option maxHeartbeats 1600000 in
theorem count_any (e s i : Int) (he : e ≤ 9223372036854775807) (hs : s ≤ 9223372036854775807) (hi : i ≤ 9223372036854775807) (w : World) :
    Calls Try.prog 27 #[.int .i64 e, .int .i64 s, .int .i64 i] w fun r w' => r = .returned (packR (cntL e s i)) ∧ Below w.heap.size w w' := by
  have hw : ∀ p ∈ cntL e s i, 1 ≤ p.1 ∧ p.1 ≤ 8 ∧ p.2 ≤ 9223372036854775807 := by
    intro p hp
    simp only [cntL, List.mem_cons, List.not_mem_nil, or_false] at hp
    rcases hp with rfl | rfl | rfl | rfl | rfl <;> simp <;> omega
  go_enter Try.func27, Try.ntmps27
  go_wp2_with fail
  refine (pack_built (cntL e s i) hw (by simp [cntL]) w).mono ?_
  rintro r w1 ⟨rfl, hb1⟩
  obtain ⟨V, f, hV⟩ : ∃ V f, packR (cntL e s i) = .tuple #[V, f] := by unfold packR; split <;> exact ⟨_, _, rfl⟩
  rw [hV]
  go_wp2_with fail
  go_ret2
  exact ⟨by rw [hV]; rfl, hb1⟩
end Go.Proofs.Ytkbidgonjnlkmaa

/-
  The contract of the reference's Right (which record may be). No condition. Own work.
-/
import Derived.Test.YtdpfcjhhabcheaaDoorRName
namespace Go.Proofs.YtdpfcjhhabcheaaDoor
open Go.RowKit

/-- A record as a value. -/
abbrev RVal (k e t c g u : Int) (r n : ByteArray) : Value := .agg #[.int .i64 k, .int .i64 e, .int .i64 t, .int .i64 c, .int .i64 g, .int .i64 u, .string r, .string n]
def tgOk (e g : Int) : Prop := 0 ≤ g ∧ g < e
def unOk (u : Int) : Prop := 0 ≤ u ∧ u ≤ 1099511627776
/-- Which record may be. -/
def ROk (k e t c g u : Int) (r n : ByteArray) : Prop := 0 ≤ e ∧ e ≤ 4294967295 ∧ 0 ≤ t ∧ t ≤ 1099511627776 ∧
  ((k = 1 ∧ 0 ≤ c ∧ c ≤ 4096 ∧ r.size = 32 ∧ g = 0 ∧ u = 0 ∧ n.toList = []) ∨ ((k = 2 ∨ k = 5) ∧ tgOk e g ∧ unOk u ∧ c = 0 ∧ r.toList = [] ∧ n.toList = []) ∨
    (k = 3 ∧ tgOk e g ∧ nameL n.data.toList = true ∧ u = 0 ∧ c = 0 ∧ r.toList = []) ∨ (k = 4 ∧ nameL n.data.toList = true ∧ g = 0 ∧ u = 0 ∧ c = 0 ∧ r.toList = []))
set_option maxRecDepth 100000 in
set_option maxHeartbeats 3200000 in
theorem rright_bounds (k e t c g u : Int) (r n : ByteArray) (h : ¬ (0 ≤ e ∧ e ≤ 4294967295 ∧ 0 ≤ t ∧ t ≤ 1099511627776)) (w : World) : Calls Tryd.prog 34 #[RVal k e t c g u r n] w fun x w' => x = .returned (.bool false) ∧ Below w.heap.size w w' := by
  have h' : e < 0 ∨ 4294967295 < e ∨ t < 0 ∨ 1099511627776 < t := by omega
  clear h
  go_enter Tryd.func34, Tryd.ntmps34
  rcases h' with h | h | h | h
  · go_wp2_with fail
    go_ret
    exact ⟨rfl, bnew _ _⟩
  · have h0 : ¬ e < 0 := by omega
    go_wp2_with fail
    go_ret
    exact ⟨rfl, bnew _ _⟩
  · by_cases h0 : e < 0
    · go_wp2_with fail
      go_ret
      exact ⟨rfl, bnew _ _⟩
    · by_cases h1 : 4294967295 < e
      · go_wp2_with fail
        go_ret
        exact ⟨rfl, bnew _ _⟩
      · go_wp2_with fail
        go_ret
        exact ⟨rfl, bnew _ _⟩
  · have h2 : ¬ t < 0 := by omega
    by_cases h0 : e < 0
    · go_wp2_with fail
      go_ret
      exact ⟨rfl, bnew _ _⟩
    · by_cases h1 : 4294967295 < e
      · go_wp2_with fail
        go_ret
        exact ⟨rfl, bnew _ _⟩
      · go_wp2_with fail
        go_ret
        exact ⟨rfl, bnew _ _⟩
end Go.Proofs.YtdpfcjhhabcheaaDoor

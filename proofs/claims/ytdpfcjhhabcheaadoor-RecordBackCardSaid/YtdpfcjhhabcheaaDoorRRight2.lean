/-
  The contract of the reference's Right (which record may be), the other kinds; and of any record. No condition. Own work.
-/
import Derived.Test.YtdpfcjhhabcheaaDoorRRight1
namespace Go.Proofs.YtdpfcjhhabcheaaDoor
open Go.RowKit

instance (e g : Int) : Decidable (tgOk e g) := by unfold tgOk; infer_instance
instance (u : Int) : Decidable (unOk u) := by unfold unOk; infer_instance
set_option maxRecDepth 100000 in
set_option maxHeartbeats 3200000 in
theorem rright_two (k e t c g u : Int) (r n : ByteArray) (hk : k = 2 ∨ k = 5) (h1 : 0 ≤ e) (h2 : e ≤ 4294967295) (h3 : 0 ≤ t) (h4 : t ≤ 1099511627776) (w : World) : Calls Tryd.prog 34 #[RVal k e t c g u r n] w fun x w' => x = .returned (.bool (decide (tgOk e g ∧ unOk u ∧ c = 0 ∧ r.toList = [] ∧ n.toList = []))) ∧ Below w.heap.size w w' := by
  have a1 : ¬ e < 0 := by omega
  have a2 : ¬ 4294967295 < e := by omega
  have a3 : ¬ t < 0 := by omega
  have a4 : ¬ 1099511627776 < t := by omega
  unfold tgOk unOk
  clear h1 h2 h3 h4
  rcases hk with rfl | rfl
  all_goals
    go_enter Tryd.func34, Tryd.ntmps34
    go_wp2
    all_goals go_ret
    all_goals refine ⟨ret_bool ?_, bnew _ _⟩
    all_goals first
      | (simp; omega)
      | (simp_all; done)
      | (simp_all; omega)
      | (cases n.toList <;> simp <;> omega)
set_option maxRecDepth 100000 in
set_option maxHeartbeats 3200000 in
theorem rright_three (e t c g u : Int) (r n : ByteArray) (hn : n.size ≤ 100000) (h1 : 0 ≤ e) (h2 : e ≤ 4294967295) (h3 : 0 ≤ t) (h4 : t ≤ 1099511627776) (w : World) : Calls Tryd.prog 34 #[RVal 3 e t c g u r n] w fun x w' => x = .returned (.bool (decide (tgOk e g ∧ nameL n.data.toList = true ∧ u = 0 ∧ c = 0 ∧ r.toList = []))) ∧ Below w.heap.size w w' := by
  have a1 : ¬ e < 0 := by omega
  have a2 : ¬ 4294967295 < e := by omega
  have a3 : ¬ t < 0 := by omega
  have a4 : ¬ 1099511627776 < t := by omega
  have HN := Lib.hid (rname_any n hn)
  generalize nameL n.data.toList = b at *
  unfold tgOk
  clear h1 h2 h3 h4 hn
  cases b
  all_goals
    go_enter Tryd.func34, Tryd.ntmps34
    go_wp2_with ((with_reducible refine (HN.out _).mono ?_); rintro e w' ⟨rfl, rfl⟩)
    all_goals go_ret
    all_goals refine ⟨ret_bool ?_, bnew _ _⟩
    all_goals first
      | (simp; omega)
      | (simp_all; done)
      | (simp_all; omega)
      | (cases r.toList <;> simp <;> omega)
      | (simp_all; cases r.toList <;> simp)
set_option maxRecDepth 100000 in
set_option maxHeartbeats 3200000 in
theorem rright_four (e t c g u : Int) (r n : ByteArray) (hn : n.size ≤ 100000) (h1 : 0 ≤ e) (h2 : e ≤ 4294967295) (h3 : 0 ≤ t) (h4 : t ≤ 1099511627776) (w : World) : Calls Tryd.prog 34 #[RVal 4 e t c g u r n] w fun x w' => x = .returned (.bool (decide (nameL n.data.toList = true ∧ g = 0 ∧ u = 0 ∧ c = 0 ∧ r.toList = []))) ∧ Below w.heap.size w w' := by
  have a1 : ¬ e < 0 := by omega
  have a2 : ¬ 4294967295 < e := by omega
  have a3 : ¬ t < 0 := by omega
  have a4 : ¬ 1099511627776 < t := by omega
  have HN := Lib.hid (rname_any n hn)
  generalize nameL n.data.toList = b at *
  clear h1 h2 h3 h4 hn
  cases b
  all_goals
    go_enter Tryd.func34, Tryd.ntmps34
    go_wp2_with ((with_reducible refine (HN.out _).mono ?_); rintro e w' ⟨rfl, rfl⟩)
    all_goals go_ret
    all_goals refine ⟨ret_bool ?_, bnew _ _⟩
    all_goals first
      | (simp; omega)
      | (simp_all; done)
      | (simp_all; omega)
      | (cases r.toList <;> simp <;> omega)
      | (simp_all; cases r.toList <;> simp)
set_option maxRecDepth 100000 in
set_option maxHeartbeats 3200000 in
theorem rright_other (k e t c g u : Int) (r n : ByteArray) (k1 : ¬ k = 1) (k2 : ¬ k = 2) (k3 : ¬ k = 3) (k4 : ¬ k = 4) (k5 : ¬ k = 5) (w : World) : Calls Tryd.prog 34 #[RVal k e t c g u r n] w fun x w' => x = .returned (.bool false) ∧ Below w.heap.size w w' := by
  by_cases hb : 0 ≤ e ∧ e ≤ 4294967295 ∧ 0 ≤ t ∧ t ≤ 1099511627776
  · obtain ⟨h1, h2, h3, h4⟩ := hb
    have a1 : ¬ e < 0 := by omega
    have a2 : ¬ 4294967295 < e := by omega
    have a3 : ¬ t < 0 := by omega
    have a4 : ¬ 1099511627776 < t := by omega
    clear h1 h2 h3 h4
    go_enter Tryd.func34, Tryd.ntmps34
    go_wp2
    all_goals go_ret
    all_goals exact ⟨rfl, bnew _ _⟩
  · exact rright_bounds k e t c g u r n hb w
instance (k e t c g u : Int) (r n : ByteArray) : Decidable (ROk k e t c g u r n) := by unfold ROk tgOk unOk; infer_instance
theorem rright_ex (k e t c g u : Int) (r n : ByteArray) (hn : n.size ≤ 100000) : ∃ b : Bool, (b = true ↔ ROk k e t c g u r n) ∧ ∀ w, Calls Tryd.prog 34 #[RVal k e t c g u r n] w fun x w' => x = .returned (.bool b) ∧ Below w.heap.size w w' := by
  by_cases hb : 0 ≤ e ∧ e ≤ 4294967295 ∧ 0 ≤ t ∧ t ≤ 1099511627776
  · obtain ⟨h1, h2, h3, h4⟩ := hb
    by_cases k1 : k = 1
    · subst k1
      exact ⟨_, by unfold ROk; simp [h1, h2, h3, h4], rright_one e t c g u r n h1 h2 h3 h4⟩
    by_cases k2 : k = 2 ∨ k = 5
    · refine ⟨_, ?_, rright_two k e t c g u r n k2 h1 h2 h3 h4⟩
      unfold ROk
      rcases k2 with rfl | rfl <;> simp [h1, h2, h3, h4]
    by_cases k3 : k = 3
    · subst k3
      exact ⟨_, by unfold ROk; simp [h1, h2, h3, h4], rright_three e t c g u r n hn h1 h2 h3 h4⟩
    by_cases k4 : k = 4
    · subst k4
      exact ⟨_, by unfold ROk; simp [h1, h2, h3, h4], rright_four e t c g u r n hn h1 h2 h3 h4⟩
    refine ⟨false, ?_, rright_other k e t c g u r n k1 (fun h => k2 (.inl h)) k3 k4 (fun h => k2 (.inr h))⟩
    unfold ROk
    simp [k1, k3, k4, k2]
  · refine ⟨false, ?_, rright_bounds k e t c g u r n hb⟩
    unfold ROk
    simp only [Bool.false_eq_true, false_iff]
    exact fun h => hb ⟨h.1, h.2.1, h.2.2.1, h.2.2.2.1⟩
theorem rright_any (k e t c g u : Int) (r n : ByteArray) (hn : n.size ≤ 100000) (w : World) : Calls Tryd.prog 34 #[RVal k e t c g u r n] w fun x w' => x = .returned (.bool (decide (ROk k e t c g u r n))) ∧ Below w.heap.size w w' := by
  obtain ⟨b, hb, h⟩ := rright_ex k e t c g u r n hn
  have e : b = decide (ROk k e t c g u r n) := by rw [Bool.eq_iff_iff, decide_eq_true_iff]; exact hb
  rw [← e]
  exact h w
end Go.Proofs.YtdpfcjhhabcheaaDoor

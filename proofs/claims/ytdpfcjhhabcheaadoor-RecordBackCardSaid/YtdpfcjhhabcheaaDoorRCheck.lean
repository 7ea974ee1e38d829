/-
  The contract of record.Check (may a record be?). No condition. Own work.
-/
import Derived.Test.YtdpfcjhhabcheaaDoorRest
import Derived.Test.YtdpfcjhhabcheaaDoorRRight2
namespace Go.Proofs.YtdpfcjhhabcheaaDoor
open Go.RowKit

theorem retI {k : IntKind} {a b : Int} (h : a = b) : Ending.returned (.int k a) = .returned (.int k b) := by rw [h]
/-- What a check answers. -/
def okV (p : Prop) [Decidable p] : Int := if p then 0 else 2
set_option maxRecDepth 100000 in
set_option maxHeartbeats 3200000 in
/-- Given what rest answers. -/
theorem check_of (k e t c g u c' g' u' : Int) (r n r' n' : ByteArray) (b : Bool) (hr : ∀ w, Calls Tryd.prog 37 #[RVal k e t c g u r n] w fun x w' => x = .returned (.tuple #[RVal 0 0 0 c' g' u' r' n', .bool b]) ∧ Below w.heap.size w w') (w : World) :
    Calls Tryd.prog 13 #[RVal k e t c g u r n] w fun x w' => x = .returned (.int .i64 (okV (b = true ∧ (c' = 0 ∧ g' = 0 ∧ u' = 0 ∧ r'.toList = [] ∧ n'.toList = []) ∧ wi e 4294967295 = true ∧ wi t 1099511627776 = true))) ∧ Below w.heap.size w w' := by
  have HR := Lib.hid hr
  have HE := Lib.hid (wi_any e 4294967295)
  have HT := Lib.hid (wi_any t 1099511627776)
  clear hr
  generalize wi e 4294967295 = be at *
  generalize wi t 1099511627776 = bt at *
  go_enter Tryd.func13, Tryd.ntmps13
  go_wp2_with fail
  refine (HR.out _).mono ?_
  rintro e1 w1 ⟨rfl, hb1⟩
  have b1 := bthen (bnew w (.cells #[.int .i64 k, .int .i64 e, .int .i64 t, .int .i64 c, .int .i64 g, .int .i64 u, .string r, .string n] 23)) hb1
  have z1 := bsz hb1
  have c1 : w1.cell? ⟨w.heap.size, 1, none⟩ = some (.int .i64 e) := (hb1.cell (p := ⟨w.heap.size, 1, none⟩) (by simp)).trans (by simp [go_sem])
  have c2 : w1.cell? ⟨w.heap.size, 2, none⟩ = some (.int .i64 t) := (hb1.cell (p := ⟨w.heap.size, 2, none⟩) (by simp)).trans (by simp [go_sem])
  clear hb1
  go_wp2_with (first
    | ((with_reducible refine (HE.out _).mono ?_); rintro e2 w2 ⟨rfl, rfl⟩)
    | ((with_reducible refine (HT.out _).mono ?_); rintro e3 w3 ⟨rfl, rfl⟩))
  all_goals go_ret
  all_goals refine ⟨retI ?_, (by first | exact b1 | exact bthen b1 (bnew _ _))⟩
  all_goals first
    | (simp [okV, *]; done)
    | (simp_all [okV]; done)
/-- Of a number from below, as a record's epoch may be. -/
theorem wi_less (e g : Int) (h : 0 ≤ e ∧ e ≤ 4294967295) : wi g (wrap64 (e - 1)) = true ↔ tgOk e g := by
  have h1 : wrap64 (e - 1) = e - 1 := by unfold wrap64; omega
  rw [h1]
  unfold wi tgOk
  rw [decide_eq_true_iff]
  omega
theorem check_any (k e t c g u : Int) (r n : ByteArray) (hn : n.size ≤ 100000) (w : World) : Calls Tryd.prog 13 #[RVal k e t c g u r n] w fun x w' => x = .returned (.int .i64 (okV (ROk k e t c g u r n))) ∧ Below w.heap.size w w' := by
  have key : ∀ (p : Prop) [Decidable p], (p ↔ ROk k e t c g u r n) → okV p = okV (ROk k e t c g u r n) := fun p _ h => by
    unfold okV
    by_cases hp : p
    · rw [if_pos hp, if_pos (h.1 hp)]
    · rw [if_neg hp, if_neg (fun q => hp (h.2 q))]
  have he : wi e 4294967295 = true ↔ 0 ≤ e ∧ e ≤ 4294967295 := by unfold wi; rw [decide_eq_true_iff]
  have ht : wi t 1099511627776 = true ↔ 0 ≤ t ∧ t ≤ 1099511627776 := by unfold wi; rw [decide_eq_true_iff]
  have hz : (⟨#[]⟩ : ByteArray).toList = [] := by rw [ByteArray.toList_eq]
  by_cases k1 : k = 1
  · subst k1
    have h := check_of 1 e t c g u 0 g u r n ⟨#[]⟩ n _ (rest_one e t c g u r n) w
    rw [key _ ?_] at h
    · exact h
    · rw [he, ht, hz]
      unfold wi ROk
      simp
      grind
  by_cases k2 : k = 2 ∨ k = 5
  · have h := check_of k e t c g u c 0 0 r n r n _ (rest_two k e t c g u r n k2) w
    rw [key _ ?_] at h
    · exact h
    · rw [he, ht]
      by_cases hb : 0 ≤ e ∧ e ≤ 4294967295
      · have hl := wi_less e g hb
        have hu : wi u 1099511627776 = true ↔ unOk u := by unfold wi unOk; rw [decide_eq_true_iff]
        rw [Bool.and_eq_true, hl, hu]
        unfold ROk
        rcases k2 with rfl | rfl <;> simp <;> grind
      · unfold ROk
        grind
  by_cases k3 : k = 3
  · subst k3
    have h := check_of 3 e t c g u c 0 u r n r ⟨#[]⟩ _ (rest_three e t c g u r n hn) w
    rw [key _ ?_] at h
    · exact h
    · rw [he, ht, hz]
      by_cases hb : 0 ≤ e ∧ e ≤ 4294967295
      · have hl := wi_less e g hb
        rw [Bool.and_eq_true, hl]
        unfold ROk
        simp
        grind
      · unfold ROk
        grind
  by_cases k4 : k = 4
  · subst k4
    have h := check_of 4 e t c g u c g u r n r ⟨#[]⟩ _ (rest_four e t c g u r n hn) w
    rw [key _ ?_] at h
    · exact h
    · rw [he, ht, hz]
      unfold ROk
      simp
      grind
  have h := check_of k e t c g u c g u r n r n _ (rest_other k e t c g u r n k1 (fun h => k2 (.inl h)) k3 k4 (fun h => k2 (.inr h))) w
  rw [key _ ?_] at h
  · exact h
  · unfold ROk
    simp [k1, k3, k4, k2]
end Go.Proofs.YtdpfcjhhabcheaaDoor

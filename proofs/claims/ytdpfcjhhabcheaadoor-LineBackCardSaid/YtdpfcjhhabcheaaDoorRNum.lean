/-
  The contract of the reference's number. No condition. Own work.
-/
import Derived.Test.YtdpfcjhhabcheaaDoorNum
namespace Go.Proofs.YtdpfcjhhabcheaaDoor
open Go Go.RowKit

theorem rev_ind {α : Type} {P : List α → Prop} (h0 : P []) (h1 : ∀ m c, P m → P (m ++ [c])) : ∀ l, P l := fun l => by
  have : ∀ r : List α, P r.reverse := fun r => by
    induction r with
    | nil => exact h0
    | cons c r ih => rw [List.reverse_cons]; exact h1 _ _ ih
  have h := this l.reverse
  rwa [List.reverse_reverse] at h
theorem digC_bd {c : UInt8} (h : digC c = true) : 48 ≤ c.toNat ∧ c.toNat ≤ 57 := by
  unfold digC at h
  simpa using h
/-- A numeral begins with no nought, but that of nought. -/
theorem dd_head (k : Nat) : ∀ n, n < 10 ^ (k + 1) → 0 < n → ∃ c r, Lib.decDigits n = c :: r ∧ c ≠ 48 := by
  induction k with
  | zero =>
    intro n h h0
    refine ⟨_, [], dd_small n (by omega), fun e => ?_⟩
    have := congrArg UInt8.toNat e
    rw [UInt8.toNat_ofNat'] at this
    simp at this
    omega
  | succ k ih =>
    intro n h h0
    by_cases h10 : n < 10
    · refine ⟨_, [], dd_small n h10, fun e => ?_⟩
      have := congrArg UInt8.toNat e
      rw [UInt8.toNat_ofNat'] at this
      simp at this
      omega
    · obtain ⟨c, r, hc, hne⟩ := ih (n / 10) (by rw [Nat.div_lt_iff_lt_mul (by omega), ← Nat.pow_succ]; exact h) (by omega)
      exact ⟨c, r ++ Lib.decDigits (n % 10), by rw [dd_big n h10, hc]; rfl, hne⟩
theorem valL_pos : ∀ (l : List UInt8), l.all digC = true → l ≠ [] → l.getD 0 0 ≠ 48 → 0 < valL l := by
  refine rev_ind (fun _ h => absurd rfl h) (fun m c ih => ?_)
  · intro ha _ hz
    rw [List.all_append, Bool.and_eq_true] at ha
    have hc := digC_bd (c := c) (by simpa using ha.2)
    rw [valL_snoc]
    by_cases hm : m = []
    · subst hm
      simp at hz
      have : c.toNat ≠ 48 := fun e => hz (UInt8.toNat_inj.1 (by rw [e]; rfl))
      omega
    · have : (m ++ [c]).getD 0 0 = m.getD 0 0 := by
        cases m with
        | nil => exact absurd rfl hm
        | cons a m => rfl
      rw [this] at hz
      have := ih ha.1 hm hz
      omega
/-- The numeral of what digits tell is these digits, if they do not begin with a nought. -/
theorem dd_val : ∀ (l : List UInt8), l.all digC = true → l ≠ [] → (l.length = 1 ∨ l.getD 0 0 ≠ 48) → Lib.decDigits (valL l) = l := by
  refine rev_ind (fun _ h => absurd rfl h) (fun m c ih => ?_)
  · intro ha _ hz
    rw [List.all_append, Bool.and_eq_true] at ha
    have hc := digC_bd (c := c) (by simpa using ha.2)
    have hcc : UInt8.ofNat (48 + (c.toNat - 48)) = c := UInt8.toNat_inj.1 (by rw [UInt8.toNat_ofNat']; omega)
    rw [valL_snoc]
    by_cases hm : m = []
    · subst hm
      show Lib.decDigits (10 * 0 + (c.toNat - 48)) = [c]
      rw [Nat.mul_zero, Nat.zero_add, dd_small _ (by omega), hcc]
    · have hl : (m ++ [c]).getD 0 0 = m.getD 0 0 := by
        cases m with
        | nil => exact absurd rfl hm
        | cons a m => rfl
      have hml : 0 < m.length := List.length_pos_iff.2 hm
      have hz2 : m.getD 0 0 ≠ 48 := by
        rcases hz with hz | hz
        · rw [List.length_append] at hz; simp only [List.length_cons, List.length_nil] at hz; omega
        · rwa [hl] at hz
      have hp := valL_pos m ha.1 hm hz2
      rw [dd_big _ (by omega), show (10 * valL m + (c.toNat - 48)) / 10 = valL m from by omega, show (10 * valL m + (c.toNat - 48)) % 10 = c.toNat - 48 from by omega, ih ha.1 hm (.inr hz2), dd_small _ (by omega), hcc]
theorem dd_val_no (l : List UInt8) (h13 : l.length ≤ 13) (ha : l.all digC = true) (h1 : 1 < l.length) (hz : l.getD 0 0 = 48) : Lib.decDigits (valL l) ≠ l := by
  intro e
  have hlt := valL_lt l.length l rfl ha
  have hlt2 : valL l < 10 ^ (12 + 1) := Nat.lt_of_lt_of_le hlt (Nat.pow_le_pow_right (by omega) (by omega))
  by_cases h0 : valL l = 0
  · rw [h0, dd_small 0 (by omega)] at e
    rw [← e] at h1
    simp at h1
  · obtain ⟨c, r, hc, hne⟩ := dd_head 12 (valL l) hlt2 (by omega)
    rw [hc] at e
    rw [← e] at hz
    exact hne (by simpa using hz)
def numR (l : List UInt8) : Int := match numO l with | some v => (v : Int) | none => -1
theorem numR_bad {l : List UInt8} (h : badL l ∨ 1099511627776 < valL l) : numR l = -1 := by unfold numR numO; rw [if_pos h]
theorem numR_ok {l : List UInt8} (h : ¬ (badL l ∨ 1099511627776 < valL l)) : numR l = (valL l : Int) := by unfold numR numO; rw [if_neg h]
end Go.Proofs.YtdpfcjhhabcheaaDoor

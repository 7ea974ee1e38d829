/-
  A shown event's words, plainly: joined words are parted again; numerals. No condition. Own work.
-/
import Derived.Test.YtdpfcjhhabcheaaDoorParseP
import Derived.Lib.Join
namespace Go.Proofs.YtdpfcjhhabcheaaDoor
open Go Go.RowKit

theorem wordsA_app : ∀ (a l cur : List UInt8), (∀ c ∈ a, c ≠ 32) → wordsA cur (a ++ l) = wordsA (cur ++ a) l
  | [], l, cur, _ => by simp
  | c :: a, l, cur, h => by
    have hc : c ≠ 32 := h c (List.mem_cons_self ..)
    rw [List.cons_append, wordsA, if_neg hc, wordsA_app a l (cur ++ [c]) (fun d hd => h d (List.mem_cons_of_mem _ hd))]
    simp
theorem words_join : ∀ (xs : List (List UInt8)), (∀ x ∈ xs, x ≠ [] ∧ ∀ c ∈ x, c ≠ 32) → wordsL (Lib.join xs [32]) = xs
  | [], _ => rfl
  | [x], h => by
    obtain ⟨h1, h2⟩ := h x (List.mem_cons_self ..)
    have e : Lib.join [x] [32] = x ++ [] := by simp [Lib.join, List.intercalate]
    unfold wordsL
    rw [e, wordsA_app x [] [] h2]
    simp [wordsA, h1]
  | x :: y :: r, h => by
    obtain ⟨h1, h2⟩ := h x (List.mem_cons_self ..)
    have ih := words_join (y :: r) (fun z hz => h z (List.mem_cons_of_mem _ hz))
    have e : Lib.join (x :: y :: r) [32] = x ++ (32 :: Lib.join (y :: r) [32]) := by simp [Lib.join, List.intercalate]
    unfold wordsL at ih ⊢
    rw [e, wordsA_app x _ [] h2, List.nil_append, wordsA_blank x _ h1, ih]
theorem dd_all : ∀ (n : Nat), (Lib.decDigits n).all digC = true ∧ Lib.decDigits n ≠ [] ∧ valL (Lib.decDigits n) = n := by
  intro n
  induction n using Nat.strongRecOn with
  | _ n ih =>
    by_cases h : n < 10
    · rw [dd_small n h]
      refine ⟨?_, by simp, ?_⟩
      · simp [digC]; omega
      · simp [valL]; omega
    · obtain ⟨i1, i2, i3⟩ := ih (n / 10) (by omega)
      rw [dd_big n h, dd_small (n % 10) (by omega)]
      have e : (UInt8.ofNat (48 + n % 10)).toNat = 48 + n % 10 := by simp; omega
      refine ⟨?_, by simp, ?_⟩
      · rw [List.all_append, i1]
        simp [digC]
        omega
      · rw [valL_snoc, i3, e]
        omega
theorem dig_not (c : UInt8) (h : digC c = true) : c ≠ 32 ∧ c ≠ 58 := by
  obtain ⟨h1, h2⟩ := digC_bd h
  constructor <;> (intro e; subst e; simp at h1 h2)
/-- A number's numeral is that number's text. -/
theorem numO_dec (n : Nat) (h : n ≤ 1099511627776) : numO (Lib.decDigits n) = some n := by
  obtain ⟨h1, h2, h3⟩ := dd_all n
  unfold numO
  rw [h3, if_neg]
  intro hb
  rcases hb with hb | hb
  · unfold badL at hb
    have hl := dd_len 12 n (by omega)
    rcases hb with hb | hb | ⟨hb, hz⟩ | hb
    · exact h2 (List.eq_nil_of_length_eq_zero hb)
    · omega
    · by_cases hn : n < 10
      · rw [dd_small n hn] at hb; simp at hb
      · obtain ⟨c, r, hc, hne⟩ := dd_head 12 n (by omega) (by omega)
        rw [hc] at hz
        exact hne (by simpa using hz)
    · rw [h1] at hb; cases hb
  · omega
/-- A number's text is that number's numeral. -/
theorem dec_numO {l : List UInt8} {v : Nat} (h : numO l = some v) : Lib.decDigits v = l ∧ v ≤ 1099511627776 := by
  obtain ⟨-, hle⟩ := numI_some h
  unfold numO at h
  split at h
  · cases h
  · rename_i hb
    injection h with h
    subst h
    have hb1 : ¬ badL l := fun q => hb (.inl q)
    unfold badL at hb1
    have a1 : l.all digC = true := by
      cases ha : l.all digC with
      | true => rfl
      | false => exact absurd (.inr (.inr (.inr ha))) hb1
    have a2 : l ≠ [] := fun e => hb1 (.inl (by rw [e]; rfl))
    refine ⟨dd_val l a1 a2 ?_, hle⟩
    by_cases h1 : l.length = 1
    · exact .inl h1
    · refine .inr (fun hz => hb1 (.inr (.inr (.inl ⟨?_, hz⟩))))
      have := List.length_pos_iff.2 a2
      omega
end Go.Proofs.YtdpfcjhhabcheaaDoor

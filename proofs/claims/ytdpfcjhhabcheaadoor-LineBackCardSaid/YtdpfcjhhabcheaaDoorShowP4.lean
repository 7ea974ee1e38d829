/-
  A parsed line's event is shown by the line's words. No condition. Own work.
-/
import Derived.Test.YtdpfcjhhabcheaaDoorShowP2
namespace Go.Proofs.YtdpfcjhhabcheaaDoor
open Go Go.RowKit

theorem num_back {y : List UInt8} (h : isN y = true) : Lib.decDigits (((numI y : Nat) : Int)).toNat = y := by
  unfold isN at h
  obtain ⟨v, hv⟩ := Option.isSome_iff_exists.1 h
  rw [(numI_some hv).1]
  exact (dec_numO hv).1
theorem ask_back {y : List UInt8} (h : askOk y = true) : askW (askI y) = y := by
  have hl : (baL y).data.toList = y := rfl
  unfold askOk at h
  unfold askI
  cases hf : findB 58 (baL y).data.toList with
  | none => rw [hf] at h; cases h
  | some i =>
    rw [hf] at h
    dsimp only at h ⊢
    rw [Bool.and_eq_true] at h
    have h2 := (find_lt hf).2.1
    unfold askW
    dsimp only
    rw [num_back h.1, num_back h.2, ext_list, ext_list, hl]
    rw [hl] at h2
    have hil : i < y.length := (List.getElem?_eq_some_iff.1 h2).1
    rw [sz_list, hl, List.take_of_length_le (Nat.le_refl _), List.drop_zero]
    have e : y.drop i = 58 :: y.drop (i + 1) := drop_get1 y i 58 h2
    rw [← e, List.take_append_drop]
theorem pEnd_some {wd nm dt : ByteArray} {nums : List Int} {asks : List (Int × Int)} {is : Bool} {ws : List (List UInt8)} {e : Ev} (h : pEnd wd nums nm dt asks is ws = some e) : is = true ∧ ws = [] ∧ e = ⟨wd, nums, nm, dt, asks⟩ := by
  unfold pEnd at h
  split at h
  · rename_i hc
    cases h
    exact ⟨hc.1, hc.2.1, rfl⟩
  · cases h
theorem show_parse (ws : List (List UInt8)) (hne : ∀ y ∈ ws, y ≠ []) (e : Ev) (h : parseW ws = some e) : showW e = ws := by
  cases ws with
  | nil => cases h
  | cons x r =>
    unfold parseW at h
    dsimp only at h
    cases ho : ofW x with
    | none =>
      rw [ho] at h
      dsimp only [Option.getD, Option.isSome] at h
      have hk : nk sh0 r.length = 0 := rfl
      unfold pNums at h
      rw [hk, if_neg (by omega), List.take_zero, List.all_nil, if_pos rfl] at h
      unfold pName pData pAsks at h
      simp only [sh0, Bool.false_eq_true, if_false] at h
      exact absurd (pEnd_some h).1 (by simp)
    | some s =>
      rw [ho] at h
      dsimp only [Option.getD, Option.isSome] at h
      have hone := of_one ho
      unfold pNums at h
      generalize hk : nk s r.length = k at h
      split at h
      · cases h
      split at h
      · rename_i hsh hall
        have hnum : ((r.take k).map fun x => ((numI x : Nat) : Int)).map (fun n => Lib.decDigits n.toNat) = r.take k := by
          rw [List.map_map]
          exact (List.map_congr_left fun y hy => num_back (List.all_eq_true.1 hall y hy)).trans (List.map_id _)
        have hsp : r.take k ++ r.drop k = r := List.take_append_drop k r
        have hnd : ∀ y ∈ r.drop k, y ≠ [] := fun y hy => hne y (List.mem_cons_of_mem _ (List.mem_of_mem_drop hy))
        generalize hrest : r.drop k = rest at h hsp hnd
        have hfin : ∀ nm dt asks, e = ⟨baL x, (r.take k).map fun x => ((numI x : Nat) : Int), nm, dt, asks⟩ → midW s e ++ asks.map askW = rest → showW e = x :: r := fun nm dt asks he hm => by
          unfold showW
          have hw : e.word.data.toList = x := by rw [he]; rfl
          have hn : e.nums = (r.take k).map fun x => ((numI x : Nat) : Int) := by rw [he]
          have hq : e.asks = asks := by rw [he]
          rw [hw, hn, hq, hnum, ho]
          dsimp only [Option.getD]
          rw [hm, hsp]
        unfold pName pData pAsks at h
        rcases hone with ⟨f1, f2, f3⟩ | ⟨f1, f2, f3⟩ | ⟨f1, f2, f3⟩ | ⟨f1, f2, f3⟩
        · rw [f1, f2, f3] at h
          simp only [Bool.false_eq_true, if_false, if_true] at h
          cases rest with
          | nil => exact absurd (pEnd_some h).1 (by simp)
          | cons y q =>
            obtain ⟨-, rfl, he⟩ := pEnd_some h
            refine hfin _ _ _ he ?_
            rw [he]
            unfold midW
            rw [f1]
            rfl
        · rw [f1, f2, f3] at h
          simp only [Bool.false_eq_true, if_false, if_true] at h
          cases rest with
          | nil => exact absurd (pEnd_some h).1 (by simp)
          | cons y q =>
            obtain ⟨-, rfl, he⟩ := pEnd_some h
            refine hfin _ _ _ he ?_
            rw [he]
            unfold midW
            rw [f1, f2]
            simp only [Bool.false_eq_true, if_false, if_true]
            by_cases h45 : y = [45]
            · rw [if_pos h45, h45]; rfl
            · rw [if_neg h45]
              have hy := hnd y (List.mem_cons_self ..)
              rw [if_neg (show ¬ (baL y).data.toList = [] from hy)]
              rfl
        · rw [f1, f2, f3] at h
          simp only [Bool.false_eq_true, if_false, if_true, List.nil_append, Bool.true_and] at h
          obtain ⟨hok, -, he⟩ := pEnd_some h
          refine hfin _ _ _ he ?_
          rw [he]
          unfold midW
          rw [f1, f2]
          simp only [Bool.false_eq_true, if_false, List.nil_append]
          rw [List.map_map]
          exact (List.map_congr_left fun y hy => ask_back (List.all_eq_true.1 hok y hy)).trans (List.map_id _)
        · rw [f1, f2, f3] at h
          simp only [Bool.false_eq_true, if_false] at h
          obtain ⟨-, rfl, he⟩ := pEnd_some h
          refine hfin _ _ _ he ?_
          rw [he]
          unfold midW
          rw [f1, f2]
          rfl
      · cases h
end Go.Proofs.YtdpfcjhhabcheaaDoor

/-
  A shown event's words have no blank and are not empty; they are not long. No condition. Own work.
-/
namespace Go.Proofs.YtdpfcjhhabcheaaDoor
open Go Go.RowKit

def goodB (l : List UInt8) : Bool := !l.isEmpty && l.all (fun c => decide (c ≠ 32))
theorem goodB_iff {l : List UInt8} (h : goodB l = true) : l ≠ [] ∧ ∀ c ∈ l, c ≠ 32 := by
  unfold goodB at h
  rw [Bool.and_eq_true] at h
  refine ⟨fun e => by rw [e] at h; exact absurd h.1 (by decide), fun c hc => ?_⟩
  have := List.all_eq_true.1 h.2 c hc
  simpa using this
theorem goodB_of {l : List UInt8} (h1 : l ≠ []) (h2 : ∀ c ∈ l, c ≠ 32) : goodB l = true := by
  unfold goodB
  rw [Bool.and_eq_true]
  refine ⟨?_, ?_⟩
  · cases l with
    | nil => exact absurd rfl h1
    | cons a b => rfl
  · rw [List.all_eq_true]
    intro c hc
    simpa using h2 c hc
theorem of_good {l : List UInt8} {s : Shp} (h : ofW l = some s) : goodB l = true ∧ l.length ≤ 8 := by
  have ite_good : ∀ (lit : List UInt8) (a : Shp) (o : Option Shp), (goodB lit && decide (lit.length ≤ 8)) = true → (o.isSome = true → (goodB l && decide (l.length ≤ 8)) = true) → ((if l = lit then some a else o).isSome = true → (goodB l && decide (l.length ≤ 8)) = true) := fun lit a o h1 h2 h3 => by
    by_cases hc : l = lit
    · rw [hc]; exact h1
    · rw [if_neg hc] at h3; exact h2 h3
  have key : (ofW l).isSome = true → (goodB l && decide (l.length ≤ 8)) = true := by
    unfold ofW
    repeat (refine ite_good _ _ _ (by decide) ?_)
    exact fun q => absurd q (by decide)
  have := key (by rw [h]; rfl)
  rw [Bool.and_eq_true, decide_eq_true_eq] at this
  exact this
theorem dd_good (n : Nat) : goodB (Lib.decDigits n) = true :=
  goodB_of (dd_all n).2.1 fun c hc => (dig_not c (List.all_eq_true.1 (dd_all n).1 c hc)).1
theorem nameC_not {c : UInt8} (h : nameC c = true) : c ≠ 32 := by
  intro e
  subst e
  exact absurd h (by decide)
theorem show_words (e : Ev) (h : evOk e = true) : ∀ x ∈ showW e, x ≠ [] ∧ ∀ c ∈ x, c ≠ 32 := by
  unfold evOk at h
  cases ho : ofW e.word.toList with
  | none => rw [ho] at h; cases h
  | some s =>
    rw [ho] at h
    rw [str_tl] at ho
    dsimp only at h
    rw [Bool.and_eq_true] at h
    have h1 := h.1
    unfold headB at h1
    simp only [Bool.and_eq_true, decide_eq_true_eq] at h1
    obtain ⟨⟨⟨-, g3⟩, g4, -⟩, -⟩ := h1
    intro x hx
    refine goodB_iff ?_
    unfold showW at hx
    rcases List.mem_cons.1 hx with rfl | hx
    · exact (of_good ho).1
    rcases List.mem_append.1 hx with hx | hx
    · obtain ⟨n, -, rfl⟩ := List.mem_map.1 hx
      exact dd_good _
    rcases List.mem_append.1 hx with hx | hx
    · rw [ho] at hx
      dsimp only [Option.getD] at hx
      unfold midW at hx
      by_cases hn : s.name = true
      · rw [if_pos hn, List.mem_singleton] at hx
        rw [if_pos hn] at g3
        subst hx
        unfold nameL at g3
        simp only [Bool.and_eq_true, decide_eq_true_eq] at g3
        exact goodB_of (fun q => by rw [q] at g3; exact absurd g3.1.1 (by decide)) fun c hc => nameC_not (List.all_eq_true.1 g3.2 c hc)
      · rw [if_neg hn] at hx
        by_cases hd : s.data = true
        · rw [if_pos hd, List.mem_singleton] at hx
          subst hx
          by_cases he : e.data.data.toList = []
          · rw [if_pos he]; decide
          · rw [if_neg he]
            unfold dataB at g4
            rw [Bool.and_eq_true] at g4
            exact goodB_of he fun c hc => nameC_not (List.all_eq_true.1 g4.2 c hc)
        · rw [if_neg hd] at hx
          cases hx
    · obtain ⟨a, -, rfl⟩ := List.mem_map.1 hx
      obtain ⟨k1, k2⟩ := goodB_iff (dd_good a.1.toNat)
      obtain ⟨k3, k4⟩ := goodB_iff (dd_good a.2.toNat)
      refine goodB_of (by simp [askW]) fun c hc => ?_
      unfold askW at hc
      rcases List.mem_append.1 hc with hc | hc
      · exact k2 c hc
      · rcases List.mem_cons.1 hc with rfl | hc
        · decide
        · exact k4 c hc
/-- A shown event's line has just its words. -/
theorem show_line (e : Ev) (h : evOk e = true) : wordsL (Lib.join (showW e) [32]) = showW e := words_join _ (show_words e h)
end Go.Proofs.YtdpfcjhhabcheaaDoor

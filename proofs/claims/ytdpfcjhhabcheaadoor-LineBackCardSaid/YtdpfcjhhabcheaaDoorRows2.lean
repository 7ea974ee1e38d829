/-
  A slice that comes in, of whatever element type: the cells of each element. No condition. Own work.
-/
import Derived.Test.YtdpfcjhhabcheaaDoorLawKit
import Derived.Test.YtdpfcjhhabcheaaDoorBase
import Derived.Deep.Slices
namespace Go.Proofs.YtdpfcjhhabcheaaDoor
open Go.RowKit Go.ChangeShapes Go.WideShapes Go.ChangeAt

/-- A slice of n elements of k cells each lies at A, below block B; X: each element's cells. -/
structure RowsAt (w : World) (B : Nat) (A : Option Addr) (n k : Nat) (X : List (List Value)) : Prop where
  len : X.length = n
  lies : 0 < n → ∃ ad, A = some ad ∧ ad.block < B ∧ ∀ i cs, X[i]? = some cs → cs.length = k ∧ ∀ j, j < k → w.cell? (ad.add (i * k + j)) = cs[j]?

theorem block_add' (a : Addr) (j : Nat) : (a.add j).block = a.block := by unfold Addr.add; split <;> rfl
theorem add_add' (a : Addr) (i j : Nat) : (a.add i).add j = a.add (i + j) := by
  unfold Addr.add
  by_cases hi : i = 0 <;> by_cases hj : j = 0 <;> simp [hi, hj, Nat.add_assoc]
theorem RowsAt.below {w w' : World} {B : Nat} {A : Option Addr} {n k : Nat} {X : List (List Value)} (h : RowsAt w B A n k X) (hb : Below B w w') : RowsAt w' B A n k X :=
  ⟨h.len, fun hn => by
    obtain ⟨ad, e, hl, hc⟩ := h.lies hn
    exact ⟨ad, e, hl, fun i cs hi => ⟨(hc i cs hi).1, fun j hj => (hb.cell (by rw [block_add']; exact hl)).trans ((hc i cs hi).2 j hj)⟩⟩⟩

section
variable {H : Type} {enc : TypeId × Value → H} {P : Program} {W : World}
/-- A slice among the arguments. -/
theorem open_rowsAt {t e : TypeId} (ht : P.underlying t = some (.slice e)) (hk : 0 < P.cellsOf e) {base : Nat} {v : Value} {d : DataW H} {ps : List MemPlace} (hval : Value.okWide P W .any base t v)
    (hd : DataW.Trod enc P W 0 (fun _ => true) true t v d ps) :
    ∃ (A : Option Addr) (n c : Nat) (X : List (List Value)), v = .slice A n c ∧ n ≤ c ∧ c ≤ maxLen ∧ RowsAt W W.heap.size A n (P.cellsOf e) X ∧
      ∀ cs ∈ X, ∃ fuel y, DataW.trod enc P W 0 (fun _ => true) true fuel e cs = some y := by
  obtain ⟨a0, len, cap, rfl⟩ := okWide_slice ht hval
  obtain ⟨fuel, hf⟩ := hd
  rcases Go.Deep.open_slice ht hf with ⟨hcs, hx⟩ | ⟨a, len', cap', m, n, D, Pl, hcs, _, hl, hm, hmm, hx, hi⟩
  · simp [Value.cells] at hcs
    obtain ⟨rfl, rfl, rfl⟩ := hcs
    exact ⟨none, 0, 0, [], rfl, Nat.le_refl _, Nat.zero_le _, ⟨rfl, fun h => absurd h (by omega)⟩, (fun cs hcs => by cases hcs)⟩
  · simp [Value.cells] at hcs
    obtain ⟨rfl, rfl, rfl⟩ := hcs
    simp only [if_true] at hmm
    have hch : ∃ X : List (List Value), X.length = len ∧ ∀ i cs, X[i]? = some cs → W.cells? 0 (a.add (i * P.cellsOf e)) (P.cellsOf e) = some cs ∧ DataW.trod enc P W 0 (fun _ => true) true n e cs = some (D i, Pl i) := by
      have : ∀ q, q ≤ len → ∃ X : List (List Value), X.length = q ∧ ∀ i cs, X[i]? = some cs → W.cells? 0 (a.add (i * P.cellsOf e)) (P.cellsOf e) = some cs ∧ DataW.trod enc P W 0 (fun _ => true) true n e cs = some (D i, Pl i) := by
        intro q
        induction q with
        | zero => exact fun _ => ⟨[], rfl, fun i cs h => by simp at h⟩
        | succ q ih =>
          intro hq
          obtain ⟨X, h1, h2⟩ := ih (by omega)
          obtain ⟨cs, h3, h4⟩ := hi q (by omega)
          refine ⟨X ++ [cs], by simp [h1], fun i c hic => ?_⟩
          rw [List.getElem?_append] at hic
          by_cases hil : i < X.length
          · rw [if_pos hil] at hic; exact h2 i c hic
          · rw [if_neg hil] at hic
            have hiq : i = q := by
              rcases Nat.lt_or_ge (i - X.length) 1 with h | h
              · omega
              · rw [List.getElem?_eq_none (by simpa using h)] at hic; cases hic
            subst hiq
            rw [h1, Nat.sub_self] at hic
            injection hic with hic
            subst hic
            exact ⟨h3, h4⟩
      exact this len (Nat.le_refl _)
    obtain ⟨X, h1, h2⟩ := hch
    refine ⟨some a, len, cap, X, rfl, hl, hm, ⟨h1, fun hn => ⟨a, rfl, ?_, fun i cs hic => ?_⟩⟩, fun cs hcs => ?_⟩
    · obtain ⟨cs, h3⟩ : ∃ cs, X[0]? = some cs := ⟨X[0]'(by omega), List.getElem?_eq_getElem (by omega)⟩
      obtain ⟨_, h5, h6⟩ := World.cells?_some (h2 0 cs h3).1
      have h7 := h6 0 hk
      rcases Nat.lt_or_ge a.block W.heap.size with h | h
      · exact h
      · rw [List.getElem?_eq_getElem (by omega)] at h7
        have : W.heap[((a.add (0 * P.cellsOf e)).add 0).block]? = none := by rw [block_add', block_add']; exact Array.getElem?_eq_none h
        have hnone : W.cell? ((a.add (0 * P.cellsOf e)).add 0) = none := by simp only [World.cell?, this]
        rw [hnone] at h7
        cases h7
    · obtain ⟨_, h5, h6⟩ := World.cells?_some (h2 i cs hic).1
      exact ⟨h5, fun j hj => by rw [← add_add']; exact h6 j hj⟩
    · obtain ⟨i, hic⟩ := List.mem_iff_getElem?.1 hcs
      exact ⟨n, _, (h2 i cs hic).2⟩
end

theorem list_of {α β : Type} (f : β → α) : ∀ (X : List α), (∀ x ∈ X, ∃ b, x = f b) → ∃ L : List β, X = L.map f
  | [], _ => ⟨[], rfl⟩
  | x :: X, h => by
    obtain ⟨b, hb⟩ := h x (by simp)
    obtain ⟨L, hL⟩ := list_of f X (fun y hy => h y (by simp [hy]))
    exact ⟨b :: L, by rw [hb, hL]; rfl⟩

end Go.Proofs.YtdpfcjhhabcheaaDoor

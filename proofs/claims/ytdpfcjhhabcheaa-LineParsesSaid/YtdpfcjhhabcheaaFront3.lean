/-
  The stages of a drawn region: its start, its end, the steps. No condition. Own work.
-/
import Derived.Test.YtdpfcjhhabcheaaFront2
namespace Go.Proofs.Ytdpfcjhhabcheaa
open Go Go.RowKit

section
variable {P : Program} {ops : Array Oper}
theorem wp_region_front {Q : Exit → Act → World → Prop} {id : Nat} {a : Act} {w : World} (hm : P.follows .mixedOrders = true) (h : Front P ops Q 0 a w.drew) : (Code.region id ops true).wp P Q a w :=
  wp_region_any hm (h ops.size _ (by simp) (fun i hi => by
    rw [Array.getD_eq_getD_getElem?, Array.getElem?_replicate, if_pos hi]; rfl) (by omega))
theorem front_end {Q : Exit → Act → World → Prop} {m : Nat} {a : Act} {w : World} (hm : m = ops.size) (h : wpList P ops Q [] a w) : Front P ops Q m a w := by
  subst hm
  intro fuel listed hls hl hf
  refine any_of_list2 (m := ops.size) (fun i o hi ho => ?_) (fun i o hi ho => ?_) fuel ops.size listed a w (Nat.le_refl _) (Nat.le_refl _) hls hl hf ?_
  · have := (Array.getElem?_eq_some_iff.1 ho).1; omega
  · have := (Array.getElem?_eq_some_iff.1 ho).1; omega
  · rw [List.drop_of_length_le (by simp)]; exact h
variable {S : Bool → World → Prop} {c : Nat} {fin : Bool} {Q : Act → World → Prop} {a : Act} {o : Oper} {l : List Oper} {i : Nat} {v : Value}
theorem textP_nil (h : ∀ w, S fin w → Q a w) : TextP P ops S c fin Q i [] a := h
theorem textP_skip (hw : Region.wanted o (yielded ops a.tmps) = false) (hi : i ≠ c) (h : TextP P ops S c fin Q (i + 1) l (a.put o.dst undef)) : TextP P ops S c fin Q i (o :: l) a :=
  ⟨undef, .inl ⟨hw, rfl, hi⟩, h⟩
theorem textP_pure (hw : Region.wanted o (yielded ops a.tmps) = true) (hi : i ≠ c) (hy : ∀ q w, S q w → (execOp a.eval o).run P w = .ok (.value v) w)
    (h : TextP P ops S c fin Q (i + 1) l (a.put o.dst v)) : TextP P ops S c fin Q i (o :: l) a :=
  ⟨v, .inr ⟨hw, fun q _ _ w hS => by rw [hy q w hS, show (i == c) = false from by simp [hi], Bool.or_false]; exact ⟨rfl, hS⟩⟩, h⟩
/-- An operation that is bound to come behind the pivot. -/
theorem textP_late (hw : Region.wanted o (yielded ops a.tmps) = true) (hr : reach ops 12 i c = true) (hy : ∀ w, S true w → (execOp a.eval o).run P w = .ok (.value v) w)
    (h : TextP P ops S c fin Q (i + 1) l (a.put o.dst v)) : TextP P ops S c fin Q i (o :: l) a :=
  ⟨v, .inr ⟨hw, fun q h0 _ w hS => by
    cases q with
    | false => have := h0 rfl; rw [hr] at this; cases this
    | true => rw [hy w hS]; exact ⟨rfl, hS⟩⟩, h⟩
theorem textP_call {f : FuncId} {args : Array Value} (hw : Region.wanted o (yielded ops a.tmps) = true) (hi : i ≠ c)
    (hy : ∀ q w, S q w → (execOp a.eval o).run P w = .ok (.enter f args) w) (hc : ∀ q w, S q w → Calls P f args w (fun e w' => e = .returned v ∧ S q w'))
    (h : TextP P ops S c fin Q (i + 1) l (a.put o.dst v)) : TextP P ops S c fin Q i (o :: l) a :=
  ⟨v, .inr ⟨hw, fun q _ _ w hS => by rw [hy q w hS, show (i == c) = false from by simp [hi], Bool.or_false]; exact hc q w hS⟩, h⟩
theorem textP_pivot {f : FuncId} {args : Array Value} (hw : Region.wanted o (yielded ops a.tmps) = true) (hi : i = c)
    (hy : ∀ w, S false w → (execOp a.eval o).run P w = .ok (.enter f args) w) (hc : ∀ w, S false w → Calls P f args w (fun e w' => e = .returned v ∧ S true w'))
    (h : TextP P ops S c fin Q (i + 1) l (a.put o.dst v)) : TextP P ops S c fin Q i (o :: l) a :=
  ⟨v, .inr ⟨hw, fun q _ h1 w hS => by
    cases q with
    | true => exact absurd hi (h1 rfl).2
    | false => rw [hy w hS, show (i == c) = true from by simp [hi], Bool.false_or]; exact hc w hS⟩, h⟩
end
end Go.Proofs.Ytdpfcjhhabcheaa

/-
  The stages of a drawn region: a stage whose pivot makes memory; a tail that is forced, one operation behind the other. No condition. Own work.
-/
import Derived.Test.YtdpfcjhhabcheaaFront3
namespace Go.Proofs.Ytdpfcjhhabcheaa
open Go Go.RowKit

/-- What is known of the cells, and the world before and behind the pivot. -/
def PK (K : World → Prop) (A B : World) : Bool → World → Prop
  | false, w => K w ∧ A = w
  | true, w => K w ∧ B = w
/-- The world before the pivot; what is known of it behind. -/
def PW (A : World) (R : World → Prop) : Bool → World → Prop
  | false, w => A = w
  | true, w => R w
section
variable {P : Program} {ops : Array Oper} {S : Bool → World → Prop} {c : Nat} {fin : Bool} {Q : Act → World → Prop} {a : Act} {o : Oper} {l : List Oper} {i : Nat} {v : Value}
theorem textP_make (hw : Region.wanted o (yielded ops a.tmps) = true) (hi : i = c) (hy : ∀ w, S false w → ∃ w', (execOp a.eval o).run P w = .ok (.value v) w' ∧ S true w')
    (h : TextP P ops S c fin Q (i + 1) l (a.put o.dst v)) : TextP P ops S c fin Q i (o :: l) a :=
  ⟨v, .inr ⟨hw, fun q _ h1 w hS => by
    cases q with
    | true => exact absurd hi (h1 rfl).2
    | false =>
      obtain ⟨w', e, hS'⟩ := hy w hS
      rw [e, show (i == c) = true from by simp [hi], Bool.false_or]
      exact ⟨rfl, hS'⟩⟩, h⟩
theorem PW.piv {A : World} {R : World → Prop} {f : FuncId} {args : Array Value} (hc : Calls P f args A fun e w' => e = .returned v ∧ R w') (w : World) (hS : PW A R false w) : Calls P f args w fun e w' => e = .returned v ∧ PW A R true w' := by
  obtain rfl : A = w := hS
  exact hc
theorem PK.known {K : World → Prop} {A B : World} {q : Bool} {w : World} (h : PK K A B q w) : K w := by cases q <;> exact h.1
theorem textP_known {K : World → Prop} {A B : World} (hw : Region.wanted o (yielded ops a.tmps) = true) (hi : i ≠ c) (hy : ∀ w, K w → (execOp a.eval o).run P w = .ok (.value v) w)
    (h : TextP P ops (PK K A B) c fin Q (i + 1) l (a.put o.dst v)) : TextP P ops (PK K A B) c fin Q i (o :: l) a :=
  textP_pure hw hi (fun _ w hS => hy w hS.known) h
/-- From operation m on each one is bound behind all that stand ahead of it. -/
def chainOk (ops : Array Oper) (m : Nat) : Bool :=
  (List.range ops.size).all fun i => decide (i < m) || ((ops[i]?.map fun o => o.after.all fun e => !Region.binds .any e || decide (e.on < i)).getD true && (List.range i).all fun j => reach ops 12 i j)
theorem front_tail {Q : Exit → Act → World → Prop} {m : Nat} {a : Act} {w : World} (hok : chainOk ops m = true) (hm : m ≤ ops.size) (h : wpList P ops Q (ops.toList.drop m) a w) : Front P ops Q m a w := by
  unfold chainOk at hok
  simp only [List.all_eq_true, List.mem_range, Bool.or_eq_true, Bool.and_eq_true, decide_eq_true_eq] at hok
  intro fuel listed hls hl hf
  refine any_of_list2 (m := m) (fun i o hi ho j hj => ?_) (fun i o hi ho e he hb => ?_) fuel m listed a w (Nat.le_refl _) hm hls hl hf h
  · have hlt := (Array.getElem?_eq_some_iff.1 ho).1
    rcases hok i hlt with h' | h'
    · omega
    · exact reach_forced ho (h'.2 j hj)
  · have hlt := (Array.getElem?_eq_some_iff.1 ho).1
    rcases hok i hlt with h' | h'
    · omega
    · have h2 := h'.1
      rw [ho] at h2
      simp only [Option.map_some, Option.getD_some, Array.all_eq_true_iff_forall_mem] at h2
      have := h2 e he
      simpa [hb] using this
end
end Go.Proofs.Ytdpfcjhhabcheaa

/-
  A stage of a drawn region that is one operation, for which all that follows waits: its result may be known only behind it. No condition. Own work.
-/
import Derived.Test.YtdpfcjhhabcheaaDoorFront4
namespace Go.Proofs.YtdpfcjhhabcheaaDoor
open Go Go.RowKit

section
variable {P : Program} {ops : Array Oper}
/-- All that stands behind operation m waits for it. -/
def oneOk (ops : Array Oper) (m : Nat) : Bool :=
  decide (m < ops.size) && (List.range ops.size).all fun i => decide (i < m) || ((ops[i]?.map fun o => o.after.all fun e => !Region.binds .any e || decide (e.on < i)).getD true && (decide (i = m) || reach ops 12 i m))
theorem front_one {Q : Exit → Act → World → Prop} {m : Nat} {a : Act} {w : World} (hok : oneOk ops m = true) (h : wpOp P ops Q m (Front P ops Q (m + 1)) a w) : Front P ops Q m a w := by
  unfold oneOk at hok
  simp only [List.all_eq_true, List.mem_range, Bool.or_eq_true, Bool.and_eq_true, decide_eq_true_eq] at hok
  obtain ⟨hm, hall⟩ := hok
  have hB : ∀ i o, m ≤ i → ops[i]? = some o → ∀ e ∈ o.after, Region.binds .any e = true → e.on < i := fun i o hi ho e he hb => by
    have hlt := (Array.getElem?_eq_some_iff.1 ho).1
    rcases hall i hlt with h' | h'
    · omega
    · have h2 := h'.1
      rw [ho] at h2
      simp only [Option.map_some, Option.getD_some, Array.all_eq_true_iff_forall_mem] at h2
      have := h2 e he
      simpa [hb] using this
  intro fuel listed hls hl hf
  have hrd : ∀ i ∈ Region.ready .any ops listed, i = m := by
    intro i hi
    obtain ⟨hlt, hun, o, ho, hready⟩ := mem_rdy hi
    rw [hl i hlt] at hun
    have hmi : m ≤ i := by simpa using hun
    rcases hall i hlt with h' | ⟨_, h' | h'⟩
    · omega
    · exact h'
    · obtain ⟨e, he, hb, heq⟩ := reach_forced ho h'
      have h1 := hready e he hb
      have hei := hB i o hmi ho e he hb
      have h2 := hl e.on (by omega)
      have hks : e.on < listed.size := by omega
      simp only [Array.getD_eq_getD_getElem?, Array.getElem?_eq_getElem hks, Option.getD_some] at h1 h2
      rw [h1] at h2
      have hek : e.on < m := by simpa using h2.symm
      rcases heq with heq | ⟨heq, _⟩ <;> omega
  have hmr : m ∈ Region.ready .any ops listed := by
    unfold Region.ready
    rw [List.mem_filter]
    refine ⟨by simpa using hm, ?_⟩
    have hlk := hl m hm
    simp only [Nat.lt_irrefl, decide_false] at hlk
    simp only [hlk, Bool.not_false, Bool.true_and, Array.getElem?_eq_getElem hm, Option.map_some, Option.getD_some, Array.all_eq_true_iff_forall_mem]
    intro e he
    cases hb : Region.binds .any e with
    | false => simp
    | true =>
      have hon := hB m ops[m] (Nat.le_refl _) (by simp [hm]) e he hb
      have h1 := hl e.on (by omega)
      have hls : e.on < listed.size := by omega
      simp only [Array.getD_eq_getD_getElem?, Array.getElem?_eq_getElem hls, Option.getD_some] at h1 ⊢
      rw [h1]
      simp [hon]
  cases fuel with
  | zero => omega
  | succ fuel =>
    refine ⟨(fun hr => by rw [hr] at hmr; cases hmr), fun i hi => ?_⟩
    obtain rfl := hrd i hi
    refine wpOp_mono (fun a' w' h' => ?_) h
    refine h' fuel _ (by simp [hls]) (fun q hq => ?_) (by omega)
    rw [getD_set]
    by_cases hqi : i = q
    · subst hqi; simp
    · rw [if_neg hqi, hl q hq]
      congr 1
      exact propext ⟨fun h => by omega, fun h => by omega⟩
/-- .. a call. -/
theorem front_call {Q : Exit → Act → World → Prop} {m : Nat} {a : Act} {w : World} {f : FuncId} {args : Array Value} (o : Oper) (hok : oneOk ops m = true) (ho : ops[m]? = some o) (hw : Region.wanted o (yielded ops a.tmps) = true)
    (hy : (execOp a.eval o).run P w = .ok (.enter f args) w) (hc : Calls P f args w fun e w' => ∃ v, e = .returned v ∧ Front P ops Q (m + 1) (a.put o.dst v) w') : Front P ops Q m a w := by
  refine front_one hok ?_
  unfold wpOp
  simp only [ho]
  rw [hw]
  simp only [if_true]
  left
  unfold Oper.wp
  rw [hy]
  refine Calls.mono hc fun e w'' he => ?_
  obtain ⟨v, rfl, h⟩ := he
  exact h
end
end Go.Proofs.YtdpfcjhhabcheaaDoor

/-
  The stages of a drawn region, put together. No condition. Own work.
-/
import Derived.Test.YtdpfcjhhabcheaaFront
namespace Go.Proofs.Ytdpfcjhhabcheaa
open Go Go.RowKit

section
variable {P : Program} {ops : Array Oper}

/-- The walk of one stage, in the order of the text. -/
def TextP (P : Program) (ops : Array Oper) (S : Bool → World → Prop) (c : Nat) (fin : Bool) (Q : Act → World → Prop) : Nat → List Oper → Act → Prop
  | _, [], a => ∀ w, S fin w → Q a w
  | i, o :: l, a => ∃ v, StepP P ops S c i o v a ∧ TextP P ops S c fin Q (i + 1) l (a.put o.dst v)
theorem textP_spec {S : Bool → World → Prop} {c : Nat} {fin : Bool} {Q : Act → World → Prop} : ∀ (l : List Oper) (i0 : Nat) (a : Act), TextP P ops S c fin Q i0 l a →
    ∃ V : List Value, V.length = l.length ∧ (∀ i o, l[i]? = some o → ∃ v, V[i]? = some v ∧ StepP P ops S c (i0 + i) o v (putL (l.take i) (V.take i) a)) ∧ ∀ w, S fin w → Q (putL l V a) w
  | [], _, a, h => ⟨[], rfl, fun i o hi => by simp at hi, h⟩
  | o :: l, i0, a, ⟨v, h1, h2⟩ => by
    obtain ⟨V, hl, hV, hQ⟩ := textP_spec l _ _ h2
    refine ⟨v :: V, by simp [hl], fun i o' hi => ?_, hQ⟩
    cases i with
    | zero => simp at hi; subst hi; exact ⟨v, rfl, h1⟩
    | succ i =>
      simp only [List.getElem?_cons_succ] at hi
      obtain ⟨u, hu, hs⟩ := hV i o' hi
      refine ⟨u, by simpa using hu, ?_⟩
      rw [show i0 + (i + 1) = i0 + 1 + i from by omega]
      simpa [putL] using hs
/-- What the slots of some operations hold now. -/
def held (a : Act) (l : List Oper) : List Value := l.map fun o => match o.dst with | some d => a.tmps.getD d undef | none => undef
theorem put_held (a : Act) (d : Tmp) : a.put (some d) (a.tmps.getD d undef) = a := by
  cases a with
  | mk tmps defers =>
    simp only [Act.put]
    congr 1
    apply Array.ext_getElem?
    intro t
    by_cases h : d = t
    · subst h
      rw [Array.getElem?_setIfInBounds_self]
      split
      · rename_i hlt
        rw [Array.getElem?_eq_getElem hlt]; rfl
      · rename_i hlt
        rw [Array.getElem?_eq_none (by omega)]
    · rw [Array.getElem?_setIfInBounds_ne h]
theorem putL_held (a : Act) : ∀ l : List Oper, putL l (held a l) a = a
  | [] => rfl
  | o :: l => by
    unfold held
    rw [List.map_cons, putL]
    have e : a.put o.dst (match o.dst with | some d => a.tmps.getD d undef | none => undef) = a := by
      cases h : o.dst with
      | none => rfl
      | some d => exact put_held a d
    rw [e]
    exact putL_held a l
theorem held_len (a : Act) (l : List Oper) : (held a l).length = l.length := by simp [held]

theorem front_chunk {Q : Exit → Act → World → Prop} {m : Nat} (k c : Nat) (S : Bool → World → Prop) {a : Act} {w : World} (hok : frontOk ops (m + k) a.tmps.size = true) (hc : m ≤ c) (hS : S false w)
    (h : TextP P ops S c (decide (c < m + k)) (fun a' w' => Front P ops Q (m + k) a' w') m ((ops.toList.drop m).take k) a) : Front P ops Q m a w := by
  obtain ⟨hms, hnd, hdn, _, _⟩ := frontOk_spec hok
  obtain ⟨U, hUl, hU, hQ⟩ := textP_spec _ _ _ h
  have hsz : ops.toList.length = ops.size := by simp
  have hsplit : ops.toList.take (m + k) = ops.toList.take m ++ (ops.toList.drop m).take k := List.take_add
  have hml : (ops.toList.take m).length = m := by rw [List.length_take]; omega
  have hkl : ((ops.toList.drop m).take k).length = k := by rw [List.length_take, List.length_drop]; omega
  obtain ⟨V0, hV0⟩ : ∃ V, V = held a (ops.toList.take m) := ⟨_, rfl⟩
  have hV0l : V0.length = m := by rw [hV0, held_len, hml]
  have hput : putL (ops.toList.take m) V0 a = a := by rw [hV0]; exact putL_held a _
  have hF : putL (ops.toList.take (m + k)) (V0 ++ U) a = putL ((ops.toList.drop m).take k) U a := by
    rw [hsplit, putL_append _ _ _ _ _ (by rw [hV0l, hml]), hput]
  intro fuel listed hls hl hf
  refine any_of_front (S := S) (c := c) (m0 := m) (V := V0 ++ U) hok (by rw [List.length_append, hV0l, hUl, hkl, List.length_take]; omega) (fun i o hmi hi => ?_) (fun w' hS' => ?_) fuel listed a w ?_ (fun i hi _ => ?_) ?_ ?_
  · rw [hsplit, List.getElem?_append_right (by rw [hml]; exact hmi), hml] at hi
    obtain ⟨v, hv, hs⟩ := hU (i - m) o hi
    refine ⟨v, by rw [List.getElem?_append_right (by rw [hV0l]; exact hmi), hV0l]; exact hv, ?_⟩
    rw [show m + (i - m) = i from by omega] at hs
    have e1 : (ops.toList.take (m + k)).take i = ops.toList.take m ++ ((ops.toList.drop m).take k).take (i - m) := by
      rw [hsplit, List.take_append, hml, List.take_of_length_le (by rw [hml]; exact hmi)]
    have e2 : (V0 ++ U).take i = V0 ++ U.take (i - m) := by
      rw [List.take_append, hV0l, List.take_of_length_le (by rw [hV0l]; exact hmi)]
    rw [e1, e2, putL_append _ _ _ _ _ (by rw [hV0l, hml]), hput]
    exact hs
  · rw [hF]; exact hQ w' hS'
  · refine ⟨hls, rfl, rfl, fun i o him hi hli e he hb => ?_, fun j p d hjm hj hd => ?_, fun t _ => rfl, fun i hmi hi => ?_⟩
    · have hlt : i < ops.size := (Array.getElem?_eq_some_iff.1 hi).1
      rw [hl i hlt] at hli
      have him' : i < m := by simpa using hli
      obtain ⟨_, _, _, hdep, _⟩ := frontOk_spec hok
      have := (hdep i o him hi).1 e he hb
      rw [hl e.on (by omega)]
      simp; omega
    · have hlt : j < ops.size := (Array.getElem?_eq_some_iff.1 hj).1
      rw [hl j hlt, hF]
      by_cases hjm' : j < m
      · simp only [hjm', decide_true, if_true]
        have hjl : (ops.toList.take (m + k))[j]? = some p := take_get hjm (by simpa using hj)
        have hnot : d ∉ dsts ((ops.toList.drop m).take k) := fun hmem => by
          have := apart_dsts hnd m (mem_dsts (j := j) (by rw [List.getElem?_take, if_pos hjm']; exact hjl) hd)
          apply this
          rw [hsplit, List.drop_append, hml, Nat.sub_self, List.drop_zero, List.drop_of_length_le (by rw [hml]; exact Nat.le_refl _)]
          exact hmem
        rw [putL_get _ _ _ _ hnot]
      · simp [hjm']
    · rw [hl i hi]; simp; omega
  · by_cases his : i < ops.size
    · rw [hl i his]; simp [hi]
    · omega
  · have e : listed.getD c false = false := by
      by_cases hcs : c < listed.size
      · rw [getD_both hcs, hl c (by omega)]; simp; omega
      · rw [Array.getD_eq_getD_getElem?, Array.getElem?_eq_none (by omega)]; rfl
    rw [e]; exact hS
  · have hu : unl (m + k) listed ≤ k := by
      unfold unl
      have e : (List.range (m + k)).filter (fun i => !listed.getD i true) = (List.range (m + k)).filter (fun i => decide (m ≤ i)) := by
        refine List.filter_congr fun i hi => ?_
        have hik := List.mem_range.1 hi
        rw [hl i (by omega)]
        by_cases h : i < m
        · simp [h]
        · simp [h]; omega
      rw [e, List.range_add, List.filter_append, List.length_append]
      have e0 : (List.range m).filter (fun i => decide (m ≤ i)) = [] := List.filter_eq_nil_iff.2 fun i hi => by have := List.mem_range.1 hi; simp; omega
      have e1 := List.length_filter_le (fun i => decide (m ≤ i)) ((List.range k).map (m + ·))
      rw [List.length_map, List.length_range] at e1
      rw [e0, List.length_nil]
      omega
    omega
end
end Go.Proofs.Ytdpfcjhhabcheaa

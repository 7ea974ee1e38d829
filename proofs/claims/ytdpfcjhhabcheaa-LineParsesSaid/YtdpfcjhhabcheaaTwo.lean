/-
  A drawn region in which two operations make memory, in whichever order. No condition. Own work.
-/
import Derived.Test.YtdpfcjhhabcheaaFront4
namespace Go.Proofs.Ytdpfcjhhabcheaa
open Go Go.RowKit

section
variable {P : Program} {ops : Array Oper}
theorem putL_at : ∀ (L : List Oper) (V : List Value) (a : Act) (j : Nat) (p : Oper) (d : Tmp) (v : Value), V.length = L.length → (dsts L).Nodup → (∀ d ∈ dsts L, d < a.tmps.size) → L[j]? = some p → p.dst = some d → V[j]? = some v → (putL L V a).tmps[d]? = some v := by
  intro L V a j p d v hl hnd hdn hj hd hv
  have hlt : d < a.tmps.size := hdn d (mem_dsts hj hd)
  have hnot : d ∉ dsts (L.drop (j + 1)) := fun hm => apart_dsts hnd (j + 1) (mem_dsts (j := j) (by rw [List.getElem?_take, if_pos (by omega)]; exact hj) hd) hm
  have e2 : putL L V a = putL (L.drop (j + 1)) (V.drop (j + 1)) (putL (L.take (j + 1)) (V.take (j + 1)) a) := by
    rw [← putL_append _ _ _ _ _ (by simp [hl]), List.take_append_drop, List.take_append_drop]
  rw [e2, putL_get _ _ _ _ hnot]
  have e3 : L.take (j + 1) = L.take j ++ [p] := by rw [List.take_add_one, hj]; rfl
  have e4 : V.take (j + 1) = V.take j ++ [v] := by rw [List.take_add_one, hv]; rfl
  rw [e3, e4, putL_append _ _ _ _ _ (by simp [hl])]
  simp only [putL, hd, Act.put]
  rw [Array.getElem?_setIfInBounds_self, if_pos (by rw [putL_size]; exact hlt)]
theorem MidT.conv {m : Nat} {a0 a : Act} {V V' : List Value} {listed : Array Bool} (hl : V.length = (ops.toList.take m).length) (hl' : V'.length = (ops.toList.take m).length) (hnd : (dsts (ops.toList.take m)).Nodup) (hdn : ∀ d ∈ dsts (ops.toList.take m), d < a0.tmps.size)
    (hVV : ∀ j, j < m → listed.getD j true = true → V'[j]? = V[j]?) (h : MidT ops m a0 (putL (ops.toList.take m) V a0) listed a) : MidT ops m a0 (putL (ops.toList.take m) V' a0) listed a := by
  refine ⟨h.size, h.tsize, h.defs, h.shut, fun j p d hjm hj hd => ?_, h.rest, h.late⟩
  rw [h.vals j p d hjm hj hd]
  cases hc : listed.getD j true with
  | false => simp
  | true =>
    simp only [if_true]
    have hjl : (ops.toList.take m)[j]? = some p := take_get hjm (by simpa using hj)
    have hjlt : j < (ops.toList.take m).length := (List.getElem?_eq_some_iff.1 hjl).1
    obtain ⟨v, hv⟩ : ∃ v, V[j]? = some v := ⟨_, List.getElem?_eq_getElem (by omega)⟩
    rw [putL_at _ _ _ j p d v hl hnd hdn hjl hd hv, putL_at _ _ _ j p d v hl' hnd hdn hjl hd (by rw [hVV j hjm hc]; exact hv)]

theorem any_of_states {σ : Type} {Q : Exit → Act → World → Prop} {m : Nat} {wo : σ → World} {VV : σ → List Value} {okS : σ → Array Bool → Prop} {a0 : Act} (hok : frontOk ops m a0.tmps.size = true) (hl : ∀ s, (VV s).length = (ops.toList.take m).length)
    (hstep : ∀ (s : σ) (listed : Array Bool) (i : Nat) (o : Oper), okS s listed → listed.size = ops.size → i < m → (ops.toList.take m)[i]? = some o → listed.getD i true = false →
      ∃ (v : Value) (s' : σ), (VV s')[i]? = some v ∧ okS s' (listed.setIfInBounds i true) ∧ (∀ j, j < m → listed.getD j true = true → (VV s')[j]? = (VV s)[j]?) ∧
        ((Region.wanted o (yielded ops (putL ((ops.toList.take m).take i) ((VV s).take i) a0).tmps) = false ∧ v = undef ∧ wo s' = wo s) ∨
         (Region.wanted o (yielded ops (putL ((ops.toList.take m).take i) ((VV s).take i) a0).tmps) = true ∧ RunOk P (fun w' => wo s' = w') v ((execOp (putL ((ops.toList.take m).take i) ((VV s).take i) a0).eval o).run P (wo s)))))
    (hQ : ∀ s listed, okS s listed → (∀ i, i < m → listed.getD i true = true) → Front P ops Q m (putL (ops.toList.take m) (VV s) a0) (wo s)) :
    ∀ (fuel : Nat) (listed : Array Bool) (a : Act) (s : σ), MidT ops m a0 (putL (ops.toList.take m) (VV s) a0) listed a → okS s listed → unl m listed + (ops.size - m) ≤ fuel → wpAny P .any ops Q fuel listed a (wo s) := by
  obtain ⟨hms, hnd, hdn, hdep, hT⟩ := frontOk_spec hok
  have hall : ∀ (listed : Array Bool), unl m listed = 0 → ∀ i, i < m → listed.getD i true = true := by
    intro listed hu i hi
    cases hc : listed.getD i true with
    | true => rfl
    | false =>
      have : i ∈ (List.range m).filter fun i => !listed.getD i true := List.mem_filter.2 ⟨by simpa using hi, by rw [hc]; rfl⟩
      unfold unl at hu
      rw [List.eq_nil_of_length_eq_zero hu] at this
      cases this
  have hend : ∀ (fuel : Nat) (listed : Array Bool) (a : Act) (s : σ), MidT ops m a0 (putL (ops.toList.take m) (VV s) a0) listed a → okS s listed → unl m listed = 0 → ops.size - m ≤ fuel → wpAny P .any ops Q fuel listed a (wo s) := by
    intro fuel listed a s h hS hu hf
    have hal := hall listed hu
    have e : a = putL (ops.toList.take m) (VV s) a0 := by
      have et : a.tmps = (putL (ops.toList.take m) (VV s) a0).tmps := by
        apply Array.ext_getElem?
        intro t
        by_cases ht : t ∈ dsts (ops.toList.take m)
        · obtain ⟨p, hp, hpd⟩ := List.mem_filterMap.1 ht
          obtain ⟨j, hj⟩ := List.mem_iff_getElem?.1 hp
          have hjm : j < m := by
            rw [List.getElem?_take] at hj
            by_cases hjm : j < m
            · exact hjm
            · rw [if_neg hjm] at hj; cases hj
          have hj' : ops[j]? = some p := by
            rw [List.getElem?_take, if_pos hjm] at hj
            simpa using hj
          rw [h.vals j p t hjm hj' hpd, if_pos (hal j hjm)]
        · rw [h.rest t ht, putL_get _ _ _ _ ht]
      have ed : a.defers = (putL (ops.toList.take m) (VV s) a0).defers := by rw [h.defs, putL_defs]
      cases a
      cases hF : putL (ops.toList.take m) (VV s) a0
      simp only [hF] at et ed
      rw [et, ed]
    rw [e]
    refine hQ s listed hS hal fuel listed h.size (fun i hi => ?_) hf
    by_cases him : i < m
    · rw [hal i him]; simp [him]
    · rw [h.late i (by omega) hi]; simp [him]
  intro fuel
  induction fuel with
  | zero => intro listed a s h hS hf; exact hend 0 listed a s h hS (by omega) (by omega)
  | succ fuel ih =>
    intro listed a s h hS hf
    by_cases hu0 : unl m listed = 0
    · exact hend _ listed a s h hS hu0 (by omega)
    · have hnone : Region.ready .any ops listed ≠ [] := by
        intro hr
        apply hu0
        have hal : ∀ n i, i < n → i < m → listed.getD i true = true := by
          intro n
          induction n with
          | zero => intro i hi; omega
          | succ n ihn =>
            intro i hi hlt
            cases hc : listed.getD i true with
            | true => rfl
            | false =>
              have his : i < ops.size := by omega
              have hm : i ∈ Region.ready .any ops listed := by
                unfold Region.ready
                rw [List.mem_filter]
                refine ⟨by simpa using his, ?_⟩
                simp only [hc, Bool.not_false, Bool.true_and, Array.getElem?_eq_getElem his, Option.map_some, Option.getD_some, Array.all_eq_true_iff_forall_mem]
                intro e he
                cases hb : Region.binds .any e with
                | false => simp
                | true =>
                  have hon := (hdep i ops[i] hlt (by simp [his])).1 e he hb
                  have := ihn e.on (by omega) (by omega)
                  have hls : e.on < listed.size := by rw [h.size]; omega
                  simp only [Array.getD_eq_getD_getElem?, Array.getElem?_eq_getElem hls, Option.getD_some] at this ⊢
                  simp [this]
              rw [hr] at hm
              cases hm
        unfold unl
        rw [List.length_eq_zero_iff, List.filter_eq_nil_iff]
        intro i hi
        rw [hal (i + 1) i (by omega) (by simpa using hi)]
        simp
      refine ⟨fun hr => absurd hr hnone, fun i hi => ?_⟩
      obtain ⟨hlt, hun, o, ho, hallE⟩ := mem_rdy hi
      have him : i < m := by
        rcases Nat.lt_or_ge i m with h1 | h1
        · exact h1
        · exfalso
          apply hu0
          unfold unl
          rw [List.length_eq_zero_iff, List.filter_eq_nil_iff]
          intro j hj
          have hjm : j < m := by simpa using hj
          obtain ⟨e, he, hb, heq⟩ := hT i o h1 ho j hjm
          have h2 := hallE e he hb
          have hes : e.on < listed.size := (getD_lt h2).1
          have hle : listed.getD e.on true = true := by
            simp only [Array.getD_eq_getD_getElem?, Array.getElem?_eq_getElem hes, Option.getD_some] at h2 ⊢
            exact h2
          have hlj : listed.getD j true = true := by
            rcases heq with heq | ⟨_, f, hf⟩
            · rw [← heq]; exact hle
            · have hgo : ∀ f i, listed.getD i true = true → i < ops.size → reach ops f i j = true → listed.getD j true = true := by
                intro f
                induction f with
                | zero => intro i _ _ h; cases h
                | succ f ihf =>
                  intro i hil his hre
                  have him : i < m := by
                    rcases Nat.lt_or_ge i m with h' | h'
                    · exact h'
                    · have := h.late i h' his
                      rw [this] at hil
                      cases hil
                  have hi2 : ops[i]? = some ops[i] := by simp [his]
                  obtain ⟨e', he', hb', h5⟩ := reach_step hi2 hre
                  have hl2 := h.shut i ops[i] him hi2 hil e' he' hb'
                  rcases h5 with h5 | ⟨_, hf'⟩
                  · rw [← h5]; exact hl2
                  · exact ihf e'.on hl2 ((by
                      rcases Nat.lt_or_ge e'.on ops.size with h' | h'
                      · exact h'
                      · rw [Array.getD_eq_getD_getElem?, Array.getElem?_eq_none (by rw [h.size]; omega)] at hl2
                        cases f with
                        | zero => cases hf'
                        | succ f =>
                          unfold reach at hf'
                          rw [Array.getElem?_eq_none h'] at hf'
                          cases hf')) hf'
              exact hgo f e.on hle (by rw [← h.size]; exact hes) hf
          simp [hlj]
      have hol : (ops.toList.take m)[i]? = some o := take_get him (by simpa using ho)
      obtain ⟨hback, hsel, hlook⟩ := hdep i o him ho
      obtain ⟨v, s', hv, hok', hVV, hstep1⟩ := hstep s listed i o hS h.size him hol hun
      have hl' := hl s
      have hr : ∀ e ∈ o.after, Region.binds .any e = true → listed.getD e.on true = true := by
        intro e he hb
        have h1 := hallE e he hb
        have hls : e.on < listed.size := by rw [h.size]; have := hback e he hb; omega
        simp only [Array.getD_eq_getD_getElem?, Array.getElem?_eq_getElem hls, Option.getD_some] at h1 ⊢
        exact h1
      have hsame : ∀ t ∈ o.looksAt ops, a.tmps[t]? = (putL ((ops.toList.take m).take i) ((VV s).take i) a0).tmps[t]? := by
        intro t ht
        by_cases hd : t ∈ dsts (ops.toList.take m)
        · obtain ⟨p, hp, hpd⟩ := List.mem_filterMap.1 hd
          obtain ⟨j, hj⟩ := List.mem_iff_getElem?.1 hp
          have hjm : j < m := by
            rw [List.getElem?_take] at hj
            by_cases hjm : j < m
            · exact hjm
            · rw [if_neg hjm] at hj; cases hj
          have hj' : ops[j]? = some p := by
            have := hj
            rw [List.getElem?_take, if_pos hjm] at this
            simpa using this
          rw [h.vals j p t hjm hj' hpd]
          rcases hlook j p t hjm hj' hpd ht with ⟨hji, e, he, hb, heq⟩ | ⟨hij, e, he, hb, heq⟩
          · rw [if_pos (by rw [← heq]; exact hr e he hb)]
            have hnot : t ∉ dsts ((ops.toList.take m).drop i) := fun hm => apart_dsts hnd i (mem_dsts (j := j) (by rw [List.getElem?_take, if_pos hji]; exact hj) hpd) hm
            have e2 : putL (ops.toList.take m) (VV s) a0 = putL ((ops.toList.take m).drop i) ((VV s).drop i) (putL ((ops.toList.take m).take i) ((VV s).take i) a0) := by
              rw [← putL_append _ _ _ _ _ (by simp [hl']), List.take_append_drop, List.take_append_drop]
            rw [e2, putL_get _ _ _ _ hnot]
          · have hju : ¬ listed.getD j true = true := fun hc => by
              have := h.shut j p hjm hj' hc e he hb
              rw [heq, hun] at this
              cases this
            rw [if_neg hju]
            have hnot : t ∉ dsts ((ops.toList.take m).take i) := fun hm => apart_dsts hnd i hm (mem_dsts (j := j - i) (by rw [List.getElem?_drop, show i + (j - i) = j from by omega]; exact hj) hpd)
            rw [putL_get _ _ _ _ hnot]
        · have hnot : t ∉ dsts ((ops.toList.take m).take i) := fun hm => hd (by
            obtain ⟨p, hp, hpd⟩ := List.mem_filterMap.1 hm
            exact List.mem_filterMap.2 ⟨p, List.mem_of_mem_take hp, hpd⟩)
          rw [h.rest t hd, putL_get _ _ _ _ hnot]
      have hgo : wpAny P .any ops Q fuel (listed.setIfInBounds i true) (a.put o.dst v) (wo s') := by
        refine ih _ _ _ ((h.conv (hl s) (hl s') hnd hdn hVV).put (hl s') hnd hdn him ho hv hr) hok' ?_
        have : unl m (listed.setIfInBounds i true) < unl m listed := by
          unfold unl
          refine filter_lt _ i (by simpa using him) (fun k hk => ?_) (by simp [hun]) (by rw [getD_set, if_pos rfl]; rfl)
          rw [getD_set] at hk
          by_cases hik : i = k
          · rw [if_pos hik] at hk; cases hk
          · rw [if_neg hik] at hk; exact hk
        omega
      unfold wpOp
      simp only [ho]
      rw [wanted_same hsame]
      rcases hstep1 with ⟨hw, rfl, hwe⟩ | ⟨hw, h1⟩
      · rw [hw]
        simp only [Bool.false_eq_true, if_false]
        rw [← hwe]
        exact hgo
      · rw [hw]
        simp only [if_true]
        left
        unfold Oper.wp
        rw [exec_same hsel hsame]
        generalize (execOp (putL ((ops.toList.take m).take i) ((VV s).take i) a0).eval o).run P (wo s) = r at h1
        cases r with
        | ok n w' =>
          cases n <;> simp only [RunOk] at h1
          case value u => obtain ⟨rfl, hS'⟩ := h1; subst hS'; exact hgo
          case skip => obtain ⟨rfl, hS'⟩ := h1; subst hS'; exact hgo
          case enter f args =>
            refine Calls.mono h1 fun e w'' he => ?_
            obtain ⟨rfl, hS'⟩ := he
            subst hS'
            exact hgo
        | halt x w' => exact h1.elim

theorem putL_same {L : List Oper} {V V' : List Value} {a : Act} {t : Tmp} (hl : V.length = L.length) (hl' : V'.length = L.length) (hnd : (dsts L).Nodup) (hdn : ∀ d ∈ dsts L, d < a.tmps.size)
    (h : ∀ (j : Nat) (p : Oper), L[j]? = some p → p.dst = some t → V'[j]? = V[j]?) : (putL L V' a).tmps[t]? = (putL L V a).tmps[t]? := by
  by_cases ht : t ∈ dsts L
  · obtain ⟨p, hp, hpd⟩ := List.mem_filterMap.1 ht
    obtain ⟨j, hj⟩ := List.mem_iff_getElem?.1 hp
    have hjlt : j < L.length := (List.getElem?_eq_some_iff.1 hj).1
    obtain ⟨v, hv⟩ : ∃ v, V[j]? = some v := ⟨_, List.getElem?_eq_getElem (by omega)⟩
    rw [putL_at L V a j p t v hl hnd hdn hj hpd hv, putL_at L V' a j p t v hl' hnd hdn hj hpd (by rw [h j p hj hpd]; exact hv)]
  · rw [putL_get _ _ _ _ ht, putL_get _ _ _ _ ht]

/-- The walk's states: nothing made; the first one made, then both; the second one made, then both. -/
inductive St2 where | s0 | a1 | a2 | b1 | b2
def St2.f1 : St2 → Bool | .s0 => false | .a1 => true | .a2 => true | .b1 => false | .b2 => true
def St2.f2 : St2 → Bool | .s0 => false | .a1 => false | .a2 => true | .b1 => true | .b2 => true
structure Two where
  W0 : World
  A1 : World
  A2 : World
  B1 : World
  B2 : World
  vB1 : Value
  vB2 : Value
def Two.wo (T : Two) : St2 → World | .s0 => T.W0 | .a1 => T.A1 | .a2 => T.A2 | .b1 => T.B1 | .b2 => T.B2
def StepT (P : Program) (ops : Array Oper) (K : World → Prop) (T : Two) (c1 c2 i : Nat) (o : Oper) (v : Value) (a : Act) : Prop :=
  (i ≠ c1 ∧ i ≠ c2 ∧ ((Region.wanted o (yielded ops a.tmps) = false ∧ v = undef) ∨ (Region.wanted o (yielded ops a.tmps) = true ∧ ∀ w, K w → (execOp a.eval o).run P w = .ok (.value v) w))) ∨
  (i = c1 ∧ Region.wanted o (yielded ops a.tmps) = true ∧ RunOk P (fun w' => T.A1 = w') v ((execOp a.eval o).run P T.W0) ∧ RunOk P (fun w' => T.B2 = w') T.vB1 ((execOp a.eval o).run P T.B1)) ∨
  (i = c2 ∧ Region.wanted o (yielded ops a.tmps) = true ∧ RunOk P (fun w' => T.A2 = w') v ((execOp a.eval o).run P T.A1) ∧ RunOk P (fun w' => T.B1 = w') T.vB2 ((execOp a.eval o).run P T.W0))
/-- The walk in the order of the text. -/
def TextT (P : Program) (ops : Array Oper) (K : World → Prop) (T : Two) (c1 c2 : Nat) (Q : Act → Prop) : Nat → List Oper → Act → Prop
  | _, [], a => Q a
  | i, o :: l, a => ∃ v, StepT P ops K T c1 c2 i o v a ∧ TextT P ops K T c1 c2 Q (i + 1) l (a.put o.dst v)
theorem textT_spec {K : World → Prop} {T : Two} {c1 c2 : Nat} {Q : Act → Prop} : ∀ (l : List Oper) (i0 : Nat) (a : Act), TextT P ops K T c1 c2 Q i0 l a →
    ∃ V : List Value, V.length = l.length ∧ (∀ i o, l[i]? = some o → ∃ v, V[i]? = some v ∧ StepT P ops K T c1 c2 (i0 + i) o v (putL (l.take i) (V.take i) a)) ∧ Q (putL l V a)
  | [], _, a, h => ⟨[], rfl, fun i o hi => by simp at hi, h⟩
  | o :: l, i0, a, ⟨v, h1, h2⟩ => by
    obtain ⟨V, hl, hV, hQ⟩ := textT_spec l _ _ h2
    refine ⟨v :: V, by simp [hl], fun i o' hi => ?_, hQ⟩
    cases i with
    | zero => simp at hi; subst hi; exact ⟨v, rfl, h1⟩
    | succ i =>
      simp only [List.getElem?_cons_succ] at hi
      obtain ⟨u, hu, hs⟩ := hV i o' hi
      refine ⟨u, by simpa using hu, ?_⟩
      rw [show i0 + (i + 1) = i0 + 1 + i from by omega]
      simpa [putL] using hs
def twoOk (ops : Array Oper) (m c1 c2 : Nat) (d1 d2 : Tmp) : Bool :=
  decide (c1 < m) && decide (c2 < m) && decide (c1 ≠ c2) && ((ops[c1]?).bind (·.dst) == some d1) && ((ops[c2]?).bind (·.dst) == some d2) &&
  (List.range m).all fun i => match ops[i]? with
    | none => true
    | some o => !(o.looksAt ops).contains d1 && !(o.looksAt ops).contains d2
theorem front_two {K : World → Prop} {Q : Exit → Act → World → Prop} {a : Act} (m c1 c2 : Nat) (d1 d2 : Tmp) (T : Two) (hok : frontOk ops m a.tmps.size = true) (h2 : twoOk ops m c1 c2 d1 d2 = true)
    (hK : K T.W0 ∧ K T.A1 ∧ K T.A2 ∧ K T.B1 ∧ K T.B2)
    (h : TextT P ops K T c1 c2 (fun a' => Front P ops Q m a' T.A2 ∧ Front P ops Q m ((a'.put (some d1) T.vB1).put (some d2) T.vB2) T.B2) 0 (ops.toList.take m) a) : Front P ops Q 0 a T.W0 := by
  obtain ⟨hms, hnd, hdn, hdep, hT⟩ := frontOk_spec hok
  unfold twoOk at h2
  simp only [Bool.and_eq_true, decide_eq_true_eq, beq_iff_eq, List.all_eq_true, List.mem_range] at h2
  obtain ⟨⟨⟨⟨⟨hc1, hc2⟩, hne⟩, hd1⟩, hd2⟩, hlk⟩ := h2
  obtain ⟨V, hVl, hV, hQA, hQB⟩ := textT_spec _ _ _ h
  have hml : (ops.toList.take m).length = m := by rw [List.length_take]; simp; omega
  have hVm : V.length = m := by omega
  obtain ⟨o1, ho1, hod1⟩ := Option.bind_eq_some_iff.1 hd1
  obtain ⟨o2, ho2, hod2⟩ := Option.bind_eq_some_iff.1 hd2
  have hl1 : (ops.toList.take m)[c1]? = some o1 := take_get hc1 (by simpa using ho1)
  have hl2 : (ops.toList.take m)[c2]? = some o2 := take_get hc2 (by simpa using ho2)
  obtain ⟨V', hV'⟩ : ∃ V', V' = (V.set c1 T.vB1).set c2 T.vB2 := ⟨_, rfl⟩
  have hV'l : V'.length = V.length := by rw [hV']; simp
  have hV'o : ∀ j, j ≠ c1 → j ≠ c2 → V'[j]? = V[j]? := fun j h1 h2 => by rw [hV', List.getElem?_set_ne (fun e => h2 e.symm), List.getElem?_set_ne (fun e => h1 e.symm)]
  have hV'1 : V'[c1]? = some T.vB1 := by rw [hV', List.getElem?_set_ne (fun e => hne e.symm), List.getElem?_set_self (by omega)]
  have hV'2 : V'[c2]? = some T.vB2 := by rw [hV', List.getElem?_set_self (by simp; omega)]
  clear hV'
  have hd12 : d1 ≠ d2 := fun e => hne (dsts_inj hnd hl1 hl2 hod1 (by rw [e]; exact hod2))
  have hslot : ∀ (j : Nat) (p : Oper) (t : Tmp), (ops.toList.take m)[j]? = some p → p.dst = some t → t ≠ d1 → t ≠ d2 → V'[j]? = V[j]? := fun j p t hj hp h1 h2 =>
    hV'o j (fun e => h1 (by subst e; rw [hl1] at hj; injection hj with hj; subst hj; rw [hod1] at hp; injection hp with hp; exact hp.symm)) (fun e => h2 (by subst e; rw [hl2] at hj; injection hj with hj; subst hj; rw [hod2] at hp; injection hp with hp; exact hp.symm))
  -- the frames in the order of the text, as an operation sees them, are the same in both walks
  have hsee : ∀ i o, i < m → ops[i]? = some o → ∀ t ∈ o.looksAt ops, (putL ((ops.toList.take m).take i) (V'.take i) a).tmps[t]? = (putL ((ops.toList.take m).take i) (V.take i) a).tmps[t]? := by
    intro i o him ho t ht
    have hl := hlk i him
    rw [ho] at hl
    simp only [Bool.and_eq_true, Bool.not_eq_true'] at hl
    have ht1 : t ≠ d1 := fun e => by
      have := hl.1
      rw [List.contains_eq_mem] at this
      simp [← e, ht] at this
    have ht2 : t ≠ d2 := fun e => by
      have := hl.2
      rw [List.contains_eq_mem] at this
      simp [← e, ht] at this
    have hsub : List.Sublist (dsts ((ops.toList.take m).take i)) (dsts (ops.toList.take m)) := by
      unfold dsts
      exact (List.take_sublist _ _).filterMap _
    refine putL_same (by simp; omega) (by simp; omega) (hnd.sublist hsub) (fun d hd => hdn d (hsub.subset hd)) (fun j p hj hp => ?_)
    rw [List.getElem?_take] at hj ⊢
    rw [List.getElem?_take]
    split at hj
    · rename_i hji
      rw [if_pos hji, if_pos hji]
      exact hslot j p t hj hp ht1 ht2
    · cases hj
  have hfin : putL (ops.toList.take m) V' a = ((putL (ops.toList.take m) V a).put (some d1) T.vB1).put (some d2) T.vB2 := by
    have et : (putL (ops.toList.take m) V' a).tmps = (((putL (ops.toList.take m) V a).put (some d1) T.vB1).put (some d2) T.vB2).tmps := by
      apply Array.ext_getElem?
      intro t
      have s1 : d1 < a.tmps.size := hdn d1 (mem_dsts hl1 hod1)
      have s2 : d2 < a.tmps.size := hdn d2 (mem_dsts hl2 hod2)
      by_cases e2 : t = d2
      · subst e2
        rw [putL_at _ _ _ c2 o2 t _ (by omega) hnd hdn hl2 hod2 hV'2]
        simp only [Act.put]
        rw [Array.getElem?_setIfInBounds_self, if_pos (by simp [putL_size]; exact s2)]
      · rw [put_get _ _ _ _ (fun e => e2 (Option.some.inj e).symm)]
        by_cases e1 : t = d1
        · subst e1
          rw [putL_at _ _ _ c1 o1 t _ (by omega) hnd hdn hl1 hod1 hV'1]
          simp only [Act.put]
          rw [Array.getElem?_setIfInBounds_self, if_pos (by rw [putL_size]; exact s1)]
        · rw [put_get _ _ _ _ (fun e => e1 (Option.some.inj e).symm)]
          exact putL_same hVl (by omega) hnd hdn (fun j p hj hp => hslot j p t hj hp e1 e2)
    have ed : (putL (ops.toList.take m) V' a).defers = (((putL (ops.toList.take m) V a).put (some d1) T.vB1).put (some d2) T.vB2).defers := by
      rw [putL_defs, put_defs, put_defs, putL_defs]
    generalize putL (ops.toList.take m) V' a = X at et ed
    generalize ((putL (ops.toList.take m) V a).put (some d1) T.vB1).put (some d2) T.vB2 = Y at et ed
    cases X; cases Y
    simp only at et ed
    rw [et, ed]
  intro fuel listed hls hll hf
  have hd : ∀ c, c < m → listed.getD c true = false := fun c hc => by rw [hll c (by omega)]; simp
  refine any_of_states (σ := St2) (wo := T.wo) (VV := fun s => match s with | .s0 => V | .a1 => V | .a2 => V | .b1 => V' | .b2 => V') (okS := fun s listed => listed.getD c1 true = s.f1 ∧ listed.getD c2 true = s.f2)
    (m := m) (a0 := a) hok (fun s => by cases s <;> simp <;> omega) ?_ ?_ fuel listed a .s0 ?_ ⟨hd c1 hc1, hd c2 hc2⟩ ?_
  · intro s listed i o hS hsz him hil hun
    have ho : ops[i]? = some o := by
      rw [List.getElem?_take, if_pos him] at hil
      simpa using hil
    obtain ⟨v, hv, hst⟩ := hV i o hil
    rw [Nat.zero_add] at hst
    obtain ⟨_, hsel, _⟩ := hdep i o him ho
    have hgs := hsee i o him ho
    have k1 : c1 < listed.size := by omega
    have k2 : c2 < listed.size := by omega
    rcases hst with ⟨n1, n2, hp⟩ | ⟨e1, hw, hr1, hr2⟩ | ⟨e2, hw, hr1, hr2⟩
    · refine ⟨v, s, ?_, ⟨by rw [getD_set, if_neg n1]; exact hS.1, by rw [getD_set, if_neg n2]; exact hS.2⟩, fun _ _ _ => rfl, ?_⟩
      · cases s <;> simp only [] <;> first | exact hv | (rw [hV'o i n1 n2]; exact hv)
      · have hKs : K (T.wo s) := by obtain ⟨q0, q1, q2, q3, q4⟩ := hK; cases s <;> assumption
        have plain : (Region.wanted o (yielded ops (putL ((ops.toList.take m).take i) (V.take i) a).tmps) = false ∧ v = undef ∧ T.wo s = T.wo s) ∨
            (Region.wanted o (yielded ops (putL ((ops.toList.take m).take i) (V.take i) a).tmps) = true ∧ RunOk P (fun w' => T.wo s = w') v ((execOp (putL ((ops.toList.take m).take i) (V.take i) a).eval o).run P (T.wo s))) := by
          rcases hp with ⟨hw, rfl⟩ | ⟨hw, hr⟩
          · exact .inl ⟨hw, rfl, rfl⟩
          · refine .inr ⟨hw, ?_⟩
            rw [hr _ hKs]
            exact ⟨rfl, rfl⟩
        have other : (Region.wanted o (yielded ops (putL ((ops.toList.take m).take i) (V'.take i) a).tmps) = false ∧ v = undef ∧ T.wo s = T.wo s) ∨
            (Region.wanted o (yielded ops (putL ((ops.toList.take m).take i) (V'.take i) a).tmps) = true ∧ RunOk P (fun w' => T.wo s = w') v ((execOp (putL ((ops.toList.take m).take i) (V'.take i) a).eval o).run P (T.wo s))) := by
          rw [wanted_same hgs, exec_same hsel hgs]
          exact plain
        cases s
        · exact plain
        · exact plain
        · exact plain
        · exact other
        · exact other
    · subst e1
      have hf1 : s.f1 = false := by rw [← hS.1]; exact hun
      cases s <;> simp only [St2.f1, reduceCtorEq] at hf1
      · exact ⟨v, .a1, hv, ⟨by rw [getD_set, if_pos rfl]; rfl, by rw [getD_set, if_neg hne]; exact hS.2⟩, fun _ _ _ => rfl, .inr ⟨hw, hr1⟩⟩
      · refine ⟨T.vB1, .b2, hV'1, ⟨by rw [getD_set, if_pos rfl]; rfl, by rw [getD_set, if_neg hne]; exact hS.2⟩, fun _ _ _ => rfl, .inr ⟨?_, ?_⟩⟩
        · rw [wanted_same hgs]; exact hw
        · rw [exec_same hsel hgs]; exact hr2
    · subst e2
      have hf2 : s.f2 = false := by rw [← hS.2]; exact hun
      have hne' : ¬ i = c1 := fun e => hne e.symm
      cases s <;> simp only [St2.f2, reduceCtorEq] at hf2
      · refine ⟨T.vB2, .b1, hV'2, ⟨by rw [getD_set, if_neg hne']; exact hS.1, by rw [getD_set, if_pos rfl]; rfl⟩, fun j hj hjl => hV'o j (fun e => ?_) (fun e => ?_), .inr ⟨hw, hr2⟩⟩
        · subst e
          rw [hS.1] at hjl
          cases hjl
        · subst e
          rw [hun] at hjl
          cases hjl
      · exact ⟨v, .a2, hv, ⟨by rw [getD_set, if_neg hne']; exact hS.1, by rw [getD_set, if_pos rfl]; rfl⟩, fun _ _ _ => rfl, .inr ⟨hw, hr1⟩⟩
  · intro s listed hS hall
    have h1 := hS.1
    have h2 := hS.2
    rw [hall c1 hc1] at h1
    rw [hall c2 hc2] at h2
    cases s <;> simp only [St2.f1, St2.f2, reduceCtorEq] at h1 h2
    · exact hQA
    · simp only []
      rw [hfin]
      exact hQB
  · refine ⟨hls, rfl, rfl, fun i o him hi hli => ?_, fun j p d hjm hj hdd => ?_, fun t _ => rfl, fun i hmi hi => ?_⟩
    · rw [hd i him] at hli; cases hli
    · rw [hd j hjm]; simp
    · rw [hll i hi]; simp
  · unfold unl
    have := List.length_filter_le (fun i => !listed.getD i true) (List.range m)
    simp only [List.length_range] at this
    omega
variable {K : World → Prop} {T : Two} {c1 c2 i : Nat} {Q : Act → Prop} {o : Oper} {l : List Oper} {v : Value} {a : Act}
theorem textT_skip (hw : Region.wanted o (yielded ops a.tmps) = false) (h1 : i ≠ c1) (h2 : i ≠ c2) (h : TextT P ops K T c1 c2 Q (i + 1) l (a.put o.dst undef)) : TextT P ops K T c1 c2 Q i (o :: l) a :=
  ⟨undef, .inl ⟨h1, h2, .inl ⟨hw, rfl⟩⟩, h⟩
theorem textT_pure (hw : Region.wanted o (yielded ops a.tmps) = true) (h1 : i ≠ c1) (h2 : i ≠ c2) (hy : ∀ w, K w → (execOp a.eval o).run P w = .ok (.value v) w) (h : TextT P ops K T c1 c2 Q (i + 1) l (a.put o.dst v)) : TextT P ops K T c1 c2 Q i (o :: l) a :=
  ⟨v, .inl ⟨h1, h2, .inr ⟨hw, hy⟩⟩, h⟩
theorem textT_call1 {f : FuncId} {args : Array Value} (hw : Region.wanted o (yielded ops a.tmps) = true) (hi : i = c1) (hy : ∀ w, (execOp a.eval o).run P w = .ok (.enter f args) w)
    (hc : Calls P f args T.W0 fun e w' => e = .returned v ∧ T.A1 = w') (hd : Calls P f args T.B1 fun e w' => e = .returned T.vB1 ∧ T.B2 = w') (h : TextT P ops K T c1 c2 Q (i + 1) l (a.put o.dst v)) : TextT P ops K T c1 c2 Q i (o :: l) a :=
  ⟨v, .inr (.inl ⟨hi, hw, by rw [hy]; exact hc, by rw [hy]; exact hd⟩), h⟩
theorem textT_make2 (hw : Region.wanted o (yielded ops a.tmps) = true) (hi : i = c2) (hy : (execOp a.eval o).run P T.A1 = .ok (.value v) T.A2) (hz : (execOp a.eval o).run P T.W0 = .ok (.value T.vB2) T.B1)
    (h : TextT P ops K T c1 c2 Q (i + 1) l (a.put o.dst v)) : TextT P ops K T c1 c2 Q i (o :: l) a :=
  ⟨v, .inr (.inr ⟨hi, hw, by rw [hy]; exact ⟨rfl, rfl⟩, by rw [hz]; exact ⟨rfl, rfl⟩⟩), h⟩
end
end Go.Proofs.Ytdpfcjhhabcheaa

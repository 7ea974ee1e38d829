/-
  A region that draws its order, walked in stages: what is behind the front reaches all that is ahead of it; in each stage one call may turn the world (the pivot). No condition. Own work.
-/
import Derived.Test.YtdpfcjhhabcheaaTail
namespace Go.Proofs.Ytdpfcjhhabcheaa
open Go Go.RowKit

section
variable {P : Program} {ops : Array Oper}

/-- The first m operations have come up, no other one; the frame is a. -/
def Front (P : Program) (ops : Array Oper) (Q : Exit → Act → World → Prop) (m : Nat) (a : Act) (w : World) : Prop :=
  ∀ (fuel : Nat) (listed : Array Bool), listed.size = ops.size → (∀ i, i < ops.size → listed.getD i true = decide (i < m)) → ops.size - m ≤ fuel → wpAny P .any ops Q fuel listed a w
def StepP (P : Program) (ops : Array Oper) (S : Bool → World → Prop) (c i : Nat) (o : Oper) (v : Value) (a : Act) : Prop :=
  (Region.wanted o (yielded ops a.tmps) = false ∧ v = undef ∧ i ≠ c) ∨ (Region.wanted o (yielded ops a.tmps) = true ∧ ∀ q : Bool, (q = false → reach ops 12 i c = false) → (q = true → reach ops 12 c i = false ∧ i ≠ c) → ∀ w, S q w → RunOk P (S (q || i == c)) v ((execOp a.eval o).run P w))
def frontOk (ops : Array Oper) (m n : Nat) : Bool :=
  decide (m ≤ ops.size) && decide (dsts (ops.toList.take m)).Nodup && (dsts (ops.toList.take m)).all (· < n) &&
  ((List.range m).all fun i => match ops[i]? with
    | none => true
    | some o => (o.after.all fun e => !Region.binds .any e || decide (e.on < i)) && (match o.op with | .select _ _ => false | _ => true) &&
      ((o.guard.map fun g => decide (g.1 < m)).getD true) &&
      (List.range m).all fun j => match (ops[j]?).bind (·.dst) with
        | none => true
        | some d => !(o.looksAt ops).contains d || (decide (j < i) && o.after.toList.any fun e => Region.binds .any e && e.on == j) ||
            (decide (i < j) && ((ops[j]?).map fun p => p.after.toList.any fun e => Region.binds .any e && e.on == i).getD false)) &&
  (List.range ops.size).all fun i => decide (i < m) || (List.range m).all fun j => reach ops 12 i j

theorem frontOk_spec {m n : Nat} (h : frontOk ops m n = true) : m ≤ ops.size ∧ (dsts (ops.toList.take m)).Nodup ∧ (∀ d ∈ dsts (ops.toList.take m), d < n) ∧
    (∀ i o, i < m → ops[i]? = some o → (∀ e ∈ o.after, Region.binds .any e = true → e.on < i) ∧ (∀ cs c, o.op ≠ .select cs c) ∧
      ∀ j p d, j < m → ops[j]? = some p → p.dst = some d → d ∈ o.looksAt ops → (j < i ∧ ∃ e ∈ o.after, Region.binds .any e = true ∧ e.on = j) ∨ (i < j ∧ ∃ e ∈ p.after, Region.binds .any e = true ∧ e.on = i)) ∧
    ∀ i o, m ≤ i → ops[i]? = some o → ∀ j, j < m → Forced ops o j := by
  unfold frontOk at h
  simp only [Bool.and_eq_true, decide_eq_true_eq, List.all_eq_true, List.mem_range] at h
  obtain ⟨⟨⟨⟨h0, h1⟩, h2⟩, h3⟩, hT⟩ := h
  refine ⟨h0, h1, h2, fun i o him hi => ?_, fun i o him hi j hj => ?_⟩
  · have h4 := h3 i him
    simp only [hi] at h4
    simp only [Bool.and_eq_true, Array.all_eq_true_iff_forall_mem, List.all_eq_true, List.mem_range] at h4
    obtain ⟨⟨⟨h5, h6⟩, _⟩, h7⟩ := h4
    refine ⟨fun e he hb => ?_, fun cs c hc => ?_, fun j p d hjm hj hd hm => ?_⟩
    · have := h5 e he
      simpa [hb] using this
    · rw [hc] at h6
      simp at h6
    · have := h7 j hjm
      simp only [hj, Option.bind_some, hd] at this
      simp only [Bool.or_eq_true, Bool.and_eq_true, Bool.not_eq_true', decide_eq_true_eq, Option.map_some, Option.getD_some, List.any_eq_true, beq_iff_eq, Array.mem_toList_iff] at this
      rcases this with (h8 | h8) | h8
      · rw [List.contains_eq_mem] at h8
        simp [hm] at h8
      · exact .inl h8
      · exact .inr h8
  · have hlt : i < ops.size := (Array.getElem?_eq_some_iff.1 hi).1
    have h4 := hT i hlt
    simp only [Bool.or_eq_true, decide_eq_true_eq, List.all_eq_true, List.mem_range] at h4
    rcases h4 with h4 | h4
    · omega
    · exact reach_forced hi (h4 j hj)

theorem getD_lt {l : Array Bool} {j : Nat} (h : l.getD j false = true) : j < l.size ∧ l.getD j true = true := by
  rcases Nat.lt_or_ge j l.size with h' | h'
  · exact ⟨h', by simp only [Array.getD_eq_getD_getElem?, Array.getElem?_eq_getElem h', Option.getD_some] at h ⊢; exact h⟩
  · rw [Array.getD_eq_getD_getElem?, Array.getElem?_eq_none h'] at h
    cases h
theorem getD_both {l : Array Bool} {j : Nat} (h : j < l.size) : l.getD j false = l.getD j true := by
  simp only [Array.getD_eq_getD_getElem?, Array.getElem?_eq_getElem h, Option.getD_some]
theorem MidT.down {m : Nat} {a0 F a : Act} {listed : Array Bool} (h : MidT ops m a0 F listed a) (j : Nat) : ∀ f p, listed.getD p true = true → p < ops.size → reach ops f p j = true → listed.getD j true = true := by
  intro f
  induction f with
  | zero => intro p _ _ h; cases h
  | succ f ihf =>
    intro i hil his hre
    have him : i < m := by
      rcases Nat.lt_or_ge i m with h' | h'
      · exact h'
      · have := h.late i h' his
        rw [this] at hil
        cases hil
    have hi2 : ops[i]? = some ops[i] := by simp [his]
    obtain ⟨e', he', hb', h5⟩ := reach_step hi2 hre
    have hl2 := h.shut i ops[i] him hi2 hil e' he' hb'
    rcases h5 with h5 | ⟨_, hf'⟩
    · rw [← h5]; exact hl2
    · refine ihf e'.on hl2 ?_ hf'
      rcases Nat.lt_or_ge e'.on ops.size with h' | h'
      · exact h'
      · cases f with
        | zero => cases hf'
        | succ f =>
          unfold reach at hf'
          rw [Array.getElem?_eq_none h'] at hf'
          cases hf'
theorem set_pivot {l : Array Bool} {i c : Nat} (hi : i < l.size) : (l.setIfInBounds i true).getD c false = (l.getD c false || i == c) := by
  rw [Array.getD_eq_getD_getElem?, Array.getD_eq_getD_getElem?]
  by_cases h : i = c
  · subst h
    rw [Array.getElem?_setIfInBounds_self, if_pos hi]; simp
  · rw [Array.getElem?_setIfInBounds_ne h]
    simp [h]

theorem any_of_front {Q : Exit → Act → World → Prop} {m0 m c : Nat} {S : Bool → World → Prop} {a0 : Act} {V : List Value} (hok : frontOk ops m a0.tmps.size = true) (hl : V.length = (ops.toList.take m).length)
    (hV : ∀ i o, m0 ≤ i → (ops.toList.take m)[i]? = some o → ∃ v, V[i]? = some v ∧ StepP P ops S c i o v (putL ((ops.toList.take m).take i) (V.take i) a0))
    (hQ : ∀ w, S (decide (c < m)) w → Front P ops Q m (putL (ops.toList.take m) V a0) w) :
    ∀ (fuel : Nat) (listed : Array Bool) (a : Act) (w : World), MidT ops m a0 (putL (ops.toList.take m) V a0) listed a → (∀ i, i < m0 → i < m → listed.getD i true = true) → S (listed.getD c false) w → unl m listed + (ops.size - m) ≤ fuel → wpAny P .any ops Q fuel listed a w := by
  obtain ⟨hms, hnd, hdn, hdep, hT⟩ := frontOk_spec hok
  have hall : ∀ (listed : Array Bool) (a : Act), MidT ops m a0 (putL (ops.toList.take m) V a0) listed a → unl m listed = 0 → ∀ i, i < m → listed.getD i true = true := by
    intro listed a h hu i hi
    cases hc : listed.getD i true with
    | true => rfl
    | false =>
      have : i ∈ (List.range m).filter fun i => !listed.getD i true := List.mem_filter.2 ⟨by simpa using hi, by rw [hc]; rfl⟩
      unfold unl at hu
      rw [List.eq_nil_of_length_eq_zero hu] at this
      cases this
  have hend : ∀ (fuel : Nat) (listed : Array Bool) (a : Act) (w : World), MidT ops m a0 (putL (ops.toList.take m) V a0) listed a → S (listed.getD c false) w → unl m listed = 0 → ops.size - m ≤ fuel → wpAny P .any ops Q fuel listed a w := by
    intro fuel listed a w h hS hu hf
    have hal := hall listed a h hu
    have e : a = putL (ops.toList.take m) V a0 := by
      have et : a.tmps = (putL (ops.toList.take m) V a0).tmps := by
        apply Array.ext_getElem?
        intro t
        by_cases ht : t ∈ dsts (ops.toList.take m)
        · obtain ⟨p, hp, hpd⟩ := List.mem_filterMap.1 ht
          obtain ⟨j, hj⟩ := List.mem_iff_getElem?.1 hp
          have hjm : j < m := by
            rw [List.getElem?_take] at hj
            by_cases hjm : j < m
            · exact hjm
            · rw [if_neg hjm] at hj; cases hj
          have hj' : ops[j]? = some p := by
            rw [List.getElem?_take, if_pos hjm] at hj
            simpa using hj
          rw [h.vals j p t hjm hj' hpd, if_pos (hal j hjm)]
        · rw [h.rest t ht, putL_get _ _ _ _ ht]
      have ed : a.defers = (putL (ops.toList.take m) V a0).defers := by rw [h.defs, putL_defs]
      cases a
      cases hF : putL (ops.toList.take m) V a0
      simp only [hF] at et ed
      rw [et, ed]
    rw [e]
    refine hQ w ?_ fuel listed h.size (fun i hi => ?_) hf
    · have e2 : listed.getD c false = decide (c < m) := by
        by_cases hc : c < ops.size
        · have hcs : c < listed.size := by rw [h.size]; exact hc
          by_cases hcm : c < m
          · have := hal c hcm
            simp only [Array.getD_eq_getD_getElem?, Array.getElem?_eq_getElem hcs, Option.getD_some] at this ⊢
            rw [this]; simp [hcm]
          · have := h.late c (by omega) hc
            simp only [Array.getD_eq_getD_getElem?, Array.getElem?_eq_getElem hcs, Option.getD_some] at this ⊢
            rw [this]; simp [hcm]
        · rw [Array.getD_eq_getD_getElem?, Array.getElem?_eq_none (by rw [h.size]; omega)]
          simp; omega
      rw [← e2]; exact hS
    · by_cases him : i < m
      · rw [hal i him]; simp [him]
      · rw [h.late i (by omega) hi]; simp [him]
  intro fuel
  induction fuel with
  | zero => intro listed a w h hM hS hf; exact hend 0 listed a w h hS (by omega) (by omega)
  | succ fuel ih =>
    intro listed a w h hM hS hf
    by_cases hu0 : unl m listed = 0
    · exact hend _ listed a w h hS hu0 (by omega)
    · have hnone : Region.ready .any ops listed ≠ [] := by
        intro hr
        apply hu0
        have hal : ∀ n i, i < n → i < m → listed.getD i true = true := by
          intro n
          induction n with
          | zero => intro i hi; omega
          | succ n ihn =>
            intro i hi hlt
            cases hc : listed.getD i true with
            | true => rfl
            | false =>
              have his : i < ops.size := by omega
              have hm : i ∈ Region.ready .any ops listed := by
                unfold Region.ready
                rw [List.mem_filter]
                refine ⟨by simpa using his, ?_⟩
                simp only [hc, Bool.not_false, Bool.true_and, Array.getElem?_eq_getElem his, Option.map_some, Option.getD_some, Array.all_eq_true_iff_forall_mem]
                intro e he
                cases hb : Region.binds .any e with
                | false => simp
                | true =>
                  have hon := (hdep i ops[i] hlt (by simp [his])).1 e he hb
                  have := ihn e.on (by omega) (by omega)
                  have hls : e.on < listed.size := by rw [h.size]; omega
                  simp only [Array.getD_eq_getD_getElem?, Array.getElem?_eq_getElem hls, Option.getD_some] at this ⊢
                  simp [this]
              rw [hr] at hm
              cases hm
        unfold unl
        rw [List.length_eq_zero_iff, List.filter_eq_nil_iff]
        intro i hi
        rw [hal (i + 1) i (by omega) (by simpa using hi)]
        simp
      refine ⟨fun hr => absurd hr hnone, fun i hi => ?_⟩
      obtain ⟨hlt, hun, o, ho, hallE⟩ := mem_rdy hi
      have him : i < m := by
        rcases Nat.lt_or_ge i m with h1 | h1
        · exact h1
        · exfalso
          apply hu0
          unfold unl
          rw [List.length_eq_zero_iff, List.filter_eq_nil_iff]
          intro j hj
          have hjm : j < m := by simpa using hj
          obtain ⟨e, he, hb, heq⟩ := hT i o h1 ho j hjm
          have h2 := hallE e he hb
          have hes : e.on < listed.size := (getD_lt h2).1
          have hle : listed.getD e.on true = true := by
            simp only [Array.getD_eq_getD_getElem?, Array.getElem?_eq_getElem hes, Option.getD_some] at h2 ⊢
            exact h2
          have hlj : listed.getD j true = true := by
            rcases heq with heq | ⟨_, f, hf⟩
            · rw [← heq]; exact hle
            · have hgo : ∀ f i, listed.getD i true = true → i < ops.size → reach ops f i j = true → listed.getD j true = true := by
                intro f
                induction f with
                | zero => intro i _ _ h; cases h
                | succ f ihf =>
                  intro i hil his hre
                  have him : i < m := by
                    rcases Nat.lt_or_ge i m with h' | h'
                    · exact h'
                    · have := h.late i h' his
                      rw [this] at hil
                      cases hil
                  have hi2 : ops[i]? = some ops[i] := by simp [his]
                  obtain ⟨e', he', hb', h5⟩ := reach_step hi2 hre
                  have hl2 := h.shut i ops[i] him hi2 hil e' he' hb'
                  rcases h5 with h5 | ⟨_, hf'⟩
                  · rw [← h5]; exact hl2
                  · exact ihf e'.on hl2 ((by
                      rcases Nat.lt_or_ge e'.on ops.size with h' | h'
                      · exact h'
                      · rw [Array.getD_eq_getD_getElem?, Array.getElem?_eq_none (by rw [h.size]; omega)] at hl2
                        cases f with
                        | zero => cases hf'
                        | succ f =>
                          unfold reach at hf'
                          rw [Array.getElem?_eq_none h'] at hf'
                          cases hf')) hf'
              exact hgo f e.on hle (by rw [← h.size]; exact hes) hf
          simp [hlj]
      have hol : (ops.toList.take m)[i]? = some o := take_get him (by simpa using ho)
      obtain ⟨hback, hsel, hlook⟩ := hdep i o him ho
      have him0 : m0 ≤ i := by
        rcases Nat.lt_or_ge i m0 with h' | h'
        · have := hM i h' him
          rw [hun] at this
          cases this
        · exact h'
      obtain ⟨v, hv, hstep⟩ := hV i o him0 hol
      have hr : ∀ e ∈ o.after, Region.binds .any e = true → listed.getD e.on true = true := by
        intro e he hb
        have h1 := hallE e he hb
        have hls : e.on < listed.size := by rw [h.size]; have := hback e he hb; omega
        simp only [Array.getD_eq_getD_getElem?, Array.getElem?_eq_getElem hls, Option.getD_some] at h1 ⊢
        exact h1
      have hsame : ∀ t ∈ o.looksAt ops, a.tmps[t]? = (putL ((ops.toList.take m).take i) (V.take i) a0).tmps[t]? := by
        intro t ht
        by_cases hd : t ∈ dsts (ops.toList.take m)
        · obtain ⟨p, hp, hpd⟩ := List.mem_filterMap.1 hd
          obtain ⟨j, hj⟩ := List.mem_iff_getElem?.1 hp
          have hjm : j < m := by
            rw [List.getElem?_take] at hj
            by_cases hjm : j < m
            · exact hjm
            · rw [if_neg hjm] at hj; cases hj
          have hj' : ops[j]? = some p := by
            have := hj
            rw [List.getElem?_take, if_pos hjm] at this
            simpa using this
          rw [h.vals j p t hjm hj' hpd]
          rcases hlook j p t hjm hj' hpd ht with ⟨hji, e, he, hb, heq⟩ | ⟨hij, e, he, hb, heq⟩
          · rw [if_pos (by rw [← heq]; exact hr e he hb)]
            have hnot : t ∉ dsts ((ops.toList.take m).drop i) := fun hm => apart_dsts hnd i (mem_dsts (j := j) (by rw [List.getElem?_take, if_pos hji]; exact hj) hpd) hm
            have e2 : putL (ops.toList.take m) V a0 = putL ((ops.toList.take m).drop i) (V.drop i) (putL ((ops.toList.take m).take i) (V.take i) a0) := by
              rw [← putL_append _ _ _ _ _ (by simp [hl]), List.take_append_drop, List.take_append_drop]
            rw [e2, putL_get _ _ _ _ hnot]
          · have hju : ¬ listed.getD j true = true := fun hc => by
              have := h.shut j p hjm hj' hc e he hb
              rw [heq, hun] at this
              cases this
            rw [if_neg hju]
            have hnot : t ∉ dsts ((ops.toList.take m).take i) := fun hm => apart_dsts hnd i hm (mem_dsts (j := j - i) (by rw [List.getElem?_drop, show i + (j - i) = j from by omega]; exact hj) hpd)
            rw [putL_get _ _ _ _ hnot]
        · have hnot : t ∉ dsts ((ops.toList.take m).take i) := fun hm => hd (by
            obtain ⟨p, hp, hpd⟩ := List.mem_filterMap.1 hm
            exact List.mem_filterMap.2 ⟨p, List.mem_of_mem_take hp, hpd⟩)
          rw [h.rest t hd, putL_get _ _ _ _ hnot]
      have hils : i < listed.size := by rw [h.size]; exact hlt
      have hgo : ∀ w', S (listed.getD c false || i == c) w' → wpAny P .any ops Q fuel (listed.setIfInBounds i true) (a.put o.dst v) w' := by
        intro w' hS'
        refine ih _ _ _ (h.put hl hnd hdn him ho hv hr) (fun k hk hkm => ?_) (by rw [set_pivot hils]; exact hS') ?_
        · rw [getD_set]
          by_cases hik : i = k
          · rw [if_pos hik]
          · rw [if_neg hik]; exact hM k hk hkm
        have : unl m (listed.setIfInBounds i true) < unl m listed := by
          unfold unl
          refine filter_lt _ i (by simpa using him) (fun k hk => ?_) (by simp [hun]) (by rw [getD_set, if_pos rfl]; rfl)
          rw [getD_set] at hk
          by_cases hik : i = k
          · rw [if_pos hik] at hk; cases hk
          · rw [if_neg hik] at hk; exact hk
        omega
      unfold wpOp
      simp only [ho]
      rw [wanted_same hsame]
      rcases hstep with ⟨hw, rfl, hic⟩ | ⟨hw, hrun⟩
      · rw [hw]
        simp only [Bool.false_eq_true, if_false]
        refine hgo w ?_
        rw [show (i == c) = false from by simp [hic], Bool.or_false]
        exact hS
      · rw [hw]
        simp only [if_true]
        left
        unfold Oper.wp
        rw [exec_same hsel hsame]
        have h1 := hrun (listed.getD c false) (fun hq => by
          cases hre : reach ops 12 i c with
          | false => rfl
          | true =>
            obtain ⟨e, he, hb, h5⟩ := reach_step ho hre
            obtain ⟨h6, h7⟩ := getD_lt (hallE e he hb)
            have hcl : listed.getD c true = true := by
              rcases h5 with h5 | ⟨_, h5⟩
              · rw [← h5]; exact h7
              · exact h.down c 11 e.on h7 (by rw [← h.size]; exact h6) h5
            have hci : c < listed.size := by
              rcases h5 with h5 | ⟨h5, _⟩
              · rw [← h5]; exact h6
              · omega
            rw [getD_both hci, hcl] at hq
            cases hq) (fun hq => by
          obtain ⟨h6, h7⟩ := getD_lt hq
          refine ⟨?_, fun e => ?_⟩
          · cases hre : reach ops 12 c i with
            | false => rfl
            | true =>
              have := h.down i 12 c h7 (by rw [← h.size]; exact h6) hre
              rw [hun] at this
              cases this
          · rw [← e, hun] at h7
            cases h7) w hS
        generalize (execOp (putL ((ops.toList.take m).take i) (V.take i) a0).eval o).run P w = r at h1
        cases r with
        | ok n w' =>
          cases n <;> simp only [RunOk] at h1
          case value u => obtain ⟨rfl, hS'⟩ := h1; exact hgo w' hS'
          case skip => obtain ⟨rfl, hS'⟩ := h1; exact hgo w' hS'
          case enter f args =>
            refine Calls.mono h1 fun e w'' he => ?_
            obtain ⟨rfl, hS'⟩ := he
            exact hgo w'' hS'
        | halt x w' => exact h1.elim

end
end Go.Proofs.Ytdpfcjhhabcheaa

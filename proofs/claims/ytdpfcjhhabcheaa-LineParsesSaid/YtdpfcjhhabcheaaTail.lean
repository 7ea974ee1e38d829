/-
  A region that draws its order and ends in forced operations, some of them forced by way of another one. No condition. Own work.
-/
import Derived.Test.YtdpfcjhhabcheaaText
namespace Go.Proofs.Ytdpfcjhhabcheaa
open Go Go.RowKit

section
variable {P : Program} {ops : Array Oper} {S : World → Prop}

/-- Is an operation bound to come behind operation j, at once or by way of a third one? -/
def reach (ops : Array Oper) : Nat → Nat → Nat → Bool
  | 0, _, _ => false
  | f + 1, i, j => match ops[i]? with
    | none => false
    | some o => o.after.toList.any fun e => Region.binds .any e && (e.on == j || (decide (j < e.on) && reach ops f e.on j))
def Forced (ops : Array Oper) (o : Oper) (j : Nat) : Prop := ∃ e ∈ o.after, Region.binds .any e = true ∧ (e.on = j ∨ (j < e.on ∧ ∃ f, reach ops f e.on j = true))
theorem reach_step {f i j : Nat} {o : Oper} (ho : ops[i]? = some o) (h : reach ops (f + 1) i j = true) : ∃ e ∈ o.after, Region.binds .any e = true ∧ (e.on = j ∨ (j < e.on ∧ reach ops f e.on j = true)) := by
  unfold reach at h
  simp only [ho, List.any_eq_true, Bool.and_eq_true, Bool.or_eq_true, decide_eq_true_eq, beq_iff_eq, Array.mem_toList_iff] at h
  obtain ⟨e, he, hb, h5⟩ := h
  exact ⟨e, he, hb, h5⟩
theorem reach_forced {f i j : Nat} {o : Oper} (ho : ops[i]? = some o) (h : reach ops f i j = true) : Forced ops o j := by
  cases f with
  | zero => cases h
  | succ f =>
    obtain ⟨e, he, hb, h5⟩ := reach_step ho h
    exact ⟨e, he, hb, h5.imp id fun h => ⟨h.1, f, h.2⟩⟩
def tailOk2 (ops : Array Oper) (m n : Nat) : Bool :=
  decide (m ≤ ops.size) && decide (dsts (ops.toList.take m)).Nodup && (dsts (ops.toList.take m)).all (· < n) &&
  ((List.range m).all fun i => match ops[i]? with
    | none => true
    | some o => (o.after.all fun e => !Region.binds .any e || decide (e.on < i)) && (match o.op with | .select _ _ => false | _ => true) &&
      ((o.guard.map fun g => decide (g.1 < m)).getD true) &&
      (List.range m).all fun j => match (ops[j]?).bind (·.dst) with
        | none => true
        | some d => !(o.looksAt ops).contains d || (decide (j < i) && o.after.toList.any fun e => Region.binds .any e && e.on == j) ||
            (decide (i < j) && ((ops[j]?).map fun p => p.after.toList.any fun e => Region.binds .any e && e.on == i).getD false)) &&
  (List.range ops.size).all fun i => decide (i < m) || (List.range i).all fun j => reach ops 12 i j

theorem tailOk2_spec {m n : Nat} (h : tailOk2 ops m n = true) : m ≤ ops.size ∧ (dsts (ops.toList.take m)).Nodup ∧ (∀ d ∈ dsts (ops.toList.take m), d < n) ∧
    (∀ i o, i < m → ops[i]? = some o → (∀ e ∈ o.after, Region.binds .any e = true → e.on < i) ∧ (∀ cs c, o.op ≠ .select cs c) ∧
      ∀ j p d, j < m → ops[j]? = some p → p.dst = some d → d ∈ o.looksAt ops → (j < i ∧ ∃ e ∈ o.after, Region.binds .any e = true ∧ e.on = j) ∨ (i < j ∧ ∃ e ∈ p.after, Region.binds .any e = true ∧ e.on = i)) ∧
    ∀ i o, m ≤ i → ops[i]? = some o → ∀ j, j < i → Forced ops o j := by
  unfold tailOk2 at h
  simp only [Bool.and_eq_true, decide_eq_true_eq, List.all_eq_true, List.mem_range] at h
  obtain ⟨⟨⟨⟨h0, h1⟩, h2⟩, h3⟩, hT⟩ := h
  refine ⟨h0, h1, h2, fun i o him hi => ?_, fun i o him hi j hj => ?_⟩
  · have h4 := h3 i him
    simp only [hi] at h4
    simp only [Bool.and_eq_true, Array.all_eq_true_iff_forall_mem, List.all_eq_true, List.mem_range] at h4
    obtain ⟨⟨⟨h5, h6⟩, _⟩, h7⟩ := h4
    refine ⟨fun e he hb => ?_, fun cs c hc => ?_, fun j p d hjm hj hd hm => ?_⟩
    · have := h5 e he
      simpa [hb] using this
    · rw [hc] at h6
      simp at h6
    · have := h7 j hjm
      simp only [hj, Option.bind_some, hd] at this
      simp only [Bool.or_eq_true, Bool.and_eq_true, Bool.not_eq_true', decide_eq_true_eq, Option.map_some, Option.getD_some, List.any_eq_true, beq_iff_eq, Array.mem_toList_iff] at this
      rcases this with (h8 | h8) | h8
      · rw [List.contains_eq_mem] at h8
        simp [hm] at h8
      · exact .inl h8
      · exact .inr h8
  · have hlt : i < ops.size := (Array.getElem?_eq_some_iff.1 hi).1
    have h4 := hT i hlt
    simp only [Bool.or_eq_true, decide_eq_true_eq, List.all_eq_true, List.mem_range] at h4
    rcases h4 with h4 | h4
    · omega
    · exact reach_forced hi (h4 j hj)

/-- The last operations, one by one. -/
theorem any_of_list2 {Q : Exit → Act → World → Prop} {m : Nat} (hT : ∀ i o, m ≤ i → ops[i]? = some o → ∀ j, j < i → Forced ops o j)
    (hB : ∀ i o, m ≤ i → ops[i]? = some o → ∀ e ∈ o.after, Region.binds .any e = true → e.on < i) :
    ∀ (fuel k : Nat) (listed : Array Bool) (a : Act) (w : World), m ≤ k → k ≤ ops.size → listed.size = ops.size → (∀ i, i < ops.size → listed.getD i true = decide (i < k)) → ops.size - k ≤ fuel →
      wpList P ops Q (ops.toList.drop k) a w → wpAny P .any ops Q fuel listed a w := by
  have hrd : ∀ (k : Nat) (listed : Array Bool), m ≤ k → listed.size = ops.size → (∀ i, i < ops.size → listed.getD i true = decide (i < k)) → ∀ i ∈ Region.ready .any ops listed, i = k := by
    intro k listed hmk hsz hl i hi
    obtain ⟨hlt, hun, o, ho, hall⟩ := mem_rdy hi
    rw [hl i hlt] at hun
    have hki : k ≤ i := by simpa using hun
    rcases Nat.lt_or_ge k i with h | h
    · obtain ⟨e, he, hb, heq⟩ := hT i o (by omega) ho k h
      have h1 := hall e he hb
      have hei := hB i o (by omega) ho e he hb
      have h2 := hl e.on (by omega)
      have hks : e.on < listed.size := by omega
      simp only [Array.getD_eq_getD_getElem?, Array.getElem?_eq_getElem hks, Option.getD_some] at h1 h2
      rw [h1] at h2
      have hek : e.on < k := by simpa using h2.symm
      rcases heq with heq | ⟨heq, _⟩ <;> omega
    · omega
  intro fuel
  induction fuel with
  | zero =>
    intro k listed a w hmk hk hsz hl hf h
    have hke : k = ops.size := by omega
    have hr : Region.ready .any ops listed = [] := by
      cases hr : Region.ready .any ops listed with
      | nil => rfl
      | cons i l =>
        have hi : i ∈ Region.ready .any ops listed := by rw [hr]; simp
        have := hrd k listed hmk hsz hl i hi
        have := (mem_rdy hi).1
        omega
    rw [hke, List.drop_of_length_le (by simp)] at h
    exact ⟨hr, h⟩
  | succ fuel ih =>
    intro k listed a w hmk hk hsz hl hf h
    rcases Nat.lt_or_ge k ops.size with hlt | hge
    · have hdrop : ops.toList.drop k = ops[k] :: ops.toList.drop (k + 1) := by
        rw [List.drop_eq_getElem_cons (by simpa using hlt)]
        simp
      have hkr : k ∈ Region.ready .any ops listed := by
        unfold Region.ready
        rw [List.mem_filter]
        refine ⟨by simpa using hlt, ?_⟩
        have hlk := hl k hlt
        simp only [Nat.lt_irrefl, decide_false] at hlk
        simp only [hlk, Bool.not_false, Bool.true_and, Array.getElem?_eq_getElem hlt, Option.map_some, Option.getD_some, Array.all_eq_true_iff_forall_mem]
        intro e he
        cases hb : Region.binds .any e with
        | false => simp
        | true =>
          have hon := hB k ops[k] hmk (by simp [hlt]) e he hb
          have h1 := hl e.on (by omega)
          have hls : e.on < listed.size := by omega
          simp only [Array.getD_eq_getD_getElem?, Array.getElem?_eq_getElem hls, Option.getD_some] at h1 ⊢
          rw [h1]
          simp [hon]
      refine ⟨(fun hr => by rw [hr] at hkr; cases hkr), fun i hi => ?_⟩
      obtain rfl := hrd k listed hmk hsz hl i hi
      rw [hdrop] at h
      unfold wpOp
      simp only [Array.getElem?_eq_getElem hlt]
      unfold wpList at h
      have hgo : ∀ a' w', wpList P ops Q (ops.toList.drop (i + 1)) a' w' → wpAny P .any ops Q fuel (listed.setIfInBounds i true) a' w' := by
        intro a' w' h'
        refine ih (i + 1) _ a' w' (by omega) (by omega) (by simp [hsz]) (fun q hq => ?_) (by omega) h'
        rw [getD_set]
        by_cases hqi : i = q
        · subst hqi; simp
        · rw [if_neg hqi, hl q hq]
          congr 1
          exact propext ⟨fun h => by omega, fun h => by omega⟩
      split at h
      · rename_i hw
        rw [if_pos hw]
        exact h.imp (Oper.wp_mono hgo) id
      · rename_i hw
        rw [if_neg hw]
        exact hgo _ _ h
    · have hke : k = ops.size := by omega
      refine ⟨fun _ => ?_, fun i hi => ?_⟩
      · rw [hke, List.drop_of_length_le (by simp)] at h
        exact h
      · have := hrd k listed hmk hsz hl i hi
        have := (mem_rdy hi).1
        omega

theorem any_of_tail2 {Q : Exit → Act → World → Prop} {m : Nat} {a0 : Act} {V : List Value} (hok : tailOk2 ops m a0.tmps.size = true)
    (hB : ∀ i o, m ≤ i → ops[i]? = some o → ∀ e ∈ o.after, Region.binds .any e = true → e.on < i) (hl : V.length = (ops.toList.take m).length)
    (hV : ∀ i o, (ops.toList.take m)[i]? = some o → ∃ v, V[i]? = some v ∧ StepOk P ops S o v (putL ((ops.toList.take m).take i) (V.take i) a0))
    (hQ : ∀ w, S w → wpList P ops Q (ops.toList.drop m) (putL (ops.toList.take m) V a0) w) :
    ∀ (fuel : Nat) (listed : Array Bool) (a : Act) (w : World), MidT ops m a0 (putL (ops.toList.take m) V a0) listed a → S w → unl m listed + (ops.size - m) ≤ fuel → wpAny P .any ops Q fuel listed a w := by
  obtain ⟨hms, hnd, hdn, hdep, hT⟩ := tailOk2_spec hok
  have hall : ∀ (listed : Array Bool) (a : Act), MidT ops m a0 (putL (ops.toList.take m) V a0) listed a → unl m listed = 0 → ∀ i, i < m → listed.getD i true = true := by
    intro listed a h hu i hi
    cases hc : listed.getD i true with
    | true => rfl
    | false =>
      have : i ∈ (List.range m).filter fun i => !listed.getD i true := List.mem_filter.2 ⟨by simpa using hi, by rw [hc]; rfl⟩
      unfold unl at hu
      rw [List.eq_nil_of_length_eq_zero hu] at this
      cases this
  have hend : ∀ (fuel : Nat) (listed : Array Bool) (a : Act) (w : World), MidT ops m a0 (putL (ops.toList.take m) V a0) listed a → S w → unl m listed = 0 → ops.size - m ≤ fuel → wpAny P .any ops Q fuel listed a w := by
    intro fuel listed a w h hS hu hf
    have hal := hall listed a h hu
    have e : a = putL (ops.toList.take m) V a0 := by
      have et : a.tmps = (putL (ops.toList.take m) V a0).tmps := by
        apply Array.ext_getElem?
        intro t
        by_cases ht : t ∈ dsts (ops.toList.take m)
        · obtain ⟨p, hp, hpd⟩ := List.mem_filterMap.1 ht
          obtain ⟨j, hj⟩ := List.mem_iff_getElem?.1 hp
          have hjm : j < m := by
            rw [List.getElem?_take] at hj
            by_cases hjm : j < m
            · exact hjm
            · rw [if_neg hjm] at hj; cases hj
          have hj' : ops[j]? = some p := by
            rw [List.getElem?_take, if_pos hjm] at hj
            simpa using hj
          rw [h.vals j p t hjm hj' hpd, if_pos (hal j hjm)]
        · rw [h.rest t ht, putL_get _ _ _ _ ht]
      have ed : a.defers = (putL (ops.toList.take m) V a0).defers := by rw [h.defs, putL_defs]
      cases a
      cases hF : putL (ops.toList.take m) V a0
      simp only [hF] at et ed
      rw [et, ed]
    rw [e]
    refine any_of_list2 hT hB fuel m listed _ w (Nat.le_refl _) hms h.size (fun i hi => ?_) hf (hQ w hS)
    by_cases him : i < m
    · rw [hal i him]; simp [him]
    · rw [h.late i (by omega) hi]; simp [him]
  intro fuel
  induction fuel with
  | zero => intro listed a w h hS hf; exact hend 0 listed a w h hS (by omega) (by omega)
  | succ fuel ih =>
    intro listed a w h hS hf
    by_cases hu0 : unl m listed = 0
    · exact hend _ listed a w h hS hu0 (by omega)
    · have hnone : Region.ready .any ops listed ≠ [] := by
        intro hr
        apply hu0
        have hal : ∀ n i, i < n → i < m → listed.getD i true = true := by
          intro n
          induction n with
          | zero => intro i hi; omega
          | succ n ihn =>
            intro i hi hlt
            cases hc : listed.getD i true with
            | true => rfl
            | false =>
              have his : i < ops.size := by omega
              have hm : i ∈ Region.ready .any ops listed := by
                unfold Region.ready
                rw [List.mem_filter]
                refine ⟨by simpa using his, ?_⟩
                simp only [hc, Bool.not_false, Bool.true_and, Array.getElem?_eq_getElem his, Option.map_some, Option.getD_some, Array.all_eq_true_iff_forall_mem]
                intro e he
                cases hb : Region.binds .any e with
                | false => simp
                | true =>
                  have hon := (hdep i ops[i] hlt (by simp [his])).1 e he hb
                  have := ihn e.on (by omega) (by omega)
                  have hls : e.on < listed.size := by rw [h.size]; omega
                  simp only [Array.getD_eq_getD_getElem?, Array.getElem?_eq_getElem hls, Option.getD_some] at this ⊢
                  simp [this]
              rw [hr] at hm
              cases hm
        unfold unl
        rw [List.length_eq_zero_iff, List.filter_eq_nil_iff]
        intro i hi
        rw [hal (i + 1) i (by omega) (by simpa using hi)]
        simp
      refine ⟨fun hr => absurd hr hnone, fun i hi => ?_⟩
      obtain ⟨hlt, hun, o, ho, hallE⟩ := mem_rdy hi
      have him : i < m := by
        rcases Nat.lt_or_ge i m with h1 | h1
        · exact h1
        · exfalso
          apply hu0
          unfold unl
          rw [List.length_eq_zero_iff, List.filter_eq_nil_iff]
          intro j hj
          have hjm : j < m := by simpa using hj
          obtain ⟨e, he, hb, heq⟩ := hT i o h1 ho j (by omega)
          have h2 := hallE e he hb
          have hei := hB i o h1 ho e he hb
          have hes : e.on < listed.size := by rw [h.size]; omega
          have hle : listed.getD e.on true = true := by
            simp only [Array.getD_eq_getD_getElem?, Array.getElem?_eq_getElem hes, Option.getD_some] at h2 ⊢
            exact h2
          have hlj : listed.getD j true = true := by
            rcases heq with heq | ⟨_, f, hf⟩
            · rw [← heq]; exact hle
            · have hgo : ∀ f i, listed.getD i true = true → i < ops.size → reach ops f i j = true → listed.getD j true = true := by
                intro f
                induction f with
                | zero => intro i _ _ h; cases h
                | succ f ihf =>
                  intro i hil his hre
                  have him : i < m := by
                    rcases Nat.lt_or_ge i m with h' | h'
                    · exact h'
                    · have := h.late i h' his
                      rw [this] at hil
                      cases hil
                  have hi2 : ops[i]? = some ops[i] := by simp [his]
                  obtain ⟨e', he', hb', h5⟩ := reach_step hi2 hre
                  have hl2 := h.shut i ops[i] him hi2 hil e' he' hb'
                  rcases h5 with h5 | ⟨_, hf'⟩
                  · rw [← h5]; exact hl2
                  · exact ihf e'.on hl2 ((by
                      rcases Nat.lt_or_ge e'.on ops.size with h' | h'
                      · exact h'
                      · rw [Array.getD_eq_getD_getElem?, Array.getElem?_eq_none (by rw [h.size]; omega)] at hl2
                        cases f with
                        | zero => cases hf'
                        | succ f =>
                          unfold reach at hf'
                          rw [Array.getElem?_eq_none h'] at hf'
                          cases hf')) hf'
              exact hgo f e.on hle (by rw [← h.size]; exact hes) hf
          simp [hlj]
      have hol : (ops.toList.take m)[i]? = some o := take_get him (by simpa using ho)
      obtain ⟨hback, hsel, hlook⟩ := hdep i o him ho
      obtain ⟨v, hv, hstep⟩ := hV i o hol
      have hr : ∀ e ∈ o.after, Region.binds .any e = true → listed.getD e.on true = true := by
        intro e he hb
        have h1 := hallE e he hb
        have hls : e.on < listed.size := by rw [h.size]; have := hback e he hb; omega
        simp only [Array.getD_eq_getD_getElem?, Array.getElem?_eq_getElem hls, Option.getD_some] at h1 ⊢
        exact h1
      have hsame : ∀ t ∈ o.looksAt ops, a.tmps[t]? = (putL ((ops.toList.take m).take i) (V.take i) a0).tmps[t]? := by
        intro t ht
        by_cases hd : t ∈ dsts (ops.toList.take m)
        · obtain ⟨p, hp, hpd⟩ := List.mem_filterMap.1 hd
          obtain ⟨j, hj⟩ := List.mem_iff_getElem?.1 hp
          have hjm : j < m := by
            rw [List.getElem?_take] at hj
            by_cases hjm : j < m
            · exact hjm
            · rw [if_neg hjm] at hj; cases hj
          have hj' : ops[j]? = some p := by
            have := hj
            rw [List.getElem?_take, if_pos hjm] at this
            simpa using this
          rw [h.vals j p t hjm hj' hpd]
          rcases hlook j p t hjm hj' hpd ht with ⟨hji, e, he, hb, heq⟩ | ⟨hij, e, he, hb, heq⟩
          · rw [if_pos (by rw [← heq]; exact hr e he hb)]
            have hnot : t ∉ dsts ((ops.toList.take m).drop i) := fun hm => apart_dsts hnd i (mem_dsts (j := j) (by rw [List.getElem?_take, if_pos hji]; exact hj) hpd) hm
            have e2 : putL (ops.toList.take m) V a0 = putL ((ops.toList.take m).drop i) (V.drop i) (putL ((ops.toList.take m).take i) (V.take i) a0) := by
              rw [← putL_append _ _ _ _ _ (by simp [hl]), List.take_append_drop, List.take_append_drop]
            rw [e2, putL_get _ _ _ _ hnot]
          · have hju : ¬ listed.getD j true = true := fun hc => by
              have := h.shut j p hjm hj' hc e he hb
              rw [heq, hun] at this
              cases this
            rw [if_neg hju]
            have hnot : t ∉ dsts ((ops.toList.take m).take i) := fun hm => apart_dsts hnd i hm (mem_dsts (j := j - i) (by rw [List.getElem?_drop, show i + (j - i) = j from by omega]; exact hj) hpd)
            rw [putL_get _ _ _ _ hnot]
        · have hnot : t ∉ dsts ((ops.toList.take m).take i) := fun hm => hd (by
            obtain ⟨p, hp, hpd⟩ := List.mem_filterMap.1 hm
            exact List.mem_filterMap.2 ⟨p, List.mem_of_mem_take hp, hpd⟩)
          rw [h.rest t hd, putL_get _ _ _ _ hnot]
      have hgo : ∀ w', S w' → wpAny P .any ops Q fuel (listed.setIfInBounds i true) (a.put o.dst v) w' := by
        intro w' hS'
        refine ih _ _ _ (h.put hl hnd hdn him ho hv hr) hS' ?_
        have : unl m (listed.setIfInBounds i true) < unl m listed := by
          unfold unl
          refine filter_lt _ i (by simpa using him) (fun k hk => ?_) (by simp [hun]) (by rw [getD_set, if_pos rfl]; rfl)
          rw [getD_set] at hk
          by_cases hik : i = k
          · rw [if_pos hik] at hk; cases hk
          · rw [if_neg hik] at hk; exact hk
        omega
      unfold wpOp
      simp only [ho]
      rw [wanted_same hsame]
      rcases hstep with ⟨hw, rfl⟩ | ⟨hw, hrun⟩
      · rw [hw]
        simp only [Bool.false_eq_true, if_false]
        exact hgo w hS
      · rw [hw]
        simp only [if_true]
        left
        unfold Oper.wp
        rw [exec_same hsel hsame]
        have h1 := hrun w hS
        generalize (execOp (putL ((ops.toList.take m).take i) (V.take i) a0).eval o).run P w = r at h1
        cases r with
        | ok n w' =>
          cases n <;> simp only [RunOk] at h1
          case value u => obtain ⟨rfl, hS'⟩ := h1; exact hgo w' hS'
          case skip => obtain ⟨rfl, hS'⟩ := h1; exact hgo w' hS'
          case enter f args =>
            refine Calls.mono h1 fun e w'' he => ?_
            obtain ⟨rfl, hS'⟩ := he
            exact hgo w'' hS'
        | halt x w' => exact h1.elim

/-- A region that draws its order, the first m operations by one walk in the order of the text, the others (which are bound to come last, one behind the other) by the walk's own steps. -/
theorem wp_region_tail2 {Q : Exit → Act → World → Prop} {id : Nat} {l r : List Oper} {a : Act} {w : World} (S : World → Prop) (hm : P.follows .mixedOrders = true)
    (hok : tailOk2 (l ++ r).toArray l.length a.tmps.size = true) (hb : backOk (l ++ r).toArray l.length = true) (hS : S w.drew)
    (h : TextWalk P (l ++ r).toArray S (fun a' w' => wpList P (l ++ r).toArray Q r a' w') l a) : (Code.region id (l ++ r).toArray true).wp P Q a w := by
  have htk : (l ++ r).toArray.toList.take l.length = l := by simp
  have hdr : (l ++ r).toArray.toList.drop l.length = r := by simp
  obtain ⟨V, hl, hV, hQ⟩ := text_spec l a h
  have hB : ∀ i o, l.length ≤ i → (l ++ r).toArray[i]? = some o → ∀ e ∈ o.after, Region.binds .any e = true → e.on < i := by
    intro i o hi ho e he hbe
    have hlt : i < (l ++ r).toArray.size := (Array.getElem?_eq_some_iff.1 ho).1
    unfold backOk at hb
    simp only [List.all_eq_true, List.mem_range, Bool.or_eq_true, decide_eq_true_eq] at hb
    rcases hb i hlt with h1 | h1
    · omega
    · rw [ho] at h1
      simp only [Option.map_some, Option.getD_some, Array.all_eq_true_iff_forall_mem] at h1
      have := h1 e he
      simpa [hbe] using this
  refine wp_region_any hm (any_of_tail2 (S := S) (m := l.length) (V := V) hok hB (by rw [htk]; exact hl) (by rw [htk]; exact hV) (by rw [htk, hdr]; exact hQ) _ _ a _ ?_ hS ?_)
  · refine ⟨by simp, rfl, rfl, fun i o him hi hli e he hbe => ?_, fun j p d hjm hj hd => ?_, fun t _ => rfl, fun i _ hi => ?_⟩
    · have hlt : i < (l ++ r).toArray.size := (Array.getElem?_eq_some_iff.1 hi).1
      rw [Array.getD_eq_getD_getElem?, Array.getElem?_replicate, if_pos hlt] at hli
      cases hli
    · have hlt : j < (l ++ r).toArray.size := (Array.getElem?_eq_some_iff.1 hj).1
      rw [Array.getD_eq_getD_getElem?, Array.getElem?_replicate, if_pos hlt]
      rfl
    · rw [Array.getD_eq_getD_getElem?, Array.getElem?_replicate, if_pos hi]
      rfl
  · unfold unl
    have := List.length_filter_le (fun i => !(Array.replicate (l ++ r).toArray.size false).getD i true) (List.range l.length)
    simp only [List.length_range, List.size_toArray, List.length_append] at *
    omega

theorem wp_region_tailN2 {Q : Exit → Act → World → Prop} {id : Nat} {L : List Oper} {a : Act} {w : World} (n : Nat) (S : World → Prop) (hm : P.follows .mixedOrders = true)
    (hok : tailOk2 L.toArray n a.tmps.size = true) (hb : backOk L.toArray n = true) (hS : S w.drew)
    (h : TextWalk P L.toArray S (fun a' w' => wpList P L.toArray Q (L.drop n) a' w') (L.take n) a) : (Code.region id L.toArray true).wp P Q a w := by
  have hn : n ≤ L.length := by simpa using (tailOk2_spec hok).1
  have hlen : (L.take n).length = n := by simp; omega
  have hk := wp_region_tail2 (P := P) (Q := Q) (id := id) (l := L.take n) (r := L.drop n) (a := a) (w := w) S hm
  rw [List.take_append_drop, hlen] at hk
  exact hk hok hb hS h

end
end Go.Proofs.Ytdpfcjhhabcheaa

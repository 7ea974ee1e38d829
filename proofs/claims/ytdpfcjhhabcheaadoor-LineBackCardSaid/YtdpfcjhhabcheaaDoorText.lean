/-
  A region that draws its order, walked once in the order of its text: each operation, in whatever world that meets S, yields one and the same value and leaves S as it was; what looks at a slot that the region writes is bound to come behind (or ahead of) the writing. Then every order comes to one frame. No condition. Own work.
-/
import Derived.Test.YtdpfcjhhabcheaaDoorBase
import Derived.Orders
namespace Go.Proofs.YtdpfcjhhabcheaaDoor
open Go Go.RowKit

section
variable {P : Program} {ops : Array Oper} {S : World → Prop}

/-- What a run comes to: the value v, a world that meets S; a call is met by its contract. -/
def RunOk (P : Program) (S : World → Prop) (v : Value) : Result Next → Prop
  | .ok (.value u) w' => u = v ∧ S w'
  | .ok .skip w' => v = undef ∧ S w'
  | .ok (.enter f args) w' => Calls P f args w' (fun e w'' => e = .returned v ∧ S w'')
  | _ => False

def StepOk (P : Program) (ops : Array Oper) (S : World → Prop) (o : Oper) (v : Value) (a : Act) : Prop :=
  (Region.wanted o (yielded ops a.tmps) = false ∧ v = undef) ∨ (Region.wanted o (yielded ops a.tmps) = true ∧ ∀ w, S w → RunOk P S v ((execOp a.eval o).run P w))

/-- The walk in the order of the text. -/
def TextWalk (P : Program) (ops : Array Oper) (S : World → Prop) (Q : Act → World → Prop) : List Oper → Act → Prop
  | [], a => ∀ w, S w → Q a w
  | o :: l, a => ∃ v, StepOk P ops S o v a ∧ TextWalk P ops S Q l (a.put o.dst v)

theorem text_nil {Q : Act → World → Prop} {a : Act} (h : ∀ w, S w → Q a w) : TextWalk P ops S Q [] a := h
theorem text_skip {Q : Act → World → Prop} {a : Act} {o : Oper} {l : List Oper} (hw : Region.wanted o (yielded ops a.tmps) = false) (h : TextWalk P ops S Q l (a.put o.dst undef)) : TextWalk P ops S Q (o :: l) a :=
  ⟨undef, .inl ⟨hw, rfl⟩, h⟩
theorem text_pure {Q : Act → World → Prop} {a : Act} {o : Oper} {l : List Oper} {v : Value} (hw : Region.wanted o (yielded ops a.tmps) = true) (hy : ∀ w, S w → (execOp a.eval o).run P w = .ok (.value v) w)
    (h : TextWalk P ops S Q l (a.put o.dst v)) : TextWalk P ops S Q (o :: l) a :=
  ⟨v, .inr ⟨hw, fun w hS => by rw [hy w hS]; exact ⟨rfl, hS⟩⟩, h⟩
theorem text_step {Q : Act → World → Prop} {a : Act} {o : Oper} {l : List Oper} {v : Value} (hw : Region.wanted o (yielded ops a.tmps) = true) (hy : ∀ w, S w → ∃ w', (execOp a.eval o).run P w = .ok (.value v) w' ∧ S w')
    (h : TextWalk P ops S Q l (a.put o.dst v)) : TextWalk P ops S Q (o :: l) a :=
  ⟨v, .inr ⟨hw, fun w hS => by obtain ⟨w', e, hS'⟩ := hy w hS; rw [e]; exact ⟨rfl, hS'⟩⟩, h⟩
theorem text_call {Q : Act → World → Prop} {a : Act} {o : Oper} {l : List Oper} {v : Value} {f : FuncId} {args : Array Value} (hw : Region.wanted o (yielded ops a.tmps) = true)
    (hy : ∀ w, S w → (execOp a.eval o).run P w = .ok (.enter f args) w) (hc : ∀ w, S w → Calls P f args w (fun e w' => e = .returned v ∧ S w'))
    (h : TextWalk P ops S Q l (a.put o.dst v)) : TextWalk P ops S Q (o :: l) a :=
  ⟨v, .inr ⟨hw, fun w hS => by rw [hy w hS]; exact hc w hS⟩, h⟩

/-- S is kept by a call that leaves old blocks as they were. -/
def Keeps (S : World → Prop) : Prop := ∀ w w', S w → Below w.heap.size w w' → S w'
theorem meets {f : FuncId} {args : Array Value} {v : Value} (hk : Keeps S) (hc : ∀ w, Calls P f args w fun e w' => e = .returned v ∧ Below w.heap.size w w') (w : World) (hS : S w) :
    Calls P f args w fun e w' => e = .returned v ∧ S w' := (hc w).mono fun _ _ ⟨he, hb⟩ => ⟨he, hk _ _ hS hb⟩
theorem meetsEq {f : FuncId} {args : Array Value} {v : Value} (hc : ∀ w, Calls P f args w fun e w' => e = .returned v ∧ w = w') (w : World) (hS : S w) :
    Calls P f args w fun e w' => e = .returned v ∧ S w' := (hc w).mono fun _ _ ⟨he, hb⟩ => ⟨he, hb ▸ hS⟩

/-- The frame behind the operations of a row. -/
def putL : List Oper → List Value → Act → Act
  | o :: l, v :: V, a => putL l V (a.put o.dst v)
  | _, _, a => a
def dsts (l : List Oper) : List Tmp := l.filterMap (·.dst)

theorem put_size (a : Act) (d : Option Tmp) (v : Value) : (a.put d v).tmps.size = a.tmps.size := by cases d <;> simp [Act.put]
theorem put_defs (a : Act) (d : Option Tmp) (v : Value) : (a.put d v).defers = a.defers := by cases d <;> rfl
theorem put_get (a : Act) (d : Option Tmp) (v : Value) (t : Tmp) (h : d ≠ some t) : (a.put d v).tmps[t]? = a.tmps[t]? := by
  cases d with
  | none => rfl
  | some e => simp only [Act.put]; exact Array.getElem?_setIfInBounds_ne (fun he => h (by rw [he]))
theorem putL_size : ∀ (l : List Oper) (V : List Value) (a : Act), (putL l V a).tmps.size = a.tmps.size
  | [], _, _ => rfl
  | _ :: _, [], _ => rfl
  | o :: l, v :: V, a => by rw [putL, putL_size, put_size]
theorem putL_defs : ∀ (l : List Oper) (V : List Value) (a : Act), (putL l V a).defers = a.defers
  | [], _, _ => rfl
  | _ :: _, [], _ => rfl
  | o :: l, v :: V, a => by rw [putL, putL_defs, put_defs]
theorem putL_get : ∀ (l : List Oper) (V : List Value) (a : Act) (t : Tmp), t ∉ dsts l → (putL l V a).tmps[t]? = a.tmps[t]?
  | [], _, _, _, _ => rfl
  | _ :: _, [], _, _, _ => rfl
  | o :: l, v :: V, a, t, h => by
    have h1 : o.dst ≠ some t := fun e => h (by simp [dsts, e])
    have h2 : t ∉ dsts l := fun e => h (by
      unfold dsts at e ⊢
      rw [List.filterMap_cons]
      cases o.dst <;> simp [e])
    rw [putL, putL_get l V _ t h2, put_get _ _ _ _ h1]
theorem putL_append : ∀ (l m : List Oper) (V U : List Value) (a : Act), V.length = l.length → putL (l ++ m) (V ++ U) a = putL m U (putL l V a)
  | [], m, [], U, a, _ => rfl
  | o :: l, m, v :: V, U, a, h => by
    simp only [List.cons_append, putL]
    exact putL_append l m V U _ (by simpa using h)

theorem text_spec {Q : Act → World → Prop} : ∀ (l : List Oper) (a : Act), TextWalk P ops S Q l a →
    ∃ V : List Value, V.length = l.length ∧ (∀ i o, l[i]? = some o → ∃ v, V[i]? = some v ∧ StepOk P ops S o v (putL (l.take i) (V.take i) a)) ∧ ∀ w, S w → Q (putL l V a) w
  | [], a, h => ⟨[], rfl, fun i o hi => by simp at hi, h⟩
  | o :: l, a, ⟨v, h1, h2⟩ => by
    obtain ⟨V, hl, hV, hQ⟩ := text_spec l _ h2
    refine ⟨v :: V, by simp [hl], fun i o' hi => ?_, hQ⟩
    cases i with
    | zero => simp at hi; subst hi; exact ⟨v, rfl, h1⟩
    | succ i =>
      simp only [List.getElem?_cons_succ] at hi
      obtain ⟨u, hu, hs⟩ := hV i o' hi
      exact ⟨u, by simpa using hu, by simpa [putL] using hs⟩

/-- What looks at a slot that another operation writes is bound to it by an edge of its own, one way or the other; slots are written once; edges lead back in the text. -/
def textOk (ops : Array Oper) (n : Nat) : Bool :=
  decide (dsts ops.toList).Nodup && (dsts ops.toList).all (· < n) &&
  (List.range ops.size).all fun i => match ops[i]? with
    | none => true
    | some o => (o.after.all fun e => !Region.binds .any e || decide (e.on < i)) && (match o.op with | .select _ _ => false | _ => true) &&
      (List.range ops.size).all fun j => match (ops[j]?).bind (·.dst) with
        | none => true
        | some d => !(o.looksAt ops).contains d || (decide (j < i) && o.after.toList.any fun e => Region.binds .any e && e.on == j) ||
            (decide (i < j) && ((ops[j]?).map fun p => p.after.toList.any fun e => Region.binds .any e && e.on == i).getD false)

/-- Operations that have not come up yet. -/
def unl (n : Nat) (listed : Array Bool) : Nat := ((List.range n).filter fun i => !listed.getD i true).length

theorem filter_lt {p q : Nat → Bool} : ∀ (l : List Nat) (i : Nat), i ∈ l → (∀ k, q k = true → p k = true) → p i = true → q i = false → (l.filter q).length < (l.filter p).length
  | [], _, h, _, _, _ => by cases h
  | x :: l, i, h, hpq, hp, hq => by
    have hle : ∀ m : List Nat, (m.filter q).length ≤ (m.filter p).length := by
      intro m
      induction m with
      | nil => simp
      | cons y m ih =>
        simp only [List.filter_cons]
        cases hy : q y with
        | true => simp [hpq y hy, ih]
        | false => cases p y <;> simp <;> omega
    simp only [List.mem_cons] at h
    rcases h with rfl | h
    · have := hle l
      simp only [List.filter_cons, hp, hq, if_true, Bool.false_eq_true, if_false, List.length_cons]
      omega
    · have := filter_lt l i h hpq hp hq
      simp only [List.filter_cons]
      cases hy : q x with
      | true => simp [hpq x hy, this]
      | false => cases p x <;> simp <;> omega

theorem mem_rdy {listed : Array Bool} {i : Nat} (h : i ∈ Region.ready .any ops listed) :
    i < ops.size ∧ listed.getD i true = false ∧ ∃ o, ops[i]? = some o ∧ ∀ e ∈ o.after, Region.binds .any e = true → listed.getD e.on false = true := by
  unfold Region.ready at h
  rw [List.mem_filter] at h
  obtain ⟨h1, h2⟩ := h
  simp only [Bool.and_eq_true, Bool.not_eq_true'] at h2
  have hi : i < ops.size := by simpa using h1
  refine ⟨hi, h2.1, ops[i], by simp [hi], fun e he hb => ?_⟩
  have h3 := h2.2
  simp only [Array.getElem?_eq_getElem hi, Option.map_some, Option.getD_some, Array.all_eq_true_iff_forall_mem] at h3
  have := h3 e he
  simpa [hb] using this

/-- Looked at alike, carried out alike. -/
theorem exec_same {o : Oper} {a b : Act} (hs : ∀ cs c, o.op ≠ .select cs c) (h : ∀ t ∈ o.looksAt ops, a.tmps[t]? = b.tmps[t]?) : execOp a.eval o = execOp b.eval o :=
  execOp_congr o hs fun x hx => by
    cases x with
    | tmp t => simp only [Act.eval, Array.getD_eq_getD_getElem?]; rw [h t (List.mem_append_left _ (List.mem_filterMap.2 ⟨.tmp t, by simpa using hx, rfl⟩))]
    | _ => rfl
theorem wanted_same {o : Oper} {a b : Act} (h : ∀ t ∈ o.looksAt ops, a.tmps[t]? = b.tmps[t]?) : Region.wanted o (yielded ops a.tmps) = Region.wanted o (yielded ops b.tmps) := by
  unfold Region.wanted
  cases hg : o.guard with
  | none => rfl
  | some gw =>
    obtain ⟨g, want⟩ := gw
    have hy : yielded ops a.tmps g = yielded ops b.tmps g := by
      unfold yielded
      cases ht : (ops[g]?).bind (·.dst) with
      | none => rfl
      | some t => simp only [Option.bind_some]; rw [h t (by simp [Oper.looksAt, hg, ht])]
    simp only [hy]

theorem textOk_spec {n : Nat} (h : textOk ops n = true) : (dsts ops.toList).Nodup ∧ (∀ d ∈ dsts ops.toList, d < n) ∧
    ∀ i o, ops[i]? = some o → (∀ e ∈ o.after, Region.binds .any e = true → e.on < i) ∧ (∀ cs c, o.op ≠ .select cs c) ∧
      ∀ j p d, ops[j]? = some p → p.dst = some d → d ∈ o.looksAt ops → (j < i ∧ ∃ e ∈ o.after, Region.binds .any e = true ∧ e.on = j) ∨ (i < j ∧ ∃ e ∈ p.after, Region.binds .any e = true ∧ e.on = i) := by
  unfold textOk at h
  simp only [Bool.and_eq_true, decide_eq_true_eq, List.all_eq_true, List.mem_range] at h
  obtain ⟨⟨h1, h2⟩, h3⟩ := h
  refine ⟨h1, h2, fun i o hi => ?_⟩
  have hlt : i < ops.size := (Array.getElem?_eq_some_iff.1 hi).1
  have h4 := h3 i hlt
  simp only [hi] at h4
  simp only [Bool.and_eq_true, Array.all_eq_true_iff_forall_mem, List.all_eq_true, List.mem_range] at h4
  obtain ⟨⟨h5, h6⟩, h7⟩ := h4
  refine ⟨fun e he hb => ?_, fun cs c hc => ?_, fun j p d hj hd hm => ?_⟩
  · have := h5 e he
    simpa [hb] using this
  · rw [hc] at h6
    simp at h6
  · have hjl : j < ops.size := (Array.getElem?_eq_some_iff.1 hj).1
    have := h7 j hjl
    simp only [hj, Option.bind_some, hd] at this
    simp only [Bool.or_eq_true, Bool.and_eq_true, Bool.not_eq_true', decide_eq_true_eq, Option.map_some, Option.getD_some, List.any_eq_true, beq_iff_eq, Array.mem_toList_iff] at this
    rcases this with (h8 | h8) | h8
    · rw [List.contains_eq_mem] at h8
      simp [hm] at h8
    · exact .inl h8
    · exact .inr h8

theorem mem_dsts {l : List Oper} {j : Nat} {p : Oper} {d : Tmp} (hj : l[j]? = some p) (hd : p.dst = some d) : d ∈ dsts l :=
  List.mem_filterMap.2 ⟨p, List.mem_of_getElem? hj, hd⟩
theorem apart_dsts {l : List Oper} (h : (dsts l).Nodup) (i : Nat) {t : Tmp} (h1 : t ∈ dsts (l.take i)) (h2 : t ∈ dsts (l.drop i)) : False := by
  have e : dsts l = dsts (l.take i) ++ dsts (l.drop i) := by
    unfold dsts
    rw [← List.filterMap_append, List.take_append_drop]
  rw [e, List.nodup_append] at h
  exact h.2.2 t h1 t h2 rfl
theorem dsts_inj {l : List Oper} (h : (dsts l).Nodup) {i j : Nat} {o p : Oper} {d : Tmp} (hi : l[i]? = some o) (hj : l[j]? = some p) (ho : o.dst = some d) (hp : p.dst = some d) : i = j := by
  rcases Nat.lt_trichotomy i j with hij | hij | hij
  · exact (apart_dsts h j (mem_dsts (j := i) (by rw [List.getElem?_take, if_pos hij]; exact hi) ho) (mem_dsts (j := 0) (by rw [List.getElem?_drop, Nat.add_zero]; exact hj) hp)).elim
  · exact hij
  · exact (apart_dsts h i (mem_dsts (j := j) (by rw [List.getElem?_take, if_pos hij]; exact hj) hp) (mem_dsts (j := 0) (by rw [List.getElem?_drop, Nat.add_zero]; exact hi) ho)).elim

/-- The state in the middle of whatever order. -/
structure Mid (ops : Array Oper) (a0 F : Act) (listed : Array Bool) (a : Act) : Prop where
  size : listed.size = ops.size
  tsize : a.tmps.size = a0.tmps.size
  defs : a.defers = a0.defers
  shut : ∀ i o, ops[i]? = some o → listed.getD i true = true → ∀ e ∈ o.after, Region.binds .any e = true → listed.getD e.on true = true
  vals : ∀ j p d, ops[j]? = some p → p.dst = some d → a.tmps[d]? = if listed.getD j true = true then F.tmps[d]? else a0.tmps[d]?
  rest : ∀ t, t ∉ dsts ops.toList → a.tmps[t]? = a0.tmps[t]?

theorem getD_set (listed : Array Bool) (i k : Nat) : (listed.setIfInBounds i true).getD k true = if i = k then true else listed.getD k true := by
  simp only [Array.getD_eq_getD_getElem?, Array.getElem?_setIfInBounds]
  by_cases h : i = k
  · subst h
    by_cases h' : i < listed.size <;> simp [h']
  · simp [h]

theorem Mid.put {a0 a : Act} {V : List Value} {listed : Array Bool} {i : Nat} {o : Oper} {v : Value} (hl : V.length = ops.toList.length) (hnd : (dsts ops.toList).Nodup) (hdn : ∀ d ∈ dsts ops.toList, d < a0.tmps.size)
    (h : Mid ops a0 (putL ops.toList V a0) listed a) (hi : ops[i]? = some o) (hv : V[i]? = some v) (hr : ∀ e ∈ o.after, Region.binds .any e = true → listed.getD e.on true = true) :
    Mid ops a0 (putL ops.toList V a0) (listed.setIfInBounds i true) (a.put o.dst v) := by
  have hil : ops.toList[i]? = some o := by simpa using hi
  refine ⟨by simp [h.size], by rw [put_size, h.tsize], by rw [put_defs, h.defs], fun k p hk hkl e he hb => ?_, fun j p d hj hd => ?_, fun t ht => ?_⟩
  · rw [getD_set] at hkl ⊢
    by_cases hie : i = e.on
    · rw [if_pos hie]
    · rw [if_neg hie]
      by_cases hik : i = k
      · subst hik
        rw [hi] at hk
        injection hk with hk
        subst hk
        exact hr e he hb
      · rw [if_neg hik] at hkl
        exact h.shut k p hk hkl e he hb
  · have hjl : ops.toList[j]? = some p := by simpa using hj
    rw [getD_set]
    by_cases hij : i = j
    · subst hij
      rw [if_pos rfl, if_pos rfl]
      rw [hi] at hj
      injection hj with hj
      subst hj
      have hlt : d < a0.tmps.size := hdn d (mem_dsts hil hd)
      have e1 : (a.put o.dst v).tmps[d]? = some v := by
        rw [hd]
        simp only [Act.put]
        rw [Array.getElem?_setIfInBounds_self, if_pos (by rw [h.tsize]; exact hlt)]
      rw [e1]
      have hnot : d ∉ dsts (ops.toList.drop (i + 1)) := fun hm => apart_dsts hnd (i + 1) (mem_dsts (j := i) (by rw [List.getElem?_take, if_pos (by omega)]; exact hil) hd) hm
      have e2 : putL ops.toList V a0 = putL (ops.toList.drop (i + 1)) (V.drop (i + 1)) (putL (ops.toList.take (i + 1)) (V.take (i + 1)) a0) := by
        rw [← putL_append _ _ _ _ _ (by simp [hl]), List.take_append_drop, List.take_append_drop]
      rw [e2, putL_get _ _ _ _ hnot]
      have e3 : ops.toList.take (i + 1) = ops.toList.take i ++ [o] := by rw [List.take_add_one, hil]; rfl
      have e4 : V.take (i + 1) = V.take i ++ [v] := by rw [List.take_add_one, hv]; rfl
      rw [e3, e4, putL_append _ _ _ _ _ (by simp [hl])]
      simp only [putL, hd, Act.put]
      rw [Array.getElem?_setIfInBounds_self, if_pos (by rw [putL_size]; exact hlt)]
    · rw [if_neg hij, put_get _ _ _ _ (fun e => hij (dsts_inj hnd hil hjl e hd))]
      exact h.vals j p d hj hd
  · rw [put_get _ _ _ _ (fun e => ht (mem_dsts hil e))]
    exact h.rest t ht

theorem any_of_text {Q : Exit → Act → World → Prop} {a0 : Act} {V : List Value} (hok : textOk ops a0.tmps.size = true) (hl : V.length = ops.toList.length)
    (hV : ∀ i o, ops.toList[i]? = some o → ∃ v, V[i]? = some v ∧ StepOk P ops S o v (putL (ops.toList.take i) (V.take i) a0)) (hQ : ∀ w, S w → Q .normal (putL ops.toList V a0) w) :
    ∀ (fuel : Nat) (listed : Array Bool) (a : Act) (w : World), Mid ops a0 (putL ops.toList V a0) listed a → S w → unl ops.size listed ≤ fuel → wpAny P .any ops Q fuel listed a w := by
  obtain ⟨hnd, hdn, hdep⟩ := textOk_spec hok
  have hend : ∀ (listed : Array Bool) (a : Act) (w : World), Mid ops a0 (putL ops.toList V a0) listed a → S w → Region.ready .any ops listed = [] → Q .normal a w := by
    intro listed a w h hS hr
    have hall : ∀ n i, i < n → i < ops.size → listed.getD i true = true := by
      intro n
      induction n with
      | zero => intro i hi; omega
      | succ n ih =>
        intro i hi hlt
        cases hc : listed.getD i true with
        | true => rfl
        | false =>
          have hm : i ∈ Region.ready .any ops listed := by
            unfold Region.ready
            rw [List.mem_filter]
            refine ⟨by simpa using hlt, ?_⟩
            simp only [hc, Bool.not_false, Bool.true_and, Array.getElem?_eq_getElem hlt, Option.map_some, Option.getD_some, Array.all_eq_true_iff_forall_mem]
            intro e he
            cases hb : Region.binds .any e with
            | false => simp
            | true =>
              have hon := (hdep i ops[i] (by simp [hlt])).1 e he hb
              have := ih e.on (by omega) (by omega)
              have hls : e.on < listed.size := by rw [h.size]; omega
              simp only [Array.getD_eq_getD_getElem?, Array.getElem?_eq_getElem hls, Option.getD_some] at this ⊢
              simp [this]
          rw [hr] at hm
          cases hm
    have e : a = putL ops.toList V a0 := by
      have et : a.tmps = (putL ops.toList V a0).tmps := by
        apply Array.ext_getElem?
        intro t
        by_cases ht : t ∈ dsts ops.toList
        · obtain ⟨p, hp, hpd⟩ := List.mem_filterMap.1 ht
          obtain ⟨j, hj⟩ := List.mem_iff_getElem?.1 hp
          have hj' : ops[j]? = some p := by simpa using hj
          rw [h.vals j p t hj' hpd, if_pos (hall (j + 1) j (by omega) (Array.getElem?_eq_some_iff.1 hj').1)]
        · rw [h.rest t ht, putL_get _ _ _ _ ht]
      have ed : a.defers = (putL ops.toList V a0).defers := by rw [h.defs, putL_defs]
      cases a
      cases hF : putL ops.toList V a0
      simp only [hF] at et ed
      rw [et, ed]
    rw [e]
    exact hQ w hS
  intro fuel
  induction fuel with
  | zero =>
    intro listed a w h hS hf
    have hr : Region.ready .any ops listed = [] := by
      cases hr : Region.ready .any ops listed with
      | nil => rfl
      | cons i l =>
        obtain ⟨h1, h2, _⟩ := mem_rdy (ops := ops) (i := i) (listed := listed) (by rw [hr]; simp)
        have : i ∈ (List.range ops.size).filter fun i => !listed.getD i true := List.mem_filter.2 ⟨by simpa using h1, by rw [h2]; rfl⟩
        unfold unl at hf
        rw [List.eq_nil_of_length_eq_zero (by omega : ((List.range ops.size).filter fun i => !listed.getD i true).length = 0)] at this
        cases this
    exact ⟨hr, hend listed a w h hS hr⟩
  | succ fuel ih =>
    intro listed a w h hS hf
    refine ⟨hend listed a w h hS, fun i hi => ?_⟩
    obtain ⟨hlt, hun, o, ho, hall⟩ := mem_rdy hi
    have hol : ops.toList[i]? = some o := by simpa using ho
    obtain ⟨hback, hsel, hlook⟩ := hdep i o ho
    obtain ⟨v, hv, hstep⟩ := hV i o hol
    have hr : ∀ e ∈ o.after, Region.binds .any e = true → listed.getD e.on true = true := by
      intro e he hb
      have h1 := hall e he hb
      have hls : e.on < listed.size := by rw [h.size]; have := hback e he hb; omega
      simp only [Array.getD_eq_getD_getElem?, Array.getElem?_eq_getElem hls, Option.getD_some] at h1 ⊢
      exact h1
    have hsame : ∀ t ∈ o.looksAt ops, a.tmps[t]? = (putL (ops.toList.take i) (V.take i) a0).tmps[t]? := by
      intro t ht
      by_cases hd : t ∈ dsts ops.toList
      · obtain ⟨p, hp, hpd⟩ := List.mem_filterMap.1 hd
        obtain ⟨j, hj⟩ := List.mem_iff_getElem?.1 hp
        have hj' : ops[j]? = some p := by simpa using hj
        rw [h.vals j p t hj' hpd]
        rcases hlook j p t hj' hpd ht with ⟨hji, e, he, hb, heq⟩ | ⟨hij, e, he, hb, heq⟩
        · rw [if_pos (by rw [← heq]; exact hr e he hb)]
          have hnot : t ∉ dsts (ops.toList.drop i) := fun hm => apart_dsts hnd i (mem_dsts (j := j) (by rw [List.getElem?_take, if_pos hji]; exact hj) hpd) hm
          have e2 : putL ops.toList V a0 = putL (ops.toList.drop i) (V.drop i) (putL (ops.toList.take i) (V.take i) a0) := by
            rw [← putL_append _ _ _ _ _ (by simp [hl]), List.take_append_drop, List.take_append_drop]
          rw [e2, putL_get _ _ _ _ hnot]
        · have hju : ¬ listed.getD j true = true := fun hc => by
            have := h.shut j p hj' hc e he hb
            rw [heq, hun] at this
            cases this
          rw [if_neg hju]
          have hnot : t ∉ dsts (ops.toList.take i) := fun hm => apart_dsts hnd i hm (mem_dsts (j := j - i) (by rw [List.getElem?_drop, show i + (j - i) = j from by omega]; exact hj) hpd)
          rw [putL_get _ _ _ _ hnot]
      · have hnot : t ∉ dsts (ops.toList.take i) := fun hm => hd (by
          obtain ⟨p, hp, hpd⟩ := List.mem_filterMap.1 hm
          exact List.mem_filterMap.2 ⟨p, List.mem_of_mem_take hp, hpd⟩)
        rw [h.rest t hd, putL_get _ _ _ _ hnot]
    have hgo : ∀ w', S w' → wpAny P .any ops Q fuel (listed.setIfInBounds i true) (a.put o.dst v) w' := by
      intro w' hS'
      refine ih _ _ _ (h.put hl hnd hdn ho hv hr) hS' ?_
      have : unl ops.size (listed.setIfInBounds i true) < unl ops.size listed := by
        unfold unl
        refine filter_lt _ i (by simpa using hlt) (fun k hk => ?_) (by simp [hun]) (by rw [getD_set, if_pos rfl]; rfl)
        rw [getD_set] at hk
        by_cases hik : i = k
        · rw [if_pos hik] at hk; cases hk
        · rw [if_neg hik] at hk; exact hk
      omega
    unfold wpOp
    simp only [ho]
    rw [wanted_same hsame]
    rcases hstep with ⟨hw, rfl⟩ | ⟨hw, hrun⟩
    · rw [hw]
      simp only [Bool.false_eq_true, if_false]
      exact hgo w hS
    · rw [hw]
      simp only [if_true]
      left
      unfold Oper.wp
      rw [exec_same hsel hsame]
      have h1 := hrun w hS
      generalize (execOp (putL (ops.toList.take i) (V.take i) a0).eval o).run P w = r at h1
      cases r with
      | ok n w' =>
        cases n <;> simp only [RunOk] at h1
        case value u => obtain ⟨rfl, hS'⟩ := h1; exact hgo w' hS'
        case skip => obtain ⟨rfl, hS'⟩ := h1; exact hgo w' hS'
        case enter f args =>
          refine Calls.mono h1 fun e w'' he => ?_
          obtain ⟨rfl, hS'⟩ := he
          exact hgo w'' hS'
      | halt x w' => exact h1.elim

/-- A region that draws its order, by one walk in the order of its text. -/
theorem wp_region_text {Q : Exit → Act → World → Prop} {id : Nat} {a : Act} {w : World} (S : World → Prop) (hm : P.follows .mixedOrders = true) (hok : textOk ops a.tmps.size = true) (hS : S w.drew)
    (h : TextWalk P ops S (fun a' w' => Q .normal a' w') ops.toList a) : (Code.region id ops true).wp P Q a w := by
  obtain ⟨V, hl, hV, hQ⟩ := text_spec ops.toList a h
  refine wp_region_any hm (any_of_text (S := S) hok hl hV hQ ops.size _ a _ ?_ hS ?_)
  · refine ⟨by simp, rfl, rfl, fun i o hi hli e he hb => ?_, fun j p d hj hd => ?_, fun t _ => rfl⟩
    · have hlt : i < ops.size := (Array.getElem?_eq_some_iff.1 hi).1
      simp [Array.getD_eq_getD_getElem?, hlt] at hli
    · have hlt : j < ops.size := (Array.getElem?_eq_some_iff.1 hj).1
      simp [Array.getD_eq_getD_getElem?, hlt]
  · unfold unl
    exact Nat.le_trans (List.length_filter_le _ _) (by simp)
theorem wp_region_txt {Q : Exit → Act → World → Prop} {id : Nat} {l : List Oper} {a : Act} {w : World} (S : World → Prop) (hm : P.follows .mixedOrders = true) (hok : textOk l.toArray a.tmps.size = true) (hS : S w.drew)
    (h : TextWalk P l.toArray S (fun a' w' => Q .normal a' w') l a) : (Code.region id l.toArray true).wp P Q a w :=
  wp_region_text S hm hok hS (by simpa using h)
/-! ### A region whose last operations are bound to come last, in the order of the text: the first m by the walk above, the others one by one -/
/-- As 'textOk', of the first m operations; each of the others waits for all that stand ahead of it. -/
def tailOk (ops : Array Oper) (m n : Nat) : Bool :=
  decide (m ≤ ops.size) && decide (dsts (ops.toList.take m)).Nodup && (dsts (ops.toList.take m)).all (· < n) &&
  ((List.range m).all fun i => match ops[i]? with
    | none => true
    | some o => (o.after.all fun e => !Region.binds .any e || decide (e.on < i)) && (match o.op with | .select _ _ => false | _ => true) &&
      ((o.guard.map fun g => decide (g.1 < m)).getD true) &&
      (List.range m).all fun j => match (ops[j]?).bind (·.dst) with
        | none => true
        | some d => !(o.looksAt ops).contains d || (decide (j < i) && o.after.toList.any fun e => Region.binds .any e && e.on == j) ||
            (decide (i < j) && ((ops[j]?).map fun p => p.after.toList.any fun e => Region.binds .any e && e.on == i).getD false)) &&
  (List.range ops.size).all fun i => decide (i < m) || (List.range i).all fun j => ((ops[i]?).map fun p => p.after.toList.any fun e => Region.binds .any e && e.on == j).getD false

theorem tailOk_spec {m n : Nat} (h : tailOk ops m n = true) : m ≤ ops.size ∧ (dsts (ops.toList.take m)).Nodup ∧ (∀ d ∈ dsts (ops.toList.take m), d < n) ∧
    (∀ i o, i < m → ops[i]? = some o → (∀ e ∈ o.after, Region.binds .any e = true → e.on < i) ∧ (∀ cs c, o.op ≠ .select cs c) ∧
      ∀ j p d, j < m → ops[j]? = some p → p.dst = some d → d ∈ o.looksAt ops → (j < i ∧ ∃ e ∈ o.after, Region.binds .any e = true ∧ e.on = j) ∨ (i < j ∧ ∃ e ∈ p.after, Region.binds .any e = true ∧ e.on = i)) ∧
    ∀ i o, m ≤ i → ops[i]? = some o → ∀ j, j < i → ∃ e ∈ o.after, Region.binds .any e = true ∧ e.on = j := by
  unfold tailOk at h
  simp only [Bool.and_eq_true, decide_eq_true_eq, List.all_eq_true, List.mem_range] at h
  obtain ⟨⟨⟨⟨h0, h1⟩, h2⟩, h3⟩, hT⟩ := h
  refine ⟨h0, h1, h2, fun i o him hi => ?_, fun i o him hi j hj => ?_⟩
  · have h4 := h3 i him
    simp only [hi] at h4
    simp only [Bool.and_eq_true, Array.all_eq_true_iff_forall_mem, List.all_eq_true, List.mem_range] at h4
    obtain ⟨⟨⟨h5, h6⟩, _⟩, h7⟩ := h4
    refine ⟨fun e he hb => ?_, fun cs c hc => ?_, fun j p d hjm hj hd hm => ?_⟩
    · have := h5 e he
      simpa [hb] using this
    · rw [hc] at h6
      simp at h6
    · have := h7 j hjm
      simp only [hj, Option.bind_some, hd] at this
      simp only [Bool.or_eq_true, Bool.and_eq_true, Bool.not_eq_true', decide_eq_true_eq, Option.map_some, Option.getD_some, List.any_eq_true, beq_iff_eq, Array.mem_toList_iff] at this
      rcases this with (h8 | h8) | h8
      · rw [List.contains_eq_mem] at h8
        simp [hm] at h8
      · exact .inl h8
      · exact .inr h8
  · have hlt : i < ops.size := (Array.getElem?_eq_some_iff.1 hi).1
    have h4 := hT i hlt
    simp only [Bool.or_eq_true, decide_eq_true_eq, List.all_eq_true, List.mem_range] at h4
    rcases h4 with h4 | h4
    · omega
    · have := h4 j hj
      simp only [hi, Option.map_some, Option.getD_some, List.any_eq_true, Bool.and_eq_true, beq_iff_eq, Array.mem_toList_iff] at this
      exact this

/-- The last operations, one by one. -/
theorem any_of_list {Q : Exit → Act → World → Prop} {m : Nat} (hT : ∀ i o, m ≤ i → ops[i]? = some o → ∀ j, j < i → ∃ e ∈ o.after, Region.binds .any e = true ∧ e.on = j)
    (hB : ∀ i o, m ≤ i → ops[i]? = some o → ∀ e ∈ o.after, Region.binds .any e = true → e.on < i) :
    ∀ (fuel k : Nat) (listed : Array Bool) (a : Act) (w : World), m ≤ k → k ≤ ops.size → listed.size = ops.size → (∀ i, i < ops.size → listed.getD i true = decide (i < k)) → ops.size - k ≤ fuel →
      wpList P ops Q (ops.toList.drop k) a w → wpAny P .any ops Q fuel listed a w := by
  have hrd : ∀ (k : Nat) (listed : Array Bool), m ≤ k → listed.size = ops.size → (∀ i, i < ops.size → listed.getD i true = decide (i < k)) → ∀ i ∈ Region.ready .any ops listed, i = k := by
    intro k listed hmk hsz hl i hi
    obtain ⟨hlt, hun, o, ho, hall⟩ := mem_rdy hi
    rw [hl i hlt] at hun
    have hki : k ≤ i := by simpa using hun
    rcases Nat.lt_or_ge k i with h | h
    · obtain ⟨e, he, hb, heq⟩ := hT i o (by omega) ho k h
      have h1 := hall e he hb
      have h2 := hl k (by omega)
      rw [heq] at h1
      have hks : k < listed.size := by omega
      simp only [Array.getD_eq_getD_getElem?, Array.getElem?_eq_getElem hks, Option.getD_some] at h1 h2
      rw [h1] at h2
      simp at h2
    · omega
  intro fuel
  induction fuel with
  | zero =>
    intro k listed a w hmk hk hsz hl hf h
    have hke : k = ops.size := by omega
    have hr : Region.ready .any ops listed = [] := by
      cases hr : Region.ready .any ops listed with
      | nil => rfl
      | cons i l =>
        have hi : i ∈ Region.ready .any ops listed := by rw [hr]; simp
        have := hrd k listed hmk hsz hl i hi
        have := (mem_rdy hi).1
        omega
    rw [hke, List.drop_of_length_le (by simp)] at h
    exact ⟨hr, h⟩
  | succ fuel ih =>
    intro k listed a w hmk hk hsz hl hf h
    rcases Nat.lt_or_ge k ops.size with hlt | hge
    · have hdrop : ops.toList.drop k = ops[k] :: ops.toList.drop (k + 1) := by
        rw [List.drop_eq_getElem_cons (by simpa using hlt)]
        simp
      have hkr : k ∈ Region.ready .any ops listed := by
        unfold Region.ready
        rw [List.mem_filter]
        refine ⟨by simpa using hlt, ?_⟩
        have hlk := hl k hlt
        simp only [Nat.lt_irrefl, decide_false] at hlk
        simp only [hlk, Bool.not_false, Bool.true_and, Array.getElem?_eq_getElem hlt, Option.map_some, Option.getD_some, Array.all_eq_true_iff_forall_mem]
        intro e he
        cases hb : Region.binds .any e with
        | false => simp
        | true =>
          have hon := hB k ops[k] hmk (by simp [hlt]) e he hb
          have h1 := hl e.on (by omega)
          have hls : e.on < listed.size := by omega
          simp only [Array.getD_eq_getD_getElem?, Array.getElem?_eq_getElem hls, Option.getD_some] at h1 ⊢
          rw [h1]
          simp [hon]
      refine ⟨(fun hr => by rw [hr] at hkr; cases hkr), fun i hi => ?_⟩
      obtain rfl := hrd k listed hmk hsz hl i hi
      rw [hdrop] at h
      unfold wpOp
      simp only [Array.getElem?_eq_getElem hlt]
      unfold wpList at h
      have hgo : ∀ a' w', wpList P ops Q (ops.toList.drop (i + 1)) a' w' → wpAny P .any ops Q fuel (listed.setIfInBounds i true) a' w' := by
        intro a' w' h'
        refine ih (i + 1) _ a' w' (by omega) (by omega) (by simp [hsz]) (fun q hq => ?_) (by omega) h'
        rw [getD_set]
        by_cases hqi : i = q
        · subst hqi; simp
        · rw [if_neg hqi, hl q hq]
          congr 1
          exact propext ⟨fun h => by omega, fun h => by omega⟩
      split at h
      · rename_i hw
        rw [if_pos hw]
        exact h.imp (Oper.wp_mono hgo) id
      · rename_i hw
        rw [if_neg hw]
        exact hgo _ _ h
    · have hke : k = ops.size := by omega
      refine ⟨fun _ => ?_, fun i hi => ?_⟩
      · rw [hke, List.drop_of_length_le (by simp)] at h
        exact h
      · have := hrd k listed hmk hsz hl i hi
        have := (mem_rdy hi).1
        omega

/-- The state in the middle of whatever order, none of the last operations having come up. -/
structure MidT (ops : Array Oper) (m : Nat) (a0 F : Act) (listed : Array Bool) (a : Act) : Prop where
  size : listed.size = ops.size
  tsize : a.tmps.size = a0.tmps.size
  defs : a.defers = a0.defers
  shut : ∀ i o, i < m → ops[i]? = some o → listed.getD i true = true → ∀ e ∈ o.after, Region.binds .any e = true → listed.getD e.on true = true
  vals : ∀ j p d, j < m → ops[j]? = some p → p.dst = some d → a.tmps[d]? = if listed.getD j true = true then F.tmps[d]? else a0.tmps[d]?
  rest : ∀ t, t ∉ dsts (ops.toList.take m) → a.tmps[t]? = a0.tmps[t]?
  late : ∀ i, m ≤ i → i < ops.size → listed.getD i true = false

theorem take_get {l : List Oper} {m i : Nat} {o : Oper} (him : i < m) (hi : l[i]? = some o) : (l.take m)[i]? = some o := by rw [List.getElem?_take, if_pos him]; exact hi

theorem MidT.put {m : Nat} {a0 a : Act} {V : List Value} {listed : Array Bool} {i : Nat} {o : Oper} {v : Value} (hl : V.length = (ops.toList.take m).length) (hnd : (dsts (ops.toList.take m)).Nodup) (hdn : ∀ d ∈ dsts (ops.toList.take m), d < a0.tmps.size)
    (h : MidT ops m a0 (putL (ops.toList.take m) V a0) listed a) (him : i < m) (hi : ops[i]? = some o) (hv : V[i]? = some v) (hr : ∀ e ∈ o.after, Region.binds .any e = true → listed.getD e.on true = true) :
    MidT ops m a0 (putL (ops.toList.take m) V a0) (listed.setIfInBounds i true) (a.put o.dst v) := by
  have hil : (ops.toList.take m)[i]? = some o := take_get him (by simpa using hi)
  generalize hL : ops.toList.take m = L at *
  refine ⟨by simp [h.size], by rw [put_size, h.tsize], by rw [put_defs, h.defs], fun k p hkm hk hkl e he hb => ?_, fun j p d hjm hj hd => ?_, fun t ht => ?_, fun k hmk hk => ?_⟩
  · rw [getD_set] at hkl ⊢
    by_cases hie : i = e.on
    · rw [if_pos hie]
    · rw [if_neg hie]
      by_cases hik : i = k
      · subst hik
        rw [hi] at hk
        injection hk with hk
        subst hk
        exact hr e he hb
      · rw [if_neg hik] at hkl
        exact h.shut k p hkm hk hkl e he hb
  · have hjl : L[j]? = some p := by rw [← hL]; exact take_get hjm (by simpa using hj)
    rw [getD_set]
    by_cases hij : i = j
    · subst hij
      rw [if_pos rfl, if_pos rfl]
      rw [hi] at hj
      injection hj with hj
      subst hj
      have hlt : d < a0.tmps.size := hdn d (mem_dsts hil hd)
      have e1 : (a.put o.dst v).tmps[d]? = some v := by
        rw [hd]
        simp only [Act.put]
        rw [Array.getElem?_setIfInBounds_self, if_pos (by rw [h.tsize]; exact hlt)]
      rw [e1]
      have hnot : d ∉ dsts (L.drop (i + 1)) := fun hm => apart_dsts hnd (i + 1) (mem_dsts (j := i) (by rw [List.getElem?_take, if_pos (by omega)]; exact hil) hd) hm
      have e2 : putL L V a0 = putL (L.drop (i + 1)) (V.drop (i + 1)) (putL (L.take (i + 1)) (V.take (i + 1)) a0) := by
        rw [← putL_append _ _ _ _ _ (by simp [hl]), List.take_append_drop, List.take_append_drop]
      rw [e2, putL_get _ _ _ _ hnot]
      have e3 : L.take (i + 1) = L.take i ++ [o] := by rw [List.take_add_one, hil]; rfl
      have e4 : V.take (i + 1) = V.take i ++ [v] := by rw [List.take_add_one, hv]; rfl
      rw [e3, e4, putL_append _ _ _ _ _ (by simp [hl])]
      simp only [putL, hd, Act.put]
      rw [Array.getElem?_setIfInBounds_self, if_pos (by rw [putL_size]; exact hlt)]
    · rw [if_neg hij, put_get _ _ _ _ (fun e => hij (dsts_inj hnd hil hjl e hd))]
      exact h.vals j p d hjm hj hd
  · have ht' : t ∉ dsts L := by rw [← hL]; exact ht
    rw [put_get _ _ _ _ (fun e => ht' (mem_dsts hil e))]
    exact h.rest t ht
  · rw [getD_set, if_neg (by omega)]
    exact h.late k hmk hk

theorem any_of_tail {Q : Exit → Act → World → Prop} {m : Nat} {a0 : Act} {V : List Value} (hok : tailOk ops m a0.tmps.size = true)
    (hB : ∀ i o, m ≤ i → ops[i]? = some o → ∀ e ∈ o.after, Region.binds .any e = true → e.on < i) (hl : V.length = (ops.toList.take m).length)
    (hV : ∀ i o, (ops.toList.take m)[i]? = some o → ∃ v, V[i]? = some v ∧ StepOk P ops S o v (putL ((ops.toList.take m).take i) (V.take i) a0))
    (hQ : ∀ w, S w → wpList P ops Q (ops.toList.drop m) (putL (ops.toList.take m) V a0) w) :
    ∀ (fuel : Nat) (listed : Array Bool) (a : Act) (w : World), MidT ops m a0 (putL (ops.toList.take m) V a0) listed a → S w → unl m listed + (ops.size - m) ≤ fuel → wpAny P .any ops Q fuel listed a w := by
  obtain ⟨hms, hnd, hdn, hdep, hT⟩ := tailOk_spec hok
  have hall : ∀ (listed : Array Bool) (a : Act), MidT ops m a0 (putL (ops.toList.take m) V a0) listed a → unl m listed = 0 → ∀ i, i < m → listed.getD i true = true := by
    intro listed a h hu i hi
    cases hc : listed.getD i true with
    | true => rfl
    | false =>
      have : i ∈ (List.range m).filter fun i => !listed.getD i true := List.mem_filter.2 ⟨by simpa using hi, by rw [hc]; rfl⟩
      unfold unl at hu
      rw [List.eq_nil_of_length_eq_zero hu] at this
      cases this
  have hend : ∀ (fuel : Nat) (listed : Array Bool) (a : Act) (w : World), MidT ops m a0 (putL (ops.toList.take m) V a0) listed a → S w → unl m listed = 0 → ops.size - m ≤ fuel → wpAny P .any ops Q fuel listed a w := by
    intro fuel listed a w h hS hu hf
    have hal := hall listed a h hu
    have e : a = putL (ops.toList.take m) V a0 := by
      have et : a.tmps = (putL (ops.toList.take m) V a0).tmps := by
        apply Array.ext_getElem?
        intro t
        by_cases ht : t ∈ dsts (ops.toList.take m)
        · obtain ⟨p, hp, hpd⟩ := List.mem_filterMap.1 ht
          obtain ⟨j, hj⟩ := List.mem_iff_getElem?.1 hp
          have hjm : j < m := by
            rw [List.getElem?_take] at hj
            by_cases hjm : j < m
            · exact hjm
            · rw [if_neg hjm] at hj; cases hj
          have hj' : ops[j]? = some p := by
            rw [List.getElem?_take, if_pos hjm] at hj
            simpa using hj
          rw [h.vals j p t hjm hj' hpd, if_pos (hal j hjm)]
        · rw [h.rest t ht, putL_get _ _ _ _ ht]
      have ed : a.defers = (putL (ops.toList.take m) V a0).defers := by rw [h.defs, putL_defs]
      cases a
      cases hF : putL (ops.toList.take m) V a0
      simp only [hF] at et ed
      rw [et, ed]
    rw [e]
    refine any_of_list hT hB fuel m listed _ w (Nat.le_refl _) hms h.size (fun i hi => ?_) hf (hQ w hS)
    by_cases him : i < m
    · rw [hal i him]; simp [him]
    · rw [h.late i (by omega) hi]; simp [him]
  intro fuel
  induction fuel with
  | zero => intro listed a w h hS hf; exact hend 0 listed a w h hS (by omega) (by omega)
  | succ fuel ih =>
    intro listed a w h hS hf
    by_cases hu0 : unl m listed = 0
    · exact hend _ listed a w h hS hu0 (by omega)
    · have hnone : Region.ready .any ops listed ≠ [] := by
        intro hr
        apply hu0
        have hal : ∀ n i, i < n → i < m → listed.getD i true = true := by
          intro n
          induction n with
          | zero => intro i hi; omega
          | succ n ihn =>
            intro i hi hlt
            cases hc : listed.getD i true with
            | true => rfl
            | false =>
              have his : i < ops.size := by omega
              have hm : i ∈ Region.ready .any ops listed := by
                unfold Region.ready
                rw [List.mem_filter]
                refine ⟨by simpa using his, ?_⟩
                simp only [hc, Bool.not_false, Bool.true_and, Array.getElem?_eq_getElem his, Option.map_some, Option.getD_some, Array.all_eq_true_iff_forall_mem]
                intro e he
                cases hb : Region.binds .any e with
                | false => simp
                | true =>
                  have hon := (hdep i ops[i] hlt (by simp [his])).1 e he hb
                  have := ihn e.on (by omega) (by omega)
                  have hls : e.on < listed.size := by rw [h.size]; omega
                  simp only [Array.getD_eq_getD_getElem?, Array.getElem?_eq_getElem hls, Option.getD_some] at this ⊢
                  simp [this]
              rw [hr] at hm
              cases hm
        unfold unl
        rw [List.length_eq_zero_iff, List.filter_eq_nil_iff]
        intro i hi
        rw [hal (i + 1) i (by omega) (by simpa using hi)]
        simp
      refine ⟨fun hr => absurd hr hnone, fun i hi => ?_⟩
      obtain ⟨hlt, hun, o, ho, hallE⟩ := mem_rdy hi
      have him : i < m := by
        rcases Nat.lt_or_ge i m with h1 | h1
        · exact h1
        · exfalso
          apply hu0
          unfold unl
          rw [List.length_eq_zero_iff, List.filter_eq_nil_iff]
          intro j hj
          have hjm : j < m := by simpa using hj
          obtain ⟨e, he, hb, heq⟩ := hT i o h1 ho j (by omega)
          have h2 := hallE e he hb
          rw [heq] at h2
          have hls : j < listed.size := by rw [h.size]; omega
          simp only [Array.getD_eq_getD_getElem?, Array.getElem?_eq_getElem hls, Option.getD_some] at h2 ⊢
          simp [h2]
      have hol : (ops.toList.take m)[i]? = some o := take_get him (by simpa using ho)
      obtain ⟨hback, hsel, hlook⟩ := hdep i o him ho
      obtain ⟨v, hv, hstep⟩ := hV i o hol
      have hr : ∀ e ∈ o.after, Region.binds .any e = true → listed.getD e.on true = true := by
        intro e he hb
        have h1 := hallE e he hb
        have hls : e.on < listed.size := by rw [h.size]; have := hback e he hb; omega
        simp only [Array.getD_eq_getD_getElem?, Array.getElem?_eq_getElem hls, Option.getD_some] at h1 ⊢
        exact h1
      have hsame : ∀ t ∈ o.looksAt ops, a.tmps[t]? = (putL ((ops.toList.take m).take i) (V.take i) a0).tmps[t]? := by
        intro t ht
        by_cases hd : t ∈ dsts (ops.toList.take m)
        · obtain ⟨p, hp, hpd⟩ := List.mem_filterMap.1 hd
          obtain ⟨j, hj⟩ := List.mem_iff_getElem?.1 hp
          have hjm : j < m := by
            rw [List.getElem?_take] at hj
            by_cases hjm : j < m
            · exact hjm
            · rw [if_neg hjm] at hj; cases hj
          have hj' : ops[j]? = some p := by
            have := hj
            rw [List.getElem?_take, if_pos hjm] at this
            simpa using this
          rw [h.vals j p t hjm hj' hpd]
          rcases hlook j p t hjm hj' hpd ht with ⟨hji, e, he, hb, heq⟩ | ⟨hij, e, he, hb, heq⟩
          · rw [if_pos (by rw [← heq]; exact hr e he hb)]
            have hnot : t ∉ dsts ((ops.toList.take m).drop i) := fun hm => apart_dsts hnd i (mem_dsts (j := j) (by rw [List.getElem?_take, if_pos hji]; exact hj) hpd) hm
            have e2 : putL (ops.toList.take m) V a0 = putL ((ops.toList.take m).drop i) (V.drop i) (putL ((ops.toList.take m).take i) (V.take i) a0) := by
              rw [← putL_append _ _ _ _ _ (by simp [hl]), List.take_append_drop, List.take_append_drop]
            rw [e2, putL_get _ _ _ _ hnot]
          · have hju : ¬ listed.getD j true = true := fun hc => by
              have := h.shut j p hjm hj' hc e he hb
              rw [heq, hun] at this
              cases this
            rw [if_neg hju]
            have hnot : t ∉ dsts ((ops.toList.take m).take i) := fun hm => apart_dsts hnd i hm (mem_dsts (j := j - i) (by rw [List.getElem?_drop, show i + (j - i) = j from by omega]; exact hj) hpd)
            rw [putL_get _ _ _ _ hnot]
        · have hnot : t ∉ dsts ((ops.toList.take m).take i) := fun hm => hd (by
            obtain ⟨p, hp, hpd⟩ := List.mem_filterMap.1 hm
            exact List.mem_filterMap.2 ⟨p, List.mem_of_mem_take hp, hpd⟩)
          rw [h.rest t hd, putL_get _ _ _ _ hnot]
      have hgo : ∀ w', S w' → wpAny P .any ops Q fuel (listed.setIfInBounds i true) (a.put o.dst v) w' := by
        intro w' hS'
        refine ih _ _ _ (h.put hl hnd hdn him ho hv hr) hS' ?_
        have : unl m (listed.setIfInBounds i true) < unl m listed := by
          unfold unl
          refine filter_lt _ i (by simpa using him) (fun k hk => ?_) (by simp [hun]) (by rw [getD_set, if_pos rfl]; rfl)
          rw [getD_set] at hk
          by_cases hik : i = k
          · rw [if_pos hik] at hk; cases hk
          · rw [if_neg hik] at hk; exact hk
        omega
      unfold wpOp
      simp only [ho]
      rw [wanted_same hsame]
      rcases hstep with ⟨hw, rfl⟩ | ⟨hw, hrun⟩
      · rw [hw]
        simp only [Bool.false_eq_true, if_false]
        exact hgo w hS
      · rw [hw]
        simp only [if_true]
        left
        unfold Oper.wp
        rw [exec_same hsel hsame]
        have h1 := hrun w hS
        generalize (execOp (putL ((ops.toList.take m).take i) (V.take i) a0).eval o).run P w = r at h1
        cases r with
        | ok n w' =>
          cases n <;> simp only [RunOk] at h1
          case value u => obtain ⟨rfl, hS'⟩ := h1; exact hgo w' hS'
          case skip => obtain ⟨rfl, hS'⟩ := h1; exact hgo w' hS'
          case enter f args =>
            refine Calls.mono h1 fun e w'' he => ?_
            obtain ⟨rfl, hS'⟩ := he
            exact hgo w'' hS'
        | halt x w' => exact h1.elim

/-- The last operations look back alone. -/
def backOk (ops : Array Oper) (m : Nat) : Bool := (List.range ops.size).all fun i => decide (i < m) || ((ops[i]?).map fun p => p.after.all fun e => !Region.binds .any e || decide (e.on < i)).getD true

/-- A region that draws its order, the first m operations by one walk in the order of the text, the others (which are bound to come last, one behind the other) by the walk's own steps. -/
theorem wp_region_tail {Q : Exit → Act → World → Prop} {id : Nat} {l r : List Oper} {a : Act} {w : World} (S : World → Prop) (hm : P.follows .mixedOrders = true)
    (hok : tailOk (l ++ r).toArray l.length a.tmps.size = true) (hb : backOk (l ++ r).toArray l.length = true) (hS : S w.drew)
    (h : TextWalk P (l ++ r).toArray S (fun a' w' => wpList P (l ++ r).toArray Q r a' w') l a) : (Code.region id (l ++ r).toArray true).wp P Q a w := by
  have htk : (l ++ r).toArray.toList.take l.length = l := by simp
  have hdr : (l ++ r).toArray.toList.drop l.length = r := by simp
  obtain ⟨V, hl, hV, hQ⟩ := text_spec l a h
  have hB : ∀ i o, l.length ≤ i → (l ++ r).toArray[i]? = some o → ∀ e ∈ o.after, Region.binds .any e = true → e.on < i := by
    intro i o hi ho e he hbe
    have hlt : i < (l ++ r).toArray.size := (Array.getElem?_eq_some_iff.1 ho).1
    unfold backOk at hb
    simp only [List.all_eq_true, List.mem_range, Bool.or_eq_true, decide_eq_true_eq] at hb
    rcases hb i hlt with h1 | h1
    · omega
    · rw [ho] at h1
      simp only [Option.map_some, Option.getD_some, Array.all_eq_true_iff_forall_mem] at h1
      have := h1 e he
      simpa [hbe] using this
  refine wp_region_any hm (any_of_tail (S := S) (m := l.length) (V := V) hok hB (by rw [htk]; exact hl) (by rw [htk]; exact hV) (by rw [htk, hdr]; exact hQ) _ _ a _ ?_ hS ?_)
  · refine ⟨by simp, rfl, rfl, fun i o him hi hli e he hbe => ?_, fun j p d hjm hj hd => ?_, fun t _ => rfl, fun i _ hi => ?_⟩
    · have hlt : i < (l ++ r).toArray.size := (Array.getElem?_eq_some_iff.1 hi).1
      rw [Array.getD_eq_getD_getElem?, Array.getElem?_replicate, if_pos hlt] at hli
      cases hli
    · have hlt : j < (l ++ r).toArray.size := (Array.getElem?_eq_some_iff.1 hj).1
      rw [Array.getD_eq_getD_getElem?, Array.getElem?_replicate, if_pos hlt]
      rfl
    · rw [Array.getD_eq_getD_getElem?, Array.getElem?_replicate, if_pos hi]
      rfl
  · unfold unl
    have := List.length_filter_le (fun i => !(Array.replicate (l ++ r).toArray.size false).getD i true) (List.range l.length)
    simp only [List.length_range, List.size_toArray, List.length_append] at *
    omega

theorem wp_region_tailN {Q : Exit → Act → World → Prop} {id : Nat} {L : List Oper} {a : Act} {w : World} (n : Nat) (S : World → Prop) (hm : P.follows .mixedOrders = true)
    (hok : tailOk L.toArray n a.tmps.size = true) (hb : backOk L.toArray n = true) (hS : S w.drew)
    (h : TextWalk P L.toArray S (fun a' w' => wpList P L.toArray Q (L.drop n) a' w') (L.take n) a) : (Code.region id L.toArray true).wp P Q a w := by
  have hn : n ≤ L.length := by simpa using (tailOk_spec hok).1
  have hlen : (L.take n).length = n := by simp; omega
  have hk := wp_region_tail (P := P) (Q := Q) (id := id) (l := L.take n) (r := L.drop n) (a := a) (w := w) S hm
  rw [List.take_append_drop, hlen] at hk
  exact hk hok hb hS h

/-- The same walk serves a region whose order is the text's. -/
theorem wpList_of_text {Q : Exit → Act → World → Prop} : ∀ (l : List Oper) (a : Act) (w : World), TextWalk P ops S (fun a' w' => Q .normal a' w') l a → S w → wpList P ops Q l a w
  | [], _, w, h, hS => h w hS
  | o :: l, a, w, ⟨v, h1, h2⟩, hS => by
    unfold wpList
    rcases h1 with ⟨hw, rfl⟩ | ⟨hw, hrun⟩
    · rw [if_neg (by rw [hw]; decide)]
      exact wpList_of_text l _ w h2 hS
    · rw [if_pos hw]
      left
      unfold Oper.wp
      have h3 := hrun w hS
      generalize (execOp a.eval o).run P w = r at h3
      cases r with
      | ok n w' =>
        cases n <;> simp only [RunOk] at h3
        case value u => obtain ⟨rfl, hS'⟩ := h3; exact wpList_of_text l _ w' h2 hS'
        case skip => obtain ⟨rfl, hS'⟩ := h3; exact wpList_of_text l _ w' h2 hS'
        case enter f args =>
          refine Calls.mono h3 fun e w'' he => ?_
          obtain ⟨rfl, hS'⟩ := he
          exact wpList_of_text l _ w'' h2 hS'
      | halt x w' => exact h3.elim
theorem wp_region_seq {Q : Exit → Act → World → Prop} {id : Nat} {l : List Oper} {a : Act} {w : World} (S : World → Prop) (hS : S w) (h : TextWalk P l.toArray S (fun a' w' => Q .normal a' w') l a) : (Code.region id l.toArray false).wp P Q a w :=
  wp_region_lit (wpList_of_text l a w h hS)
end
end Go.Proofs.YtdpfcjhhabcheaaDoor

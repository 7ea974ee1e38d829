/-
  An event that comes in, opened; a law's row over listed tables, lifted out of its walk. No condition. Own work, but for the guide's pattern.
-/
import Derived.Test.YtdpfcjhhabcheaaDoorEvAt
import Derived.Test.YtdpfcjhhabcheaaDoorSl
import Derived.Test.YtdpfcjhhabcheaaDoorLawKit
import Derived.Lib.SmallJoins
import Derived.LaidMore
import Derived.Stop.Joined
import Derived.Stop.LaidErr
import Derived.Deep.Fields
namespace Go.Proofs.YtdpfcjhhabcheaaDoor
open Go.RowKit Go.ChangeShapes Go.WideShapes Go.ChangeAt Go.Joins Go.Deep

section
variable {H : Type} {enc : TypeId × Value → H} {P : Program} {w : World} {base : Nat} {spare : Nat → Bool} {held : Bool}
theorem open_agg5 {r : Reach} {b0 : Nat} {t : TypeId} {f0 f1 f2 f3 f4 : Field} {v : Value} {d : DataW H} {p : List MemPlace} (hs : P.underlying t = some (.struct #[f0, f1, f2, f3, f4])) (hone : oneCellFields P #[f0, f1, f2, f3, f4] = true) (hC : P.cellsOf t = 5)
    (hv : Value.okWide P w r b0 t v) (h : DataW.Trod enc P w base spare held t v d p) :
    ∃ (v0 v1 v2 v3 v4 : Value) (y0 y1 y2 y3 y4 : DataW H × List MemPlace) (n : Nat), v = .agg #[v0, v1, v2, v3, v4] ∧ d = .agg [y0.1, y1.1, y2.1, y3.1, y4.1] ∧ p = y0.2 ++ (y1.2 ++ (y2.2 ++ (y3.2 ++ y4.2))) ∧
      DataW.trod enc P w base spare held n f0.type [v0] = some y0 ∧ DataW.trod enc P w base spare held n f1.type [v1] = some y1 ∧ DataW.trod enc P w base spare held n f2.type [v2] = some y2 ∧ DataW.trod enc P w base spare held n f3.type [v3] = some y3 ∧ DataW.trod enc P w base spare held n f4.type [v4] = some y4 := by
  obtain ⟨cs, rfl, hsz⟩ := okWide_struct hs hv
  obtain ⟨l⟩ := cs
  match l, hsz.trans hC with
  | [c0, c1, c2, c3, c4], _ =>
    obtain ⟨fuel, hf⟩ := h
    obtain ⟨xs, n, _, hx, _, hlen, hg⟩ := DataW.trod_struct hs hf
    obtain ⟨o0, k0⟩ := hone_of hone 0 f0 rfl
    obtain ⟨o1, k1⟩ := hone_of hone 1 f1 rfl
    obtain ⟨o2, k2⟩ := hone_of hone 2 f2 rfl
    obtain ⟨o3, k3⟩ := hone_of hone 3 f3 rfl
    obtain ⟨o4, k4⟩ := hone_of hone 4 f4 rfl
    match xs, hlen with
    | [y0, y1, y2, y3, y4], _ =>
      simp only [Prod.mk.injEq] at hx
      exact ⟨c0, c1, c2, c3, c4, y0, y1, y2, y3, y4, n, rfl, by simpa using hx.1, by simpa using hx.2, by simpa [Value.cells, o0, k0] using hg 0 f0 rfl, by simpa [Value.cells, o1, k1] using hg 1 f1 rfl, by simpa [Value.cells, o2, k2] using hg 2 f2 rfl, by simpa [Value.cells, o3, k3] using hg 3 f3 rfl, by simpa [Value.cells, o4, k4] using hg 4 f4 rfl⟩
end
section
variable {H : Type} {enc : TypeId × Value → H} {P : Program} {W : World}
/-- A slice in a field. -/
theorem open_rowsC {t e : TypeId} (ht : P.underlying t = some (.slice e)) (hk : 0 < P.cellsOf e) {v : Value} {fuel : Nat} {x : DataW H × List MemPlace} (hf : DataW.trod enc P W 0 (fun _ => true) true fuel t [v] = some x) :
    ∃ (A : Option Addr) (n c : Nat) (X : List (List Value)), v = .slice A n c ∧ n ≤ c ∧ c ≤ maxLen ∧ RowsAt W W.heap.size A n (P.cellsOf e) X ∧
      ∀ cs ∈ X, ∃ fuel y, DataW.trod enc P W 0 (fun _ => true) true fuel e cs = some y := by
  rcases Go.Deep.open_slice ht hf with ⟨hcs, hx⟩ | ⟨a, len, cap, m, n, D, Pl, hcs, _, hl, hm, hmm, hx, hi⟩
  · simp at hcs
    subst hcs
    exact ⟨none, 0, 0, [], rfl, Nat.le_refl _, Nat.zero_le _, ⟨rfl, fun h => absurd h (by omega)⟩, (fun cs hcs => by cases hcs)⟩
  · simp at hcs
    subst hcs
    simp only [if_true] at hmm
    have hch : ∃ X : List (List Value), X.length = len ∧ ∀ i cs, X[i]? = some cs → W.cells? 0 (a.add (i * P.cellsOf e)) (P.cellsOf e) = some cs ∧ DataW.trod enc P W 0 (fun _ => true) true n e cs = some (D i, Pl i) := by
      have : ∀ q, q ≤ len → ∃ X : List (List Value), X.length = q ∧ ∀ i cs, X[i]? = some cs → W.cells? 0 (a.add (i * P.cellsOf e)) (P.cellsOf e) = some cs ∧ DataW.trod enc P W 0 (fun _ => true) true n e cs = some (D i, Pl i) := by
        intro q
        induction q with
        | zero => exact fun _ => ⟨[], rfl, fun i cs h => by simp at h⟩
        | succ q ih =>
          intro hq
          obtain ⟨X, h1, h2⟩ := ih (by omega)
          obtain ⟨cs, h3, h4⟩ := hi q (by omega)
          refine ⟨X ++ [cs], by simp [h1], fun i c hic => ?_⟩
          rw [List.getElem?_append] at hic
          by_cases hil : i < X.length
          · rw [if_pos hil] at hic; exact h2 i c hic
          · rw [if_neg hil] at hic
            have hiq : i = q := by
              rcases Nat.lt_or_ge (i - X.length) 1 with h | h
              · omega
              · rw [List.getElem?_eq_none (by simpa using h)] at hic; cases hic
            subst hiq
            rw [h1, Nat.sub_self] at hic
            injection hic with hic
            subst hic
            exact ⟨h3, h4⟩
      exact this len (Nat.le_refl _)
    obtain ⟨X, h1, h2⟩ := hch
    refine ⟨some a, len, cap, X, rfl, hl, hm, ⟨h1, fun hn => ⟨a, rfl, ?_, fun i cs hic => ?_⟩⟩, fun cs hcs => ?_⟩
    · obtain ⟨cs, h3⟩ : ∃ cs, X[0]? = some cs := ⟨X[0]'(by omega), List.getElem?_eq_getElem (by omega)⟩
      obtain ⟨_, h5, h6⟩ := World.cells?_some (h2 0 cs h3).1
      have h7 := h6 0 hk
      rcases Nat.lt_or_ge a.block W.heap.size with h | h
      · exact h
      · rw [List.getElem?_eq_getElem (by omega)] at h7
        have : W.heap[((a.add (0 * P.cellsOf e)).add 0).block]? = none := by rw [block_add', block_add']; exact Array.getElem?_eq_none h
        have hnone : W.cell? ((a.add (0 * P.cellsOf e)).add 0) = none := by simp only [World.cell?, this]
        rw [hnone] at h7
        cases h7
    · obtain ⟨_, h5, h6⟩ := World.cells?_some (h2 i cs hic).1
      exact ⟨h5, fun j hj => by rw [← add_add']; exact h6 j hj⟩
    · obtain ⟨i, hic⟩ := List.mem_iff_getElem?.1 hcs
      exact ⟨n, _, (h2 i cs hic).2⟩
end
section
variable {H : Type} {enc : TypeId × Value → H} {W : World}
set_option maxRecDepth 100000 in
theorem open_numsC {v : Value} {fuel : Nat} {x : DataW H × List MemPlace} (hf : DataW.trod enc Tryd.prog W 0 (fun _ => true) true fuel 41 [v] = some x) :
    ∃ (A : Option Addr) (c : Nat) (L : List Int), v = .slice A L.length c ∧ NumAt W W.heap.size A L := by
  have hc : Tryd.prog.cellsOf 3 = 1 := by kernel_rfl
  obtain ⟨A, n, c, X, rfl, h1, h2, h3, h4⟩ := open_rowsC Tryd.underlying41 (by rw [hc]; omega) hf
  rw [hc] at h3
  obtain ⟨L, rfl⟩ := list_of numCells X (fun cs hcs => by
    obtain ⟨f2, y, hy⟩ := h4 cs hcs
    obtain ⟨k, hk, _⟩ := DataW.trod_int Tryd.underlying3 hy
    exact ⟨k, hk⟩)
  have hl := h3.len
  rw [List.length_map] at hl
  subst hl
  exact ⟨A, c, L, rfl, h3⟩
set_option maxRecDepth 100000 in
theorem open_asksC {v : Value} {fuel : Nat} {x : DataW H × List MemPlace} (hf : DataW.trod enc Tryd.prog W 0 (fun _ => true) true fuel 42 [v] = some x) :
    ∃ (A : Option Addr) (c : Nat) (L : List (Int × Int)), v = .slice A L.length c ∧ AskAt W W.heap.size A L := by
  have hc : Tryd.prog.cellsOf 78 = 2 := by kernel_rfl
  have hci : Tryd.prog.cellsOf 3 = 1 := by kernel_rfl
  obtain ⟨A, n, c, X, rfl, h1, h2, h3, h4⟩ := open_rowsC Tryd.underlying42 (by rw [hc]; omega) hf
  rw [hc] at h3
  obtain ⟨L, rfl⟩ := list_of askCells X (fun cs hcs => by
    obtain ⟨fuel, y, hy⟩ := h4 cs hcs
    obtain ⟨xs, n, _, _, hlen, hxs, hf⟩ := DataW.trod_struct Tryd.underlying78 hy
    rw [hc] at hlen
    match cs, hlen with
    | [c0, c1], _ =>
      match xs, hxs with
      | [y0, y1], _ =>
        have e0 := hf 0 _ rfl
        have e1 := hf 1 _ rfl
        change DataW.trod enc Tryd.prog W 0 (fun _ => true) true n 3 ((List.drop 0 [c0, c1]).take (Tryd.prog.cellsOf 3)) = _ at e0
        change DataW.trod enc Tryd.prog W 0 (fun _ => true) true n 3 ((List.drop 1 [c0, c1]).take (Tryd.prog.cellsOf 3)) = _ at e1
        rw [hci] at e0 e1
        obtain ⟨k, hk, _⟩ := DataW.trod_int Tryd.underlying3 e0
        obtain ⟨m, hm, _⟩ := DataW.trod_int Tryd.underlying3 e1
        simp at hk hm
        exact ⟨(k, m), by rw [hk, hm]; rfl⟩)
  have hl := h3.len
  rw [List.length_map] at hl
  subst hl
  exact ⟨A, c, L, rfl, h3⟩
set_option maxRecDepth 100000 in
/-- An event that comes in. -/
theorem open_ev {b0 : Nat} {r : Reach} {v : Value} {d : DataW H} {p : List MemPlace}
    (hv : Value.okWide Tryd.prog W r b0 44 v) (h : DataW.Trod enc Tryd.prog W 0 (fun _ => true) true 44 v d p) : ∃ e : Ev, EvAt W W.heap.size e v := by
  obtain ⟨c0, c1, c2, c3, c4, y0, y1, y2, y3, y4, m, rfl, rfl, rfl, h0, h1, h2, h3, h4⟩ := open_agg5 Tryd.underlying44 (by kernel_rfl) (by kernel_rfl) hv h
  obtain ⟨wd, e0, _, _⟩ := DataW.trod_string Tryd.underlying9 h0
  obtain ⟨A1, k1, L1, e1, hn⟩ := open_numsC h1
  obtain ⟨nm, e2, _, _⟩ := DataW.trod_string Tryd.underlying9 h2
  obtain ⟨dt, e3, _, _⟩ := DataW.trod_string Tryd.underlying9 h3
  obtain ⟨A2, k2, L2, e4, ha⟩ := open_asksC h4
  simp at e0 e2 e3
  subst e0 e1 e2 e3 e4
  exact ⟨⟨wd, L1, nm, dt, L2⟩, A1, k1, A2, k2, rfl, hn, ha⟩
end

/-- A law's row over listed tables, lifted out of its walk. -/
theorem LawKit.liftedL {H : Type} {enc : TypeId × Value → H} {C : Checked} {os : Os} {f : FuncId} {fn : Func} {s : ChangeSpec} {apart fresh handsOn again : Bool} {tb : TypeId} (L : List (String × DataW Unit))
    (own : ownKnob C.prog.godebug = none) (started : os.Started) (noInit : C.prog.inits.idxOf? f = none) (hfn : C.prog.funcs[f]? = some fn)
    (witness : ∃ (w : World) (tape : Tape) (i : Input), w.os = os ∧ (w.forCall tape i).Shaped C.prog ∧ i.vars = [] ∧ Input.okWide C.prog (w.forCall tape i) .any w.heap.size f i ∧
      ((s.pre enc C.prog fn [] apart (w.forCall tape i).memory i.args ∧ laidMetH C.prog L (w.forCall tape i).memory) ∧ sizedMet enc C.prog fn (OpenSpec.ofChange s) apart (w.forCall tape i).memory i.args) ∧ ({} : Assume).holds C.prog (lone (Frame.enter C.prog f i.args .normal) [] (w.forCall tape i)))
    (hl : laidOutB C.prog = true) (hr : fn.params.toList.all (fun t => C.prog.readableRec t && decide (t < C.prog.types.size)) = true) (hv : s.vars = [])
    (hs : ∀ ds : List (DataW H), ds.length = fn.params.size → s.fn H (ds ++ []) = { results := [.lit (.bool true)], args := ds }) (hrt : fn.resultTypes = #[tb]) (hub : C.prog.underlying tb = some .bool)
    (walk : ∀ (W : World) (base : Nat) (args : Array Value) (ds : List (DataW H)) (ps : List MemPlace),
      (∀ (j : Nat) t v, fn.params[j]? = some t → args[j]? = some v → Value.okWide C.prog W .any base t v) →
      DataW.TrodAll enc C.prog W 0 (fun _ => true) true fn.params.toList args.toList ds ps → (∀ p ∈ ps, p.block < W.heap.size) →
      (DataW.weightsEach C.prog (fn.params.toList ++ s.plain.varTypes C.prog) (ds ++ [])).all (· ≤ reachBytes) = true → laidMetH C.prog L W →
      Calls C.prog f args W fun e W' => e = .returned (.bool true) ∧ Below W.heap.size W W') :
    ReturnsInHanded {} C os f .any (fun w args => (s.pre enc C.prog fn [] apart w args ∧ laidMetH C.prog L w) ∧ sizedMet enc C.prog fn (OpenSpec.ofChange s) apart w args) (s.post enc C.prog fn apart fresh handsOn again) := by
  refine returnsInHanded_of_change_and (X := fun w _ => laidMetH C.prog L w) (fun _ _ _ hh h => h.of_heap hh) own started noInit hfn witness ?_
  intro W base args ds gs before hval hW _ hsz hL _
  have hlt : ∀ p ∈ before, p.block < W.heap.size := fun p hp => hW.lt p hp
  have hW' := hW
  obtain ⟨p, q, hA, hV, hbe, _, _⟩ := hW
  rw [hv] at hV
  obtain ⟨rfl, rfl⟩ := trodVars_none hV
  simp only [List.append_nil] at hbe
  subst hbe
  refine (walk W base args ds before hval hA hlt hsz hL).mono fun e W' ⟨he, hb⟩ => ⟨_, he, ?_⟩
  refine LawKit.post hl hr hv (hs ds ?_) hrt hub hW' hb
  have : ∀ {ts : List TypeId} {vs : List Value} {ds : List (DataW H)} {ps : List MemPlace}, DataW.TrodAll enc C.prog W 0 (fun _ => true) true ts vs ds ps → ds.length = ts.length := by
    intro ts
    induction ts with
    | nil => intro vs ds ps h; cases vs <;> cases ds <;> first | rfl | exact h.elim
    | cons t ts ih =>
      intro vs ds ps h
      cases vs with
      | nil => exact h.elim
      | cons v vs =>
        cases ds with
        | nil => exact h.elim
        | cons d ds =>
          obtain ⟨_, _, _, h2, _⟩ := h
          simp [ih h2]
  simpa using this hA
/-- The three tables that the rows list. -/
abbrev L3 : List (String × DataW Unit) := Rows.lineShowsRow.laid
set_option maxRecDepth 100000 in
theorem tab_of_laid {W : World} (h : laidMetH Tryd.prog L3 W) : Tab W := by
  rw [MakeChecks.laidMetH_plain _ _ _ (by kernel_rfl)] at h
  exact Lib.tabIs_of_head (g := 0) (t := 129) (e := 120) (n := 20) (by kernel_rfl) (by kernel_rfl) Tryd.underlying129 Tryd.underlying120 (by kernel_rfl) (by kernel_rfl) (show laidMet Tryd.prog [("internal/strconv.uint64pow10", Lib.tabData .u64 Lib.pow10Tab)] W from h.tail.tail)
theorem door_met (os : Os) (args : Array Value) : laidMetH Tryd.prog L3 ((World.doorLaid Tryd.prog 24 os).forCall (fun _ _ => 0) ⟨#[], args, []⟩).memory :=
  laidMetH_of_parts3 (fuel := 8) (laidMet_of_run' 8 (by kernel_rfl) (by kernel_rfl)) (by kernel_rfl) (by kernel_rfl)
end Go.Proofs.YtdpfcjhhabcheaaDoor

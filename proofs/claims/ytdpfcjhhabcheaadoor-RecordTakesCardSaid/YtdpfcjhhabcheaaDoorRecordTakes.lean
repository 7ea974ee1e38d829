/-
  RecordTakes: with which record any bytes begin, and what is behind it, or that there is none, is as the document says. No condition.
-/
import Derived.Test.YtdpfcjhhabcheaaDoorTakeP
import Derived.Test.YtdpfcjhhabcheaaDoorPutsW
import Derived.Test.YtdpfcjhhabcheaaDoorCards
import Derived.Test.YtdpfcjhhabcheaaDoorTie
import Derived.SevenTiedAt
namespace Go.Proofs.YtdpfcjhhabcheaaDoor
open Go Go.RowKit Go.ChangeShapes Go.WideShapes Go.ChangeAt Go.Joins

set_option maxRecDepth 100000 in
set_option maxHeartbeats 6400000 in
theorem takes_eq (s : ByteArray) (k e t c g u : Int) (A N L : ByteArray) (b : Bool) (hs : s.size ≤ 10000)
    (h1 : ∀ w, Calls Tryd.prog 18 #[.string s] w fun x w' => x = .returned (.tuple #[RVal k e t c g u A N, .string L, .int .i64 (if b then 0 else 3)]) ∧ Below w.heap.size w w')
    (h2 : ∀ w, Calls Tryd.prog 19 #[.string s] w fun x w' => x = .returned (.tuple #[RVal k e t c g u A N, .string L, .bool b]) ∧ Below w.heap.size w w') (w : World) (ht : Tab w) :
    Calls Tryd.prog 5 #[.string s] w fun x w' => x = .returned (.bool true) ∧ Below w.heap.size w w' := by
  have H1 := Lib.hid h1
  have H2 := Lib.hid h2
  have HA := Lib.hid alive_any
  have HT := Lib.hid ht
  have hs' : ¬ (10000 : Int) < (s.size : Int) := by omega
  clear h1 h2 ht hs
  cases b
  all_goals
    go_enter Tryd.func5, Tryd.ntmps5
    go_wp2_with fail
    refine (H1.out _).mono ?_
    rintro e1 w1 ⟨rfl, hb1⟩
    have B1 := Lib.hid hb1
    have T1 := Lib.hid (HT.out.below hb1)
    clear hb1
    go_wp2_with fail
    refine (H2.out _).mono ?_
    rintro e2 w2 ⟨rfl, hb2⟩
    have z2 : w1.heap.size < w2.heap.size := by have := hb2.size; simp at this; omega
    have r2 : w2.heap[w1.heap.size]? = some (.cells (RC k e t c g u A N) 23 (0, 0)) := (hb2.block w1.heap.size (by simp)).trans (heap_alloc_new w1 _)
    have B2 := Lib.hid (bthen (bthen B1.out (bnew w1 _)) hb2)
    have T2 := Lib.hid ((T1.out.below (bnew w1 _)).below hb2)
    obtain ⟨a0, a1, a2, a3, a4, a5⟩ := k6_row r2
    have a6 : w2.cell? ⟨w1.heap.size, 6, none⟩ = some (.string A) := by rw [cell_of_row _ _ _ _ _ _ r2]; rfl
    have a7 : w2.cell? ⟨w1.heap.size, 7, none⟩ = some (.string N) := by rw [cell_of_row _ _ _ _ _ _ r2]; rfl
    clear r2 hb2 B1 T1
    go_wp2_with fail
    refine (HA.out _ (T2.out.below (bnew w2 _))).mono ?_
    rintro e3 w3 ⟨rfl, hb3⟩
    have B := bthen (bthen B2.out (bnew w2 _)) hb3
    clear hb3
    go_wp2_with fail
    go_ret
    exact ⟨rfl, B⟩
set_option maxRecDepth 100000 in
set_option maxHeartbeats 1600000 in
theorem takes_long (s : ByteArray) (hs : ¬ s.size ≤ 10000) (w : World) (ht : Tab w) :
    Calls Tryd.prog 5 #[.string s] w fun x w' => x = .returned (.bool true) ∧ Below w.heap.size w w' := by
  have HA := Lib.hid (alive_any w ht)
  have hs' : (10000 : Int) < (s.size : Int) := by omega
  clear ht hs
  go_enter Tryd.func5, Tryd.ntmps5
  go_wp2_with fail
  refine HA.out.mono ?_
  rintro e3 w3 ⟨rfl, hb3⟩
  go_wp2_with fail
  go_ret
  exact ⟨rfl, hb3⟩
theorem takes_walk (s : ByteArray) (w : World) (ht : Tab w) : Calls Tryd.prog 5 #[.string s] w fun x w' => x = .returned (.bool true) ∧ Below w.heap.size w w' := by
  by_cases hs : s.size ≤ 10000
  · rcases take_pack s (by omega) with ⟨k, e, t, c, g, u, A, N, L, _, _, _, _, h1, h2⟩ | ⟨h1, h2, _⟩
    · exact takes_eq s k e t c g u A N L true hs h1 h2 w ht
    · exact takes_eq s 0 0 0 0 0 0 ⟨#[]⟩ ⟨#[]⟩ ⟨#[]⟩ false hs h1 h2 w ht
  · exact takes_long s hs w ht

set_option maxRecDepth 100000 in
theorem recordTakes_lifted (os : Os) (started : os.Started) (H : Type) (enc : TypeId × Value → H) :
    ReturnsInHanded {} Tryd.checked os 5 .any (fun w args => (Rows.recordTakesSpec.pre enc Tryd.prog Tryd.f5 [] false w args ∧ laidMetH Tryd.prog L3 w) ∧ sizedMet enc Tryd.prog Tryd.f5 (OpenSpec.ofChange Rows.recordTakesSpec) false w args) (Rows.recordTakesSpec.post enc Tryd.prog Tryd.f5 false true false false) := by
  refine LawKit.liftedL (C := Tryd.checked) (tb := 4) L3 own started (by kernel_rfl) Tryd.func5
    (ChangeSpec.witness_shaped (enc := enc) (C := Tryd.checked) (os := os) (X := fun w _ => laidMetH Tryd.prog L3 w) false (World.doorLaid Tryd.prog 24 os) #[.string ⟨#[]⟩] 8 rfl (World.shaped_of_RefB (by kernel_rfl) (by kernel_rfl)) (by kernel_rfl) (by kernel_rfl) (by kernel_rfl) (door_met os _))
    laidOut (by kernel_rfl) rfl (fun ds h => by match ds, h with | [_], _ => rfl) rfl Tryd.underlying4 ?_
  intro W base args ds ps hval0 hA0 hlt hsz hL
  have hval : ∀ (j : Nat) t v, Tryd.f5.params[j]? = some t → args[j]? = some v → Value.okWide Tryd.prog W .any base t v := hval0
  have hA : DataW.TrodAll enc Tryd.prog W 0 (fun _ => true) true Tryd.f5.params.toList args.toList ds ps := hA0
  rw [Tryd.params5] at hA hval
  clear hval0 hA0
  obtain ⟨v0, vs0, d0, ds0, p0, q0, hargs, rfl, rfl, t0, r0⟩ := trodAll_cons hA
  obtain ⟨rfl, rfl, rfl⟩ := trodAll_nil r0
  obtain rfl : args = #[v0] := by cases args; simp_all
  obtain ⟨s, rfl, -, -, w_s⟩ := Go.ChangeMaps.open_string Tryd.underlying9 (hval 0 _ v0 rfl rfl) t0
  exact takes_walk s W (tab_of_laid hL)

theorem recordTakes_row : Rows.RecordTakesSaid :=
  OpenClaim.holds_of_wide 5 Tryd.f5 rfl rfl rfl rfl rfl rfl rfl ⟨rfl, rfl, rfl, rfl, rfl⟩ rfl rfl rfl rfl rfl (by kernel_rfl) Tryd.func5 (by kernel_rfl)
    (of_decide_eq_true (by kernel_rfl)) (by unfold Func.isWrapper; first | (rw [if_pos (by decide +kernel)]; kernel_rfl) | (rw [if_neg (by decide +kernel)]; exact ⟨rfl, rfl⟩))
    (fun os started H enc _ => recordTakes_lifted os started H enc)
theorem recordTakesCard_holds : Rows.RecordTakesCardSaid :=
  Claim7.holds_tied_plain_at .later [] [.data, .data, .data] true (true, Rows.recordTakesCard.stood.harness.2) false
    recordTakes_row (fun _ h => by cases h) (by kernel_rfl) (fun _ h => by cases h) recordTakes_row_tie rfl ⟨rfl, rfl⟩ (by kernel_rfl) rfl
    (fun f fn hf hfn => by
      obtain rfl : f = 5 := Option.some.inj ((show Tryd.prog.funcNamed "keepsake/keepsakelaw19.RecordTakes" = some 5 by kernel_rfl).symm.trans hf) |>.symm
      obtain rfl : fn = Tryd.f5 := (Option.some.inj (Tryd.func5.symm.trans hfn)).symm
      exact ⟨by kernel_rfl, fun j t ht => by
        rw [Tryd.params5] at ht
        have hm : t ∈ [9] := by simpa using Array.mem_of_getElem? ht
        have hall : ([9].all fun u => !Tryd.prog.wantsStandIn u) = true := by kernel_rfl
        exact (show Tryd.prog.wantsStandIn t = false by simpa using List.all_eq_true.1 hall t hm)⟩)
    (by kernel_rfl)
#print axioms recordTakesCard_holds
end Go.Proofs.YtdpfcjhhabcheaaDoor

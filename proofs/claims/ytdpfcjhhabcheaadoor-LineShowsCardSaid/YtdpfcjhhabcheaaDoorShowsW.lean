/-
  The walk of LineShows. No condition. Own work.
-/
import Derived.Test.YtdpfcjhhabcheaaDoorFewE
namespace Go.Proofs.YtdpfcjhhabcheaaDoor
open Go Go.RowKit

theorem tab_b {w w' : World} (h : Tab w) (hb : Below w.heap.size w w') : Tab w' := h.below hb
theorem two_five {w w1 : World} {a0 a1 a2 a3 a4 b0 b1 b2 b3 b4 : Value} {T U : TypeId} (hb : Below ((w.alloc (.cells #[a0, a1, a2, a3, a4] T)).alloc (.cells #[b0, b1, b2, b3, b4] U)).heap.size ((w.alloc (.cells #[a0, a1, a2, a3, a4] T)).alloc (.cells #[b0, b1, b2, b3, b4] U)) w1) :
    Five w.heap.size a0 a1 a2 a3 a4 w1 ∧ Five (w.heap.size + 1) b0 b1 b2 b3 b4 w1 ∧ w.heap.size + 1 < w1.heap.size ∧ Below w.heap.size w w1 := by
  have e : ((w.alloc (.cells #[a0, a1, a2, a3, a4] T)).alloc (.cells #[b0, b1, b2, b3, b4] U)).heap[w.heap.size + 1]? = some (.cells #[b0, b1, b2, b3, b4] U (0, 0)) := by
    have e := heap_alloc_new (w.alloc (.cells #[a0, a1, a2, a3, a4] T)) (.cells #[b0, b1, b2, b3, b4] U)
    rw [show (w.alloc (.cells #[a0, a1, a2, a3, a4] T)).heap.size = w.heap.size + 1 from by simp] at e
    exact e
  refine ⟨five_row ((hb.block w.heap.size (by simp; omega)).trans (((bnew (w.alloc (.cells #[a0, a1, a2, a3, a4] T)) _).block w.heap.size (by simp)).trans (heap_alloc_new w _))), five_row ((hb.block (w.heap.size + 1) (by simp)).trans e), ?_, ?_⟩
  · have := hb.size
    simp at this
    omega
  · exact ((bnew w _).trans ((bnew _ _).mono (by simp))).trans (hb.mono (by simp; omega))
/-- Both boxes of an event, in a world behind. -/
abbrev Two5 (w0 : World) (a0 a1 a2 a3 a4 : Value) (w' : World) : Prop := Five w0.heap.size a0 a1 a2 a3 a4 w' ∧ Five (w0.heap.size + 1) a0 a1 a2 a3 a4 w' ∧ w0.heap.size + 1 < w'.heap.size ∧ Below w0.heap.size w0 w'
theorem two5 {w0 : World} {a0 a1 a2 a3 a4 : Value} : Keeps (Two5 w0 a0 a1 a2 a3 a4) := fun _ _ h hb =>
  ⟨five_below h.1 hb (by omega), five_below h.2.1 hb h.2.2.1, Nat.lt_of_lt_of_le h.2.2.1 hb.size, bthen h.2.2.2 hb⟩
set_option maxRecDepth 100000 in
set_option maxHeartbeats 6400000 in
theorem shows_many (e : Ev) (v : Value) (hf : fewE e = false) (w : World) (ht : Tab w) (hv : EvAt w w.heap.size e v) : Calls Tryd.prog 7 #[v] w fun x w' => x = .returned (.bool true) ∧ Below w.heap.size w w' := by
  have HF : Hid (∀ W, Below w.heap.size w W → Calls Tryd.prog 20 #[v] W fun x w' => x = .returned (.bool false) ∧ Below W.heap.size W w') := Lib.hid fun W hb => by
    have h := few_any e v W ((hv.below hb).up hb.size)
    rw [hf] at h
    exact h
  have HAL : Hid (∀ W, Below w.heap.size w W → Calls Tryd.prog 21 #[] W fun x w' => x = .returned (.bool true) ∧ Below W.heap.size W w') := Lib.hid fun W _ => alive_any W
  have _h := ht
  clear hf
  obtain ⟨A1, c1, A2, c2, rfl, -, -⟩ := hv
  obtain ⟨wd, nums, nm, dt, asks⟩ := e
  dsimp only at *
  go_enter Tryd.func7, Tryd.ntmps7
  go_wp2_with fail
  refine (HF.out _ ((bnew w _).trans ((bnew _ _).mono (by simp)))).mono ?_
  rintro e1 w1 ⟨rfl, hb1⟩
  have K1 : Hid (Two5 w _ _ _ _ _ w1) := Lib.hid (two_five hb1)
  clear hb1
  have k := K1.out
  obtain ⟨⟨p0, p1, p2, p3, p4⟩, ⟨q0, q1, q2, q3, q4⟩, z0, -⟩ := k
  go_wp2_with fail
  refine (HAL.out _ K1.out.2.2.2).mono ?_
  rintro e9 w9 ⟨rfl, hb9⟩
  have B9 := bthen K1.out.2.2.2 hb9
  clear hb9
  go_wp2_with fail
  go_ret
  exact ⟨rfl, B9⟩
set_option maxRecDepth 100000 in
set_option maxHeartbeats 6400000 in
theorem shows_no (e : Ev) (v : Value) (hf : fewE e = true) (hno : evOk e = false) (w : World) (ht : Tab w) (hv : EvAt w w.heap.size e v) : Calls Tryd.prog 7 #[v] w fun x w' => x = .returned (.bool true) ∧ Below w.heap.size w w' := by
  have HF : Hid (∀ W, Below w.heap.size w W → Calls Tryd.prog 20 #[v] W fun x w' => x = .returned (.bool true) ∧ Below W.heap.size W w') := Lib.hid fun W hb => by
    have h := few_any e v W ((hv.below hb).up hb.size)
    rw [hf] at h
    exact h
  have HAL : Hid (∀ W, Below w.heap.size w W → Calls Tryd.prog 21 #[] W fun x w' => x = .returned (.bool true) ∧ Below W.heap.size W w') := Lib.hid fun W _ => alive_any W
  have hs := few_sizes hf
  have HSH : Hid (∀ W, Below w.heap.size w W → Calls Tryd.prog 22 #[v] W fun x w' => x = .returned (.tuple #[.string ⟨#[]⟩, .int .i64 2]) ∧ Below W.heap.size W w') := Lib.hid fun W hb =>
    show_no e v (by omega) (by omega) (by omega) hno W ((hv.below hb).up hb.size)
  have HR : Hid (∀ W, Below w.heap.size w W → Calls Tryd.prog 23 #[v] W fun x w' => x = .returned (.bool false) ∧ Below W.heap.size W w') := Lib.hid fun W hb => by
    have h := rright_any e v (by omega) (by omega) (by omega) (by omega) W ((hv.below hb).up hb.size)
    rw [hno] at h
    exact h
  have HC : Hid (∀ W, Below w.heap.size w W → Calls Tryd.prog 24 #[v] W fun x w' => x = .returned (.int .i64 2) ∧ Below W.heap.size W w') := Lib.hid fun W hb => by
    have h := check_any e v (by omega) (by omega) (by omega) W ((hv.below hb).up hb.size)
    rw [hno] at h
    exact h
  have _h := ht
  clear hf hs hno
  obtain ⟨A1, c1, A2, c2, rfl, -, -⟩ := hv
  obtain ⟨wd, nums, nm, dt, asks⟩ := e
  dsimp only at *
  go_enter Tryd.func7, Tryd.ntmps7
  go_wp2_with fail
  refine (HF.out _ ((bnew w _).trans ((bnew _ _).mono (by simp)))).mono ?_
  rintro e1 w1 ⟨rfl, hb1⟩
  have K1 : Hid (Two5 w _ _ _ _ _ w1) := Lib.hid (two_five hb1)
  clear hb1
  have k := K1.out
  obtain ⟨⟨p0, p1, p2, p3, p4⟩, ⟨q0, q1, q2, q3, q4⟩, z0, -⟩ := k
  go_wp2_with fail
  refine (HSH.out _ K1.out.2.2.2).mono ?_
  rintro e2 w2 ⟨rfl, hb2⟩
  have K2 := Lib.hid (two5 _ _ K1.out hb2)
  clear p0 p1 p2 p3 p4 q0 q1 q2 q3 q4 z0 hb2 K1
  have k := K2.out
  obtain ⟨⟨p0, p1, p2, p3, p4⟩, ⟨q0, q1, q2, q3, q4⟩, z0, -⟩ := k
  go_wp2_with fail
  refine (HR.out _ K2.out.2.2.2).mono ?_
  rintro e3 w3 ⟨rfl, hb3⟩
  have K3 := Lib.hid (two5 _ _ K2.out hb3)
  clear p0 p1 p2 p3 p4 q0 q1 q2 q3 q4 z0 hb3 K2
  have k := K3.out
  obtain ⟨⟨p0, p1, p2, p3, p4⟩, ⟨q0, q1, q2, q3, q4⟩, z0, -⟩ := k
  go_wp2_with fail
  refine (HC.out _ K3.out.2.2.2).mono ?_
  rintro e4 w4 ⟨rfl, hb4⟩
  have K4 := Lib.hid (two5 _ _ K3.out hb4)
  clear p0 p1 p2 p3 p4 q0 q1 q2 q3 q4 z0 hb4 K3
  have k := K4.out
  obtain ⟨⟨p0, p1, p2, p3, p4⟩, ⟨q0, q1, q2, q3, q4⟩, z0, -⟩ := k
  go_wp2_with fail
  refine (HAL.out _ K4.out.2.2.2).mono ?_
  rintro e9 w9 ⟨rfl, hb9⟩
  have B9 := bthen K4.out.2.2.2 hb9
  clear hb9
  go_wp2_with fail
  go_ret
  exact ⟨rfl, B9⟩
set_option maxRecDepth 100000 in
set_option maxHeartbeats 6400000 in
theorem shows_yes (e : Ev) (v : Value) (hf : fewE e = true) (hok : evOk e = true) (w : World) (ht : Tab w) (hv : EvAt w w.heap.size e v) : Calls Tryd.prog 7 #[v] w fun x w' => x = .returned (.bool true) ∧ Below w.heap.size w w' := by
  have HF : Hid (∀ W, Below w.heap.size w W → Calls Tryd.prog 20 #[v] W fun x w' => x = .returned (.bool true) ∧ Below W.heap.size W w') := Lib.hid fun W hb => by
    have h := few_any e v W ((hv.below hb).up hb.size)
    rw [hf] at h
    exact h
  have HAL : Hid (∀ W, Below w.heap.size w W → Calls Tryd.prog 21 #[] W fun x w' => x = .returned (.bool true) ∧ Below W.heap.size W w') := Lib.hid fun W _ => alive_any W
  have hs := few_sizes hf
  have HSH : Hid (∀ W, Below w.heap.size w W → Calls Tryd.prog 22 #[v] W fun x w' => x = .returned (.tuple #[.string (lineS e), .int .i64 0]) ∧ Below W.heap.size W w') := Lib.hid fun W hb =>
    show_ok e v hok W (tab_b ht hb) ((hv.below hb).up hb.size)
  have HR : Hid (∀ W, Below w.heap.size w W → Calls Tryd.prog 23 #[v] W fun x w' => x = .returned (.bool true) ∧ Below W.heap.size W w') := Lib.hid fun W hb => by
    have h := rright_any e v (by omega) (by omega) (by omega) (by omega) W ((hv.below hb).up hb.size)
    rw [hok] at h
    exact h
  have HC : Hid (∀ W, Below w.heap.size w W → Calls Tryd.prog 24 #[v] W fun x w' => x = .returned (.int .i64 0) ∧ Below W.heap.size W w') := Lib.hid fun W hb => by
    have h := check_any e v (by omega) (by omega) (by omega) W ((hv.below hb).up hb.size)
    rw [hok] at h
    exact h
  have HSN : Hid (∀ W, Below w.heap.size w W → Calls Tryd.prog 26 #[v] W fun x w' => ∃ v', x = .returned v' ∧ SlO 9 W.heap.size v' (((showW e).map baL).map Value.string) w' ∧ Below W.heap.size W w') := Lib.hid fun W hb =>
    shown_ok e v hok W ((hv.below hb).up hb.size)
  have HJ : Hid (∀ (B : Nat) (v' : Value) (W : World), SlO 9 B v' (((showW e).map baL).map Value.string) W → Calls Tryd.prog 25 #[v'] W fun x w' => x = .returned (.string (lineS e)) ∧ Below W.heap.size W w') := Lib.hid fun B v' W hO => rjoin_ok e hok W hO
  generalize lineS e = LS at *
  generalize ((showW e).map baL).map Value.string = XS at *
  clear hf ht hs hok
  obtain ⟨A1, c1, A2, c2, rfl, -, -⟩ := hv
  obtain ⟨wd, nums, nm, dt, asks⟩ := e
  dsimp only at *
  go_enter Tryd.func7, Tryd.ntmps7
  go_wp2_with fail
  refine (HF.out _ ((bnew w _).trans ((bnew _ _).mono (by simp)))).mono ?_
  rintro e1 w1 ⟨rfl, hb1⟩
  have K1 : Hid (Two5 w _ _ _ _ _ w1) := Lib.hid (two_five hb1)
  clear hb1
  have k := K1.out
  obtain ⟨⟨p0, p1, p2, p3, p4⟩, ⟨q0, q1, q2, q3, q4⟩, z0, -⟩ := k
  go_wp2_with fail
  refine (HSH.out _ K1.out.2.2.2).mono ?_
  rintro e2 w2 ⟨rfl, hb2⟩
  have K2 := Lib.hid (two5 _ _ K1.out hb2)
  clear p0 p1 p2 p3 p4 q0 q1 q2 q3 q4 z0 hb2 K1
  have k := K2.out
  obtain ⟨⟨p0, p1, p2, p3, p4⟩, ⟨q0, q1, q2, q3, q4⟩, z0, -⟩ := k
  go_wp2_with fail
  refine (HR.out _ K2.out.2.2.2).mono ?_
  rintro e3 w3 ⟨rfl, hb3⟩
  have K3 := Lib.hid (two5 _ _ K2.out hb3)
  clear p0 p1 p2 p3 p4 q0 q1 q2 q3 q4 z0 hb3 K2
  have k := K3.out
  obtain ⟨⟨p0, p1, p2, p3, p4⟩, ⟨q0, q1, q2, q3, q4⟩, z0, -⟩ := k
  go_wp2_with fail
  refine (HSN.out _ K3.out.2.2.2).mono ?_
  rintro e4 w4 ⟨v4, rfl, hO4, hb4⟩
  have K4 := Lib.hid (two5 _ _ K3.out hb4)
  have O4 := Lib.hid hO4
  clear p0 p1 p2 p3 p4 q0 q1 q2 q3 q4 z0 hb4 K3 hO4
  have k := K4.out
  obtain ⟨⟨p0, p1, p2, p3, p4⟩, ⟨q0, q1, q2, q3, q4⟩, z0, -⟩ := k
  go_wp2_with fail
  refine (HJ.out _ _ _ O4.out).mono ?_
  rintro e5 w5 ⟨rfl, hb5⟩
  have K5 := Lib.hid (two5 _ _ K4.out hb5)
  clear p0 p1 p2 p3 p4 q0 q1 q2 q3 q4 z0 hb5 K4
  have k := K5.out
  obtain ⟨⟨p0, p1, p2, p3, p4⟩, ⟨q0, q1, q2, q3, q4⟩, z0, -⟩ := k
  go_wp2_with fail
  refine (HC.out _ K5.out.2.2.2).mono ?_
  rintro e6 w6 ⟨rfl, hb6⟩
  have K6 := Lib.hid (two5 _ _ K5.out hb6)
  clear p0 p1 p2 p3 p4 q0 q1 q2 q3 q4 z0 hb6 K5
  have k := K6.out
  obtain ⟨⟨p0, p1, p2, p3, p4⟩, ⟨q0, q1, q2, q3, q4⟩, z0, -⟩ := k
  go_wp2_with fail
  refine (HAL.out _ K6.out.2.2.2).mono ?_
  rintro e9 w9 ⟨rfl, hb9⟩
  have B9 := bthen K6.out.2.2.2 hb9
  clear hb9
  go_wp2_with fail
  go_ret
  exact ⟨rfl, B9⟩
theorem shows_walk (e : Ev) (v : Value) (w : World) (ht : Tab w) (hv : EvAt w w.heap.size e v) : Calls Tryd.prog 7 #[v] w fun x w' => x = .returned (.bool true) ∧ Below w.heap.size w w' := by
  cases hf : fewE e with
  | false => exact shows_many e v hf w ht hv
  | true =>
    cases h : evOk e with
    | false => exact shows_no e v hf h w ht hv
    | true => exact shows_yes e v hf h w ht hv
end Go.Proofs.YtdpfcjhhabcheaaDoor

/-
  RecordBack's walk (printed by a program of mine). No condition. Own work.
-/
import Derived.Test.YtdpfcjhhabcheaaDoorTakeP
import Derived.Test.YtdpfcjhhabcheaaDoorPutsW
namespace Go.Proofs.YtdpfcjhhabcheaaDoor
open Go.RowKit

set_option maxRecDepth 100000 in
set_option maxHeartbeats 12800000 in
theorem back_00 (k e t c g u : Int) (r n behind s B : ByteArray) (hf : fewB r n = true) (hbs : behind.size ≤ 10000) (hss : s.size ≤ 10000)
    (h1 : ∀ w, Calls Tryd.prog 11 #[RVal k e t c g u r n] w fun x w' => x = .returned (.tuple #[.string B, .int .i64 2]) ∧ Below w.heap.size w w')
    (h3 : ∀ w, Calls Tryd.prog 18 #[.string s] w fun x w' => x = .returned (TBad 3) ∧ Below w.heap.size w w')
    (w : World) (ht : Tab w) : Calls Tryd.prog 6 #[RVal k e t c g u r n, .string behind, .string s] w fun x w' => x = .returned (.bool true) ∧ Below w.heap.size w w' := by
  have hF := few_any k e t c g u r n
  rw [hf] at hF
  have HF := Lib.hid hF
  have H1 := Lib.hid h1
  have H3 := Lib.hid h3
  have HA := Lib.hid alive_any
  have K0 := Lib.hid (fun w1 hb1 => (kr_row ((Below.block (B := (w.alloc (.cells (RC k e t c g u r n) 23)).heap.size) (w' := w1) hb1 w.heap.size (by simp)).trans (heap_alloc_new w (.cells (RC k e t c g u r n) 23))) ((ht.below (bnew w _)).below hb1) (bthen (bnew w _) hb1) : KR w w.heap.size k e t c g u r n w1))
  have l1 : ¬ (10000 : Int) < (behind.size : Int) := by omega
  have l2 : ¬ (10000 : Int) < (s.size : Int) := by omega
  clear hf hF hbs hss ht h1 h3
  go_enter Tryd.func6, Tryd.ntmps6
  go_wp2_with fail
  refine (HF.out _).mono ?_
  rintro e1 w1 ⟨rfl, hb1⟩
  have K1 := Lib.hid (K0.out w1 hb1)
  have k1 := K1.out
  obtain ⟨⟨q0, q1, q2, q3, q4, q5⟩, q6, q7, z1, -, -⟩ := k1
  clear hb1
  go_wp2_with fail
  refine (H1.out _).mono ?_
  rintro e2 w2 ⟨rfl, hb2⟩
  have K2 := Lib.hid (kr _ _ K1.out hb2)
  clear q0 q1 q2 q3 q4 q5 q6 q7 z1 hb2
  have k2 := K2.out
  obtain ⟨⟨q0, q1, q2, q3, q4, q5⟩, q6, q7, z1, -, -⟩ := k2
  go_wp2_with fail
  clear q0 q1 q2 q3 q4 q5 q6 q7 z1
  have T3 := Lib.hid K2.out.2.2.2.2.1
  have B3 := Lib.hid K2.out.2.2.2.2.2
  clear K2
  refine (H3.out _).mono ?_
  rintro e4 w4 ⟨rfl, hb4⟩
  have T4 := Lib.hid (T3.out.below hb4)
  have B4 := Lib.hid (bthen B3.out hb4)
  clear hb4 T3 B3
  go_wp2_with fail
  refine (HA.out _ (T4.out.below (bnew w4 _))).mono ?_
  rintro e6 w6 ⟨rfl, hb6⟩
  have B6 := bthen (bthen B4.out (bnew w4 _)) hb6
  clear hb6
  go_wp2_with fail
  go_ret
  exact ⟨rfl, B6⟩
set_option maxRecDepth 100000 in
set_option maxHeartbeats 12800000 in
theorem back_01 (k e t c g u k' e' t' c' g' u' : Int) (r n A N L behind s B B2 : ByteArray) (hf : fewB r n = true) (hbs : behind.size ≤ 10000) (hss : s.size ≤ 10000)
    (h1 : ∀ w, Calls Tryd.prog 11 #[RVal k e t c g u r n] w fun x w' => x = .returned (.tuple #[.string B, .int .i64 2]) ∧ Below w.heap.size w w')
    (h3 : ∀ w, Calls Tryd.prog 18 #[.string s] w fun x w' => x = .returned (.tuple #[RVal k' e' t' c' g' u' A N, .string L, .int .i64 0]) ∧ Below w.heap.size w w')
    (h4 : ∀ w, Calls Tryd.prog 11 #[RVal k' e' t' c' g' u' A N] w fun x w' => x = .returned (.tuple #[.string B2, .int .i64 0]) ∧ Below w.heap.size w w')
    (hb : ∀ W, (Op.stringOp .add B2 L).run Tryd.prog W = .ok (.string s) W)
    (w : World) (ht : Tab w) : Calls Tryd.prog 6 #[RVal k e t c g u r n, .string behind, .string s] w fun x w' => x = .returned (.bool true) ∧ Below w.heap.size w w' := by
  have hF := few_any k e t c g u r n
  rw [hf] at hF
  have HF := Lib.hid hF
  have H1 := Lib.hid h1
  have H3 := Lib.hid h3
  have H4 := Lib.hid h4
  have HA := Lib.hid alive_any
  have K0 := Lib.hid (fun w1 hb1 => (kr_row ((Below.block (B := (w.alloc (.cells (RC k e t c g u r n) 23)).heap.size) (w' := w1) hb1 w.heap.size (by simp)).trans (heap_alloc_new w (.cells (RC k e t c g u r n) 23))) ((ht.below (bnew w _)).below hb1) (bthen (bnew w _) hb1) : KR w w.heap.size k e t c g u r n w1))
  have l1 : ¬ (10000 : Int) < (behind.size : Int) := by omega
  have l2 : ¬ (10000 : Int) < (s.size : Int) := by omega
  clear hf hF hbs hss ht h1 h3 h4
  go_enter Tryd.func6, Tryd.ntmps6
  go_wp2_with fail
  refine (HF.out _).mono ?_
  rintro e1 w1 ⟨rfl, hb1⟩
  have K1 := Lib.hid (K0.out w1 hb1)
  have k1 := K1.out
  obtain ⟨⟨q0, q1, q2, q3, q4, q5⟩, q6, q7, z1, -, -⟩ := k1
  clear hb1
  go_wp2_with fail
  refine (H1.out _).mono ?_
  rintro e2 w2 ⟨rfl, hb2⟩
  have K2 := Lib.hid (kr _ _ K1.out hb2)
  clear q0 q1 q2 q3 q4 q5 q6 q7 z1 hb2
  have k2 := K2.out
  obtain ⟨⟨q0, q1, q2, q3, q4, q5⟩, q6, q7, z1, -, -⟩ := k2
  go_wp2_with fail
  clear q0 q1 q2 q3 q4 q5 q6 q7 z1
  have T3 := Lib.hid K2.out.2.2.2.2.1
  have B3 := Lib.hid K2.out.2.2.2.2.2
  clear K2
  refine (H3.out _).mono ?_
  rintro e4 w4 ⟨rfl, hb4⟩
  have T4 := Lib.hid (T3.out.below hb4)
  have B4 := Lib.hid (bthen B3.out hb4)
  clear hb4 T3 B3
  go_wp2_with fail
  refine (H4.out _).mono ?_
  rintro e5 w5 ⟨rfl, hb5⟩
  have T5 := Lib.hid ((T4.out.below (bnew w4 _)).below hb5)
  have B5 := Lib.hid (bthen (bthen B4.out (bnew w4 _)) hb5)
  clear hb5 T4 B4
  go_wp2_with fail
  refine (HA.out _ T5.out).mono ?_
  rintro e6 w6 ⟨rfl, hb6⟩
  have B6 := bthen B5.out hb6
  clear hb6
  go_wp2_with fail
  go_ret
  exact ⟨rfl, B6⟩
set_option maxRecDepth 100000 in
set_option maxHeartbeats 12800000 in
theorem back_10 (k e t c g u : Int) (r n behind s B X : ByteArray) (hf : fewB r n = true) (hbs : behind.size ≤ 10000) (hss : s.size ≤ 10000)
    (h1 : ∀ w, Calls Tryd.prog 11 #[RVal k e t c g u r n] w fun x w' => x = .returned (.tuple #[.string B, .int .i64 0]) ∧ Below w.heap.size w w')
    (ha : ∀ W, (Op.stringOp .add B behind).run Tryd.prog W = .ok (.string X) W)
    (h2 : ∀ w, Calls Tryd.prog 18 #[.string X] w fun x w' => x = .returned (.tuple #[RVal k e t c g u r n, .string behind, .int .i64 0]) ∧ Below w.heap.size w w')
    (h3 : ∀ w, Calls Tryd.prog 18 #[.string s] w fun x w' => x = .returned (TBad 3) ∧ Below w.heap.size w w')
    (w : World) (ht : Tab w) : Calls Tryd.prog 6 #[RVal k e t c g u r n, .string behind, .string s] w fun x w' => x = .returned (.bool true) ∧ Below w.heap.size w w' := by
  have hF := few_any k e t c g u r n
  rw [hf] at hF
  have HF := Lib.hid hF
  have H1 := Lib.hid h1
  have H2 := Lib.hid h2
  have H3 := Lib.hid h3
  have HA := Lib.hid alive_any
  have K0 := Lib.hid (fun w1 hb1 => (kr_row ((Below.block (B := (w.alloc (.cells (RC k e t c g u r n) 23)).heap.size) (w' := w1) hb1 w.heap.size (by simp)).trans (heap_alloc_new w (.cells (RC k e t c g u r n) 23))) ((ht.below (bnew w _)).below hb1) (bthen (bnew w _) hb1) : KR w w.heap.size k e t c g u r n w1))
  have l1 : ¬ (10000 : Int) < (behind.size : Int) := by omega
  have l2 : ¬ (10000 : Int) < (s.size : Int) := by omega
  clear hf hF hbs hss ht h1 h2 h3
  go_enter Tryd.func6, Tryd.ntmps6
  go_wp2_with fail
  refine (HF.out _).mono ?_
  rintro e1 w1 ⟨rfl, hb1⟩
  have K1 := Lib.hid (K0.out w1 hb1)
  have k1 := K1.out
  obtain ⟨⟨q0, q1, q2, q3, q4, q5⟩, q6, q7, z1, -, -⟩ := k1
  clear hb1
  go_wp2_with fail
  refine (H1.out _).mono ?_
  rintro e2 w2 ⟨rfl, hb2⟩
  have K2 := Lib.hid (kr _ _ K1.out hb2)
  clear q0 q1 q2 q3 q4 q5 q6 q7 z1 hb2
  have k2 := K2.out
  obtain ⟨⟨q0, q1, q2, q3, q4, q5⟩, q6, q7, z1, -, -⟩ := k2
  go_wp2_with fail
  refine (H2.out _).mono ?_
  rintro e3 w3 ⟨rfl, hb3⟩
  have K3 := Lib.hid (kr _ _ K2.out hb3)
  clear q0 q1 q2 q3 q4 q5 q6 q7 z1 hb3 K2
  have k3 := K3.out
  obtain ⟨⟨q0, q1, q2, q3, q4, q5⟩, q6, q7, z1, -, -⟩ := k3
  go_wp2_with fail
  clear q0 q1 q2 q3 q4 q5 q6 q7 z1
  have T3 := Lib.hid (K3.out.2.2.2.2.1.below (bnew w3 (.cells (RC k e t c g u r n) 23)))
  have B3 := Lib.hid (bthen K3.out.2.2.2.2.2 (bnew w3 (.cells (RC k e t c g u r n) 23)))
  clear K3
  refine (H3.out _).mono ?_
  rintro e4 w4 ⟨rfl, hb4⟩
  have T4 := Lib.hid (T3.out.below hb4)
  have B4 := Lib.hid (bthen B3.out hb4)
  clear hb4 T3 B3
  go_wp2_with fail
  refine (HA.out _ (T4.out.below (bnew w4 _))).mono ?_
  rintro e6 w6 ⟨rfl, hb6⟩
  have B6 := bthen (bthen B4.out (bnew w4 _)) hb6
  clear hb6
  go_wp2_with fail
  go_ret
  exact ⟨rfl, B6⟩
set_option maxRecDepth 100000 in
set_option maxHeartbeats 12800000 in
theorem back_11 (k e t c g u k' e' t' c' g' u' : Int) (r n A N L behind s B X B2 : ByteArray) (hf : fewB r n = true) (hbs : behind.size ≤ 10000) (hss : s.size ≤ 10000)
    (h1 : ∀ w, Calls Tryd.prog 11 #[RVal k e t c g u r n] w fun x w' => x = .returned (.tuple #[.string B, .int .i64 0]) ∧ Below w.heap.size w w')
    (ha : ∀ W, (Op.stringOp .add B behind).run Tryd.prog W = .ok (.string X) W)
    (h2 : ∀ w, Calls Tryd.prog 18 #[.string X] w fun x w' => x = .returned (.tuple #[RVal k e t c g u r n, .string behind, .int .i64 0]) ∧ Below w.heap.size w w')
    (h3 : ∀ w, Calls Tryd.prog 18 #[.string s] w fun x w' => x = .returned (.tuple #[RVal k' e' t' c' g' u' A N, .string L, .int .i64 0]) ∧ Below w.heap.size w w')
    (h4 : ∀ w, Calls Tryd.prog 11 #[RVal k' e' t' c' g' u' A N] w fun x w' => x = .returned (.tuple #[.string B2, .int .i64 0]) ∧ Below w.heap.size w w')
    (hb : ∀ W, (Op.stringOp .add B2 L).run Tryd.prog W = .ok (.string s) W)
    (w : World) (ht : Tab w) : Calls Tryd.prog 6 #[RVal k e t c g u r n, .string behind, .string s] w fun x w' => x = .returned (.bool true) ∧ Below w.heap.size w w' := by
  have hF := few_any k e t c g u r n
  rw [hf] at hF
  have HF := Lib.hid hF
  have H1 := Lib.hid h1
  have H2 := Lib.hid h2
  have H3 := Lib.hid h3
  have H4 := Lib.hid h4
  have HA := Lib.hid alive_any
  have K0 := Lib.hid (fun w1 hb1 => (kr_row ((Below.block (B := (w.alloc (.cells (RC k e t c g u r n) 23)).heap.size) (w' := w1) hb1 w.heap.size (by simp)).trans (heap_alloc_new w (.cells (RC k e t c g u r n) 23))) ((ht.below (bnew w _)).below hb1) (bthen (bnew w _) hb1) : KR w w.heap.size k e t c g u r n w1))
  have l1 : ¬ (10000 : Int) < (behind.size : Int) := by omega
  have l2 : ¬ (10000 : Int) < (s.size : Int) := by omega
  clear hf hF hbs hss ht h1 h2 h3 h4
  go_enter Tryd.func6, Tryd.ntmps6
  go_wp2_with fail
  refine (HF.out _).mono ?_
  rintro e1 w1 ⟨rfl, hb1⟩
  have K1 := Lib.hid (K0.out w1 hb1)
  have k1 := K1.out
  obtain ⟨⟨q0, q1, q2, q3, q4, q5⟩, q6, q7, z1, -, -⟩ := k1
  clear hb1
  go_wp2_with fail
  refine (H1.out _).mono ?_
  rintro e2 w2 ⟨rfl, hb2⟩
  have K2 := Lib.hid (kr _ _ K1.out hb2)
  clear q0 q1 q2 q3 q4 q5 q6 q7 z1 hb2
  have k2 := K2.out
  obtain ⟨⟨q0, q1, q2, q3, q4, q5⟩, q6, q7, z1, -, -⟩ := k2
  go_wp2_with fail
  refine (H2.out _).mono ?_
  rintro e3 w3 ⟨rfl, hb3⟩
  have K3 := Lib.hid (kr _ _ K2.out hb3)
  clear q0 q1 q2 q3 q4 q5 q6 q7 z1 hb3 K2
  have k3 := K3.out
  obtain ⟨⟨q0, q1, q2, q3, q4, q5⟩, q6, q7, z1, -, -⟩ := k3
  go_wp2_with fail
  clear q0 q1 q2 q3 q4 q5 q6 q7 z1
  have T3 := Lib.hid (K3.out.2.2.2.2.1.below (bnew w3 (.cells (RC k e t c g u r n) 23)))
  have B3 := Lib.hid (bthen K3.out.2.2.2.2.2 (bnew w3 (.cells (RC k e t c g u r n) 23)))
  clear K3
  refine (H3.out _).mono ?_
  rintro e4 w4 ⟨rfl, hb4⟩
  have T4 := Lib.hid (T3.out.below hb4)
  have B4 := Lib.hid (bthen B3.out hb4)
  clear hb4 T3 B3
  go_wp2_with fail
  refine (H4.out _).mono ?_
  rintro e5 w5 ⟨rfl, hb5⟩
  have T5 := Lib.hid ((T4.out.below (bnew w4 _)).below hb5)
  have B5 := Lib.hid (bthen (bthen B4.out (bnew w4 _)) hb5)
  clear hb5 T4 B4
  go_wp2_with fail
  refine (HA.out _ T5.out).mono ?_
  rintro e6 w6 ⟨rfl, hb6⟩
  have B6 := bthen B5.out hb6
  clear hb6
  go_wp2_with fail
  go_ret
  exact ⟨rfl, B6⟩
set_option maxRecDepth 100000 in
set_option maxHeartbeats 6400000 in
theorem back_few (k e t c g u : Int) (r n behind s : ByteArray) (hf : fewB r n = false) (w : World) (ht : Tab w) : Calls Tryd.prog 6 #[RVal k e t c g u r n, .string behind, .string s] w fun x w' => x = .returned (.bool true) ∧ Below w.heap.size w w' := by
  have hF := few_any k e t c g u r n
  rw [hf] at hF
  have HF := Lib.hid hF
  have HA := Lib.hid alive_any
  have HT := Lib.hid ht
  clear hf hF ht
  go_enter Tryd.func6, Tryd.ntmps6
  go_wp2_with fail
  refine (HF.out _).mono ?_
  rintro e1 w1 ⟨rfl, hb1⟩
  have T1 := Lib.hid ((HT.out.below (bnew w _)).below hb1)
  have B1 := Lib.hid (bthen (bnew w _) hb1)
  clear hb1 HT
  go_wp2_with fail
  refine (HA.out _ T1.out).mono ?_
  rintro e2 w2 ⟨rfl, hb2⟩
  have B2 := bthen B1.out hb2
  clear hb2
  go_wp2_with fail
  go_ret
  exact ⟨rfl, B2⟩
set_option maxRecDepth 100000 in
set_option maxHeartbeats 6400000 in
theorem back_long1 (k e t c g u : Int) (r n behind s : ByteArray) (hf : fewB r n = true) (l1 : (10000 : Int) < (behind.size : Int)) (w : World) (ht : Tab w) : Calls Tryd.prog 6 #[RVal k e t c g u r n, .string behind, .string s] w fun x w' => x = .returned (.bool true) ∧ Below w.heap.size w w' := by
  have hF := few_any k e t c g u r n
  rw [hf] at hF
  have HF := Lib.hid hF
  have HA := Lib.hid alive_any
  have HT := Lib.hid ht
  clear hf hF ht
  go_enter Tryd.func6, Tryd.ntmps6
  go_wp2_with fail
  refine (HF.out _).mono ?_
  rintro e1 w1 ⟨rfl, hb1⟩
  have T1 := Lib.hid ((HT.out.below (bnew w _)).below hb1)
  have B1 := Lib.hid (bthen (bnew w _) hb1)
  clear hb1 HT
  go_wp2_with fail
  refine (HA.out _ T1.out).mono ?_
  rintro e2 w2 ⟨rfl, hb2⟩
  have B2 := bthen B1.out hb2
  clear hb2
  go_wp2_with fail
  go_ret
  exact ⟨rfl, B2⟩
set_option maxRecDepth 100000 in
set_option maxHeartbeats 6400000 in
theorem back_long2 (k e t c g u : Int) (r n behind s : ByteArray) (hf : fewB r n = true) (l1 : ¬ (10000 : Int) < (behind.size : Int)) (l2 : (10000 : Int) < (s.size : Int)) (w : World) (ht : Tab w) : Calls Tryd.prog 6 #[RVal k e t c g u r n, .string behind, .string s] w fun x w' => x = .returned (.bool true) ∧ Below w.heap.size w w' := by
  have hF := few_any k e t c g u r n
  rw [hf] at hF
  have HF := Lib.hid hF
  have HA := Lib.hid alive_any
  have HT := Lib.hid ht
  clear hf hF ht
  go_enter Tryd.func6, Tryd.ntmps6
  go_wp2_with fail
  refine (HF.out _).mono ?_
  rintro e1 w1 ⟨rfl, hb1⟩
  have T1 := Lib.hid ((HT.out.below (bnew w _)).below hb1)
  have B1 := Lib.hid (bthen (bnew w _) hb1)
  clear hb1 HT
  go_wp2_with fail
  refine (HA.out _ T1.out).mono ?_
  rintro e2 w2 ⟨rfl, hb2⟩
  have B2 := bthen B1.out hb2
  clear hb2
  go_wp2_with fail
  go_ret
  exact ⟨rfl, B2⟩
end Go.Proofs.YtdpfcjhhabcheaaDoor

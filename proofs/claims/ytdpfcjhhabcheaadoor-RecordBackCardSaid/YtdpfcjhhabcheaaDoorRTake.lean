/-
  The reference's Take of a record, for each way that it may go (printed by a program of mine). No condition. Own work.
-/
import Derived.Test.YtdpfcjhhabcheaaDoorTake1
import Derived.Test.YtdpfcjhhabcheaaDoorRRight2
namespace Go.Proofs.YtdpfcjhhabcheaaDoor
open Go.RowKit

abbrev TBadR : Value := .tuple #[RVal 0 0 0 0 0 0 ⟨#[]⟩ ⟨#[]⟩, .string ⟨#[]⟩, .bool false]
set_option maxRecDepth 100000 in
set_option maxHeartbeats 6400000 in
theorem rtake_short (s : ByteArray) (h : s.size < 29) (w : World) : Calls Tryd.prog 19 #[.string s] w fun e w' => e = .returned TBadR ∧ Below w.heap.size w w' := by
  have hs : (s.size : Int) < 29 := by omega
  clear h
  go_enter Tryd.func19, Tryd.ntmps19
  go_upto_region 1 with (fail)
  obtain ⟨W1, hW1⟩ : ∃ W1, W1 = w.alloc (.cells ZC 23) := ⟨_, rfl⟩
  have e9 : w.alloc (.cells #[.int .i64 0, .int .i64 0, .int .i64 0, .int .i64 0, .int .i64 0, .int .i64 0, .string ⟨#[]⟩, .string ⟨#[]⟩] 23) = W1 := hW1.symm
  rw [e9]
  have R1 : Hid (W1.heap[w.heap.size]? = some (.cells ZC 23 (0, 0))) := Lib.hid (by rw [hW1]; exact heap_alloc_new w _)
  have B1 : Hid (Below w.heap.size w W1) := Lib.hid (by rw [hW1]; exact bnew w _)
  have Z1 : Hid (w.heap.size < W1.heap.size) := Lib.hid (by rw [hW1]; simp)
  clear hW1 e9
  have B9 := B1
  have RZ9 := R1
  clear B1 R1 Z1
  have r9 := RZ9.out
  have c0 : W1.cell? ⟨w.heap.size, 0, none⟩ = some (.int .i64 0) := by rw [cell_of_row _ _ _ _ _ _ r9]; rfl
  have f0 := frozen_of_row W1 w.heap.size 0 _ _ r9
  have c1 : W1.cell? ⟨w.heap.size, 1, none⟩ = some (.int .i64 0) := by rw [cell_of_row _ _ _ _ _ _ r9]; rfl
  have f1 := frozen_of_row W1 w.heap.size 1 _ _ r9
  have c2 : W1.cell? ⟨w.heap.size, 2, none⟩ = some (.int .i64 0) := by rw [cell_of_row _ _ _ _ _ _ r9]; rfl
  have f2 := frozen_of_row W1 w.heap.size 2 _ _ r9
  have c3 : W1.cell? ⟨w.heap.size, 3, none⟩ = some (.int .i64 0) := by rw [cell_of_row _ _ _ _ _ _ r9]; rfl
  have f3 := frozen_of_row W1 w.heap.size 3 _ _ r9
  have c4 : W1.cell? ⟨w.heap.size, 4, none⟩ = some (.int .i64 0) := by rw [cell_of_row _ _ _ _ _ _ r9]; rfl
  have f4 := frozen_of_row W1 w.heap.size 4 _ _ r9
  have c5 : W1.cell? ⟨w.heap.size, 5, none⟩ = some (.int .i64 0) := by rw [cell_of_row _ _ _ _ _ _ r9]; rfl
  have f5 := frozen_of_row W1 w.heap.size 5 _ _ r9
  have c6 : W1.cell? ⟨w.heap.size, 6, none⟩ = some (.string ⟨#[]⟩) := by rw [cell_of_row _ _ _ _ _ _ r9]; rfl
  have f6 := frozen_of_row W1 w.heap.size 6 _ _ r9
  have c7 : W1.cell? ⟨w.heap.size, 7, none⟩ = some (.string ⟨#[]⟩) := by rw [cell_of_row _ _ _ _ _ _ r9]; rfl
  have f7 := frozen_of_row W1 w.heap.size 7 _ _ r9
  clear r9
  go_wp2_with fail
  (try simp only [Exit.inBlock, Exit.then])
  refine bodyPost_ret (v := .tuple #[RVal 0 0 0 0 0 0 ⟨#[]⟩ ⟨#[]⟩, .string ⟨#[]⟩, .bool false]) ?_ rfl ⟨rfl, ?_⟩
  · rw [results_cell_tmp2 rfl]
    go_simp
  · exact set8 B9.out _ _ _ _ _ _ _ _
set_option maxRecDepth 100000 in
set_option maxHeartbeats 12800000 in
theorem rtake_bad1 (s A B : ByteArray) (f : Int) (h : 29 ≤ s.size)
    (hu : ∀ (gw : Nat) (w : World), w.heap[gw]? = some (.cells WC 3 (0, 0)) → Calls Tryd.prog 44 #[.slice (some ⟨gw, 0, none⟩) 6 6, .string (s.extract 0 29)] w fun e w' => (∃ v, e = .returned (.tuple #[v, .int .i64 3])) ∧ Below w.heap.size w w')
    (h1 : ∀ w, Calls Tryd.prog 45 #[.string (s.extract 29 s.size)] w fun e w' => e = .returned (.tuple #[.string A, .string B, .int .i64 f]) ∧ Below w.heap.size w w')
    (w : World) : Calls Tryd.prog 19 #[.string s] w fun e w' => e = .returned (TBadR) ∧ Below w.heap.size w w' := by
  have HU := Lib.hid hu
  have H1 := Lib.hid h1
  have hs : ¬ (s.size : Int) < 29 := by omega
  have hs2 : (29 : Int) ≤ (s.size : Int) := by omega
  clear h hu h1
  go_enter Tryd.func19, Tryd.ntmps19
  go_upto_region 3 with (fail)
  obtain ⟨W1, hW1⟩ : ∃ W1, W1 = w.alloc (.cells ZC 23) := ⟨_, rfl⟩
  have e9 : w.alloc (.cells #[.int .i64 0, .int .i64 0, .int .i64 0, .int .i64 0, .int .i64 0, .int .i64 0, .string ⟨#[]⟩, .string ⟨#[]⟩] 23) = W1 := hW1.symm
  rw [e9]
  have R1 : Hid (W1.heap[w.heap.size]? = some (.cells ZC 23 (0, 0))) := Lib.hid (by rw [hW1]; exact heap_alloc_new w _)
  have B1 : Hid (Below w.heap.size w W1) := Lib.hid (by rw [hW1]; exact bnew w _)
  have Z1 : Hid (w.heap.size < W1.heap.size) := Lib.hid (by rw [hW1]; simp)
  clear hW1 e9
  have b2 := bnew W1 (.cells WC 3)
  have HU3 := Lib.hid (HU.out W1.heap.size (W1.alloc (.cells WC 3)) (heap_alloc_new W1 _))
  obtain ⟨w3, hw3⟩ : ∃ w3, w3 = W1.alloc (.cells WC 3) := ⟨_, rfl⟩
  rw [← hw3] at b2
  have R3 : Hid (w3.heap[w.heap.size]? = some (.cells ZC 23 (0, 0))) := Lib.hid ((b2.block _ Z1.out).trans R1.out)
  have B3 : Hid (Below w.heap.size w w3) := Lib.hid (bthen B1.out b2)
  have Z3 : Hid (w.heap.size < w3.heap.size) := Lib.hid (Nat.lt_of_lt_of_le Z1.out b2.size)
  clear b2 R1 B1 Z1
  go_wp2_with fail
  refine HU3.out.mono ?_
  rintro e4 w4 ⟨⟨v, rfl⟩, hb4⟩
  rw [← hw3] at hb4
  have R4 : Hid (w4.heap[w.heap.size]? = some (.cells ZC 23 (0, 0))) := Lib.hid ((hb4.block _ Z3.out).trans R3.out)
  have B4 : Hid (Below w.heap.size w w4) := Lib.hid (bthen B3.out hb4)
  have Z4 : Hid (w.heap.size < w4.heap.size) := Lib.hid (Nat.lt_of_lt_of_le Z3.out hb4.size)
  clear hb4 hw3 R3 B3 Z3 HU3 HU
  go_wp2_with fail
  refine (H1.out _).mono ?_
  rintro e5 w5 ⟨rfl, hb5⟩
  have R5 : Hid (w5.heap[w.heap.size]? = some (.cells ZC 23 (0, 0))) := Lib.hid ((hb5.block _ Z4.out).trans R4.out)
  have B5 : Hid (Below w.heap.size w w5) := Lib.hid (bthen B4.out hb5)
  have Z5 : Hid (w.heap.size < w5.heap.size) := Lib.hid (Nat.lt_of_lt_of_le Z4.out hb5.size)
  clear hb5 R4 B4 Z4
  have B9 := B5
  have RZ9 := R5
  clear B5 R5 Z5
  have r9 := RZ9.out
  have c0 : w5.cell? ⟨w.heap.size, 0, none⟩ = some (.int .i64 0) := by rw [cell_of_row _ _ _ _ _ _ r9]; rfl
  have f0 := frozen_of_row w5 w.heap.size 0 _ _ r9
  have c1 : w5.cell? ⟨w.heap.size, 1, none⟩ = some (.int .i64 0) := by rw [cell_of_row _ _ _ _ _ _ r9]; rfl
  have f1 := frozen_of_row w5 w.heap.size 1 _ _ r9
  have c2 : w5.cell? ⟨w.heap.size, 2, none⟩ = some (.int .i64 0) := by rw [cell_of_row _ _ _ _ _ _ r9]; rfl
  have f2 := frozen_of_row w5 w.heap.size 2 _ _ r9
  have c3 : w5.cell? ⟨w.heap.size, 3, none⟩ = some (.int .i64 0) := by rw [cell_of_row _ _ _ _ _ _ r9]; rfl
  have f3 := frozen_of_row w5 w.heap.size 3 _ _ r9
  have c4 : w5.cell? ⟨w.heap.size, 4, none⟩ = some (.int .i64 0) := by rw [cell_of_row _ _ _ _ _ _ r9]; rfl
  have f4 := frozen_of_row w5 w.heap.size 4 _ _ r9
  have c5 : w5.cell? ⟨w.heap.size, 5, none⟩ = some (.int .i64 0) := by rw [cell_of_row _ _ _ _ _ _ r9]; rfl
  have f5 := frozen_of_row w5 w.heap.size 5 _ _ r9
  have c6 : w5.cell? ⟨w.heap.size, 6, none⟩ = some (.string ⟨#[]⟩) := by rw [cell_of_row _ _ _ _ _ _ r9]; rfl
  have f6 := frozen_of_row w5 w.heap.size 6 _ _ r9
  have c7 : w5.cell? ⟨w.heap.size, 7, none⟩ = some (.string ⟨#[]⟩) := by rw [cell_of_row _ _ _ _ _ _ r9]; rfl
  have f7 := frozen_of_row w5 w.heap.size 7 _ _ r9
  clear r9
  go_wp2_with fail
  (try simp only [Exit.inBlock, Exit.then])
  refine bodyPost_ret (v := .tuple #[RVal 0 0 0 0 0 0 ⟨#[]⟩ ⟨#[]⟩, .string ⟨#[]⟩, .bool false]) ?_ rfl ⟨rfl, ?_⟩
  · rw [results_cell_tmp2 rfl]
    go_simp
  · exact set8 B9.out _ _ _ _ _ _ _ _
set_option maxRecDepth 100000 in
set_option maxHeartbeats 12800000 in
theorem rtake_bad2 (s A B : ByteArray) (h : 29 ≤ s.size)
    (hu : ∀ (gw : Nat) (w : World), w.heap[gw]? = some (.cells WC 3 (0, 0)) → Calls Tryd.prog 44 #[.slice (some ⟨gw, 0, none⟩) 6 6, .string (s.extract 0 29)] w fun e w' => (∃ v, e = .returned (.tuple #[v, .int .i64 0])) ∧ Below w.heap.size w w')
    (h1 : ∀ w, Calls Tryd.prog 45 #[.string (s.extract 29 s.size)] w fun e w' => e = .returned (.tuple #[.string A, .string B, .int .i64 3]) ∧ Below w.heap.size w w')
    (w : World) : Calls Tryd.prog 19 #[.string s] w fun e w' => e = .returned (TBadR) ∧ Below w.heap.size w w' := by
  have HU := Lib.hid hu
  have H1 := Lib.hid h1
  have hs : ¬ (s.size : Int) < 29 := by omega
  have hs2 : (29 : Int) ≤ (s.size : Int) := by omega
  clear h hu h1
  go_enter Tryd.func19, Tryd.ntmps19
  go_upto_region 3 with (fail)
  obtain ⟨W1, hW1⟩ : ∃ W1, W1 = w.alloc (.cells ZC 23) := ⟨_, rfl⟩
  have e9 : w.alloc (.cells #[.int .i64 0, .int .i64 0, .int .i64 0, .int .i64 0, .int .i64 0, .int .i64 0, .string ⟨#[]⟩, .string ⟨#[]⟩] 23) = W1 := hW1.symm
  rw [e9]
  have R1 : Hid (W1.heap[w.heap.size]? = some (.cells ZC 23 (0, 0))) := Lib.hid (by rw [hW1]; exact heap_alloc_new w _)
  have B1 : Hid (Below w.heap.size w W1) := Lib.hid (by rw [hW1]; exact bnew w _)
  have Z1 : Hid (w.heap.size < W1.heap.size) := Lib.hid (by rw [hW1]; simp)
  clear hW1 e9
  have b2 := bnew W1 (.cells WC 3)
  have HU3 := Lib.hid (HU.out W1.heap.size (W1.alloc (.cells WC 3)) (heap_alloc_new W1 _))
  obtain ⟨w3, hw3⟩ : ∃ w3, w3 = W1.alloc (.cells WC 3) := ⟨_, rfl⟩
  rw [← hw3] at b2
  have R3 : Hid (w3.heap[w.heap.size]? = some (.cells ZC 23 (0, 0))) := Lib.hid ((b2.block _ Z1.out).trans R1.out)
  have B3 : Hid (Below w.heap.size w w3) := Lib.hid (bthen B1.out b2)
  have Z3 : Hid (w.heap.size < w3.heap.size) := Lib.hid (Nat.lt_of_lt_of_le Z1.out b2.size)
  clear b2 R1 B1 Z1
  go_wp2_with fail
  refine HU3.out.mono ?_
  rintro e4 w4 ⟨⟨v, rfl⟩, hb4⟩
  rw [← hw3] at hb4
  have R4 : Hid (w4.heap[w.heap.size]? = some (.cells ZC 23 (0, 0))) := Lib.hid ((hb4.block _ Z3.out).trans R3.out)
  have B4 : Hid (Below w.heap.size w w4) := Lib.hid (bthen B3.out hb4)
  have Z4 : Hid (w.heap.size < w4.heap.size) := Lib.hid (Nat.lt_of_lt_of_le Z3.out hb4.size)
  clear hb4 hw3 R3 B3 Z3 HU3 HU
  go_wp2_with fail
  refine (H1.out _).mono ?_
  rintro e5 w5 ⟨rfl, hb5⟩
  have R5 : Hid (w5.heap[w.heap.size]? = some (.cells ZC 23 (0, 0))) := Lib.hid ((hb5.block _ Z4.out).trans R4.out)
  have B5 : Hid (Below w.heap.size w w5) := Lib.hid (bthen B4.out hb5)
  have Z5 : Hid (w.heap.size < w5.heap.size) := Lib.hid (Nat.lt_of_lt_of_le Z4.out hb5.size)
  clear hb5 R4 B4 Z4
  have B9 := B5
  have RZ9 := R5
  clear B5 R5 Z5
  have r9 := RZ9.out
  have c0 : w5.cell? ⟨w.heap.size, 0, none⟩ = some (.int .i64 0) := by rw [cell_of_row _ _ _ _ _ _ r9]; rfl
  have f0 := frozen_of_row w5 w.heap.size 0 _ _ r9
  have c1 : w5.cell? ⟨w.heap.size, 1, none⟩ = some (.int .i64 0) := by rw [cell_of_row _ _ _ _ _ _ r9]; rfl
  have f1 := frozen_of_row w5 w.heap.size 1 _ _ r9
  have c2 : w5.cell? ⟨w.heap.size, 2, none⟩ = some (.int .i64 0) := by rw [cell_of_row _ _ _ _ _ _ r9]; rfl
  have f2 := frozen_of_row w5 w.heap.size 2 _ _ r9
  have c3 : w5.cell? ⟨w.heap.size, 3, none⟩ = some (.int .i64 0) := by rw [cell_of_row _ _ _ _ _ _ r9]; rfl
  have f3 := frozen_of_row w5 w.heap.size 3 _ _ r9
  have c4 : w5.cell? ⟨w.heap.size, 4, none⟩ = some (.int .i64 0) := by rw [cell_of_row _ _ _ _ _ _ r9]; rfl
  have f4 := frozen_of_row w5 w.heap.size 4 _ _ r9
  have c5 : w5.cell? ⟨w.heap.size, 5, none⟩ = some (.int .i64 0) := by rw [cell_of_row _ _ _ _ _ _ r9]; rfl
  have f5 := frozen_of_row w5 w.heap.size 5 _ _ r9
  have c6 : w5.cell? ⟨w.heap.size, 6, none⟩ = some (.string ⟨#[]⟩) := by rw [cell_of_row _ _ _ _ _ _ r9]; rfl
  have f6 := frozen_of_row w5 w.heap.size 6 _ _ r9
  have c7 : w5.cell? ⟨w.heap.size, 7, none⟩ = some (.string ⟨#[]⟩) := by rw [cell_of_row _ _ _ _ _ _ r9]; rfl
  have f7 := frozen_of_row w5 w.heap.size 7 _ _ r9
  clear r9
  go_wp2_with fail
  (try simp only [Exit.inBlock, Exit.then])
  refine bodyPost_ret (v := .tuple #[RVal 0 0 0 0 0 0 ⟨#[]⟩ ⟨#[]⟩, .string ⟨#[]⟩, .bool false]) ?_ rfl ⟨rfl, ?_⟩
  · rw [results_cell_tmp2 rfl]
    go_simp
  · exact set8 B9.out _ _ _ _ _ _ _ _
set_option maxRecDepth 100000 in
set_option maxHeartbeats 12800000 in
theorem rtake_bad3 (s A B N L : ByteArray) (h : 29 ≤ s.size)
    (hu : ∀ (gw : Nat) (w : World), w.heap[gw]? = some (.cells WC 3 (0, 0)) → Calls Tryd.prog 44 #[.slice (some ⟨gw, 0, none⟩) 6 6, .string (s.extract 0 29)] w fun e w' => (∃ v, e = .returned (.tuple #[v, .int .i64 0])) ∧ Below w.heap.size w w')
    (h1 : ∀ w, Calls Tryd.prog 45 #[.string (s.extract 29 s.size)] w fun e w' => e = .returned (.tuple #[.string A, .string B, .int .i64 0]) ∧ Below w.heap.size w w')
    (h2 : ∀ w, Calls Tryd.prog 45 #[.string B] w fun e w' => e = .returned (.tuple #[.string N, .string L, .int .i64 3]) ∧ Below w.heap.size w w')
    (w : World) : Calls Tryd.prog 19 #[.string s] w fun e w' => e = .returned (TBadR) ∧ Below w.heap.size w w' := by
  have HU := Lib.hid hu
  have H1 := Lib.hid h1
  have H2 := Lib.hid h2
  have hs : ¬ (s.size : Int) < 29 := by omega
  have hs2 : (29 : Int) ≤ (s.size : Int) := by omega
  clear h hu h1 h2
  go_enter Tryd.func19, Tryd.ntmps19
  go_upto_region 3 with (fail)
  obtain ⟨W1, hW1⟩ : ∃ W1, W1 = w.alloc (.cells ZC 23) := ⟨_, rfl⟩
  have e9 : w.alloc (.cells #[.int .i64 0, .int .i64 0, .int .i64 0, .int .i64 0, .int .i64 0, .int .i64 0, .string ⟨#[]⟩, .string ⟨#[]⟩] 23) = W1 := hW1.symm
  rw [e9]
  have R1 : Hid (W1.heap[w.heap.size]? = some (.cells ZC 23 (0, 0))) := Lib.hid (by rw [hW1]; exact heap_alloc_new w _)
  have B1 : Hid (Below w.heap.size w W1) := Lib.hid (by rw [hW1]; exact bnew w _)
  have Z1 : Hid (w.heap.size < W1.heap.size) := Lib.hid (by rw [hW1]; simp)
  clear hW1 e9
  have b2 := bnew W1 (.cells WC 3)
  have HU3 := Lib.hid (HU.out W1.heap.size (W1.alloc (.cells WC 3)) (heap_alloc_new W1 _))
  obtain ⟨w3, hw3⟩ : ∃ w3, w3 = W1.alloc (.cells WC 3) := ⟨_, rfl⟩
  rw [← hw3] at b2
  have R3 : Hid (w3.heap[w.heap.size]? = some (.cells ZC 23 (0, 0))) := Lib.hid ((b2.block _ Z1.out).trans R1.out)
  have B3 : Hid (Below w.heap.size w w3) := Lib.hid (bthen B1.out b2)
  have Z3 : Hid (w.heap.size < w3.heap.size) := Lib.hid (Nat.lt_of_lt_of_le Z1.out b2.size)
  clear b2 R1 B1 Z1
  go_wp2_with fail
  refine HU3.out.mono ?_
  rintro e4 w4 ⟨⟨v, rfl⟩, hb4⟩
  rw [← hw3] at hb4
  have R4 : Hid (w4.heap[w.heap.size]? = some (.cells ZC 23 (0, 0))) := Lib.hid ((hb4.block _ Z3.out).trans R3.out)
  have B4 : Hid (Below w.heap.size w w4) := Lib.hid (bthen B3.out hb4)
  have Z4 : Hid (w.heap.size < w4.heap.size) := Lib.hid (Nat.lt_of_lt_of_le Z3.out hb4.size)
  clear hb4 hw3 R3 B3 Z3 HU3 HU
  go_wp2_with fail
  refine (H1.out _).mono ?_
  rintro e5 w5 ⟨rfl, hb5⟩
  have R5 : Hid (w5.heap[w.heap.size]? = some (.cells ZC 23 (0, 0))) := Lib.hid ((hb5.block _ Z4.out).trans R4.out)
  have B5 : Hid (Below w.heap.size w w5) := Lib.hid (bthen B4.out hb5)
  have Z5 : Hid (w.heap.size < w5.heap.size) := Lib.hid (Nat.lt_of_lt_of_le Z4.out hb5.size)
  clear hb5 R4 B4 Z4
  go_wp2_with fail
  refine (H2.out _).mono ?_
  rintro e6 w6 ⟨rfl, hb6⟩
  have R6 : Hid (w6.heap[w.heap.size]? = some (.cells ZC 23 (0, 0))) := Lib.hid ((hb6.block _ Z5.out).trans R5.out)
  have B6 : Hid (Below w.heap.size w w6) := Lib.hid (bthen B5.out hb6)
  have Z6 : Hid (w.heap.size < w6.heap.size) := Lib.hid (Nat.lt_of_lt_of_le Z5.out hb6.size)
  clear hb6 R5 B5 Z5
  have B9 := B6
  have RZ9 := R6
  clear B6 R6 Z6
  have r9 := RZ9.out
  have c0 : w6.cell? ⟨w.heap.size, 0, none⟩ = some (.int .i64 0) := by rw [cell_of_row _ _ _ _ _ _ r9]; rfl
  have f0 := frozen_of_row w6 w.heap.size 0 _ _ r9
  have c1 : w6.cell? ⟨w.heap.size, 1, none⟩ = some (.int .i64 0) := by rw [cell_of_row _ _ _ _ _ _ r9]; rfl
  have f1 := frozen_of_row w6 w.heap.size 1 _ _ r9
  have c2 : w6.cell? ⟨w.heap.size, 2, none⟩ = some (.int .i64 0) := by rw [cell_of_row _ _ _ _ _ _ r9]; rfl
  have f2 := frozen_of_row w6 w.heap.size 2 _ _ r9
  have c3 : w6.cell? ⟨w.heap.size, 3, none⟩ = some (.int .i64 0) := by rw [cell_of_row _ _ _ _ _ _ r9]; rfl
  have f3 := frozen_of_row w6 w.heap.size 3 _ _ r9
  have c4 : w6.cell? ⟨w.heap.size, 4, none⟩ = some (.int .i64 0) := by rw [cell_of_row _ _ _ _ _ _ r9]; rfl
  have f4 := frozen_of_row w6 w.heap.size 4 _ _ r9
  have c5 : w6.cell? ⟨w.heap.size, 5, none⟩ = some (.int .i64 0) := by rw [cell_of_row _ _ _ _ _ _ r9]; rfl
  have f5 := frozen_of_row w6 w.heap.size 5 _ _ r9
  have c6 : w6.cell? ⟨w.heap.size, 6, none⟩ = some (.string ⟨#[]⟩) := by rw [cell_of_row _ _ _ _ _ _ r9]; rfl
  have f6 := frozen_of_row w6 w.heap.size 6 _ _ r9
  have c7 : w6.cell? ⟨w.heap.size, 7, none⟩ = some (.string ⟨#[]⟩) := by rw [cell_of_row _ _ _ _ _ _ r9]; rfl
  have f7 := frozen_of_row w6 w.heap.size 7 _ _ r9
  clear r9
  go_wp2_with fail
  (try simp only [Exit.inBlock, Exit.then])
  refine bodyPost_ret (v := .tuple #[RVal 0 0 0 0 0 0 ⟨#[]⟩ ⟨#[]⟩, .string ⟨#[]⟩, .bool false]) ?_ rfl ⟨rfl, ?_⟩
  · rw [results_cell_tmp2 rfl]
    go_simp
  · exact set8 B9.out _ _ _ _ _ _ _ _
set_option maxRecDepth 100000 in
set_option maxHeartbeats 12800000 in
theorem rtake_no (s A B N L : ByteArray) (n1 n2 n3 n4 n5 n6 : Nat) (h : 29 ≤ s.size)
    (hu : ∀ (gw : Nat) (w : World), w.heap[gw]? = some (.cells WC 3 (0, 0)) → Calls Tryd.prog 44 #[.slice (some ⟨gw, 0, none⟩) 6 6, .string (s.extract 0 29)] w fun e w' => (∃ gl cap, e = .returned (.tuple #[.slice (some ⟨gl, 0, none⟩) 6 cap, .int .i64 0]) ∧ gl < w'.heap.size ∧ K6 gl n1 n2 n3 n4 n5 n6 w') ∧ Below w.heap.size w w')
    (h1 : ∀ w, Calls Tryd.prog 45 #[.string (s.extract 29 s.size)] w fun e w' => e = .returned (.tuple #[.string A, .string B, .int .i64 0]) ∧ Below w.heap.size w w')
    (h2 : ∀ w, Calls Tryd.prog 45 #[.string B] w fun e w' => e = .returned (.tuple #[.string N, .string L, .int .i64 0]) ∧ Below w.heap.size w w')
    (h3 : ∀ w, Calls Tryd.prog 34 #[RVal n1 n2 n3 n4 n5 n6 A N] w fun e w' => e = .returned (.bool false) ∧ Below w.heap.size w w')
    (w : World) : Calls Tryd.prog 19 #[.string s] w fun e w' => e = .returned (TBadR) ∧ Below w.heap.size w w' := by
  have HU := Lib.hid hu
  have H1 := Lib.hid h1
  have H2 := Lib.hid h2
  have H3 := Lib.hid h3
  have hs : ¬ (s.size : Int) < 29 := by omega
  have hs2 : (29 : Int) ≤ (s.size : Int) := by omega
  clear h hu h1 h2 h3
  go_enter Tryd.func19, Tryd.ntmps19
  go_upto_region 3 with (fail)
  obtain ⟨W1, hW1⟩ : ∃ W1, W1 = w.alloc (.cells ZC 23) := ⟨_, rfl⟩
  have e9 : w.alloc (.cells #[.int .i64 0, .int .i64 0, .int .i64 0, .int .i64 0, .int .i64 0, .int .i64 0, .string ⟨#[]⟩, .string ⟨#[]⟩] 23) = W1 := hW1.symm
  rw [e9]
  have R1 : Hid (W1.heap[w.heap.size]? = some (.cells ZC 23 (0, 0))) := Lib.hid (by rw [hW1]; exact heap_alloc_new w _)
  have B1 : Hid (Below w.heap.size w W1) := Lib.hid (by rw [hW1]; exact bnew w _)
  have Z1 : Hid (w.heap.size < W1.heap.size) := Lib.hid (by rw [hW1]; simp)
  clear hW1 e9
  have b2 := bnew W1 (.cells WC 3)
  have HU3 := Lib.hid (HU.out W1.heap.size (W1.alloc (.cells WC 3)) (heap_alloc_new W1 _))
  obtain ⟨w3, hw3⟩ : ∃ w3, w3 = W1.alloc (.cells WC 3) := ⟨_, rfl⟩
  rw [← hw3] at b2
  have R3 : Hid (w3.heap[w.heap.size]? = some (.cells ZC 23 (0, 0))) := Lib.hid ((b2.block _ Z1.out).trans R1.out)
  have B3 : Hid (Below w.heap.size w w3) := Lib.hid (bthen B1.out b2)
  have Z3 : Hid (w.heap.size < w3.heap.size) := Lib.hid (Nat.lt_of_lt_of_le Z1.out b2.size)
  clear b2 R1 B1 Z1
  go_wp2_with fail
  refine HU3.out.mono ?_
  rintro e4 w4 ⟨⟨gl, cap, rfl, hg4, hk4⟩, hb4⟩
  rw [← hw3] at hb4
  have R4 : Hid (w4.heap[w.heap.size]? = some (.cells ZC 23 (0, 0))) := Lib.hid ((hb4.block _ Z3.out).trans R3.out)
  have B4 : Hid (Below w.heap.size w w4) := Lib.hid (bthen B3.out hb4)
  have Z4 : Hid (w.heap.size < w4.heap.size) := Lib.hid (Nat.lt_of_lt_of_le Z3.out hb4.size)
  have KK4 := Lib.hid hk4
  clear hb4 hw3 R3 B3 Z3 HU3 HU hk4
  go_wp2_with fail
  refine (H1.out _).mono ?_
  rintro e5 w5 ⟨rfl, hb5⟩
  have R5 : Hid (w5.heap[w.heap.size]? = some (.cells ZC 23 (0, 0))) := Lib.hid ((hb5.block _ Z4.out).trans R4.out)
  have B5 : Hid (Below w.heap.size w w5) := Lib.hid (bthen B4.out hb5)
  have Z5 : Hid (w.heap.size < w5.heap.size) := Lib.hid (Nat.lt_of_lt_of_le Z4.out hb5.size)
  have KK5 := Lib.hid (k6_below KK4.out hb5 hg4)
  have hg5 : gl < w5.heap.size := Nat.lt_of_lt_of_le hg4 hb5.size
  clear hb5 R4 B4 Z4 KK4 hg4
  go_wp2_with fail
  refine (H2.out _).mono ?_
  rintro e6 w6 ⟨rfl, hb6⟩
  have R6 : Hid (w6.heap[w.heap.size]? = some (.cells ZC 23 (0, 0))) := Lib.hid ((hb6.block _ Z5.out).trans R5.out)
  have B6 : Hid (Below w.heap.size w w6) := Lib.hid (bthen B5.out hb6)
  have Z6 : Hid (w.heap.size < w6.heap.size) := Lib.hid (Nat.lt_of_lt_of_le Z5.out hb6.size)
  have KK6 := Lib.hid (k6_below KK5.out hb6 hg5)
  have hg6 : gl < w6.heap.size := Nat.lt_of_lt_of_le hg5 hb6.size
  clear hb6 R5 B5 Z5 KK5 hg5
  go_wp2_with fail
  have hK : PK (K6 gl n1 n2 n3 n4 n5 n6) w6.drew (w6.alloc (.cells ZC 23)).drew true (w6.alloc (.cells ZC 23)).drew := ⟨k6_below KK6.out (bnew w6 _).drew hg6, rfl⟩
  have HK := Lib.hid hK
  clear hK
  refine wp_region_front (by kernel_rfl) ?_
  refine front_chunk 22 21 (PK (K6 gl n1 n2 n3 n4 n5 n6) w6.drew (w6.alloc (.cells ZC 23)).drew) (by kernel_rfl) (by decide) ⟨KK6.out, rfl⟩ ?_
  simp only [List.drop_zero, List.take_succ_cons, List.take_zero]
  repeat (first
    | (refine textP_skip (by rfl) (by decide) ?_; simp only [Act.put, List.setIfInBounds_toArray, List.set_cons_zero, List.set_cons_succ])
    | (refine textP_known (v := ?_) (by rfl) (by decide) (fun wx hS => ?_) ?_; rotate_left; ((try dsimp only at hS); go_simp; with_reducible exact rfl); simp only [Act.put, List.setIfInBounds_toArray, List.set_cons_zero, List.set_cons_succ])
    | (refine textP_make (v := ?_) (by rfl) (by rfl) (fun wx hS => ?_) ?_; rotate_left; (replace hS := hS.2; subst hS; refine ⟨_, ?_, HK.out⟩; go_simp; with_reducible exact rfl); simp only [Act.put, List.setIfInBounds_toArray, List.set_cons_zero, List.set_cons_succ])
    | (refine textP_late (v := ?_) (by rfl) (by rfl) (fun wx hS => ?_) ?_; rotate_left; (replace hS := hS.2; subst hS; go_simp; with_reducible exact rfl); simp only [Act.put, List.setIfInBounds_toArray, List.set_cons_zero, List.set_cons_succ]))
  refine textP_nil (fun wx hS => ?_)
  replace hS := hS.2
  subst hS
  refine front_tail (by kernel_rfl) (by decide) ?_
  simp only [List.drop_succ_cons, List.drop_zero]
  go_upto_region 11 with (fail)
  obtain ⟨w7, hw7⟩ : ∃ w7, w7 = (w6.alloc (.cells (RC n1 n2 n3 n4 n5 n6 A N) 23)).drew := ⟨_, rfl⟩
  have e77 : (w6.alloc (.cells #[.int .i64 (n1 : Int), .int .i64 (n2 : Int), .int .i64 (n3 : Int), .int .i64 (n4 : Int), .int .i64 (n5 : Int), .int .i64 (n6 : Int), .string A, .string N] 23)).drew = w7 := hw7.symm
  rw [e77]
  have q7 : w7.heap[w6.heap.size]? = some (.cells (RC n1 n2 n3 n4 n5 n6 A N) 23 (0, 0)) := by rw [hw7]; exact heap_alloc_new w6 _
  have hb7 : Below w6.heap.size w6 w7 := by rw [hw7]; exact (bnew w6 _).drew
  have R7 : Hid (w7.heap[w.heap.size]? = some (.cells ZC 23 (0, 0))) := Lib.hid ((hb7.block _ Z6.out).trans R6.out)
  have B7 : Hid (Below w.heap.size w w7) := Lib.hid (bthen B6.out hb7)
  have Z7 : Hid (w.heap.size < w7.heap.size) := Lib.hid (Nat.lt_of_lt_of_le Z6.out hb7.size)
  have hy7 : w6.heap.size < w7.heap.size := by rw [hw7]; simp
  have Q7 := Lib.hid q7
  obtain ⟨a0, a1, a2, a3, a4, a5⟩ := k6_row q7
  have a6 : w7.cell? ⟨w6.heap.size, 6, none⟩ = some (.string A) := by rw [cell_of_row _ _ _ _ _ _ q7]; rfl
  have a7 : w7.cell? ⟨w6.heap.size, 7, none⟩ = some (.string N) := by rw [cell_of_row _ _ _ _ _ _ q7]; rfl
  clear hw7 e77 q7 hb7 R6 B6 Z6 HK KK6 hg6
  go_wp2_with fail
  refine (H3.out _).mono ?_
  rintro e8 w8 ⟨rfl, hb8⟩
  have R8 : Hid (w8.heap[w.heap.size]? = some (.cells ZC 23 (0, 0))) := Lib.hid ((hb8.block _ Z7.out).trans R7.out)
  have B8 : Hid (Below w.heap.size w w8) := Lib.hid (bthen B7.out hb8)
  have Z8 : Hid (w.heap.size < w8.heap.size) := Lib.hid (Nat.lt_of_lt_of_le Z7.out hb8.size)
  have B9 := B8
  have RZ9 := R8
  clear hb8 R7 B7 Z7 B8 R8 Z8 Q7 hy7 a0 a1 a2 a3 a4 a5 a6 a7
  have r9 := RZ9.out
  have c0 : w8.cell? ⟨w.heap.size, 0, none⟩ = some (.int .i64 0) := by rw [cell_of_row _ _ _ _ _ _ r9]; rfl
  have f0 := frozen_of_row w8 w.heap.size 0 _ _ r9
  have c1 : w8.cell? ⟨w.heap.size, 1, none⟩ = some (.int .i64 0) := by rw [cell_of_row _ _ _ _ _ _ r9]; rfl
  have f1 := frozen_of_row w8 w.heap.size 1 _ _ r9
  have c2 : w8.cell? ⟨w.heap.size, 2, none⟩ = some (.int .i64 0) := by rw [cell_of_row _ _ _ _ _ _ r9]; rfl
  have f2 := frozen_of_row w8 w.heap.size 2 _ _ r9
  have c3 : w8.cell? ⟨w.heap.size, 3, none⟩ = some (.int .i64 0) := by rw [cell_of_row _ _ _ _ _ _ r9]; rfl
  have f3 := frozen_of_row w8 w.heap.size 3 _ _ r9
  have c4 : w8.cell? ⟨w.heap.size, 4, none⟩ = some (.int .i64 0) := by rw [cell_of_row _ _ _ _ _ _ r9]; rfl
  have f4 := frozen_of_row w8 w.heap.size 4 _ _ r9
  have c5 : w8.cell? ⟨w.heap.size, 5, none⟩ = some (.int .i64 0) := by rw [cell_of_row _ _ _ _ _ _ r9]; rfl
  have f5 := frozen_of_row w8 w.heap.size 5 _ _ r9
  have c6 : w8.cell? ⟨w.heap.size, 6, none⟩ = some (.string ⟨#[]⟩) := by rw [cell_of_row _ _ _ _ _ _ r9]; rfl
  have f6 := frozen_of_row w8 w.heap.size 6 _ _ r9
  have c7 : w8.cell? ⟨w.heap.size, 7, none⟩ = some (.string ⟨#[]⟩) := by rw [cell_of_row _ _ _ _ _ _ r9]; rfl
  have f7 := frozen_of_row w8 w.heap.size 7 _ _ r9
  clear r9
  go_wp2_with fail
  (try simp only [Exit.inBlock, Exit.then])
  refine bodyPost_ret (v := .tuple #[RVal 0 0 0 0 0 0 ⟨#[]⟩ ⟨#[]⟩, .string ⟨#[]⟩, .bool false]) ?_ rfl ⟨rfl, ?_⟩
  · rw [results_cell_tmp2 rfl]
    go_simp
  · exact set8 B9.out _ _ _ _ _ _ _ _
set_option maxRecDepth 100000 in
set_option maxHeartbeats 12800000 in
theorem rtake_yes (s A B N L : ByteArray) (n1 n2 n3 n4 n5 n6 : Nat) (h : 29 ≤ s.size)
    (hu : ∀ (gw : Nat) (w : World), w.heap[gw]? = some (.cells WC 3 (0, 0)) → Calls Tryd.prog 44 #[.slice (some ⟨gw, 0, none⟩) 6 6, .string (s.extract 0 29)] w fun e w' => (∃ gl cap, e = .returned (.tuple #[.slice (some ⟨gl, 0, none⟩) 6 cap, .int .i64 0]) ∧ gl < w'.heap.size ∧ K6 gl n1 n2 n3 n4 n5 n6 w') ∧ Below w.heap.size w w')
    (h1 : ∀ w, Calls Tryd.prog 45 #[.string (s.extract 29 s.size)] w fun e w' => e = .returned (.tuple #[.string A, .string B, .int .i64 0]) ∧ Below w.heap.size w w')
    (h2 : ∀ w, Calls Tryd.prog 45 #[.string B] w fun e w' => e = .returned (.tuple #[.string N, .string L, .int .i64 0]) ∧ Below w.heap.size w w')
    (h3 : ∀ w, Calls Tryd.prog 34 #[RVal n1 n2 n3 n4 n5 n6 A N] w fun e w' => e = .returned (.bool true) ∧ Below w.heap.size w w')
    (w : World) : Calls Tryd.prog 19 #[.string s] w fun e w' => e = .returned (.tuple #[RVal n1 n2 n3 n4 n5 n6 A N, .string L, .bool true]) ∧ Below w.heap.size w w' := by
  have HU := Lib.hid hu
  have H1 := Lib.hid h1
  have H2 := Lib.hid h2
  have H3 := Lib.hid h3
  have hs : ¬ (s.size : Int) < 29 := by omega
  have hs2 : (29 : Int) ≤ (s.size : Int) := by omega
  clear h hu h1 h2 h3
  go_enter Tryd.func19, Tryd.ntmps19
  go_upto_region 3 with (fail)
  obtain ⟨W1, hW1⟩ : ∃ W1, W1 = w.alloc (.cells ZC 23) := ⟨_, rfl⟩
  have e9 : w.alloc (.cells #[.int .i64 0, .int .i64 0, .int .i64 0, .int .i64 0, .int .i64 0, .int .i64 0, .string ⟨#[]⟩, .string ⟨#[]⟩] 23) = W1 := hW1.symm
  rw [e9]
  have R1 : Hid (W1.heap[w.heap.size]? = some (.cells ZC 23 (0, 0))) := Lib.hid (by rw [hW1]; exact heap_alloc_new w _)
  have B1 : Hid (Below w.heap.size w W1) := Lib.hid (by rw [hW1]; exact bnew w _)
  have Z1 : Hid (w.heap.size < W1.heap.size) := Lib.hid (by rw [hW1]; simp)
  clear hW1 e9
  have b2 := bnew W1 (.cells WC 3)
  have HU3 := Lib.hid (HU.out W1.heap.size (W1.alloc (.cells WC 3)) (heap_alloc_new W1 _))
  obtain ⟨w3, hw3⟩ : ∃ w3, w3 = W1.alloc (.cells WC 3) := ⟨_, rfl⟩
  rw [← hw3] at b2
  have R3 : Hid (w3.heap[w.heap.size]? = some (.cells ZC 23 (0, 0))) := Lib.hid ((b2.block _ Z1.out).trans R1.out)
  have B3 : Hid (Below w.heap.size w w3) := Lib.hid (bthen B1.out b2)
  have Z3 : Hid (w.heap.size < w3.heap.size) := Lib.hid (Nat.lt_of_lt_of_le Z1.out b2.size)
  clear b2 R1 B1 Z1
  go_wp2_with fail
  refine HU3.out.mono ?_
  rintro e4 w4 ⟨⟨gl, cap, rfl, hg4, hk4⟩, hb4⟩
  rw [← hw3] at hb4
  have R4 : Hid (w4.heap[w.heap.size]? = some (.cells ZC 23 (0, 0))) := Lib.hid ((hb4.block _ Z3.out).trans R3.out)
  have B4 : Hid (Below w.heap.size w w4) := Lib.hid (bthen B3.out hb4)
  have Z4 : Hid (w.heap.size < w4.heap.size) := Lib.hid (Nat.lt_of_lt_of_le Z3.out hb4.size)
  have KK4 := Lib.hid hk4
  clear hb4 hw3 R3 B3 Z3 HU3 HU hk4
  go_wp2_with fail
  refine (H1.out _).mono ?_
  rintro e5 w5 ⟨rfl, hb5⟩
  have R5 : Hid (w5.heap[w.heap.size]? = some (.cells ZC 23 (0, 0))) := Lib.hid ((hb5.block _ Z4.out).trans R4.out)
  have B5 : Hid (Below w.heap.size w w5) := Lib.hid (bthen B4.out hb5)
  have Z5 : Hid (w.heap.size < w5.heap.size) := Lib.hid (Nat.lt_of_lt_of_le Z4.out hb5.size)
  have KK5 := Lib.hid (k6_below KK4.out hb5 hg4)
  have hg5 : gl < w5.heap.size := Nat.lt_of_lt_of_le hg4 hb5.size
  clear hb5 R4 B4 Z4 KK4 hg4
  go_wp2_with fail
  refine (H2.out _).mono ?_
  rintro e6 w6 ⟨rfl, hb6⟩
  have R6 : Hid (w6.heap[w.heap.size]? = some (.cells ZC 23 (0, 0))) := Lib.hid ((hb6.block _ Z5.out).trans R5.out)
  have B6 : Hid (Below w.heap.size w w6) := Lib.hid (bthen B5.out hb6)
  have Z6 : Hid (w.heap.size < w6.heap.size) := Lib.hid (Nat.lt_of_lt_of_le Z5.out hb6.size)
  have KK6 := Lib.hid (k6_below KK5.out hb6 hg5)
  have hg6 : gl < w6.heap.size := Nat.lt_of_lt_of_le hg5 hb6.size
  clear hb6 R5 B5 Z5 KK5 hg5
  go_wp2_with fail
  have hK : PK (K6 gl n1 n2 n3 n4 n5 n6) w6.drew (w6.alloc (.cells ZC 23)).drew true (w6.alloc (.cells ZC 23)).drew := ⟨k6_below KK6.out (bnew w6 _).drew hg6, rfl⟩
  have HK := Lib.hid hK
  clear hK
  refine wp_region_front (by kernel_rfl) ?_
  refine front_chunk 22 21 (PK (K6 gl n1 n2 n3 n4 n5 n6) w6.drew (w6.alloc (.cells ZC 23)).drew) (by kernel_rfl) (by decide) ⟨KK6.out, rfl⟩ ?_
  simp only [List.drop_zero, List.take_succ_cons, List.take_zero]
  repeat (first
    | (refine textP_skip (by rfl) (by decide) ?_; simp only [Act.put, List.setIfInBounds_toArray, List.set_cons_zero, List.set_cons_succ])
    | (refine textP_known (v := ?_) (by rfl) (by decide) (fun wx hS => ?_) ?_; rotate_left; ((try dsimp only at hS); go_simp; with_reducible exact rfl); simp only [Act.put, List.setIfInBounds_toArray, List.set_cons_zero, List.set_cons_succ])
    | (refine textP_make (v := ?_) (by rfl) (by rfl) (fun wx hS => ?_) ?_; rotate_left; (replace hS := hS.2; subst hS; refine ⟨_, ?_, HK.out⟩; go_simp; with_reducible exact rfl); simp only [Act.put, List.setIfInBounds_toArray, List.set_cons_zero, List.set_cons_succ])
    | (refine textP_late (v := ?_) (by rfl) (by rfl) (fun wx hS => ?_) ?_; rotate_left; (replace hS := hS.2; subst hS; go_simp; with_reducible exact rfl); simp only [Act.put, List.setIfInBounds_toArray, List.set_cons_zero, List.set_cons_succ]))
  refine textP_nil (fun wx hS => ?_)
  replace hS := hS.2
  subst hS
  refine front_tail (by kernel_rfl) (by decide) ?_
  simp only [List.drop_succ_cons, List.drop_zero]
  go_upto_region 11 with (fail)
  obtain ⟨w7, hw7⟩ : ∃ w7, w7 = (w6.alloc (.cells (RC n1 n2 n3 n4 n5 n6 A N) 23)).drew := ⟨_, rfl⟩
  have e77 : (w6.alloc (.cells #[.int .i64 (n1 : Int), .int .i64 (n2 : Int), .int .i64 (n3 : Int), .int .i64 (n4 : Int), .int .i64 (n5 : Int), .int .i64 (n6 : Int), .string A, .string N] 23)).drew = w7 := hw7.symm
  rw [e77]
  have q7 : w7.heap[w6.heap.size]? = some (.cells (RC n1 n2 n3 n4 n5 n6 A N) 23 (0, 0)) := by rw [hw7]; exact heap_alloc_new w6 _
  have hb7 : Below w6.heap.size w6 w7 := by rw [hw7]; exact (bnew w6 _).drew
  have R7 : Hid (w7.heap[w.heap.size]? = some (.cells ZC 23 (0, 0))) := Lib.hid ((hb7.block _ Z6.out).trans R6.out)
  have B7 : Hid (Below w.heap.size w w7) := Lib.hid (bthen B6.out hb7)
  have Z7 : Hid (w.heap.size < w7.heap.size) := Lib.hid (Nat.lt_of_lt_of_le Z6.out hb7.size)
  have hy7 : w6.heap.size < w7.heap.size := by rw [hw7]; simp
  have Q7 := Lib.hid q7
  obtain ⟨a0, a1, a2, a3, a4, a5⟩ := k6_row q7
  have a6 : w7.cell? ⟨w6.heap.size, 6, none⟩ = some (.string A) := by rw [cell_of_row _ _ _ _ _ _ q7]; rfl
  have a7 : w7.cell? ⟨w6.heap.size, 7, none⟩ = some (.string N) := by rw [cell_of_row _ _ _ _ _ _ q7]; rfl
  clear hw7 e77 q7 hb7 R6 B6 Z6 HK KK6 hg6
  go_wp2_with fail
  refine (H3.out _).mono ?_
  rintro e8 w8 ⟨rfl, hb8⟩
  have R8 : Hid (w8.heap[w.heap.size]? = some (.cells ZC 23 (0, 0))) := Lib.hid ((hb8.block _ Z7.out).trans R7.out)
  have B8 : Hid (Below w.heap.size w w8) := Lib.hid (bthen B7.out hb8)
  have Z8 : Hid (w.heap.size < w8.heap.size) := Lib.hid (Nat.lt_of_lt_of_le Z7.out hb8.size)
  have q8 := (hb8.block _ hy7).trans Q7.out
  clear a0 a1 a2 a3 a4 a5 a6 a7
  obtain ⟨a0, a1, a2, a3, a4, a5⟩ := k6_row q8
  have a6 : w8.cell? ⟨w6.heap.size, 6, none⟩ = some (.string A) := by rw [cell_of_row _ _ _ _ _ _ q8]; rfl
  have a7 : w8.cell? ⟨w6.heap.size, 7, none⟩ = some (.string N) := by rw [cell_of_row _ _ _ _ _ _ q8]; rfl
  have B9 := B8
  have RZ9 := R8
  clear hb8 R7 B7 Z7 B8 R8 Z8 Q7 q8 hy7
  have r9 := RZ9.out
  have c0 : w8.cell? ⟨w.heap.size, 0, none⟩ = some (.int .i64 0) := by rw [cell_of_row _ _ _ _ _ _ r9]; rfl
  have f0 := frozen_of_row w8 w.heap.size 0 _ _ r9
  have c1 : w8.cell? ⟨w.heap.size, 1, none⟩ = some (.int .i64 0) := by rw [cell_of_row _ _ _ _ _ _ r9]; rfl
  have f1 := frozen_of_row w8 w.heap.size 1 _ _ r9
  have c2 : w8.cell? ⟨w.heap.size, 2, none⟩ = some (.int .i64 0) := by rw [cell_of_row _ _ _ _ _ _ r9]; rfl
  have f2 := frozen_of_row w8 w.heap.size 2 _ _ r9
  have c3 : w8.cell? ⟨w.heap.size, 3, none⟩ = some (.int .i64 0) := by rw [cell_of_row _ _ _ _ _ _ r9]; rfl
  have f3 := frozen_of_row w8 w.heap.size 3 _ _ r9
  have c4 : w8.cell? ⟨w.heap.size, 4, none⟩ = some (.int .i64 0) := by rw [cell_of_row _ _ _ _ _ _ r9]; rfl
  have f4 := frozen_of_row w8 w.heap.size 4 _ _ r9
  have c5 : w8.cell? ⟨w.heap.size, 5, none⟩ = some (.int .i64 0) := by rw [cell_of_row _ _ _ _ _ _ r9]; rfl
  have f5 := frozen_of_row w8 w.heap.size 5 _ _ r9
  have c6 : w8.cell? ⟨w.heap.size, 6, none⟩ = some (.string ⟨#[]⟩) := by rw [cell_of_row _ _ _ _ _ _ r9]; rfl
  have f6 := frozen_of_row w8 w.heap.size 6 _ _ r9
  have c7 : w8.cell? ⟨w.heap.size, 7, none⟩ = some (.string ⟨#[]⟩) := by rw [cell_of_row _ _ _ _ _ _ r9]; rfl
  have f7 := frozen_of_row w8 w.heap.size 7 _ _ r9
  clear r9
  go_wp2_with fail
  (try simp only [Exit.inBlock, Exit.then])
  refine bodyPost_ret (v := .tuple #[RVal n1 n2 n3 n4 n5 n6 A N, .string L, .bool true]) ?_ rfl ⟨rfl, ?_⟩
  · rw [results_cell_tmp2 rfl]
    go_simp
  · exact set8 B9.out _ _ _ _ _ _ _ _
end Go.Proofs.YtdpfcjhhabcheaaDoor

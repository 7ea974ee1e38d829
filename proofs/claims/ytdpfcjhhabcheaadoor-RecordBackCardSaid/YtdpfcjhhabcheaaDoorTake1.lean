/-
  record.Take, for each way that it may go (printed by a program of mine). No condition. Own work.
-/
import Derived.Test.YtdpfcjhhabcheaaDoorRUnp
import Derived.Test.YtdpfcjhhabcheaaDoorRecP
import Derived.Test.YtdpfcjhhabcheaaDoorRPut2
import Derived.Test.YtdpfcjhhabcheaaDoorFront5
import Derived.Laws.ResultCell
namespace Go.Proofs.YtdpfcjhhabcheaaDoor
open Go.RowKit

theorem results_cell_tmp2 {fn : Func} {p u x : Tmp} {ty : TypeId} (h : fn.results = #[.cell p ty, .tmp u, .tmp x]) (tmps : Array Value) (P : Program) (w : World) :
    (results fn tmps).run P w =
      ((asAddr (tmps.getD p undef)).run P w).andThen fun a w₁ => ((loadVar ty a).run P w₁).andThen fun v w₂ => .ok (.tuple #[v, tmps.getD u undef, tmps.getD x undef]) w₂ := by
  simp only [results, h]
  simp [Sem.run_bind, Result.andThen]
abbrev ZC : Array Value := #[.int .i64 0, .int .i64 0, .int .i64 0, .int .i64 0, .int .i64 0, .int .i64 0, .string ⟨#[]⟩, .string ⟨#[]⟩]
theorem wcell {w : World} {g : Nat} {T : TypeId} (h : w.heap[g]? = some (.cells WC T (0, 0))) : ∀ (j k : Nat), rW[j]? = some k → w.cell? ⟨g, j, none⟩ = some (.int .i64 (k : Int)) := fun j k hk => by
  refine (cell_of_row _ g j _ _ (0, 0) h).trans ?_
  match j with
  | 0 => simp at hk; subst hk; rfl
  | 1 => simp at hk; subst hk; rfl
  | 2 => simp at hk; subst hk; rfl
  | 3 => simp at hk; subst hk; rfl
  | 4 => simp at hk; subst hk; rfl
  | 5 => simp at hk; subst hk; rfl
  | j + 6 => simp at hk
theorem set8 {w w' : World} (h : Below w.heap.size w w') (v0 v1 v2 v3 v4 v5 v6 v7 : Value) :
    Below w.heap.size w ((((((((w'.setCell ⟨w.heap.size, 0, none⟩ v0).setCell ⟨w.heap.size, 1, none⟩ v1).setCell ⟨w.heap.size, 2, none⟩ v2).setCell ⟨w.heap.size, 3, none⟩ v3).setCell ⟨w.heap.size, 4, none⟩ v4).setCell ⟨w.heap.size, 5, none⟩ v5).setCell ⟨w.heap.size, 6, none⟩ v6).setCell ⟨w.heap.size, 7, none⟩ v7) :=
  (((((((h.setCell (Nat.le_refl _) _).setCell (Nat.le_refl _) _).setCell (Nat.le_refl _) _).setCell (Nat.le_refl _) _).setCell (Nat.le_refl _) _).setCell (Nat.le_refl _) _).setCell (Nat.le_refl _) _).setCell (Nat.le_refl _) _
abbrev TBad (i : Int) : Value := .tuple #[RVal 0 0 0 0 0 0 ⟨#[]⟩ ⟨#[]⟩, .string ⟨#[]⟩, .int .i64 i]
set_option maxRecDepth 100000 in
set_option maxHeartbeats 6400000 in
theorem take_short (s : ByteArray) (h : s.size < 29) (w : World) : Calls Tryd.prog 18 #[.string s] w fun e w' => e = .returned (TBad 3) ∧ Below w.heap.size w w' := by
  have HW := Lib.hid rwidths_any
  have hs : (s.size : Int) < 29 := by omega
  clear h
  go_enter Tryd.func18, Tryd.ntmps18
  go_upto_region 1 with (fail)
  obtain ⟨W1, hW1⟩ : ∃ W1, W1 = w.alloc (.cells ZC 23) := ⟨_, rfl⟩
  have r1 : W1.heap[w.heap.size]? = some (.cells ZC 23 (0, 0)) := by rw [hW1]; exact heap_alloc_new w _
  have b1 : Below w.heap.size w W1 := by rw [hW1]; exact bnew w _
  have z1 : w.heap.size < W1.heap.size := by rw [hW1]; simp
  have e9 : w.alloc (.cells #[.int .i64 0, .int .i64 0, .int .i64 0, .int .i64 0, .int .i64 0, .int .i64 0, .string ⟨#[]⟩, .string ⟨#[]⟩] 23) = W1 := hW1.symm
  rw [e9]
  have HW1 := Lib.hid (HW.out W1)
  clear hW1 e9
  go_wp2_with fail
  refine HW1.out.mono ?_
  rintro e1 w2 ⟨rfl, hw2⟩
  have r2 : w2.heap[W1.heap.size]? = some (.cells WC 3 (0, 0)) := by rw [← hw2]; exact heap_alloc_new W1 _
  have b2 : Below W1.heap.size W1 w2 := by rw [← hw2]; exact bnew W1 _
  have z2 : W1.heap.size < w2.heap.size := by rw [← hw2]; simp
  have R2 : Hid (w2.heap[w.heap.size]? = some (.cells ZC 23 (0, 0))) := Lib.hid ((b2.block _ z1).trans r1)
  have B2 : Hid (Below w.heap.size w w2) := Lib.hid (bthen b1 b2)
  have Z2 : Hid (w.heap.size < w2.heap.size) := Lib.hid (by omega)
  have HC := Lib.hid (wcell r2)
  clear r1 r2 b1 b2 z1 z2 hw2 HW1
  go_wp2_with fail
  go_loopw [5, 19] (fun a c wr => ∃ i : Nat, i ≤ 6 ∧ c = .int .i64 (i : Int) ∧ a = .int .i64 (((rW.take i).sum : Nat) : Int) ∧ w2 = wr) (fun _ c _ => 6 - (intOf c).toNat)
  case atStart => exact ⟨0, by omega, rfl, rfl, rfl⟩
  case round =>
  obtain ⟨i, hi, rfl, rfl, rfl⟩ := hrel
  by_cases hi6 : i < 6
  · have hii : (i : Int) < 6 := by omega
    obtain ⟨k, hk⟩ : ∃ k, rW[i]? = some k := ⟨rW[i]'hi6, List.getElem?_eq_getElem _⟩
    have c0 := HC.out i k hk
    have hsum := sum_take_succ rW i k hk
    have hle := sum_take_le rW (i + 1)
    have h29 : rW.sum = 29 := rfl
    obtain ⟨a, ha⟩ : ∃ a, a = (rW.take i).sum := ⟨_, rfl⟩
    rw [← ha] at hsum ⊢
    have hak : (a : Int) + (k : Int) = ((a + k : Nat) : Int) := by omega
    have haw : wrap64 ((a + k : Nat) : Int) = ((a + k : Nat) : Int) := by unfold wrap64; omega
    obtain ⟨m, hm⟩ : ∃ m, m = a + k := ⟨_, rfl⟩
    rw [← hm] at hak haw hsum
    have HSM := Lib.hid hsum
    clear hsum hle h29 hk ha hm
    go_wp2_with fail
    exact ⟨⟨i + 1, by omega, by go_num, by rw [HSM.out, haw], by first | rfl | trivial⟩, by simp [intOf]; omega⟩
  · have hi2 : i = 6 := by omega
    subst hi2
    have h29 : ((rW.take 6).sum : Nat) = 29 := rfl
    rw [h29]
    clear h29 hi6 hi HC
    have B9 := B2
    have RZ9 := R2
    clear B2 R2 Z2 HW
    have r9 := RZ9.out
    have c0 : w2.cell? ⟨w.heap.size, 0, none⟩ = some (.int .i64 0) := by rw [cell_of_row _ _ _ _ _ _ r9]; rfl
    have f0 := frozen_of_row w2 w.heap.size 0 _ _ r9
    have c1 : w2.cell? ⟨w.heap.size, 1, none⟩ = some (.int .i64 0) := by rw [cell_of_row _ _ _ _ _ _ r9]; rfl
    have f1 := frozen_of_row w2 w.heap.size 1 _ _ r9
    have c2 : w2.cell? ⟨w.heap.size, 2, none⟩ = some (.int .i64 0) := by rw [cell_of_row _ _ _ _ _ _ r9]; rfl
    have f2 := frozen_of_row w2 w.heap.size 2 _ _ r9
    have c3 : w2.cell? ⟨w.heap.size, 3, none⟩ = some (.int .i64 0) := by rw [cell_of_row _ _ _ _ _ _ r9]; rfl
    have f3 := frozen_of_row w2 w.heap.size 3 _ _ r9
    have c4 : w2.cell? ⟨w.heap.size, 4, none⟩ = some (.int .i64 0) := by rw [cell_of_row _ _ _ _ _ _ r9]; rfl
    have f4 := frozen_of_row w2 w.heap.size 4 _ _ r9
    have c5 : w2.cell? ⟨w.heap.size, 5, none⟩ = some (.int .i64 0) := by rw [cell_of_row _ _ _ _ _ _ r9]; rfl
    have f5 := frozen_of_row w2 w.heap.size 5 _ _ r9
    have c6 : w2.cell? ⟨w.heap.size, 6, none⟩ = some (.string ⟨#[]⟩) := by rw [cell_of_row _ _ _ _ _ _ r9]; rfl
    have f6 := frozen_of_row w2 w.heap.size 6 _ _ r9
    have c7 : w2.cell? ⟨w.heap.size, 7, none⟩ = some (.string ⟨#[]⟩) := by rw [cell_of_row _ _ _ _ _ _ r9]; rfl
    have f7 := frozen_of_row w2 w.heap.size 7 _ _ r9
    clear r9
    go_wp2_with fail
    (try simp only [Exit.inBlock, Exit.then])
    refine bodyPost_ret (v := .tuple #[RVal 0 0 0 0 0 0 ⟨#[]⟩ ⟨#[]⟩, .string ⟨#[]⟩, .int .i64 3]) ?_ rfl ⟨rfl, ?_⟩
    · rw [results_cell_tmp2 rfl]
      go_simp
    · exact set8 B9.out _ _ _ _ _ _ _ _
set_option maxRecDepth 100000 in
set_option maxHeartbeats 6400000 in
theorem take_bad1 (s A B N L : ByteArray) (f g : Int) (h : 29 ≤ s.size)
    (hu : ∀ (gw : Nat) (w : World), w.heap[gw]? = some (.cells WC 3 (0, 0)) → Calls Tryd.prog 42 #[.slice (some ⟨gw, 0, none⟩) 6 6, .string (s.extract 0 29)] w fun e w' => (∃ v, e = .returned (.tuple #[v, .int .i64 3])) ∧ Below w.heap.size w w')
    (h1 : ∀ w, Calls Tryd.prog 43 #[.string (s.extract 29 s.size)] w fun e w' => e = .returned (.tuple #[.string A, .string B, .int .i64 f]) ∧ Below w.heap.size w w')
    (h2 : ∀ w, Calls Tryd.prog 43 #[.string B] w fun e w' => e = .returned (.tuple #[.string N, .string L, .int .i64 g]) ∧ Below w.heap.size w w') (w : World) :
    Calls Tryd.prog 18 #[.string s] w fun e w' => e = .returned (TBad 3) ∧ Below w.heap.size w w' := by
  have HW := Lib.hid rwidths_any
  have HU := Lib.hid hu
  have H1 := Lib.hid h1
  have H2 := Lib.hid h2
  have hs : ¬ (s.size : Int) < 29 := by omega
  have hs2 : (29 : Int) ≤ (s.size : Int) := by omega
  clear h hu h1 h2
  go_enter Tryd.func18, Tryd.ntmps18
  go_upto_region 1 with (fail)
  obtain ⟨W1, hW1⟩ : ∃ W1, W1 = w.alloc (.cells ZC 23) := ⟨_, rfl⟩
  have r1 : W1.heap[w.heap.size]? = some (.cells ZC 23 (0, 0)) := by rw [hW1]; exact heap_alloc_new w _
  have b1 : Below w.heap.size w W1 := by rw [hW1]; exact bnew w _
  have z1 : w.heap.size < W1.heap.size := by rw [hW1]; simp
  have e9 : w.alloc (.cells #[.int .i64 0, .int .i64 0, .int .i64 0, .int .i64 0, .int .i64 0, .int .i64 0, .string ⟨#[]⟩, .string ⟨#[]⟩] 23) = W1 := hW1.symm
  rw [e9]
  have HW1 := Lib.hid (HW.out W1)
  clear hW1 e9
  go_wp2_with fail
  refine HW1.out.mono ?_
  rintro e1 w2 ⟨rfl, hw2⟩
  have r2 : w2.heap[W1.heap.size]? = some (.cells WC 3 (0, 0)) := by rw [← hw2]; exact heap_alloc_new W1 _
  have b2 : Below W1.heap.size W1 w2 := by rw [← hw2]; exact bnew W1 _
  have z2 : W1.heap.size < w2.heap.size := by rw [← hw2]; simp
  have R2 : Hid (w2.heap[w.heap.size]? = some (.cells ZC 23 (0, 0))) := Lib.hid ((b2.block _ z1).trans r1)
  have B2 : Hid (Below w.heap.size w w2) := Lib.hid (bthen b1 b2)
  have Z2 : Hid (w.heap.size < w2.heap.size) := Lib.hid (by omega)
  have HC := Lib.hid (wcell r2)
  clear r1 r2 b1 b2 z1 z2 hw2 HW1
  go_wp2_with fail
  go_loopw [5, 19] (fun a c wr => ∃ i : Nat, i ≤ 6 ∧ c = .int .i64 (i : Int) ∧ a = .int .i64 (((rW.take i).sum : Nat) : Int) ∧ w2 = wr) (fun _ c _ => 6 - (intOf c).toNat)
  case atStart => exact ⟨0, by omega, rfl, rfl, rfl⟩
  case round =>
  obtain ⟨i, hi, rfl, rfl, rfl⟩ := hrel
  by_cases hi6 : i < 6
  · have hii : (i : Int) < 6 := by omega
    obtain ⟨k, hk⟩ : ∃ k, rW[i]? = some k := ⟨rW[i]'hi6, List.getElem?_eq_getElem _⟩
    have c0 := HC.out i k hk
    have hsum := sum_take_succ rW i k hk
    have hle := sum_take_le rW (i + 1)
    have h29 : rW.sum = 29 := rfl
    obtain ⟨a, ha⟩ : ∃ a, a = (rW.take i).sum := ⟨_, rfl⟩
    rw [← ha] at hsum ⊢
    have hak : (a : Int) + (k : Int) = ((a + k : Nat) : Int) := by omega
    have haw : wrap64 ((a + k : Nat) : Int) = ((a + k : Nat) : Int) := by unfold wrap64; omega
    obtain ⟨m, hm⟩ : ∃ m, m = a + k := ⟨_, rfl⟩
    rw [← hm] at hak haw hsum
    have HSM := Lib.hid hsum
    clear hsum hle h29 hk ha hm
    go_wp2_with fail
    exact ⟨⟨i + 1, by omega, by go_num, by rw [HSM.out, haw], by first | rfl | trivial⟩, by simp [intOf]; omega⟩
  · have hi2 : i = 6 := by omega
    subst hi2
    have h29 : ((rW.take 6).sum : Nat) = 29 := rfl
    rw [h29]
    clear h29 hi6 hi HC
    go_wp2_with fail
    refine wp_region_front (by kernel_rfl) ?_
    have HWA : Hid (Calls Tryd.prog 32 #[] w2.drew fun e w' => e = .returned (.slice (some ⟨w2.heap.size, 0, none⟩) 6 6) ∧ (w2.alloc (.cells WC 3)).drew = w') := Lib.hid (HW.out w2.drew)
    refine front_chunk 4 0 (PW w2.drew (fun w' => (w2.alloc (.cells WC 3)).drew = w')) (by kernel_rfl) (by decide) rfl ?_
    simp only [List.drop_zero, List.take_succ_cons, List.take_zero]
    repeat (first
      | (refine textP_skip (by rfl) (by decide) ?_; simp only [Act.put, List.setIfInBounds_toArray, List.set_cons_zero, List.set_cons_succ])
      | (refine textP_pure (v := ?_) (by rfl) (by decide) (fun q wx hS => ?_) ?_; rotate_left; (go_simp; with_reducible exact rfl); simp only [Act.put, List.setIfInBounds_toArray, List.set_cons_zero, List.set_cons_succ])
      | (refine textP_pivot (v := ?_) (f := ?_) (args := ?_) (by rfl) (by rfl) (fun wx hS => ?_) (fun wx hS => ?_) ?_; rotate_left 3; (go_simp; constructor <;> with_reducible rfl); (with_reducible exact PW.piv HWA.out wx hS); simp only [Act.put, List.setIfInBounds_toArray, List.set_cons_zero, List.set_cons_succ]))
    refine textP_nil (fun w3 hS => ?_)
    replace hS : (w2.alloc (.cells WC 3)).drew = w3 := hS
    have r3 : w3.heap[w2.heap.size]? = some (.cells WC 3 (0, 0)) := by rw [← hS]; exact heap_alloc_new w2 _
    have b3 : Below w2.heap.size w2 w3 := by rw [← hS]; exact (bnew w2 _).drew
    have R3 : Hid (w3.heap[w.heap.size]? = some (.cells ZC 23 (0, 0))) := Lib.hid ((b3.block _ Z2.out).trans R2.out)
    have B3 : Hid (Below w.heap.size w w3) := Lib.hid (bthen B2.out b3)
    have Z3 : Hid (w.heap.size < w3.heap.size) := Lib.hid (Nat.lt_of_lt_of_le Z2.out b3.size)
    have HU3 := Lib.hid (HU.out w2.heap.size w3 r3)
    clear hS r3 b3 R2 B2 Z2 HWA
    refine front_call (f := 42) (args := #[.slice (some ⟨w2.heap.size, 0, none⟩) 6 6, .string (s.extract 0 29)]) _ (by kernel_rfl) (by rfl) (by rfl) (by go_simp) ?_
    refine HU3.out.mono ?_
    rintro e4 w4 ⟨⟨v, rfl⟩, hb4⟩
    have R4 : Hid (w4.heap[w.heap.size]? = some (.cells ZC 23 (0, 0))) := Lib.hid ((hb4.block _ Z3.out).trans R3.out)
    have B4 : Hid (Below w.heap.size w w4) := Lib.hid (bthen B3.out hb4)
    have Z4 : Hid (w.heap.size < w4.heap.size) := Lib.hid (Nat.lt_of_lt_of_le Z3.out hb4.size)
    clear hb4 R3 B3 Z3 HU3 HU HW
    refine ⟨_, rfl, ?_⟩
    dsimp only [Act.put, List.getElem_toArray, List.getElem_cons_succ, List.getElem_cons_zero]
    simp only [List.setIfInBounds_toArray, List.set_cons_zero, List.set_cons_succ]
    refine front_chunk 5 10 (fun _ w' => w4 = w') (by kernel_rfl) (by decide) rfl ?_
    simp only [List.drop_succ_cons, List.drop_zero, List.take_succ_cons, List.take_zero]
    repeat (first
      | (refine textP_skip (by rfl) (by decide) ?_; simp only [Act.put, List.setIfInBounds_toArray, List.set_cons_zero, List.set_cons_succ])
      | (refine textP_pure (v := ?_) (by rfl) (by decide) (fun q wx hS => ?_) ?_; rotate_left; (go_simp; with_reducible exact rfl); simp only [Act.put, List.setIfInBounds_toArray, List.set_cons_zero, List.set_cons_succ]))
    refine textP_nil (fun wx hS => ?_)
    replace hS : w4 = wx := hS
    subst hS
    refine front_end (by rfl) ?_
    go_wp2_with fail
    refine (H1.out _).mono ?_
    rintro e5 w5 ⟨rfl, hb5⟩
    have R5 : Hid (w5.heap[w.heap.size]? = some (.cells ZC 23 (0, 0))) := Lib.hid ((hb5.block _ Z4.out).trans R4.out)
    have B5 : Hid (Below w.heap.size w w5) := Lib.hid (bthen B4.out hb5)
    have Z5 : Hid (w.heap.size < w5.heap.size) := Lib.hid (Nat.lt_of_lt_of_le Z4.out hb5.size)
    clear hb5 R4 B4 Z4
    go_wp2_with fail
    refine (H2.out _).mono ?_
    rintro e6 w6 ⟨rfl, hb6⟩
    have R6 : Hid (w6.heap[w.heap.size]? = some (.cells ZC 23 (0, 0))) := Lib.hid ((hb6.block _ Z5.out).trans R5.out)
    have B6 : Hid (Below w.heap.size w w6) := Lib.hid (bthen B5.out hb6)
    have Z6 : Hid (w.heap.size < w6.heap.size) := Lib.hid (Nat.lt_of_lt_of_le Z5.out hb6.size)
    clear hb6 R5 B5 Z5 Z6
    have B9 := B6
    have RZ9 := R6
    clear B6 R6
    have r9 := RZ9.out
    have c0 : w6.cell? ⟨w.heap.size, 0, none⟩ = some (.int .i64 0) := by rw [cell_of_row _ _ _ _ _ _ r9]; rfl
    have f0 := frozen_of_row w6 w.heap.size 0 _ _ r9
    have c1 : w6.cell? ⟨w.heap.size, 1, none⟩ = some (.int .i64 0) := by rw [cell_of_row _ _ _ _ _ _ r9]; rfl
    have f1 := frozen_of_row w6 w.heap.size 1 _ _ r9
    have c2 : w6.cell? ⟨w.heap.size, 2, none⟩ = some (.int .i64 0) := by rw [cell_of_row _ _ _ _ _ _ r9]; rfl
    have f2 := frozen_of_row w6 w.heap.size 2 _ _ r9
    have c3 : w6.cell? ⟨w.heap.size, 3, none⟩ = some (.int .i64 0) := by rw [cell_of_row _ _ _ _ _ _ r9]; rfl
    have f3 := frozen_of_row w6 w.heap.size 3 _ _ r9
    have c4 : w6.cell? ⟨w.heap.size, 4, none⟩ = some (.int .i64 0) := by rw [cell_of_row _ _ _ _ _ _ r9]; rfl
    have f4 := frozen_of_row w6 w.heap.size 4 _ _ r9
    have c5 : w6.cell? ⟨w.heap.size, 5, none⟩ = some (.int .i64 0) := by rw [cell_of_row _ _ _ _ _ _ r9]; rfl
    have f5 := frozen_of_row w6 w.heap.size 5 _ _ r9
    have c6 : w6.cell? ⟨w.heap.size, 6, none⟩ = some (.string ⟨#[]⟩) := by rw [cell_of_row _ _ _ _ _ _ r9]; rfl
    have f6 := frozen_of_row w6 w.heap.size 6 _ _ r9
    have c7 : w6.cell? ⟨w.heap.size, 7, none⟩ = some (.string ⟨#[]⟩) := by rw [cell_of_row _ _ _ _ _ _ r9]; rfl
    have f7 := frozen_of_row w6 w.heap.size 7 _ _ r9
    clear r9
    go_wp2_with fail
    (try simp only [Exit.inBlock, Exit.then])
    refine bodyPost_ret (v := .tuple #[RVal 0 0 0 0 0 0 ⟨#[]⟩ ⟨#[]⟩, .string ⟨#[]⟩, .int .i64 3]) ?_ rfl ⟨rfl, ?_⟩
    · rw [results_cell_tmp2 rfl]
      go_simp
    · exact set8 B9.out _ _ _ _ _ _ _ _
set_option maxRecDepth 100000 in
set_option maxHeartbeats 6400000 in
theorem take_bad2 (s A B N L : ByteArray) (g : Int) (h : 29 ≤ s.size)
    (hu : ∀ (gw : Nat) (w : World), w.heap[gw]? = some (.cells WC 3 (0, 0)) → Calls Tryd.prog 42 #[.slice (some ⟨gw, 0, none⟩) 6 6, .string (s.extract 0 29)] w fun e w' => (∃ v, e = .returned (.tuple #[v, .int .i64 0])) ∧ Below w.heap.size w w')
    (h1 : ∀ w, Calls Tryd.prog 43 #[.string (s.extract 29 s.size)] w fun e w' => e = .returned (.tuple #[.string A, .string B, .int .i64 3]) ∧ Below w.heap.size w w')
    (h2 : ∀ w, Calls Tryd.prog 43 #[.string B] w fun e w' => e = .returned (.tuple #[.string N, .string L, .int .i64 g]) ∧ Below w.heap.size w w') (w : World) :
    Calls Tryd.prog 18 #[.string s] w fun e w' => e = .returned (TBad 3) ∧ Below w.heap.size w w' := by
  have HW := Lib.hid rwidths_any
  have HU := Lib.hid hu
  have H1 := Lib.hid h1
  have H2 := Lib.hid h2
  have hs : ¬ (s.size : Int) < 29 := by omega
  have hs2 : (29 : Int) ≤ (s.size : Int) := by omega
  clear h hu h1 h2
  go_enter Tryd.func18, Tryd.ntmps18
  go_upto_region 1 with (fail)
  obtain ⟨W1, hW1⟩ : ∃ W1, W1 = w.alloc (.cells ZC 23) := ⟨_, rfl⟩
  have r1 : W1.heap[w.heap.size]? = some (.cells ZC 23 (0, 0)) := by rw [hW1]; exact heap_alloc_new w _
  have b1 : Below w.heap.size w W1 := by rw [hW1]; exact bnew w _
  have z1 : w.heap.size < W1.heap.size := by rw [hW1]; simp
  have e9 : w.alloc (.cells #[.int .i64 0, .int .i64 0, .int .i64 0, .int .i64 0, .int .i64 0, .int .i64 0, .string ⟨#[]⟩, .string ⟨#[]⟩] 23) = W1 := hW1.symm
  rw [e9]
  have HW1 := Lib.hid (HW.out W1)
  clear hW1 e9
  go_wp2_with fail
  refine HW1.out.mono ?_
  rintro e1 w2 ⟨rfl, hw2⟩
  have r2 : w2.heap[W1.heap.size]? = some (.cells WC 3 (0, 0)) := by rw [← hw2]; exact heap_alloc_new W1 _
  have b2 : Below W1.heap.size W1 w2 := by rw [← hw2]; exact bnew W1 _
  have z2 : W1.heap.size < w2.heap.size := by rw [← hw2]; simp
  have R2 : Hid (w2.heap[w.heap.size]? = some (.cells ZC 23 (0, 0))) := Lib.hid ((b2.block _ z1).trans r1)
  have B2 : Hid (Below w.heap.size w w2) := Lib.hid (bthen b1 b2)
  have Z2 : Hid (w.heap.size < w2.heap.size) := Lib.hid (by omega)
  have HC := Lib.hid (wcell r2)
  clear r1 r2 b1 b2 z1 z2 hw2 HW1
  go_wp2_with fail
  go_loopw [5, 19] (fun a c wr => ∃ i : Nat, i ≤ 6 ∧ c = .int .i64 (i : Int) ∧ a = .int .i64 (((rW.take i).sum : Nat) : Int) ∧ w2 = wr) (fun _ c _ => 6 - (intOf c).toNat)
  case atStart => exact ⟨0, by omega, rfl, rfl, rfl⟩
  case round =>
  obtain ⟨i, hi, rfl, rfl, rfl⟩ := hrel
  by_cases hi6 : i < 6
  · have hii : (i : Int) < 6 := by omega
    obtain ⟨k, hk⟩ : ∃ k, rW[i]? = some k := ⟨rW[i]'hi6, List.getElem?_eq_getElem _⟩
    have c0 := HC.out i k hk
    have hsum := sum_take_succ rW i k hk
    have hle := sum_take_le rW (i + 1)
    have h29 : rW.sum = 29 := rfl
    obtain ⟨a, ha⟩ : ∃ a, a = (rW.take i).sum := ⟨_, rfl⟩
    rw [← ha] at hsum ⊢
    have hak : (a : Int) + (k : Int) = ((a + k : Nat) : Int) := by omega
    have haw : wrap64 ((a + k : Nat) : Int) = ((a + k : Nat) : Int) := by unfold wrap64; omega
    obtain ⟨m, hm⟩ : ∃ m, m = a + k := ⟨_, rfl⟩
    rw [← hm] at hak haw hsum
    have HSM := Lib.hid hsum
    clear hsum hle h29 hk ha hm
    go_wp2_with fail
    exact ⟨⟨i + 1, by omega, by go_num, by rw [HSM.out, haw], by first | rfl | trivial⟩, by simp [intOf]; omega⟩
  · have hi2 : i = 6 := by omega
    subst hi2
    have h29 : ((rW.take 6).sum : Nat) = 29 := rfl
    rw [h29]
    clear h29 hi6 hi HC
    go_wp2_with fail
    refine wp_region_front (by kernel_rfl) ?_
    have HWA : Hid (Calls Tryd.prog 32 #[] w2.drew fun e w' => e = .returned (.slice (some ⟨w2.heap.size, 0, none⟩) 6 6) ∧ (w2.alloc (.cells WC 3)).drew = w') := Lib.hid (HW.out w2.drew)
    refine front_chunk 4 0 (PW w2.drew (fun w' => (w2.alloc (.cells WC 3)).drew = w')) (by kernel_rfl) (by decide) rfl ?_
    simp only [List.drop_zero, List.take_succ_cons, List.take_zero]
    repeat (first
      | (refine textP_skip (by rfl) (by decide) ?_; simp only [Act.put, List.setIfInBounds_toArray, List.set_cons_zero, List.set_cons_succ])
      | (refine textP_pure (v := ?_) (by rfl) (by decide) (fun q wx hS => ?_) ?_; rotate_left; (go_simp; with_reducible exact rfl); simp only [Act.put, List.setIfInBounds_toArray, List.set_cons_zero, List.set_cons_succ])
      | (refine textP_pivot (v := ?_) (f := ?_) (args := ?_) (by rfl) (by rfl) (fun wx hS => ?_) (fun wx hS => ?_) ?_; rotate_left 3; (go_simp; constructor <;> with_reducible rfl); (with_reducible exact PW.piv HWA.out wx hS); simp only [Act.put, List.setIfInBounds_toArray, List.set_cons_zero, List.set_cons_succ]))
    refine textP_nil (fun w3 hS => ?_)
    replace hS : (w2.alloc (.cells WC 3)).drew = w3 := hS
    have r3 : w3.heap[w2.heap.size]? = some (.cells WC 3 (0, 0)) := by rw [← hS]; exact heap_alloc_new w2 _
    have b3 : Below w2.heap.size w2 w3 := by rw [← hS]; exact (bnew w2 _).drew
    have R3 : Hid (w3.heap[w.heap.size]? = some (.cells ZC 23 (0, 0))) := Lib.hid ((b3.block _ Z2.out).trans R2.out)
    have B3 : Hid (Below w.heap.size w w3) := Lib.hid (bthen B2.out b3)
    have Z3 : Hid (w.heap.size < w3.heap.size) := Lib.hid (Nat.lt_of_lt_of_le Z2.out b3.size)
    have HU3 := Lib.hid (HU.out w2.heap.size w3 r3)
    clear hS r3 b3 R2 B2 Z2 HWA
    refine front_call (f := 42) (args := #[.slice (some ⟨w2.heap.size, 0, none⟩) 6 6, .string (s.extract 0 29)]) _ (by kernel_rfl) (by rfl) (by rfl) (by go_simp) ?_
    refine HU3.out.mono ?_
    rintro e4 w4 ⟨⟨v, rfl⟩, hb4⟩
    have R4 : Hid (w4.heap[w.heap.size]? = some (.cells ZC 23 (0, 0))) := Lib.hid ((hb4.block _ Z3.out).trans R3.out)
    have B4 : Hid (Below w.heap.size w w4) := Lib.hid (bthen B3.out hb4)
    have Z4 : Hid (w.heap.size < w4.heap.size) := Lib.hid (Nat.lt_of_lt_of_le Z3.out hb4.size)
    clear hb4 R3 B3 Z3 HU3 HU HW
    refine ⟨_, rfl, ?_⟩
    dsimp only [Act.put, List.getElem_toArray, List.getElem_cons_succ, List.getElem_cons_zero]
    simp only [List.setIfInBounds_toArray, List.set_cons_zero, List.set_cons_succ]
    refine front_chunk 5 10 (fun _ w' => w4 = w') (by kernel_rfl) (by decide) rfl ?_
    simp only [List.drop_succ_cons, List.drop_zero, List.take_succ_cons, List.take_zero]
    repeat (first
      | (refine textP_skip (by rfl) (by decide) ?_; simp only [Act.put, List.setIfInBounds_toArray, List.set_cons_zero, List.set_cons_succ])
      | (refine textP_pure (v := ?_) (by rfl) (by decide) (fun q wx hS => ?_) ?_; rotate_left; (go_simp; with_reducible exact rfl); simp only [Act.put, List.setIfInBounds_toArray, List.set_cons_zero, List.set_cons_succ]))
    refine textP_nil (fun wx hS => ?_)
    replace hS : w4 = wx := hS
    subst hS
    refine front_end (by rfl) ?_
    go_wp2_with fail
    refine (H1.out _).mono ?_
    rintro e5 w5 ⟨rfl, hb5⟩
    have R5 : Hid (w5.heap[w.heap.size]? = some (.cells ZC 23 (0, 0))) := Lib.hid ((hb5.block _ Z4.out).trans R4.out)
    have B5 : Hid (Below w.heap.size w w5) := Lib.hid (bthen B4.out hb5)
    have Z5 : Hid (w.heap.size < w5.heap.size) := Lib.hid (Nat.lt_of_lt_of_le Z4.out hb5.size)
    clear hb5 R4 B4 Z4
    go_wp2_with fail
    refine (H2.out _).mono ?_
    rintro e6 w6 ⟨rfl, hb6⟩
    have R6 : Hid (w6.heap[w.heap.size]? = some (.cells ZC 23 (0, 0))) := Lib.hid ((hb6.block _ Z5.out).trans R5.out)
    have B6 : Hid (Below w.heap.size w w6) := Lib.hid (bthen B5.out hb6)
    have Z6 : Hid (w.heap.size < w6.heap.size) := Lib.hid (Nat.lt_of_lt_of_le Z5.out hb6.size)
    clear hb6 R5 B5 Z5 Z6
    have B9 := B6
    have RZ9 := R6
    clear B6 R6
    have r9 := RZ9.out
    have c0 : w6.cell? ⟨w.heap.size, 0, none⟩ = some (.int .i64 0) := by rw [cell_of_row _ _ _ _ _ _ r9]; rfl
    have f0 := frozen_of_row w6 w.heap.size 0 _ _ r9
    have c1 : w6.cell? ⟨w.heap.size, 1, none⟩ = some (.int .i64 0) := by rw [cell_of_row _ _ _ _ _ _ r9]; rfl
    have f1 := frozen_of_row w6 w.heap.size 1 _ _ r9
    have c2 : w6.cell? ⟨w.heap.size, 2, none⟩ = some (.int .i64 0) := by rw [cell_of_row _ _ _ _ _ _ r9]; rfl
    have f2 := frozen_of_row w6 w.heap.size 2 _ _ r9
    have c3 : w6.cell? ⟨w.heap.size, 3, none⟩ = some (.int .i64 0) := by rw [cell_of_row _ _ _ _ _ _ r9]; rfl
    have f3 := frozen_of_row w6 w.heap.size 3 _ _ r9
    have c4 : w6.cell? ⟨w.heap.size, 4, none⟩ = some (.int .i64 0) := by rw [cell_of_row _ _ _ _ _ _ r9]; rfl
    have f4 := frozen_of_row w6 w.heap.size 4 _ _ r9
    have c5 : w6.cell? ⟨w.heap.size, 5, none⟩ = some (.int .i64 0) := by rw [cell_of_row _ _ _ _ _ _ r9]; rfl
    have f5 := frozen_of_row w6 w.heap.size 5 _ _ r9
    have c6 : w6.cell? ⟨w.heap.size, 6, none⟩ = some (.string ⟨#[]⟩) := by rw [cell_of_row _ _ _ _ _ _ r9]; rfl
    have f6 := frozen_of_row w6 w.heap.size 6 _ _ r9
    have c7 : w6.cell? ⟨w.heap.size, 7, none⟩ = some (.string ⟨#[]⟩) := by rw [cell_of_row _ _ _ _ _ _ r9]; rfl
    have f7 := frozen_of_row w6 w.heap.size 7 _ _ r9
    clear r9
    go_wp2_with fail
    (try simp only [Exit.inBlock, Exit.then])
    refine bodyPost_ret (v := .tuple #[RVal 0 0 0 0 0 0 ⟨#[]⟩ ⟨#[]⟩, .string ⟨#[]⟩, .int .i64 3]) ?_ rfl ⟨rfl, ?_⟩
    · rw [results_cell_tmp2 rfl]
      go_simp
    · exact set8 B9.out _ _ _ _ _ _ _ _
set_option maxRecDepth 100000 in
set_option maxHeartbeats 6400000 in
theorem take_bad3 (s A B N L : ByteArray) (h : 29 ≤ s.size)
    (hu : ∀ (gw : Nat) (w : World), w.heap[gw]? = some (.cells WC 3 (0, 0)) → Calls Tryd.prog 42 #[.slice (some ⟨gw, 0, none⟩) 6 6, .string (s.extract 0 29)] w fun e w' => (∃ v, e = .returned (.tuple #[v, .int .i64 0])) ∧ Below w.heap.size w w')
    (h1 : ∀ w, Calls Tryd.prog 43 #[.string (s.extract 29 s.size)] w fun e w' => e = .returned (.tuple #[.string A, .string B, .int .i64 0]) ∧ Below w.heap.size w w')
    (h2 : ∀ w, Calls Tryd.prog 43 #[.string B] w fun e w' => e = .returned (.tuple #[.string N, .string L, .int .i64 3]) ∧ Below w.heap.size w w') (w : World) :
    Calls Tryd.prog 18 #[.string s] w fun e w' => e = .returned (TBad 3) ∧ Below w.heap.size w w' := by
  have HW := Lib.hid rwidths_any
  have HU := Lib.hid hu
  have H1 := Lib.hid h1
  have H2 := Lib.hid h2
  have hs : ¬ (s.size : Int) < 29 := by omega
  have hs2 : (29 : Int) ≤ (s.size : Int) := by omega
  clear h hu h1 h2
  go_enter Tryd.func18, Tryd.ntmps18
  go_upto_region 1 with (fail)
  obtain ⟨W1, hW1⟩ : ∃ W1, W1 = w.alloc (.cells ZC 23) := ⟨_, rfl⟩
  have r1 : W1.heap[w.heap.size]? = some (.cells ZC 23 (0, 0)) := by rw [hW1]; exact heap_alloc_new w _
  have b1 : Below w.heap.size w W1 := by rw [hW1]; exact bnew w _
  have z1 : w.heap.size < W1.heap.size := by rw [hW1]; simp
  have e9 : w.alloc (.cells #[.int .i64 0, .int .i64 0, .int .i64 0, .int .i64 0, .int .i64 0, .int .i64 0, .string ⟨#[]⟩, .string ⟨#[]⟩] 23) = W1 := hW1.symm
  rw [e9]
  have HW1 := Lib.hid (HW.out W1)
  clear hW1 e9
  go_wp2_with fail
  refine HW1.out.mono ?_
  rintro e1 w2 ⟨rfl, hw2⟩
  have r2 : w2.heap[W1.heap.size]? = some (.cells WC 3 (0, 0)) := by rw [← hw2]; exact heap_alloc_new W1 _
  have b2 : Below W1.heap.size W1 w2 := by rw [← hw2]; exact bnew W1 _
  have z2 : W1.heap.size < w2.heap.size := by rw [← hw2]; simp
  have R2 : Hid (w2.heap[w.heap.size]? = some (.cells ZC 23 (0, 0))) := Lib.hid ((b2.block _ z1).trans r1)
  have B2 : Hid (Below w.heap.size w w2) := Lib.hid (bthen b1 b2)
  have Z2 : Hid (w.heap.size < w2.heap.size) := Lib.hid (by omega)
  have HC := Lib.hid (wcell r2)
  clear r1 r2 b1 b2 z1 z2 hw2 HW1
  go_wp2_with fail
  go_loopw [5, 19] (fun a c wr => ∃ i : Nat, i ≤ 6 ∧ c = .int .i64 (i : Int) ∧ a = .int .i64 (((rW.take i).sum : Nat) : Int) ∧ w2 = wr) (fun _ c _ => 6 - (intOf c).toNat)
  case atStart => exact ⟨0, by omega, rfl, rfl, rfl⟩
  case round =>
  obtain ⟨i, hi, rfl, rfl, rfl⟩ := hrel
  by_cases hi6 : i < 6
  · have hii : (i : Int) < 6 := by omega
    obtain ⟨k, hk⟩ : ∃ k, rW[i]? = some k := ⟨rW[i]'hi6, List.getElem?_eq_getElem _⟩
    have c0 := HC.out i k hk
    have hsum := sum_take_succ rW i k hk
    have hle := sum_take_le rW (i + 1)
    have h29 : rW.sum = 29 := rfl
    obtain ⟨a, ha⟩ : ∃ a, a = (rW.take i).sum := ⟨_, rfl⟩
    rw [← ha] at hsum ⊢
    have hak : (a : Int) + (k : Int) = ((a + k : Nat) : Int) := by omega
    have haw : wrap64 ((a + k : Nat) : Int) = ((a + k : Nat) : Int) := by unfold wrap64; omega
    obtain ⟨m, hm⟩ : ∃ m, m = a + k := ⟨_, rfl⟩
    rw [← hm] at hak haw hsum
    have HSM := Lib.hid hsum
    clear hsum hle h29 hk ha hm
    go_wp2_with fail
    exact ⟨⟨i + 1, by omega, by go_num, by rw [HSM.out, haw], by first | rfl | trivial⟩, by simp [intOf]; omega⟩
  · have hi2 : i = 6 := by omega
    subst hi2
    have h29 : ((rW.take 6).sum : Nat) = 29 := rfl
    rw [h29]
    clear h29 hi6 hi HC
    go_wp2_with fail
    refine wp_region_front (by kernel_rfl) ?_
    have HWA : Hid (Calls Tryd.prog 32 #[] w2.drew fun e w' => e = .returned (.slice (some ⟨w2.heap.size, 0, none⟩) 6 6) ∧ (w2.alloc (.cells WC 3)).drew = w') := Lib.hid (HW.out w2.drew)
    refine front_chunk 4 0 (PW w2.drew (fun w' => (w2.alloc (.cells WC 3)).drew = w')) (by kernel_rfl) (by decide) rfl ?_
    simp only [List.drop_zero, List.take_succ_cons, List.take_zero]
    repeat (first
      | (refine textP_skip (by rfl) (by decide) ?_; simp only [Act.put, List.setIfInBounds_toArray, List.set_cons_zero, List.set_cons_succ])
      | (refine textP_pure (v := ?_) (by rfl) (by decide) (fun q wx hS => ?_) ?_; rotate_left; (go_simp; with_reducible exact rfl); simp only [Act.put, List.setIfInBounds_toArray, List.set_cons_zero, List.set_cons_succ])
      | (refine textP_pivot (v := ?_) (f := ?_) (args := ?_) (by rfl) (by rfl) (fun wx hS => ?_) (fun wx hS => ?_) ?_; rotate_left 3; (go_simp; constructor <;> with_reducible rfl); (with_reducible exact PW.piv HWA.out wx hS); simp only [Act.put, List.setIfInBounds_toArray, List.set_cons_zero, List.set_cons_succ]))
    refine textP_nil (fun w3 hS => ?_)
    replace hS : (w2.alloc (.cells WC 3)).drew = w3 := hS
    have r3 : w3.heap[w2.heap.size]? = some (.cells WC 3 (0, 0)) := by rw [← hS]; exact heap_alloc_new w2 _
    have b3 : Below w2.heap.size w2 w3 := by rw [← hS]; exact (bnew w2 _).drew
    have R3 : Hid (w3.heap[w.heap.size]? = some (.cells ZC 23 (0, 0))) := Lib.hid ((b3.block _ Z2.out).trans R2.out)
    have B3 : Hid (Below w.heap.size w w3) := Lib.hid (bthen B2.out b3)
    have Z3 : Hid (w.heap.size < w3.heap.size) := Lib.hid (Nat.lt_of_lt_of_le Z2.out b3.size)
    have HU3 := Lib.hid (HU.out w2.heap.size w3 r3)
    clear hS r3 b3 R2 B2 Z2 HWA
    refine front_call (f := 42) (args := #[.slice (some ⟨w2.heap.size, 0, none⟩) 6 6, .string (s.extract 0 29)]) _ (by kernel_rfl) (by rfl) (by rfl) (by go_simp) ?_
    refine HU3.out.mono ?_
    rintro e4 w4 ⟨⟨v, rfl⟩, hb4⟩
    have R4 : Hid (w4.heap[w.heap.size]? = some (.cells ZC 23 (0, 0))) := Lib.hid ((hb4.block _ Z3.out).trans R3.out)
    have B4 : Hid (Below w.heap.size w w4) := Lib.hid (bthen B3.out hb4)
    have Z4 : Hid (w.heap.size < w4.heap.size) := Lib.hid (Nat.lt_of_lt_of_le Z3.out hb4.size)
    clear hb4 R3 B3 Z3 HU3 HU HW
    refine ⟨_, rfl, ?_⟩
    dsimp only [Act.put, List.getElem_toArray, List.getElem_cons_succ, List.getElem_cons_zero]
    simp only [List.setIfInBounds_toArray, List.set_cons_zero, List.set_cons_succ]
    refine front_chunk 5 10 (fun _ w' => w4 = w') (by kernel_rfl) (by decide) rfl ?_
    simp only [List.drop_succ_cons, List.drop_zero, List.take_succ_cons, List.take_zero]
    repeat (first
      | (refine textP_skip (by rfl) (by decide) ?_; simp only [Act.put, List.setIfInBounds_toArray, List.set_cons_zero, List.set_cons_succ])
      | (refine textP_pure (v := ?_) (by rfl) (by decide) (fun q wx hS => ?_) ?_; rotate_left; (go_simp; with_reducible exact rfl); simp only [Act.put, List.setIfInBounds_toArray, List.set_cons_zero, List.set_cons_succ]))
    refine textP_nil (fun wx hS => ?_)
    replace hS : w4 = wx := hS
    subst hS
    refine front_end (by rfl) ?_
    go_wp2_with fail
    refine (H1.out _).mono ?_
    rintro e5 w5 ⟨rfl, hb5⟩
    have R5 : Hid (w5.heap[w.heap.size]? = some (.cells ZC 23 (0, 0))) := Lib.hid ((hb5.block _ Z4.out).trans R4.out)
    have B5 : Hid (Below w.heap.size w w5) := Lib.hid (bthen B4.out hb5)
    have Z5 : Hid (w.heap.size < w5.heap.size) := Lib.hid (Nat.lt_of_lt_of_le Z4.out hb5.size)
    clear hb5 R4 B4 Z4
    go_wp2_with fail
    refine (H2.out _).mono ?_
    rintro e6 w6 ⟨rfl, hb6⟩
    have R6 : Hid (w6.heap[w.heap.size]? = some (.cells ZC 23 (0, 0))) := Lib.hid ((hb6.block _ Z5.out).trans R5.out)
    have B6 : Hid (Below w.heap.size w w6) := Lib.hid (bthen B5.out hb6)
    have Z6 : Hid (w.heap.size < w6.heap.size) := Lib.hid (Nat.lt_of_lt_of_le Z5.out hb6.size)
    clear hb6 R5 B5 Z5 Z6
    have B9 := B6
    have RZ9 := R6
    clear B6 R6
    have r9 := RZ9.out
    have c0 : w6.cell? ⟨w.heap.size, 0, none⟩ = some (.int .i64 0) := by rw [cell_of_row _ _ _ _ _ _ r9]; rfl
    have f0 := frozen_of_row w6 w.heap.size 0 _ _ r9
    have c1 : w6.cell? ⟨w.heap.size, 1, none⟩ = some (.int .i64 0) := by rw [cell_of_row _ _ _ _ _ _ r9]; rfl
    have f1 := frozen_of_row w6 w.heap.size 1 _ _ r9
    have c2 : w6.cell? ⟨w.heap.size, 2, none⟩ = some (.int .i64 0) := by rw [cell_of_row _ _ _ _ _ _ r9]; rfl
    have f2 := frozen_of_row w6 w.heap.size 2 _ _ r9
    have c3 : w6.cell? ⟨w.heap.size, 3, none⟩ = some (.int .i64 0) := by rw [cell_of_row _ _ _ _ _ _ r9]; rfl
    have f3 := frozen_of_row w6 w.heap.size 3 _ _ r9
    have c4 : w6.cell? ⟨w.heap.size, 4, none⟩ = some (.int .i64 0) := by rw [cell_of_row _ _ _ _ _ _ r9]; rfl
    have f4 := frozen_of_row w6 w.heap.size 4 _ _ r9
    have c5 : w6.cell? ⟨w.heap.size, 5, none⟩ = some (.int .i64 0) := by rw [cell_of_row _ _ _ _ _ _ r9]; rfl
    have f5 := frozen_of_row w6 w.heap.size 5 _ _ r9
    have c6 : w6.cell? ⟨w.heap.size, 6, none⟩ = some (.string ⟨#[]⟩) := by rw [cell_of_row _ _ _ _ _ _ r9]; rfl
    have f6 := frozen_of_row w6 w.heap.size 6 _ _ r9
    have c7 : w6.cell? ⟨w.heap.size, 7, none⟩ = some (.string ⟨#[]⟩) := by rw [cell_of_row _ _ _ _ _ _ r9]; rfl
    have f7 := frozen_of_row w6 w.heap.size 7 _ _ r9
    clear r9
    go_wp2_with fail
    (try simp only [Exit.inBlock, Exit.then])
    refine bodyPost_ret (v := .tuple #[RVal 0 0 0 0 0 0 ⟨#[]⟩ ⟨#[]⟩, .string ⟨#[]⟩, .int .i64 3]) ?_ rfl ⟨rfl, ?_⟩
    · rw [results_cell_tmp2 rfl]
      go_simp
    · exact set8 B9.out _ _ _ _ _ _ _ _
end Go.Proofs.YtdpfcjhhabcheaaDoor

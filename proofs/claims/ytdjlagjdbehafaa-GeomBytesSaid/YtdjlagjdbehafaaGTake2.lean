/-
  The contract of geom.Take for twelve bytes. No condition. Own work.
-/
import Derived.Test.YtdjlagjdbehafaaGTake
namespace Go.Proofs.Ytdjlagjdbehafaa
open Go.RowKit

set_option maxHeartbeats 6400000 in
theorem gtake_long (s : ByteArray) (h : s.size = 12) (w : World) : Calls Try.prog 39 #[.string s] w fun e w' => e = .returned (tkR s.data.toList) ∧ Below w.heap.size w w' := by
  have hl : s.data.toList.length = 12 := by simpa using h
  have hn := unp12 s.data.toList hl
  have hbk := gB_back s.data.toList hl
  have hres : tkR s.data.toList = if GOk (t1 s.data.toList) (t2 s.data.toList) (t3 s.data.toList) then .tuple #[GVal (t1 s.data.toList) (t2 s.data.toList) (t3 s.data.toList), .int .i64 0] else .tuple #[GVal 0 0 0, .int .i64 3] := by
    unfold tkR
    simp only [hl, true_and]
  rw [hres]
  clear hres
  generalize t1 s.data.toList = n1 at *
  generalize t2 s.data.toList = n2 at *
  generalize t3 s.data.toList = n3 at *
  have hbs : (⟨(gB n1 n2 n3).toArray⟩ : ByteArray) = s := by rw [hbk]
  have HP : Hid (∀ w, (GOk n1 n2 n3 → Calls Try.prog 37 #[GVal n1 n2 n3] w fun e w' => e = .returned (.tuple #[.string s, .int .i64 0]) ∧ Below w.heap.size w w') ∧
      (¬ GOk n1 n2 n3 → Calls Try.prog 37 #[GVal n1 n2 n3] w fun e w' => e = .returned (.tuple #[.string ⟨#[]⟩, .int .i64 2]) ∧ Below w.heap.size w w')) := Lib.hid fun w =>
    ⟨fun hg => by have := gput_yes n1 n2 n3 hg w; rw [hbs] at this; exact this, fun hg => gput_no n1 n2 n3 hg w⟩
  have HU : Hid (∀ (gw : Nat) w, gw < w.heap.size → w.heap[gw]? = some (.cells #[.int .i64 4, .int .i64 4, .int .i64 4] 86 (0, 0)) → Calls Try.prog 50 #[.slice (some ⟨gw, 0, none⟩) 3 3, .string s] w fun e w' =>
      ∃ g cap, e = .returned (.tuple #[.slice (some ⟨g, 0, none⟩) 3 cap, .int .i64 0]) ∧ w.heap.size ≤ g ∧ g < w'.heap.size ∧ w'.cell? ⟨g, 0, none⟩ = some (.int .i64 (n1 : Int)) ∧ w'.cell? ⟨g, 1, none⟩ = some (.int .i64 (n2 : Int)) ∧ w'.cell? ⟨g, 2, none⟩ = some (.int .i64 (n3 : Int)) ∧ Below w.heap.size w w') := Lib.hid fun gw w hg hc => by
    have h := unpack_any [4, 4, 4] s gw 3 (fun k hk => by simp at hk; subst hk; omega) (by simp) w hg (fun j k hk => by
      rw [cell_of_row w gw j _ _ _ hc]
      match j with
      | 0 => simp at hk; subst hk; rfl
      | 1 => simp at hk; subst hk; rfl
      | 2 => simp at hk; subst hk; rfl
      | j + 3 => simp at hk)
    rw [hn] at h
    refine h.mono ?_
    rintro e w' ⟨⟨v, rfl, ho⟩, hb⟩
    obtain ⟨g, cap, rfl, hg1, hg2⟩ := ho.form (by simp)
    exact ⟨g, cap, rfl, hg1, hg2, (ho.cellAt 0 (by simp)).trans rfl, (ho.cellAt 1 (by simp)).trans rfl, (ho.cellAt 2 (by simp)).trans rfl, hb⟩
  have HW := Lib.hid widths_any
  obtain ⟨V, hV⟩ : ∃ V : Value, V = if GOk n1 n2 n3 then .tuple #[GVal n1 n2 n3, .int .i64 0] else .tuple #[GVal 0 0 0, .int .i64 3] := ⟨_, rfl⟩
  rw [← hV]
  have HV := Lib.hid hV
  clear hn hbk hbs hl h hV
  go_enter Try.func39, Try.ntmps39
  go_upto_region 1 with (fail)
  obtain ⟨W1, hW1⟩ : ∃ W1, W1 = w.alloc (.cells #[.int .i64 0, .int .i64 0, .int .i64 0] 23) := ⟨_, rfl⟩
  rw [← hW1]
  have r1 : W1.heap[w.heap.size]? = some (.cells #[.int .i64 0, .int .i64 0, .int .i64 0] 23 (0, 0)) := by rw [hW1]; exact heap_alloc_new w _
  have b1 : Below w.heap.size w W1 := by rw [hW1]; exact bnew w _
  have z1 : w.heap.size < W1.heap.size := by rw [hW1]; simp
  have HW1 := Lib.hid (HW.out W1)
  clear hW1
  go_wp2_with fail
  refine HW1.out.mono ?_
  rintro e1 w2 ⟨rfl, hw2⟩
  have r2 : w2.heap[W1.heap.size]? = some (.cells #[.int .i64 4, .int .i64 4, .int .i64 4] 86 (0, 0)) := by rw [← hw2]; exact heap_alloc_new W1 _
  have b2 : Below W1.heap.size W1 w2 := by rw [← hw2]; exact bnew W1 _
  have z2 : W1.heap.size < w2.heap.size := by rw [← hw2]; simp
  have HU2 := Lib.hid (HU.out W1.heap.size w2 z2 r2)
  clear hw2 r2 HW1
  go_wp2_with fail
  refine HU2.out.mono ?_
  rintro e3 w3 ⟨g, cap, rfl, hg1, hg2, k0, k1, k2, hb3⟩
  have b3 : Below w.heap.size w w3 := bthen (bthen b1 b2) hb3
  have r3 : w3.heap[w.heap.size]? = some (.cells #[.int .i64 0, .int .i64 0, .int .i64 0] 23 (0, 0)) := (hb3.block _ (by omega)).trans ((b2.block _ (by omega)).trans r1)
  have z3 : w.heap.size < w3.heap.size := by omega
  clear r1 b1 b2 hb3 z1 z2 hg1 HU2 HU HW
  go_wp2_with fail
  have hK : PK (fun w' => w'.cell? ⟨g, 0, none⟩ = some (.int .i64 (n1 : Int)) ∧ w'.cell? ⟨g, 1, none⟩ = some (.int .i64 (n2 : Int)) ∧ w'.cell? ⟨g, 2, none⟩ = some (.int .i64 (n3 : Int))) w3.drew (w3.alloc (.cells #[.int .i64 0, .int .i64 0, .int .i64 0] 23)).drew true (w3.alloc (.cells #[.int .i64 0, .int .i64 0, .int .i64 0] 23)).drew :=
    ⟨⟨((bnew w3 _).cell (p := ⟨g, 0, none⟩) hg2).trans k0, ((bnew w3 _).cell (p := ⟨g, 1, none⟩) hg2).trans k1, ((bnew w3 _).cell (p := ⟨g, 2, none⟩) hg2).trans k2⟩, rfl⟩
  have HK := Lib.hid hK
  clear hK
  refine wp_region_front (by kernel_rfl) ?_
  refine front_chunk 11 10 (PK (fun w' => w'.cell? ⟨g, 0, none⟩ = some (.int .i64 (n1 : Int)) ∧ w'.cell? ⟨g, 1, none⟩ = some (.int .i64 (n2 : Int)) ∧ w'.cell? ⟨g, 2, none⟩ = some (.int .i64 (n3 : Int))) w3.drew (w3.alloc (.cells #[.int .i64 0, .int .i64 0, .int .i64 0] 23)).drew) (by kernel_rfl) (by decide) ⟨⟨k0, k1, k2⟩, rfl⟩ ?_
  simp only [List.drop_zero, List.take_succ_cons, List.take_zero]
  repeat (first
    | (refine textP_skip (by rfl) (by decide) ?_; simp only [Act.put, List.setIfInBounds_toArray, List.set_cons_zero, List.set_cons_succ])
    | (refine textP_known (v := ?_) (by rfl) (by decide) (fun wx hS => ?_) ?_; rotate_left; ((try dsimp only at hS); go_simp; with_reducible exact rfl); simp only [Act.put, List.setIfInBounds_toArray, List.set_cons_zero, List.set_cons_succ])
    | (refine textP_make (v := ?_) (by rfl) (by rfl) (fun wx hS => ?_) ?_; rotate_left; (replace hS := hS.2; subst hS; refine ⟨_, ?_, HK.out⟩; go_simp; with_reducible exact rfl); simp only [Act.put, List.setIfInBounds_toArray, List.set_cons_zero, List.set_cons_succ])
    | (refine textP_late (v := ?_) (by rfl) (by rfl) (fun wx hS => ?_) ?_; rotate_left; (replace hS := hS.2; subst hS; go_simp; with_reducible exact rfl); simp only [Act.put, List.setIfInBounds_toArray, List.set_cons_zero, List.set_cons_succ]))
  refine textP_nil (fun wx hS => ?_)
  replace hS := hS.2
  subst hS
  refine front_tail (by kernel_rfl) (by decide) ?_
  simp only [List.drop_succ_cons, List.drop_zero]
  go_upto_region 5 with (fail)
  obtain ⟨w5, hw5⟩ : ∃ w5, w5 = (w3.alloc (.cells #[.int .i64 (n1 : Int), .int .i64 (n2 : Int), .int .i64 (n3 : Int)] 23)).drew := ⟨_, rfl⟩
  rw [← hw5]
  have q5 : w5.heap[w3.heap.size]? = some (.cells #[.int .i64 (n1 : Int), .int .i64 (n2 : Int), .int .i64 (n3 : Int)] 23 (0, 0)) := by rw [hw5]; exact heap_alloc_new w3 _
  have r5 : w5.heap[w.heap.size]? = some (.cells #[.int .i64 0, .int .i64 0, .int .i64 0] 23 (0, 0)) := by rw [hw5]; exact ((bnew w3 _).block _ z3).trans r3
  have b5 : Below w.heap.size w w5 := by rw [hw5]; exact (bthen b3 (bnew w3 _)).drew
  have z5 : w.heap.size < w5.heap.size := by rw [hw5]; simp; omega
  have y5 : w3.heap.size < w5.heap.size := by rw [hw5]; simp
  have q0 : w5.cell? ⟨w3.heap.size, 0, none⟩ = some (.int .i64 (n1 : Int)) := by rw [cell_of_row _ _ _ _ _ _ q5]; rfl
  have q1 : w5.cell? ⟨w3.heap.size, 1, none⟩ = some (.int .i64 (n2 : Int)) := by rw [cell_of_row _ _ _ _ _ _ q5]; rfl
  have q2 : w5.cell? ⟨w3.heap.size, 2, none⟩ = some (.int .i64 (n3 : Int)) := by rw [cell_of_row _ _ _ _ _ _ q5]; rfl
  have HP5 := Lib.hid (HP.out w5)
  clear hw5 HK k0 k1 k2 r3 b3
  by_cases hgok : GOk n1 n2 n3
  · have hV := HV.out
    rw [if_pos hgok] at hV
    subst hV
    have HC := Lib.hid (HP5.out.1 hgok)
    have g8 : (8 : Int) ≤ n1 := hgok.1
    go_wp2_with fail
    refine HC.out.mono ?_
    rintro e6 w6 ⟨rfl, hb6⟩
    have b6 : Below w.heap.size w w6 := bthen b5 hb6
    have q6 := (hb6.block _ y5).trans q5
    have r6 := (hb6.block _ z5).trans r5
    have q60 : w6.cell? ⟨w3.heap.size, 0, none⟩ = some (.int .i64 (n1 : Int)) := by rw [cell_of_row _ _ _ _ _ _ q6]; rfl
    have q61 : w6.cell? ⟨w3.heap.size, 1, none⟩ = some (.int .i64 (n2 : Int)) := by rw [cell_of_row _ _ _ _ _ _ q6]; rfl
    have q62 : w6.cell? ⟨w3.heap.size, 2, none⟩ = some (.int .i64 (n3 : Int)) := by rw [cell_of_row _ _ _ _ _ _ q6]; rfl
    have c0 : w6.cell? ⟨w.heap.size, 0, none⟩ = some (.int .i64 0) := by rw [cell_of_row _ _ _ _ _ _ r6]; rfl
    have c1 : w6.cell? ⟨w.heap.size, 1, none⟩ = some (.int .i64 0) := by rw [cell_of_row _ _ _ _ _ _ r6]; rfl
    have c2 : w6.cell? ⟨w.heap.size, 2, none⟩ = some (.int .i64 0) := by rw [cell_of_row _ _ _ _ _ _ r6]; rfl
    have f0 := frozen_of_row w6 w.heap.size 0 _ _ r6
    have f1 := frozen_of_row w6 w.heap.size 1 _ _ r6
    have f2 := frozen_of_row w6 w.heap.size 2 _ _ r6
    have hne : ¬ ((n1 : Int) = 0) := by omega
    clear HV r5 q5 q6 r6 hb6 HC HP5 HP q0 q1 q2
    go_wp2_with fail
    (try simp only [Exit.inBlock, Exit.then])
    refine bodyPost_ret (v := .tuple #[GVal n1 n2 n3, .int .i64 0]) ?_ rfl ⟨rfl, ?_⟩
    · rw [results_cell_tmp rfl]
      go_simp
    · exact ((b6.setCell (Nat.le_refl _) _).setCell (Nat.le_refl _) _).setCell (Nat.le_refl _) _
  · have hV := HV.out
    rw [if_neg hgok] at hV
    subst hV
    have HC := Lib.hid (HP5.out.2 hgok)
    go_wp2_with fail
    refine HC.out.mono ?_
    rintro e6 w6 ⟨rfl, hb6⟩
    have b6 : Below w.heap.size w w6 := bthen b5 hb6
    have r6 := (hb6.block _ z5).trans r5
    have c0 : w6.cell? ⟨w.heap.size, 0, none⟩ = some (.int .i64 0) := by rw [cell_of_row _ _ _ _ _ _ r6]; rfl
    have c1 : w6.cell? ⟨w.heap.size, 1, none⟩ = some (.int .i64 0) := by rw [cell_of_row _ _ _ _ _ _ r6]; rfl
    have c2 : w6.cell? ⟨w.heap.size, 2, none⟩ = some (.int .i64 0) := by rw [cell_of_row _ _ _ _ _ _ r6]; rfl
    have f0 := frozen_of_row w6 w.heap.size 0 _ _ r6
    have f1 := frozen_of_row w6 w.heap.size 1 _ _ r6
    have f2 := frozen_of_row w6 w.heap.size 2 _ _ r6
    clear HV r5 q5 r6 hb6 HC HP5 HP q0 q1 q2
    go_wp2_with fail
    (try simp only [Exit.inBlock, Exit.then])
    refine bodyPost_ret (v := .tuple #[GVal 0 0 0, .int .i64 3]) ?_ rfl ⟨rfl, ?_⟩
    · rw [results_cell_tmp rfl]
      go_simp
    · exact ((b6.setCell (Nat.le_refl _) _).setCell (Nat.le_refl _) _).setCell (Nat.le_refl _) _
theorem gtake_any (s : ByteArray) (w : World) : Calls Try.prog 39 #[.string s] w fun e w' => e = .returned (tkR s.data.toList) ∧ Below w.heap.size w w' := by
  by_cases h : s.size = 12
  · exact gtake_long s h w
  · have e : tkR s.data.toList = .tuple #[GVal 0 0 0, .int .i64 3] := by
      unfold tkR
      rw [if_neg (fun ⟨h1, _⟩ => h (by simpa using h1))]
    rw [e]
    exact gtake_short s h w
end Go.Proofs.Ytdjlagjdbehafaa

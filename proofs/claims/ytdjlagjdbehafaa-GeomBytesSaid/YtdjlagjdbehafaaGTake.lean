/-
  The contract of geom.Take. No condition. Own work.
-/
import Derived.Test.YtdjlagjdbehafaaGPut
import Derived.Test.YtdjlagjdbehafaaOct4
namespace Go.Proofs.Ytdjlagjdbehafaa
open Go.RowKit

/-- The three numbers of twelve bytes. -/
def t1 (l : List UInt8) : Nat := gt (l.take 4)
def t2 (l : List UInt8) : Nat := gt ((l.drop 4).take 4)
def t3 (l : List UInt8) : Nat := gt ((l.drop 8).take 4)
theorem gok4 (l : List UInt8) (h : 4 ≤ l.length) : numOk (l.take 4) := by
  have : (l.take 4).length = 4 := by rw [List.length_take]; omega
  exact ⟨by omega, by omega, fun e => by omega⟩
theorem unp12 (l : List UInt8) (h : l.length = 12) : unpR [4, 4, 4] l = some [t1 l, t2 l, t3 l] := by
  rw [unpR, if_pos (by rw [h]; rfl), unpO, if_pos (gok4 l (by omega)), unpO, if_pos (gok4 _ (by rw [List.length_drop]; omega)), unpO, if_pos (gok4 _ (by rw [List.length_drop, List.length_drop]; omega)), unpO]
  simp [t1, t2, t3]
theorem unp_no (l : List UInt8) (h : l.length ≠ 12) : unpR [4, 4, 4] l = none := by
  rw [unpR, if_neg]
  intro e
  exact h e.symm
theorem gB_back (l : List UInt8) (h : l.length = 12) : gB (t1 l) (t2 l) (t3 l) = l := by
  unfold gB t1 t2 t3
  have e : ∀ X : List UInt8, 4 ≤ X.length → be (gt (X.take 4)) 4 = X.take 4 := fun X hX => by
    have := be_gt (X.take 4)
    rwa [show (X.take 4).length = 4 from by rw [List.length_take]; omega] at this
  rw [e l (by omega), e _ (by rw [List.length_drop]; omega), e _ (by rw [List.length_drop]; omega), List.append_nil]
  have h3 : (l.drop 8).take 4 = l.drop 8 := List.take_of_length_le (by rw [List.length_drop]; omega)
  rw [h3, show l.drop 8 = (l.drop 4).drop 4 from by rw [List.drop_drop], List.take_append_drop, List.take_append_drop]
theorem t_gB (b l f : Nat) (hb : b < 4294967296) (hl : l < 4294967296) (hf : f < 4294967296) : t1 (gB b l f) = b ∧ t2 (gB b l f) = l ∧ t3 (gB b l f) = f := by
  have h1 : (gB b l f).take 4 = be b 4 := by unfold gB; rw [List.take_append_of_le_length (by rw [be_len]; omega), List.take_of_length_le (by rw [be_len]; omega)]
  have h2 : (gB b l f).drop 4 = be l 4 ++ (be f 4 ++ []) := by unfold gB; rw [List.drop_append, be_len, List.drop_of_length_le (by rw [be_len]; omega)]; simp
  have h3 : (gB b l f).drop 8 = be f 4 := by
    rw [show (8 : Nat) = 4 + 4 from rfl, ← List.drop_drop, h2, List.drop_append, be_len, List.drop_of_length_le (by rw [be_len]; omega)]
    simp
  unfold t1 t2 t3
  rw [h1, h2, h3, List.take_append_of_le_length (by rw [be_len]; omega), List.take_of_length_le (by rw [be_len]; omega), List.take_of_length_le (by rw [be_len]; omega), gt_be, gt_be, gt_be]
  exact ⟨Nat.mod_eq_of_lt hb, Nat.mod_eq_of_lt hl, Nat.mod_eq_of_lt hf⟩
/-- What Take returns. -/
def tkR (l : List UInt8) : Value := if l.length = 12 ∧ GOk (t1 l) (t2 l) (t3 l) then .tuple #[GVal (t1 l) (t2 l) (t3 l), .int .i64 0] else .tuple #[GVal 0 0 0, .int .i64 3]

set_option maxHeartbeats 3200000 in
theorem gtake_short (s : ByteArray) (h : s.size ≠ 12) (w : World) : Calls Try.prog 39 #[.string s] w fun e w' => e = .returned (.tuple #[GVal 0 0 0, .int .i64 3]) ∧ Below w.heap.size w w' := by
  have hn := unp_no s.data.toList (by simpa using h)
  have HU : Hid (∀ (gw : Nat) w, gw < w.heap.size → w.heap[gw]? = some (.cells #[.int .i64 4, .int .i64 4, .int .i64 4] 86 (0, 0)) → Calls Try.prog 50 #[.slice (some ⟨gw, 0, none⟩) 3 3, .string s] w fun e w' => e = .returned (.tuple #[.slice none 0 0, .int .i64 3]) ∧ Below w.heap.size w w') := Lib.hid fun gw w hg hc => by
    have h := unpack_any [4, 4, 4] s gw 3 (fun k hk => by simp at hk; subst hk; omega) (by simp) w hg (fun j k hk => by
      rw [cell_of_row w gw j _ _ _ hc]
      match j with
      | 0 => simp at hk; subst hk; rfl
      | 1 => simp at hk; subst hk; rfl
      | 2 => simp at hk; subst hk; rfl
      | j + 3 => simp at hk)
    rw [hn] at h
    exact h
  have HW := Lib.hid widths_any
  clear hn
  go_enter Try.func39, Try.ntmps39
  go_upto_region 1 with (fail)
  obtain ⟨W1, hW1⟩ : ∃ W1, W1 = w.alloc (.cells #[.int .i64 0, .int .i64 0, .int .i64 0] 23) := ⟨_, rfl⟩
  rw [← hW1]
  have r1 : W1.heap[w.heap.size]? = some (.cells #[.int .i64 0, .int .i64 0, .int .i64 0] 23 (0, 0)) := by rw [hW1]; exact heap_alloc_new w _
  have b1 : Below w.heap.size w W1 := by rw [hW1]; exact bnew w _
  have z1 : w.heap.size < W1.heap.size := by rw [hW1]; simp
  have HW1 := Lib.hid (HW.out W1)
  clear hW1
  go_wp2_with fail
  refine HW1.out.mono ?_
  rintro e1 w2 ⟨rfl, hw2⟩
  have r2 : w2.heap[W1.heap.size]? = some (.cells #[.int .i64 4, .int .i64 4, .int .i64 4] 86 (0, 0)) := by rw [← hw2]; exact heap_alloc_new W1 _
  have b2 : Below W1.heap.size W1 w2 := by rw [← hw2]; exact bnew W1 _
  have z2 : W1.heap.size < w2.heap.size := by rw [← hw2]; simp
  have HU2 := Lib.hid (HU.out W1.heap.size w2 z2 r2)
  clear hw2 r2 HW1
  go_wp2_with fail
  refine HU2.out.mono ?_
  rintro e3 w3 ⟨rfl, hb3⟩
  have b3 : Below w.heap.size w w3 := bthen (bthen b1 b2) hb3
  have r3 : w3.heap[w.heap.size]? = some (.cells #[.int .i64 0, .int .i64 0, .int .i64 0] 23 (0, 0)) := (hb3.block _ (by omega)).trans ((b2.block _ (by omega)).trans r1)
  have c0 : w3.cell? ⟨w.heap.size, 0, none⟩ = some (.int .i64 0) := by rw [cell_of_row _ _ _ _ _ _ r3]; rfl
  have c1 : w3.cell? ⟨w.heap.size, 1, none⟩ = some (.int .i64 0) := by rw [cell_of_row _ _ _ _ _ _ r3]; rfl
  have c2 : w3.cell? ⟨w.heap.size, 2, none⟩ = some (.int .i64 0) := by rw [cell_of_row _ _ _ _ _ _ r3]; rfl
  have f0 := frozen_of_row w3 w.heap.size 0 _ _ r3
  have f1 := frozen_of_row w3 w.heap.size 1 _ _ r3
  have f2 := frozen_of_row w3 w.heap.size 2 _ _ r3
  clear r1 r3 b1 b2 hb3 z1 z2
  go_wp2_with fail
  (try simp only [Exit.inBlock, Exit.then])
  refine bodyPost_ret (v := .tuple #[GVal 0 0 0, .int .i64 3]) ?_ rfl ⟨rfl, ?_⟩
  · rw [results_cell_tmp rfl]
    go_simp
  · exact ((b3.setCell (Nat.le_refl _) _).setCell (Nat.le_refl _) _).setCell (Nat.le_refl _) _
end Go.Proofs.Ytdjlagjdbehafaa

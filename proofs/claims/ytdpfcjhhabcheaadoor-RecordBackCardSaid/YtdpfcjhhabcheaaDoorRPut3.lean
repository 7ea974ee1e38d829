/-
  The contract of the reference's Put of a record. No condition. Own work.
-/
import Derived.Test.YtdpfcjhhabcheaaDoorRPut2
namespace Go.Proofs.YtdpfcjhhabcheaaDoor
open Go.RowKit

set_option maxRecDepth 100000 in
set_option maxHeartbeats 3200000 in
theorem rrput_no (k e t c g u : Int) (r n : ByteArray) (hn : n.size ≤ 100000) (h : ¬ ROk k e t c g u r n) (w : World) : Calls Tryd.prog 12 #[RVal k e t c g u r n] w fun x w' => x = .returned (.tuple #[.string ⟨#[]⟩, .bool false]) ∧ Below w.heap.size w w' := by
  have hC := rright_any k e t c g u r n hn
  rw [decide_eq_false h] at hC
  have HC := Lib.hid hC
  clear h hC
  go_enter Tryd.func12, Tryd.ntmps12
  go_wp2_with fail
  refine (HC.out _).mono ?_
  rintro e1 w1 ⟨rfl, hb1⟩
  have b1 := bthen (bnew w (.cells (RC k e t c g u r n) 23)) hb1
  clear hb1
  go_wp2_with fail
  go_ret2
  exact ⟨rfl, b1⟩
set_option maxRecDepth 100000 in
set_option maxHeartbeats 6400000 in
theorem rrput_yes (k e t c g u : Nat) (r n : ByteArray) (hr : r.size ≤ 100000) (hn : n.size ≤ 100000) (h : ROk k e t c g u r n) (w : World) : Calls Tryd.prog 12 #[RVal k e t c g u r n] w fun x w' =>
    x = .returned (.tuple #[.string ⟨(recB k e t c g u r.data.toList n.data.toList).toArray⟩, .bool true]) ∧ Below w.heap.size w w' := by
  have hC := rright_any k e t c g u r n hn
  rw [decide_eq_true h] at hC
  have HC := Lib.hid hC
  have hf := rok_fits h
  have hrl : r.data.toList.length = r.size := by simp
  have hnl : n.data.toList.length = n.size := by simp
  have lR := packB_len (rnL k e t c g u)
  have lR2 : ((rnL k e t c g u).map (·.1)).sum = 29 := rfl
  have l1 := txB_len r.data.toList
  have l2 := txB_len n.data.toList
  have HT1 := Lib.hid (rtext_any r hr)
  have HT2 := Lib.hid (rtext_any n hn)
  have HP := Lib.hid (rpack6 k e t c g u hf)
  obtain ⟨G, hG⟩ : ∃ G, G = recB k e t c g u r.data.toList n.data.toList := ⟨_, rfl⟩
  rw [← hG]
  unfold recB at hG
  generalize packB (rnL k e t c g u) = R at *
  generalize txB r.data.toList = X at *
  generalize txB n.data.toList = Y at *
  have s1 : ∀ W, (Op.stringOp .add (⟨R.toArray⟩ : ByteArray) ⟨X.toArray⟩).run Tryd.prog W = .ok (.string ⟨(R ++ X).toArray⟩) W := fun W => by
    rw [← str_app]; exact run_string_add_sum W _ _ (by simp [ByteArray.size]; omega)
  have s2 : ∀ W, (Op.stringOp .add (⟨(R ++ X).toArray⟩ : ByteArray) ⟨Y.toArray⟩).run Tryd.prog W = .ok (.string ⟨G.toArray⟩) W := fun W => by
    rw [hG, ← str_app]; exact run_string_add_sum W _ _ (by simp [ByteArray.size]; omega)
  generalize R ++ X = RX at *
  clear h hC hf hr hn hrl hnl lR lR2 l1 l2 hG
  go_enter Tryd.func12, Tryd.ntmps12
  go_wp2_with fail
  refine (HC.out _).mono ?_
  rintro e1 w1 ⟨rfl, hb1⟩
  have b1 := bthen (bnew w (.cells (RC k e t c g u r n) 23)) hb1
  have z1 := bsz hb1
  have r1 := (hb1.block w.heap.size (by simp)).trans (heap_alloc_new w (.cells (RC k e t c g u r n) 23))
  have q1 : K6 w.heap.size k e t c g u w1 := k6_row r1
  have HA : Hid (Calls Tryd.prog 35 #[.slice (some ⟨w1.heap.size, 0, none⟩) 6 6, .slice (some ⟨w1.heap.size + 1, 0, none⟩) 6 6]
      ((w1.alloc (.cells WC 3)).alloc (.cells (NC k e t c g u) 3)) fun e w' => e = .returned (.tuple #[.string ⟨R.toArray⟩, .int .i64 0]) ∧ Below w1.heap.size w1 w') := Lib.hid (by
    have k1 := heap_alloc_new w1 (.cells WC 3)
    have k2 := heap_alloc_new (w1.alloc (.cells WC 3)) (.cells (NC k e t c g u) 3)
    have k3 := bnew (w1.alloc (.cells WC 3)) (.cells (NC k e t c g u) 3)
    rw [show (w1.alloc (.cells WC 3)).heap.size = w1.heap.size + 1 from by simp] at k2 k3
    have k1' := (k3.block w1.heap.size (by omega)).trans k1
    have bb := (bnew w1 (.cells WC 3)).trans (k3.mono (by omega))
    refine (HP.out w1.heap.size (w1.heap.size + 1) _ k1' k2).mono ?_
    rintro e w' ⟨rfl, hb⟩
    exact ⟨rfl, bthen bb hb⟩)
  have R1 := Lib.hid r1
  obtain ⟨q10, q11, q12, q13, q14, q15⟩ := q1
  clear r1 hb1
  go_wp2_with fail
  refine HA.out.mono ?_
  rintro e2 wx ⟨rfl, hb9⟩
  have r9 := (hb9.block _ z1).trans R1.out
  have c6 : wx.cell? ⟨w.heap.size, 6, none⟩ = some (.string r) := by rw [cell_of_row _ _ _ _ _ _ r9]; rfl
  have c7 : wx.cell? ⟨w.heap.size, 7, none⟩ = some (.string n) := by rw [cell_of_row _ _ _ _ _ _ r9]; rfl
  have z9 : w.heap.size < wx.heap.size := Nat.lt_of_lt_of_le z1 hb9.size
  have b9 := bthen b1 hb9
  clear r9 HA HP HC hb9
  go_wp2_with fail
  refine wp_region_txt (KS2r w w.heap.size r n) (by kernel_rfl) (by kernel_rfl) ⟨c6, c7, z9, b9.drew⟩ ?_
  have HK : Hid (Keeps (KS2r w w.heap.size r n)) := Lib.hid ks2r
  repeat (first
    | (refine text_skip (by rfl) ?_; simp only [Act.put, List.setIfInBounds_toArray, List.set_cons_zero, List.set_cons_succ])
    | (refine text_pure (v := ?_) (by rfl) (fun wx hS => ?_) ?_; rotate_left; (go_simp; with_reducible exact rfl); simp only [Act.put, List.setIfInBounds_toArray, List.set_cons_zero, List.set_cons_succ])
    | (refine text_call (v := ?_) (f := ?_) (args := ?_) (by rfl) (fun wx hS => ?_) (fun wx hS => ?_) ?_; rotate_left 3; (go_simp; constructor <;> with_reducible rfl)
       (first
         | with_reducible exact meets HK.out HT1.out wx hS
         | with_reducible exact meets HK.out HT2.out wx hS)
       simp only [Act.put, List.setIfInBounds_toArray, List.set_cons_zero, List.set_cons_succ]))
  refine text_nil (fun wy hS => ?_)
  have hb8 : Below w.heap.size w wy := hS.2.2.2
  go_wp2_with fail
  go_ret2
  exact ⟨rfl, hb8⟩
end Go.Proofs.YtdpfcjhhabcheaaDoor

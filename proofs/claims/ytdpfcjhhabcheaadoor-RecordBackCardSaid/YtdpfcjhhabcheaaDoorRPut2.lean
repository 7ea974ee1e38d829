/-
  The contract of record.Put. No condition. Own work.
-/
import Derived.Test.YtdpfcjhhabcheaaDoorRPut1
namespace Go.Proofs.YtdpfcjhhabcheaaDoor
open Go.RowKit

abbrev RC (k e t c g u : Int) (r n : ByteArray) : Array Value := #[.int .i64 k, .int .i64 e, .int .i64 t, .int .i64 c, .int .i64 g, .int .i64 u, .string r, .string n]
abbrev K6 (b : Nat) (k e t c g u : Int) (w' : World) : Prop := w'.cell? ⟨b, 0, none⟩ = some (.int .i64 k) ∧ w'.cell? ⟨b, 1, none⟩ = some (.int .i64 e) ∧ w'.cell? ⟨b, 2, none⟩ = some (.int .i64 t) ∧ w'.cell? ⟨b, 3, none⟩ = some (.int .i64 c) ∧
  w'.cell? ⟨b, 4, none⟩ = some (.int .i64 g) ∧ w'.cell? ⟨b, 5, none⟩ = some (.int .i64 u)
theorem k6_below {b : Nat} {k e t c g u : Int} {w1 w2 : World} (h : K6 b k e t c g u w1) (hb : Below w1.heap.size w1 w2) (hl : b < w1.heap.size) : K6 b k e t c g u w2 := by
  have q : ∀ o v, w1.cell? ⟨b, o, none⟩ = some v → w2.cell? ⟨b, o, none⟩ = some v := fun o v h => (hb.cell (p := ⟨b, o, none⟩) hl).trans h
  exact ⟨q _ _ h.1, q _ _ h.2.1, q _ _ h.2.2.1, q _ _ h.2.2.2.1, q _ _ h.2.2.2.2.1, q _ _ h.2.2.2.2.2⟩
theorem k6_row {b : Nat} {k e t c g u : Int} {r n : ByteArray} {T : TypeId} {w : World} (h : w.heap[b]? = some (.cells (RC k e t c g u r n) T (0, 0))) : K6 b k e t c g u w := by
  refine ⟨?_, ?_, ?_, ?_, ?_, ?_⟩ <;> (rw [cell_of_row _ _ _ _ _ _ h]; rfl)
abbrev KS2r (w0 : World) (b : Nat) (r n : ByteArray) (w' : World) : Prop := w'.cell? ⟨b, 6, none⟩ = some (.string r) ∧ w'.cell? ⟨b, 7, none⟩ = some (.string n) ∧ b < w'.heap.size ∧ Below w0.heap.size w0 w'
theorem ks2r {w0 : World} {b : Nat} {r n : ByteArray} : Keeps (KS2r w0 b r n) := fun _ _ h hb =>
  ⟨(hb.cell (p := ⟨b, 6, none⟩) h.2.2.1).trans h.1, (hb.cell (p := ⟨b, 7, none⟩) h.2.2.1).trans h.2.1, Nat.lt_of_lt_of_le h.2.2.1 hb.size, bthen h.2.2.2 hb⟩
set_option maxRecDepth 100000 in
set_option maxHeartbeats 3200000 in
theorem put_no (k e t c g u : Int) (r n : ByteArray) (hn : n.size ≤ 100000) (h : ¬ ROk k e t c g u r n) (w : World) : Calls Tryd.prog 11 #[RVal k e t c g u r n] w fun x w' => x = .returned (.tuple #[.string ⟨#[]⟩, .int .i64 2]) ∧ Below w.heap.size w w' := by
  have hC := check_any k e t c g u r n hn
  rw [okV, if_neg h] at hC
  have HC := Lib.hid hC
  clear h hC
  go_enter Tryd.func11, Tryd.ntmps11
  go_wp2_with fail
  refine (HC.out _).mono ?_
  rintro e1 w1 ⟨rfl, hb1⟩
  have b1 := bthen (bnew w (.cells (RC k e t c g u r n) 23)) hb1
  clear hb1
  go_wp2_with fail
  go_ret2
  exact ⟨rfl, b1⟩
set_option maxRecDepth 100000 in
set_option maxHeartbeats 6400000 in
theorem put_yes (k e t c g u : Nat) (r n : ByteArray) (hr : r.size ≤ 100000) (hn : n.size ≤ 100000) (h : ROk k e t c g u r n) (w : World) : Calls Tryd.prog 11 #[RVal k e t c g u r n] w fun x w' =>
    x = .returned (.tuple #[.string ⟨(recB k e t c g u r.data.toList n.data.toList).toArray⟩, .int .i64 0]) ∧ Below w.heap.size w w' := by
  have hC := check_any k e t c g u r n hn
  rw [okV, if_pos h] at hC
  have HC := Lib.hid hC
  have hf := rok_fits h
  have hrl : r.data.toList.length = r.size := by simp
  have hnl : n.data.toList.length = n.size := by simp
  have lR := packB_len (rnL k e t c g u)
  have lR2 : ((rnL k e t c g u).map (·.1)).sum = 29 := rfl
  have l1 := txB_len r.data.toList
  have l2 := txB_len n.data.toList
  have HT1 := Lib.hid (text_any r hr)
  have HT2 := Lib.hid (text_any n hn)
  have HP := Lib.hid (pack6 k e t c g u hf)
  obtain ⟨G, hG⟩ : ∃ G, G = recB k e t c g u r.data.toList n.data.toList := ⟨_, rfl⟩
  rw [← hG]
  unfold recB at hG
  generalize packB (rnL k e t c g u) = R at *
  generalize txB r.data.toList = X at *
  generalize txB n.data.toList = Y at *
  have s1 : ∀ W, (Op.stringOp .add (⟨R.toArray⟩ : ByteArray) ⟨X.toArray⟩).run Tryd.prog W = .ok (.string ⟨(R ++ X).toArray⟩) W := fun W => by
    rw [← str_app]; exact run_string_add_sum W _ _ (by simp [ByteArray.size]; omega)
  have s2 : ∀ W, (Op.stringOp .add (⟨(R ++ X).toArray⟩ : ByteArray) ⟨Y.toArray⟩).run Tryd.prog W = .ok (.string ⟨G.toArray⟩) W := fun W => by
    rw [hG, ← str_app]; exact run_string_add_sum W _ _ (by simp [ByteArray.size]; omega)
  generalize R ++ X = RX at *
  clear h hC hf hr hn hrl hnl lR lR2 l1 l2 hG
  have HW := Lib.hid rwidths_any
  go_enter Tryd.func11, Tryd.ntmps11
  go_wp2_with fail
  refine (HC.out _).mono ?_
  rintro e1 w1 ⟨rfl, hb1⟩
  have b1 := bthen (bnew w (.cells (RC k e t c g u r n) 23)) hb1
  have z1 := bsz hb1
  have r1 := (hb1.block w.heap.size (by simp)).trans (heap_alloc_new w (.cells (RC k e t c g u r n) 23))
  have HA : Hid (Calls Tryd.prog 31 #[.slice (some ⟨w1.heap.size, 0, none⟩) 6 6, .slice (some ⟨w1.heap.size + 1, 0, none⟩) 6 6]
      ((w1.alloc (.cells WC 3)).alloc (.cells (NC k e t c g u) 3)).drew fun e w' => e = .returned (.tuple #[.string ⟨R.toArray⟩, .int .i64 0]) ∧ Below w1.heap.size w1 w') := Lib.hid (by
    have k1 := heap_alloc_new w1 (.cells WC 3)
    have k2 := heap_alloc_new (w1.alloc (.cells WC 3)) (.cells (NC k e t c g u) 3)
    have k3 := bnew (w1.alloc (.cells WC 3)) (.cells (NC k e t c g u) 3)
    rw [show (w1.alloc (.cells WC 3)).heap.size = w1.heap.size + 1 from by simp] at k2 k3
    have k1' := (k3.block w1.heap.size (by omega)).trans k1
    have bb := (bnew w1 (.cells WC 3)).trans (k3.mono (by omega))
    refine (HP.out w1.heap.size (w1.heap.size + 1) ((w1.alloc (.cells WC 3)).alloc (.cells (NC k e t c g u) 3)).drew k1' k2).mono ?_
    rintro e w' ⟨rfl, hb⟩
    exact ⟨rfl, bthen bb.drew hb⟩)
  have HB : Hid (Calls Tryd.prog 31 #[.slice (some ⟨w1.heap.size + 1, 0, none⟩) 6 6, .slice (some ⟨w1.heap.size, 0, none⟩) 6 6]
      ((w1.alloc (.cells (NC k e t c g u) 3)).alloc (.cells WC 3)).drew fun e w' => e = .returned (.tuple #[.string ⟨R.toArray⟩, .int .i64 0]) ∧ Below w1.heap.size w1 w') := Lib.hid (by
    have k1 := heap_alloc_new w1 (.cells (NC k e t c g u) 3)
    have k2 := heap_alloc_new (w1.alloc (.cells (NC k e t c g u) 3)) (.cells WC 3)
    have k3 := bnew (w1.alloc (.cells (NC k e t c g u) 3)) (.cells WC 3)
    rw [show (w1.alloc (.cells (NC k e t c g u) 3)).heap.size = w1.heap.size + 1 from by simp] at k2 k3
    have k1' := (k3.block w1.heap.size (by omega)).trans k1
    have bb := (bnew w1 (.cells (NC k e t c g u) 3)).trans (k3.mono (by omega))
    refine (HP.out (w1.heap.size + 1) w1.heap.size ((w1.alloc (.cells (NC k e t c g u) 3)).alloc (.cells WC 3)).drew k2 k1').mono ?_
    rintro e w' ⟨rfl, hb⟩
    exact ⟨rfl, bthen bb.drew hb⟩)
  clear hb1
  have hK : ∀ o1 o2 : Obj, K6 w.heap.size k e t c g u w1.drew ∧ K6 w.heap.size k e t c g u (w1.alloc o1).drew ∧ K6 w.heap.size k e t c g u ((w1.alloc o1).alloc o2).drew := fun o1 o2 => by
    have q0 : K6 w.heap.size k e t c g u w1 := k6_row r1
    have q1 := k6_below q0 (bnew w1 o1) z1
    exact ⟨q0, q1, k6_below q1 (bnew (w1.alloc o1) o2).drew (by simp; omega)⟩
  have HK := Lib.hid hK
  have R1 := Lib.hid r1
  clear hK r1
  go_wp2_with fail
  refine wp_region_front (by kernel_rfl) ?_
  refine front_two (K := K6 w.heap.size k e t c g u) 14 0 13 13 26
    ⟨w1.drew, (w1.alloc (.cells WC 3)).drew, ((w1.alloc (.cells WC 3)).alloc (.cells (NC k e t c g u) 3)).drew,
      (w1.alloc (.cells (NC k e t c g u) 3)).drew, ((w1.alloc (.cells (NC k e t c g u) 3)).alloc (.cells WC 3)).drew,
      .slice (some ⟨w1.heap.size + 1, 0, none⟩) 6 6, .slice (some ⟨w1.heap.size, 0, none⟩) 6 6⟩ (by kernel_rfl) (by kernel_rfl) ?_ ?_
  · exact ⟨(HK.out (.cells #[] 0) (.cells #[] 0)).1, (HK.out _ (.cells #[] 0)).2.1, (HK.out _ _).2.2, (HK.out _ (.cells #[] 0)).2.1, (HK.out _ _).2.2⟩
  simp only [List.take_succ_cons, List.take_zero]
  refine textT_call1 (v := .slice (some ⟨w1.heap.size, 0, none⟩) 6 6) (f := 32) (args := #[]) (by rfl) (by rfl) (fun wx => ?_) ?_ ?_ ?_
  · go_simp
  · exact HW.out w1.drew
  · have h := HW.out (w1.alloc (.cells (NC k e t c g u) 3)).drew
    have e : (w1.alloc (.cells (NC k e t c g u) 3)).drew.heap.size = w1.heap.size + 1 := by simp
    rw [e] at h
    exact h
  simp only [Act.put, List.setIfInBounds_toArray, List.set_cons_zero, List.set_cons_succ]
  repeat (first
    | (refine textT_skip (by rfl) (by decide) (by decide) ?_; simp only [Act.put, List.setIfInBounds_toArray, List.set_cons_zero, List.set_cons_succ])
    | (refine textT_pure (v := ?_) (by rfl) (by decide) (by decide) (fun wx hS => ?_) ?_; rotate_left; ((try dsimp only at hS); go_simp; with_reducible exact rfl); simp only [Act.put, List.setIfInBounds_toArray, List.set_cons_zero, List.set_cons_succ]))
  refine textT_make2 (v := .slice (some ⟨w1.heap.size + 1, 0, none⟩) 6 6) (by rfl) (by rfl) ?_ ?_ ?_
  · dsimp only
    go_simp
  · dsimp only
    go_simp
  simp only [Act.put, List.setIfInBounds_toArray, List.set_cons_zero, List.set_cons_succ]
  refine ⟨?_, ?_⟩
  · refine front_chunk 6 14 (PW ((w1.alloc (.cells WC 3)).alloc (.cells (NC k e t c g u) 3)).drew (Below w1.heap.size w1)) (by kernel_rfl) (by decide) rfl ?_
    simp only [List.drop_succ_cons, List.drop_zero, List.take_succ_cons, List.take_zero]
    repeat (first
      | (refine textP_skip (by rfl) (by decide) ?_; simp only [Act.put, List.setIfInBounds_toArray, List.set_cons_zero, List.set_cons_succ])
      | (refine textP_pure (v := ?_) (by rfl) (by decide) (fun q wx hS => ?_) ?_; rotate_left; (go_simp; with_reducible exact rfl); simp only [Act.put, List.setIfInBounds_toArray, List.set_cons_zero, List.set_cons_succ])
      | (refine textP_pivot (v := ?_) (f := ?_) (args := ?_) (by rfl) (by rfl) (fun wx hS => ?_) (fun wx hS => ?_) ?_; rotate_left 3; (go_simp; constructor <;> with_reducible rfl); (with_reducible exact PW.piv HA.out wx hS); simp only [Act.put, List.setIfInBounds_toArray, List.set_cons_zero, List.set_cons_succ]))
    refine textP_nil (fun wx hS => ?_)
    have hb9 : Below w1.heap.size w1 wx := hS
    have r9 := (hb9.block _ z1).trans R1.out
    have c6 : wx.cell? ⟨w.heap.size, 6, none⟩ = some (.string r) := by rw [cell_of_row _ _ _ _ _ _ r9]; rfl
    have c7 : wx.cell? ⟨w.heap.size, 7, none⟩ = some (.string n) := by rw [cell_of_row _ _ _ _ _ _ r9]; rfl
    have z9 : w.heap.size < wx.heap.size := Nat.lt_of_lt_of_le z1 hb9.size
    have b9 := bthen b1 hb9
    clear r9 HA HB HP HC hb9 hS
    refine front_end (by rfl) ?_
    go_wp2_with fail
    refine wp_region_txt (KS2r w w.heap.size r n) (by kernel_rfl) (by kernel_rfl) ⟨c6, c7, z9, b9.drew⟩ ?_
    have HK : Hid (Keeps (KS2r w w.heap.size r n)) := Lib.hid ks2r
    repeat (first
      | (refine text_skip (by rfl) ?_; simp only [Act.put, List.setIfInBounds_toArray, List.set_cons_zero, List.set_cons_succ])
      | (refine text_pure (v := ?_) (by rfl) (fun wx hS => ?_) ?_; rotate_left; (go_simp; with_reducible exact rfl); simp only [Act.put, List.setIfInBounds_toArray, List.set_cons_zero, List.set_cons_succ])
      | (refine text_call (v := ?_) (f := ?_) (args := ?_) (by rfl) (fun wx hS => ?_) (fun wx hS => ?_) ?_; rotate_left 3; (go_simp; constructor <;> with_reducible rfl)
         (first
           | with_reducible exact meets HK.out HT1.out wx hS
           | with_reducible exact meets HK.out HT2.out wx hS)
         simp only [Act.put, List.setIfInBounds_toArray, List.set_cons_zero, List.set_cons_succ]))
    refine text_nil (fun wy hS => ?_)
    have hb8 : Below w.heap.size w wy := hS.2.2.2
    go_wp2_with fail
    go_ret2
    exact ⟨rfl, hb8⟩
  · simp only [List.setIfInBounds_toArray, List.set_cons_zero, List.set_cons_succ]
    refine front_chunk 6 14 (PW ((w1.alloc (.cells (NC k e t c g u) 3)).alloc (.cells WC 3)).drew (Below w1.heap.size w1)) (by kernel_rfl) (by decide) rfl ?_
    simp only [List.drop_succ_cons, List.drop_zero, List.take_succ_cons, List.take_zero]
    repeat (first
      | (refine textP_skip (by rfl) (by decide) ?_; simp only [Act.put, List.setIfInBounds_toArray, List.set_cons_zero, List.set_cons_succ])
      | (refine textP_pure (v := ?_) (by rfl) (by decide) (fun q wx hS => ?_) ?_; rotate_left; (go_simp; with_reducible exact rfl); simp only [Act.put, List.setIfInBounds_toArray, List.set_cons_zero, List.set_cons_succ])
      | (refine textP_pivot (v := ?_) (f := ?_) (args := ?_) (by rfl) (by rfl) (fun wx hS => ?_) (fun wx hS => ?_) ?_; rotate_left 3; (go_simp; constructor <;> with_reducible rfl); (with_reducible exact PW.piv HB.out wx hS); simp only [Act.put, List.setIfInBounds_toArray, List.set_cons_zero, List.set_cons_succ]))
    refine textP_nil (fun wx hS => ?_)
    have hb9 : Below w1.heap.size w1 wx := hS
    have r9 := (hb9.block _ z1).trans R1.out
    have c6 : wx.cell? ⟨w.heap.size, 6, none⟩ = some (.string r) := by rw [cell_of_row _ _ _ _ _ _ r9]; rfl
    have c7 : wx.cell? ⟨w.heap.size, 7, none⟩ = some (.string n) := by rw [cell_of_row _ _ _ _ _ _ r9]; rfl
    have z9 : w.heap.size < wx.heap.size := Nat.lt_of_lt_of_le z1 hb9.size
    have b9 := bthen b1 hb9
    clear r9 HA HB HP HC hb9 hS
    refine front_end (by rfl) ?_
    go_wp2_with fail
    refine wp_region_txt (KS2r w w.heap.size r n) (by kernel_rfl) (by kernel_rfl) ⟨c6, c7, z9, b9.drew⟩ ?_
    have HK : Hid (Keeps (KS2r w w.heap.size r n)) := Lib.hid ks2r
    repeat (first
      | (refine text_skip (by rfl) ?_; simp only [Act.put, List.setIfInBounds_toArray, List.set_cons_zero, List.set_cons_succ])
      | (refine text_pure (v := ?_) (by rfl) (fun wx hS => ?_) ?_; rotate_left; (go_simp; with_reducible exact rfl); simp only [Act.put, List.setIfInBounds_toArray, List.set_cons_zero, List.set_cons_succ])
      | (refine text_call (v := ?_) (f := ?_) (args := ?_) (by rfl) (fun wx hS => ?_) (fun wx hS => ?_) ?_; rotate_left 3; (go_simp; constructor <;> with_reducible rfl)
         (first
           | with_reducible exact meets HK.out HT1.out wx hS
           | with_reducible exact meets HK.out HT2.out wx hS)
         simp only [Act.put, List.setIfInBounds_toArray, List.set_cons_zero, List.set_cons_succ]))
    refine text_nil (fun wy hS => ?_)
    have hb8 : Below w.heap.size w wy := hS.2.2.2
    go_wp2_with fail
    go_ret2
    exact ⟨rfl, hb8⟩
end Go.Proofs.YtdpfcjhhabcheaaDoor

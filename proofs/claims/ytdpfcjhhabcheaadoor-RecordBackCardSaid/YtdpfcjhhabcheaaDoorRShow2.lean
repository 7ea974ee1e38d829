/-
  The contract of record.Show, the kinds 2 to 5 (printed by a program of mine). No condition. Own work.
-/
import Derived.Test.YtdpfcjhhabcheaaDoorRShow
namespace Go.Proofs.YtdpfcjhhabcheaaDoor
open Go.RowKit

set_option maxRecDepth 100000 in
set_option maxHeartbeats 6400000 in
theorem show_two (e t c g u : Nat) (r n : ByteArray) (hn : n.size ≤ 100000) (h : ROk (2 : Nat) e t c g u r n) (w : World) (ht : Tab w) : Calls Tryd.prog 14 #[RVal (2 : Nat) e t c g u r n] w fun x w' =>
    x = .returned (.string (joinS [sRetain, decS g, decS u, sAt, decS t])) ∧ Below w.heap.size w w' := by
  have hC := check_any (2 : Nat) e t c g u r n hn
  rw [okV, if_pos h] at hC
  have HC := Lib.hid hC
  have hf := rok_fits h
  have HI1 := Lib.hid (itoa_any g (by unfold FitsR at hf; omega))
  have hl1 := decS_len g (by unfold FitsR at hf; omega)
  have HI2 := Lib.hid (itoa_any u (by unfold FitsR at hf; omega))
  have hl2 := decS_len u (by unfold FitsR at hf; omega)
  have HI3 := Lib.hid (itoa_any t (by unfold FitsR at hf; omega))
  have hl3 := decS_len t (by unfold FitsR at hf; omega)
  generalize decS g = G at *
  generalize decS u = U at *
  generalize decS t = T at *
  have HJ : Hid (∀ (B : Nat) (v : Value) (w : World), SlO 9 B v ([sRetain, G, U, sAt, T].map Value.string) w → Calls Tryd.prog 40 #[v, .string sBlank] w fun e w' => e = .returned (.string (joinS [sRetain, G, U, sAt, T])) ∧ Below w.heap.size w w') :=
    Lib.hid fun B v w hO => join_any [sRetain, G, U, sAt, T] 100000 (fun x hx => by
      simp only [List.mem_cons, List.not_mem_nil, or_false] at hx
      rcases hx with rfl | rfl | rfl | rfl | rfl <;> first | omega | exact sz_le (by decide)) (by simp) (by omega) (by simp) w hO
  have HTab := Lib.hid ht
  clear h hC hf hn hl1 hl2 hl3 ht
  generalize joinS [sRetain, G, U, sAt, T] = R at *
  go_enter Tryd.func14, Tryd.ntmps14
  go_wp2_with fail
  refine (HC.out _).mono ?_
  rintro e1 w1 ⟨rfl, hb1⟩
  have k1 : KR w w.heap.size (2 : Nat) e t c g u r n w1 := kr_row ((hb1.block w.heap.size (by simp)).trans (heap_alloc_new w (.cells (RC (2 : Nat) e t c g u r n) 23))) ((HTab.out.below (bnew w _)).below hb1) (bthen (bnew w _) hb1)
  have K1 := Lib.hid k1
  obtain ⟨⟨q0, q1, q2, q3, q4, q5⟩, q6, q7, z1, -, -⟩ := k1
  clear hb1
  go_wp2_with fail
  refine wp_region_tailN2 6 (KR w w.heap.size (2 : Nat) e t c g u r n) (by kernel_rfl) (by kernel_rfl) (by kernel_rfl) (kr_drew K1.out) ?_
  simp only [List.take_succ_cons, List.take_zero, List.drop_succ_cons, List.drop_zero]
  have HK : Hid (Keeps (KR w w.heap.size (2 : Nat) e t c g u r n)) := Lib.hid kr
  have HKT : Hid (∀ w', KR w w.heap.size (2 : Nat) e t c g u r n w' → Tab w') := Lib.hid fun _ h => h.2.2.2.2.1
  repeat (first
    | (refine text_skip (by rfl) ?_; simp only [Act.put, List.setIfInBounds_toArray, List.set_cons_zero, List.set_cons_succ])
    | (refine text_pure (v := ?_) (by rfl) (fun wx hS => ?_) ?_; rotate_left; (go_simp; with_reducible exact rfl); simp only [Act.put, List.setIfInBounds_toArray, List.set_cons_zero, List.set_cons_succ])
    | (refine text_call (v := ?_) (f := ?_) (args := ?_) (by rfl) (fun wx hS => ?_) (fun wx hS => ?_) ?_; rotate_left 3; (go_simp; constructor <;> with_reducible rfl)
       (first
         | with_reducible exact meetsT HK.out HKT.out HI1.out wx hS
         | with_reducible exact meetsT HK.out HKT.out HI2.out wx hS)
       simp only [Act.put, List.setIfInBounds_toArray, List.set_cons_zero, List.set_cons_succ]))
  refine text_nil (fun wx hS => ?_)
  clear q0 q1 q2 q3 q4 q5 q6 q7 z1 K1
  have K2 := Lib.hid hS
  obtain ⟨⟨q0, q1, q2, q3, q4, q5⟩, q6, q7, z1, -, -⟩ := hS
  have zz : w.heap.size ≤ wx.heap.size := K2.out.2.2.2.2.2.size
  have L1 : Hid (SlO 9 w.heap.size (.slice (some ⟨wx.heap.size, 0, none⟩) 3 3) ([sRetain, G, U].map Value.string) (wx.alloc (.cells #[.string sRetain, .string G, .string U] 9))) := Lib.hid ((SlO.lit wx 9 ([sRetain, G, U].map Value.string) (by simp [maxLen])).up zz)
  go_wp2_with fail
  refine (HI3.out _ (K2.out.2.2.2.2.1.below (bnew wx _))).mono ?_
  rintro e2 w2 ⟨rfl, hb2⟩
  have L2 := Lib.hid (L1.out.below hb2)
  have B2 := Lib.hid (bthen (bthen K2.out.2.2.2.2.2 (bnew wx _)) hb2)
  clear hb2 L1 K2 q0 q1 q2 q3 q4 q5 q6 q7 z1
  have hO2 : Hid (SlO 9 w.heap.size (.slice (some ⟨wx.heap.size, 0, none⟩) 3 3) ([sRetain, G, U].map Value.string) (w2.alloc (.cells #[.string sAt, .string T] 9))) := Lib.hid (L2.out.below (bnew w2 _))
  have hC2 : Hid (SlC w2.heap.size ([sAt, T].map Value.string) (w2.alloc (.cells #[.string sAt, .string T] 9))) := Lib.hid (SlC.lit w2 _ _)
  go_wp2_with (at_builtin; refine wpList_pushS rfl _ _ rfl w.heap.size _ ([sRetain, G, U].map Value.string) rfl hO2.out w2.heap.size 2 2 [sAt, T] rfl hC2.out rfl (by simp) (bthen B2.out (bnew w2 _)).size ?_)
  intro v' w3 hO3 hg3 hB3
  have B3 := Lib.hid ((bthen B2.out (bnew w2 _)).trans hB3)
  have O3 := Lib.hid hO3
  clear hO3 hg3 hB3
  go_wp2_with fail
  refine (HJ.out _ _ _ O3.out).mono ?_
  rintro e4 w4 ⟨rfl, hb4⟩
  have B4 := bthen B3.out hb4
  clear hb4
  go_wp2_with fail
  go_ret
  exact ⟨rfl, B4⟩
set_option maxRecDepth 100000 in
set_option maxHeartbeats 6400000 in
theorem show_five (e t c g u : Nat) (r n : ByteArray) (hn : n.size ≤ 100000) (h : ROk (5 : Nat) e t c g u r n) (w : World) (ht : Tab w) : Calls Tryd.prog 14 #[RVal (5 : Nat) e t c g u r n] w fun x w' =>
    x = .returned (.string (joinS [sPurge, decS g, decS u, sAt, decS t])) ∧ Below w.heap.size w w' := by
  have hC := check_any (5 : Nat) e t c g u r n hn
  rw [okV, if_pos h] at hC
  have HC := Lib.hid hC
  have hf := rok_fits h
  have HI1 := Lib.hid (itoa_any g (by unfold FitsR at hf; omega))
  have hl1 := decS_len g (by unfold FitsR at hf; omega)
  have HI2 := Lib.hid (itoa_any u (by unfold FitsR at hf; omega))
  have hl2 := decS_len u (by unfold FitsR at hf; omega)
  have HI3 := Lib.hid (itoa_any t (by unfold FitsR at hf; omega))
  have hl3 := decS_len t (by unfold FitsR at hf; omega)
  generalize decS g = G at *
  generalize decS u = U at *
  generalize decS t = T at *
  have HJ : Hid (∀ (B : Nat) (v : Value) (w : World), SlO 9 B v ([sPurge, G, U, sAt, T].map Value.string) w → Calls Tryd.prog 40 #[v, .string sBlank] w fun e w' => e = .returned (.string (joinS [sPurge, G, U, sAt, T])) ∧ Below w.heap.size w w') :=
    Lib.hid fun B v w hO => join_any [sPurge, G, U, sAt, T] 100000 (fun x hx => by
      simp only [List.mem_cons, List.not_mem_nil, or_false] at hx
      rcases hx with rfl | rfl | rfl | rfl | rfl <;> first | omega | exact sz_le (by decide)) (by simp) (by omega) (by simp) w hO
  have HTab := Lib.hid ht
  clear h hC hf hn hl1 hl2 hl3 ht
  generalize joinS [sPurge, G, U, sAt, T] = R at *
  go_enter Tryd.func14, Tryd.ntmps14
  go_wp2_with fail
  refine (HC.out _).mono ?_
  rintro e1 w1 ⟨rfl, hb1⟩
  have k1 : KR w w.heap.size (5 : Nat) e t c g u r n w1 := kr_row ((hb1.block w.heap.size (by simp)).trans (heap_alloc_new w (.cells (RC (5 : Nat) e t c g u r n) 23))) ((HTab.out.below (bnew w _)).below hb1) (bthen (bnew w _) hb1)
  have K1 := Lib.hid k1
  obtain ⟨⟨q0, q1, q2, q3, q4, q5⟩, q6, q7, z1, -, -⟩ := k1
  clear hb1
  go_wp2_with fail
  refine wp_region_tailN2 6 (KR w w.heap.size (5 : Nat) e t c g u r n) (by kernel_rfl) (by kernel_rfl) (by kernel_rfl) (kr_drew K1.out) ?_
  simp only [List.take_succ_cons, List.take_zero, List.drop_succ_cons, List.drop_zero]
  have HK : Hid (Keeps (KR w w.heap.size (5 : Nat) e t c g u r n)) := Lib.hid kr
  have HKT : Hid (∀ w', KR w w.heap.size (5 : Nat) e t c g u r n w' → Tab w') := Lib.hid fun _ h => h.2.2.2.2.1
  repeat (first
    | (refine text_skip (by rfl) ?_; simp only [Act.put, List.setIfInBounds_toArray, List.set_cons_zero, List.set_cons_succ])
    | (refine text_pure (v := ?_) (by rfl) (fun wx hS => ?_) ?_; rotate_left; (go_simp; with_reducible exact rfl); simp only [Act.put, List.setIfInBounds_toArray, List.set_cons_zero, List.set_cons_succ])
    | (refine text_call (v := ?_) (f := ?_) (args := ?_) (by rfl) (fun wx hS => ?_) (fun wx hS => ?_) ?_; rotate_left 3; (go_simp; constructor <;> with_reducible rfl)
       (first
         | with_reducible exact meetsT HK.out HKT.out HI1.out wx hS
         | with_reducible exact meetsT HK.out HKT.out HI2.out wx hS)
       simp only [Act.put, List.setIfInBounds_toArray, List.set_cons_zero, List.set_cons_succ]))
  refine text_nil (fun wx hS => ?_)
  clear q0 q1 q2 q3 q4 q5 q6 q7 z1 K1
  have K2 := Lib.hid hS
  obtain ⟨⟨q0, q1, q2, q3, q4, q5⟩, q6, q7, z1, -, -⟩ := hS
  have zz : w.heap.size ≤ wx.heap.size := K2.out.2.2.2.2.2.size
  have L1 : Hid (SlO 9 w.heap.size (.slice (some ⟨wx.heap.size, 0, none⟩) 3 3) ([sPurge, G, U].map Value.string) (wx.alloc (.cells #[.string sPurge, .string G, .string U] 9))) := Lib.hid ((SlO.lit wx 9 ([sPurge, G, U].map Value.string) (by simp [maxLen])).up zz)
  go_wp2_with fail
  refine (HI3.out _ (K2.out.2.2.2.2.1.below (bnew wx _))).mono ?_
  rintro e2 w2 ⟨rfl, hb2⟩
  have L2 := Lib.hid (L1.out.below hb2)
  have B2 := Lib.hid (bthen (bthen K2.out.2.2.2.2.2 (bnew wx _)) hb2)
  clear hb2 L1 K2 q0 q1 q2 q3 q4 q5 q6 q7 z1
  have hO2 : Hid (SlO 9 w.heap.size (.slice (some ⟨wx.heap.size, 0, none⟩) 3 3) ([sPurge, G, U].map Value.string) (w2.alloc (.cells #[.string sAt, .string T] 9))) := Lib.hid (L2.out.below (bnew w2 _))
  have hC2 : Hid (SlC w2.heap.size ([sAt, T].map Value.string) (w2.alloc (.cells #[.string sAt, .string T] 9))) := Lib.hid (SlC.lit w2 _ _)
  go_wp2_with (at_builtin; refine wpList_pushS rfl _ _ rfl w.heap.size _ ([sPurge, G, U].map Value.string) rfl hO2.out w2.heap.size 2 2 [sAt, T] rfl hC2.out rfl (by simp) (bthen B2.out (bnew w2 _)).size ?_)
  intro v' w3 hO3 hg3 hB3
  have B3 := Lib.hid ((bthen B2.out (bnew w2 _)).trans hB3)
  have O3 := Lib.hid hO3
  clear hO3 hg3 hB3
  go_wp2_with fail
  refine (HJ.out _ _ _ O3.out).mono ?_
  rintro e4 w4 ⟨rfl, hb4⟩
  have B4 := bthen B3.out hb4
  clear hb4
  go_wp2_with fail
  go_ret
  exact ⟨rfl, B4⟩
set_option maxRecDepth 100000 in
set_option maxHeartbeats 6400000 in
theorem show_three (e t c g u : Nat) (r n : ByteArray) (hn : n.size ≤ 100000) (h : ROk (3 : Nat) e t c g u r n) (w : World) (ht : Tab w) : Calls Tryd.prog 14 #[RVal (3 : Nat) e t c g u r n] w fun x w' =>
    x = .returned (.string (joinS [sHold, n, decS g, sAt, decS t])) ∧ Below w.heap.size w w' := by
  have hC := check_any (3 : Nat) e t c g u r n hn
  rw [okV, if_pos h] at hC
  have HC := Lib.hid hC
  have hf := rok_fits h
  have HI1 := Lib.hid (itoa_any g (by unfold FitsR at hf; omega))
  have hl1 := decS_len g (by unfold FitsR at hf; omega)
  have HI3 := Lib.hid (itoa_any t (by unfold FitsR at hf; omega))
  have hl3 := decS_len t (by unfold FitsR at hf; omega)
  generalize decS g = G at *
  generalize decS t = T at *
  have HJ : Hid (∀ (B : Nat) (v : Value) (w : World), SlO 9 B v ([sHold, n, G, sAt, T].map Value.string) w → Calls Tryd.prog 40 #[v, .string sBlank] w fun e w' => e = .returned (.string (joinS [sHold, n, G, sAt, T])) ∧ Below w.heap.size w w') :=
    Lib.hid fun B v w hO => join_any [sHold, n, G, sAt, T] 100000 (fun x hx => by
      simp only [List.mem_cons, List.not_mem_nil, or_false] at hx
      rcases hx with rfl | rfl | rfl | rfl | rfl <;> first | omega | exact sz_le (by decide)) (by simp) (by omega) (by simp) w hO
  have HTab := Lib.hid ht
  clear h hC hf hn hl1 hl3 ht
  generalize joinS [sHold, n, G, sAt, T] = R at *
  go_enter Tryd.func14, Tryd.ntmps14
  go_wp2_with fail
  refine (HC.out _).mono ?_
  rintro e1 w1 ⟨rfl, hb1⟩
  have k1 : KR w w.heap.size (3 : Nat) e t c g u r n w1 := kr_row ((hb1.block w.heap.size (by simp)).trans (heap_alloc_new w (.cells (RC (3 : Nat) e t c g u r n) 23))) ((HTab.out.below (bnew w _)).below hb1) (bthen (bnew w _) hb1)
  have K1 := Lib.hid k1
  obtain ⟨⟨q0, q1, q2, q3, q4, q5⟩, q6, q7, z1, -, -⟩ := k1
  clear hb1
  go_wp2_with fail
  refine wp_region_tailN2 5 (KR w w.heap.size (3 : Nat) e t c g u r n) (by kernel_rfl) (by kernel_rfl) (by kernel_rfl) (kr_drew K1.out) ?_
  simp only [List.take_succ_cons, List.take_zero, List.drop_succ_cons, List.drop_zero]
  have HK : Hid (Keeps (KR w w.heap.size (3 : Nat) e t c g u r n)) := Lib.hid kr
  have HKT : Hid (∀ w', KR w w.heap.size (3 : Nat) e t c g u r n w' → Tab w') := Lib.hid fun _ h => h.2.2.2.2.1
  repeat (first
    | (refine text_skip (by rfl) ?_; simp only [Act.put, List.setIfInBounds_toArray, List.set_cons_zero, List.set_cons_succ])
    | (refine text_pure (v := ?_) (by rfl) (fun wx hS => ?_) ?_; rotate_left; (go_simp; with_reducible exact rfl); simp only [Act.put, List.setIfInBounds_toArray, List.set_cons_zero, List.set_cons_succ])
    | (refine text_call (v := ?_) (f := ?_) (args := ?_) (by rfl) (fun wx hS => ?_) (fun wx hS => ?_) ?_; rotate_left 3; (go_simp; constructor <;> with_reducible rfl)
       (first
         | with_reducible exact meetsT HK.out HKT.out HI1.out wx hS)
       simp only [Act.put, List.setIfInBounds_toArray, List.set_cons_zero, List.set_cons_succ]))
  refine text_nil (fun wx hS => ?_)
  clear q0 q1 q2 q3 q4 q5 q6 q7 z1 K1
  have K2 := Lib.hid hS
  obtain ⟨⟨q0, q1, q2, q3, q4, q5⟩, q6, q7, z1, -, -⟩ := hS
  have zz : w.heap.size ≤ wx.heap.size := K2.out.2.2.2.2.2.size
  have L1 : Hid (SlO 9 w.heap.size (.slice (some ⟨wx.heap.size, 0, none⟩) 3 3) ([sHold, n, G].map Value.string) (wx.alloc (.cells #[.string sHold, .string n, .string G] 9))) := Lib.hid ((SlO.lit wx 9 ([sHold, n, G].map Value.string) (by simp [maxLen])).up zz)
  go_wp2_with fail
  refine (HI3.out _ (K2.out.2.2.2.2.1.below (bnew wx _))).mono ?_
  rintro e2 w2 ⟨rfl, hb2⟩
  have L2 := Lib.hid (L1.out.below hb2)
  have B2 := Lib.hid (bthen (bthen K2.out.2.2.2.2.2 (bnew wx _)) hb2)
  clear hb2 L1 K2 q0 q1 q2 q3 q4 q5 q6 q7 z1
  have hO2 : Hid (SlO 9 w.heap.size (.slice (some ⟨wx.heap.size, 0, none⟩) 3 3) ([sHold, n, G].map Value.string) (w2.alloc (.cells #[.string sAt, .string T] 9))) := Lib.hid (L2.out.below (bnew w2 _))
  have hC2 : Hid (SlC w2.heap.size ([sAt, T].map Value.string) (w2.alloc (.cells #[.string sAt, .string T] 9))) := Lib.hid (SlC.lit w2 _ _)
  go_wp2_with (at_builtin; refine wpList_pushS rfl _ _ rfl w.heap.size _ ([sHold, n, G].map Value.string) rfl hO2.out w2.heap.size 2 2 [sAt, T] rfl hC2.out rfl (by simp) (bthen B2.out (bnew w2 _)).size ?_)
  intro v' w3 hO3 hg3 hB3
  have B3 := Lib.hid ((bthen B2.out (bnew w2 _)).trans hB3)
  have O3 := Lib.hid hO3
  clear hO3 hg3 hB3
  go_wp2_with fail
  refine (HJ.out _ _ _ O3.out).mono ?_
  rintro e4 w4 ⟨rfl, hb4⟩
  have B4 := bthen B3.out hb4
  clear hb4
  go_wp2_with fail
  go_ret
  exact ⟨rfl, B4⟩
set_option maxRecDepth 100000 in
set_option maxHeartbeats 6400000 in
theorem show_four (e t c g u : Nat) (r n : ByteArray) (hn : n.size ≤ 100000) (h : ROk (4 : Nat) e t c g u r n) (w : World) (ht : Tab w) : Calls Tryd.prog 14 #[RVal (4 : Nat) e t c g u r n] w fun x w' =>
    x = .returned (.string (joinS [sRelease, n, sAt, decS t])) ∧ Below w.heap.size w w' := by
  have hC := check_any (4 : Nat) e t c g u r n hn
  rw [okV, if_pos h] at hC
  have HC := Lib.hid hC
  have hf := rok_fits h
  have HI3 := Lib.hid (itoa_any t (by unfold FitsR at hf; omega))
  have hl3 := decS_len t (by unfold FitsR at hf; omega)
  generalize decS t = T at *
  have HJ : Hid (∀ (B : Nat) (v : Value) (w : World), SlO 9 B v ([sRelease, n, sAt, T].map Value.string) w → Calls Tryd.prog 40 #[v, .string sBlank] w fun e w' => e = .returned (.string (joinS [sRelease, n, sAt, T])) ∧ Below w.heap.size w w') :=
    Lib.hid fun B v w hO => join_any [sRelease, n, sAt, T] 100000 (fun x hx => by
      simp only [List.mem_cons, List.not_mem_nil, or_false] at hx
      rcases hx with rfl | rfl | rfl | rfl <;> first | omega | exact sz_le (by decide)) (by simp) (by omega) (by simp) w hO
  have HTab := Lib.hid ht
  clear h hC hf hn  hl3 ht
  generalize joinS [sRelease, n, sAt, T] = R at *
  go_enter Tryd.func14, Tryd.ntmps14
  go_wp2_with fail
  refine (HC.out _).mono ?_
  rintro e1 w1 ⟨rfl, hb1⟩
  have k1 : KR w w.heap.size (4 : Nat) e t c g u r n w1 := kr_row ((hb1.block w.heap.size (by simp)).trans (heap_alloc_new w (.cells (RC (4 : Nat) e t c g u r n) 23))) ((HTab.out.below (bnew w _)).below hb1) (bthen (bnew w _) hb1)
  have K1 := Lib.hid k1
  obtain ⟨⟨q0, q1, q2, q3, q4, q5⟩, q6, q7, z1, -, -⟩ := k1
  clear hb1
  go_wp2_with fail
  have K2 : Hid (KR w w.heap.size (4 : Nat) e t c g u r n w1) := K1
  have zz : w.heap.size ≤ w1.heap.size := K2.out.2.2.2.2.2.size
  have L1 : Hid (SlO 9 w.heap.size (.slice (some ⟨w1.heap.size, 0, none⟩) 2 2) ([sRelease, n].map Value.string) (w1.alloc (.cells #[.string sRelease, .string n] 9))) := Lib.hid ((SlO.lit w1 9 ([sRelease, n].map Value.string) (by simp [maxLen])).up zz)
  clear K1
  refine (HI3.out _ (K2.out.2.2.2.2.1.below (bnew w1 _))).mono ?_
  rintro e2 w2 ⟨rfl, hb2⟩
  have L2 := Lib.hid (L1.out.below hb2)
  have B2 := Lib.hid (bthen (bthen K2.out.2.2.2.2.2 (bnew w1 _)) hb2)
  clear hb2 L1 K2 q0 q1 q2 q3 q4 q5 q6 q7 z1
  have hO2 : Hid (SlO 9 w.heap.size (.slice (some ⟨w1.heap.size, 0, none⟩) 2 2) ([sRelease, n].map Value.string) (w2.alloc (.cells #[.string sAt, .string T] 9))) := Lib.hid (L2.out.below (bnew w2 _))
  have hC2 : Hid (SlC w2.heap.size ([sAt, T].map Value.string) (w2.alloc (.cells #[.string sAt, .string T] 9))) := Lib.hid (SlC.lit w2 _ _)
  go_wp2_with (at_builtin; refine wpList_pushS rfl _ _ rfl w.heap.size _ ([sRelease, n].map Value.string) rfl hO2.out w2.heap.size 2 2 [sAt, T] rfl hC2.out rfl (by simp) (bthen B2.out (bnew w2 _)).size ?_)
  intro v' w3 hO3 hg3 hB3
  have B3 := Lib.hid ((bthen B2.out (bnew w2 _)).trans hB3)
  have O3 := Lib.hid hO3
  clear hO3 hg3 hB3
  go_wp2_with fail
  refine (HJ.out _ _ _ O3.out).mono ?_
  rintro e4 w4 ⟨rfl, hb4⟩
  have B4 := bthen B3.out hb4
  clear hb4
  go_wp2_with fail
  go_ret
  exact ⟨rfl, B4⟩
set_option maxRecDepth 100000 in
set_option maxHeartbeats 3200000 in
theorem show_no (k e t c g u : Int) (r n : ByteArray) (hn : n.size ≤ 100000) (h : ¬ ROk k e t c g u r n) (w : World) : Calls Tryd.prog 14 #[RVal k e t c g u r n] w fun x w' => x = .returned (.string ⟨#[]⟩) ∧ Below w.heap.size w w' := by
  have hC := check_any k e t c g u r n hn
  rw [okV, if_neg h] at hC
  have HC := Lib.hid hC
  clear h hC
  go_enter Tryd.func14, Tryd.ntmps14
  go_wp2_with fail
  refine (HC.out _).mono ?_
  rintro e1 w1 ⟨rfl, hb1⟩
  have b1 := bthen (bnew w (.cells (RC k e t c g u r n) 23)) hb1
  clear hb1
  go_wp2_with fail
  go_ret
  exact ⟨rfl, b1⟩
theorem show_yes (k e t c g u : Nat) (r n : ByteArray) (hn : n.size ≤ 100000) (h : ROk k e t c g u r n) (w : World) (ht : Tab w) : Calls Tryd.prog 14 #[RVal k e t c g u r n] w fun x w' => x = .returned (.string (joinS (shP k e t c g u n))) ∧ Below w.heap.size w w' := by
  have hk : k = 1 ∨ k = 2 ∨ k = 3 ∨ k = 4 ∨ k = 5 := by unfold ROk at h; omega
  rcases hk with rfl | rfl | rfl | rfl | rfl
  · exact show_one e t c g u r n hn h w ht
  · exact show_two e t c g u r n hn h w ht
  · exact show_three e t c g u r n hn h w ht
  · exact show_four e t c g u r n hn h w ht
  · exact show_five e t c g u r n hn h w ht
end Go.Proofs.YtdpfcjhhabcheaaDoor

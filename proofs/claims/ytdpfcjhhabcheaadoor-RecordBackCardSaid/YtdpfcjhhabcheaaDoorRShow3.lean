/-
  The contract of the reference's Show of a record (printed by a program of mine). No condition. Own work.
-/
import Derived.Test.YtdpfcjhhabcheaaDoorRShow2
namespace Go.Proofs.YtdpfcjhhabcheaaDoor
open Go.RowKit

theorem add_mk (A B : ByteArray) (m n k : Nat) (hA : A.size ≤ m) (hB : B.size ≤ n) (hk : m + n = k) (h : k ≤ 1000000) : ∃ C, C = A ++ B ∧ C.size ≤ k ∧ ∀ W, (Op.stringOp .add A B).run Tryd.prog W = .ok (.string C) W :=
  ⟨A ++ B, rfl, by simp; omega, fun W => run_string_add_sum W _ _ (by omega)⟩
theorem jn5 (A B C D E A' D' : ByteArray) (hA : A' = A ++ sBlank) (hD : D' = sBlank ++ D ++ sBlank) : A' ++ B ++ sBlank ++ C ++ D' ++ E = joinS [A, B, C, D, E] := by
  subst hA hD
  apply ByteArray.ext
  apply Array.toList_inj.1
  simp [joinS, Lib.join_cons, Lib.joinTail, ByteArray.data_append]
theorem jn4 (A B D E A' D' : ByteArray) (hA : A' = A ++ sBlank) (hD : D' = sBlank ++ D ++ sBlank) : A' ++ B ++ D' ++ E = joinS [A, B, D, E] := by
  subst hA hD
  apply ByteArray.ext
  apply Array.toList_inj.1
  simp [joinS, Lib.join_cons, Lib.joinTail, ByteArray.data_append]

set_option maxRecDepth 100000 in
set_option maxHeartbeats 6400000 in
theorem rrshow_one (e t c g u : Nat) (r n : ByteArray) (hn : n.size ≤ 100000) (h : ROk (1 : Nat) e t c g u r n) (w : World) (ht : Tab w) : Calls Tryd.prog 15 #[RVal (1 : Nat) e t c g u r n] w fun x w' =>
    x = .returned (.string (joinS [sClose, decS e, decS c, sAt, decS t])) ∧ Below w.heap.size w w' := by
  have hC := rright_any (1 : Nat) e t c g u r n hn
  rw [decide_eq_true h] at hC
  have HC := Lib.hid hC
  have hf := rok_fits h
  have HIg := Lib.hid (rdig g (by unfold FitsR at hf; omega))
  have hlg := decS_len g (by unfold FitsR at hf; omega)
  have HIu := Lib.hid (rdig u (by unfold FitsR at hf; omega))
  have hlu := decS_len u (by unfold FitsR at hf; omega)
  have HIe := Lib.hid (rdig e (by unfold FitsR at hf; omega))
  have hle := decS_len e (by unfold FitsR at hf; omega)
  have HIc := Lib.hid (rdig c (by unfold FitsR at hf; omega))
  have hlc := decS_len c (by unfold FitsR at hf; omega)
  have HIt := Lib.hid (rdig t (by unfold FitsR at hf; omega))
  have hlt := decS_len t (by unfold FitsR at hf; omega)
  generalize decS g = G at *
  generalize decS u = U at *
  generalize decS e = E at *
  generalize decS c = C at *
  generalize decS t = T at *
  obtain ⟨P1, e1, z1, s1⟩ := add_mk (⟨#[112, 117, 114, 103, 101, 32]⟩ : ByteArray) G 6 19 25 (Nat.le_refl _) hlg (by decide) (by decide)
  obtain ⟨P2, e2, z2, s2⟩ := add_mk P1 (⟨#[32]⟩ : ByteArray) 25 1 26 z1 (Nat.le_refl _) (by decide) (by decide)
  obtain ⟨P3, e3, z3, s3⟩ := add_mk P2 U 26 19 45 z2 hlu (by decide) (by decide)
  obtain ⟨P4, e4, z4, s4⟩ := add_mk (⟨#[99, 108, 111, 115, 101, 32]⟩ : ByteArray) E 6 19 25 (Nat.le_refl _) hle (by decide) (by decide)
  obtain ⟨P5, e5, z5, s5⟩ := add_mk P4 (⟨#[32]⟩ : ByteArray) 25 1 26 z4 (Nat.le_refl _) (by decide) (by decide)
  obtain ⟨P6, e6, z6, s6⟩ := add_mk P5 C 26 19 45 z5 hlc (by decide) (by decide)
  obtain ⟨P7, e7, z7, s7⟩ := add_mk P6 (⟨#[32, 97, 116, 32]⟩ : ByteArray) 45 4 49 z6 (Nat.le_refl _) (by decide) (by decide)
  obtain ⟨P8, e8, z8, s8⟩ := add_mk P7 T 49 19 68 z7 hlt (by decide) (by decide)
  have HQ : Hid (P8 = joinS [sClose, E, C, sAt, T]) := Lib.hid (by
    rw [e8, e7, e6, e5, e4]
    exact jn5 _ _ _ _ _ _ _ rfl rfl)
  have HTab := Lib.hid ht
  clear h hC hf hn ht hlg hlu hle hlc hlt e1 e2 e3 e4 e5 e6 e7 e8 z1 z2 z3 z4 z5 z6 z7 z8
  generalize joinS [sClose, E, C, sAt, T] = R at *
  go_enter Tryd.func15, Tryd.ntmps15
  go_wp2_with fail
  refine (HC.out _).mono ?_
  rintro e1 w1 ⟨rfl, hb1⟩
  have k1 : KR w w.heap.size (1 : Nat) e t c g u r n w1 := kr_row ((hb1.block w.heap.size (by simp)).trans (heap_alloc_new w (.cells (RC (1 : Nat) e t c g u r n) 23))) ((HTab.out.below (bnew w _)).below hb1) (bthen (bnew w _) hb1)
  have K1 := Lib.hid k1
  obtain ⟨⟨q0, q1, q2, q3, q4, q5⟩, q6, q7, z1, -, -⟩ := k1
  clear hb1
  have HK : Hid (Keeps (KR w w.heap.size (1 : Nat) e t c g u r n)) := Lib.hid kr
  go_wp2_with fail
  refine wp_region_txt (KR w w.heap.size (1 : Nat) e t c g u r n) (by kernel_rfl) (by kernel_rfl) (kr_drew K1.out) ?_
  repeat (first
    | (refine text_skip (by rfl) ?_; simp only [Act.put, List.setIfInBounds_toArray, List.set_cons_zero, List.set_cons_succ])
    | (refine text_pure (v := ?_) (by rfl) (fun wx hS => ?_) ?_; rotate_left; (go_simp; with_reducible exact rfl); simp only [Act.put, List.setIfInBounds_toArray, List.set_cons_zero, List.set_cons_succ])
    | (refine text_call (v := ?_) (f := ?_) (args := ?_) (by rfl) (fun wx hS => ?_) (fun wx hS => ?_) ?_; rotate_left 3; (go_simp; constructor <;> with_reducible rfl)
       (first
         | with_reducible exact meets HK.out HIg.out wx hS
         | with_reducible exact meets HK.out HIu.out wx hS)
       simp only [Act.put, List.setIfInBounds_toArray, List.set_cons_zero, List.set_cons_succ]))
  refine text_nil (fun wx2 hS => ?_)
  clear q0 q1 q2 q3 q4 q5 q6 q7 z1 K1
  have K2 := Lib.hid hS
  obtain ⟨⟨q0, q1, q2, q3, q4, q5⟩, q6, q7, z1, -, -⟩ := hS
  go_wp2_with fail
  refine wp_region_txt (KR w w.heap.size (1 : Nat) e t c g u r n) (by kernel_rfl) (by kernel_rfl) (kr_drew K2.out) ?_
  repeat (first
    | (refine text_skip (by rfl) ?_; simp only [Act.put, List.setIfInBounds_toArray, List.set_cons_zero, List.set_cons_succ])
    | (refine text_pure (v := ?_) (by rfl) (fun wx hS => ?_) ?_; rotate_left; (go_simp; with_reducible exact rfl); simp only [Act.put, List.setIfInBounds_toArray, List.set_cons_zero, List.set_cons_succ])
    | (refine text_call (v := ?_) (f := ?_) (args := ?_) (by rfl) (fun wx hS => ?_) (fun wx hS => ?_) ?_; rotate_left 3; (go_simp; constructor <;> with_reducible rfl)
       (first
         | with_reducible exact meets HK.out HIe.out wx hS
         | with_reducible exact meets HK.out HIc.out wx hS)
       simp only [Act.put, List.setIfInBounds_toArray, List.set_cons_zero, List.set_cons_succ]))
  refine text_nil (fun wx3 hS => ?_)
  clear q0 q1 q2 q3 q4 q5 q6 q7 z1 K2
  have K3 := Lib.hid hS
  obtain ⟨⟨q0, q1, q2, q3, q4, q5⟩, q6, q7, z1, -, -⟩ := hS
  go_wp2_with fail
  refine (HIt.out _).mono ?_
  rintro e2 w2 ⟨rfl, hb2⟩
  have B2 := bthen K3.out.2.2.2.2.2 hb2
  clear hb2
  go_wp2_with fail
  go_ret
  exact ⟨by rw [HQ.out]; rfl, B2⟩
set_option maxRecDepth 100000 in
set_option maxHeartbeats 6400000 in
theorem rrshow_two (e t c g u : Nat) (r n : ByteArray) (hn : n.size ≤ 100000) (h : ROk (2 : Nat) e t c g u r n) (w : World) (ht : Tab w) : Calls Tryd.prog 15 #[RVal (2 : Nat) e t c g u r n] w fun x w' =>
    x = .returned (.string (joinS [sRetain, decS g, decS u, sAt, decS t])) ∧ Below w.heap.size w w' := by
  have hC := rright_any (2 : Nat) e t c g u r n hn
  rw [decide_eq_true h] at hC
  have HC := Lib.hid hC
  have hf := rok_fits h
  have HIg := Lib.hid (rdig g (by unfold FitsR at hf; omega))
  have hlg := decS_len g (by unfold FitsR at hf; omega)
  have HIu := Lib.hid (rdig u (by unfold FitsR at hf; omega))
  have hlu := decS_len u (by unfold FitsR at hf; omega)
  have HIt := Lib.hid (rdig t (by unfold FitsR at hf; omega))
  have hlt := decS_len t (by unfold FitsR at hf; omega)
  generalize decS g = G at *
  generalize decS u = U at *
  generalize decS t = T at *
  obtain ⟨P1, e1, z1, s1⟩ := add_mk (⟨#[112, 117, 114, 103, 101, 32]⟩ : ByteArray) G 6 19 25 (Nat.le_refl _) hlg (by decide) (by decide)
  obtain ⟨P2, e2, z2, s2⟩ := add_mk P1 (⟨#[32]⟩ : ByteArray) 25 1 26 z1 (Nat.le_refl _) (by decide) (by decide)
  obtain ⟨P3, e3, z3, s3⟩ := add_mk P2 U 26 19 45 z2 hlu (by decide) (by decide)
  obtain ⟨P4, e4, z4, s4⟩ := add_mk (⟨#[114, 101, 116, 97, 105, 110, 32]⟩ : ByteArray) G 7 19 26 (Nat.le_refl _) hlg (by decide) (by decide)
  obtain ⟨P5, e5, z5, s5⟩ := add_mk P4 (⟨#[32]⟩ : ByteArray) 26 1 27 z4 (Nat.le_refl _) (by decide) (by decide)
  obtain ⟨P6, e6, z6, s6⟩ := add_mk P5 U 27 19 46 z5 hlu (by decide) (by decide)
  obtain ⟨P7, e7, z7, s7⟩ := add_mk P6 (⟨#[32, 97, 116, 32]⟩ : ByteArray) 46 4 50 z6 (Nat.le_refl _) (by decide) (by decide)
  obtain ⟨P8, e8, z8, s8⟩ := add_mk P7 T 50 19 69 z7 hlt (by decide) (by decide)
  have HQ : Hid (P8 = joinS [sRetain, G, U, sAt, T]) := Lib.hid (by
    rw [e8, e7, e6, e5, e4]
    exact jn5 _ _ _ _ _ _ _ rfl rfl)
  have HTab := Lib.hid ht
  clear h hC hf hn ht hlg hlu hlt e1 e2 e3 e4 e5 e6 e7 e8 z1 z2 z3 z4 z5 z6 z7 z8
  generalize joinS [sRetain, G, U, sAt, T] = R at *
  go_enter Tryd.func15, Tryd.ntmps15
  go_wp2_with fail
  refine (HC.out _).mono ?_
  rintro e1 w1 ⟨rfl, hb1⟩
  have k1 : KR w w.heap.size (2 : Nat) e t c g u r n w1 := kr_row ((hb1.block w.heap.size (by simp)).trans (heap_alloc_new w (.cells (RC (2 : Nat) e t c g u r n) 23))) ((HTab.out.below (bnew w _)).below hb1) (bthen (bnew w _) hb1)
  have K1 := Lib.hid k1
  obtain ⟨⟨q0, q1, q2, q3, q4, q5⟩, q6, q7, z1, -, -⟩ := k1
  clear hb1
  have HK : Hid (Keeps (KR w w.heap.size (2 : Nat) e t c g u r n)) := Lib.hid kr
  go_wp2_with fail
  refine wp_region_txt (KR w w.heap.size (2 : Nat) e t c g u r n) (by kernel_rfl) (by kernel_rfl) (kr_drew K1.out) ?_
  repeat (first
    | (refine text_skip (by rfl) ?_; simp only [Act.put, List.setIfInBounds_toArray, List.set_cons_zero, List.set_cons_succ])
    | (refine text_pure (v := ?_) (by rfl) (fun wx hS => ?_) ?_; rotate_left; (go_simp; with_reducible exact rfl); simp only [Act.put, List.setIfInBounds_toArray, List.set_cons_zero, List.set_cons_succ])
    | (refine text_call (v := ?_) (f := ?_) (args := ?_) (by rfl) (fun wx hS => ?_) (fun wx hS => ?_) ?_; rotate_left 3; (go_simp; constructor <;> with_reducible rfl)
       (first
         | with_reducible exact meets HK.out HIg.out wx hS
         | with_reducible exact meets HK.out HIu.out wx hS)
       simp only [Act.put, List.setIfInBounds_toArray, List.set_cons_zero, List.set_cons_succ]))
  refine text_nil (fun wx2 hS => ?_)
  clear q0 q1 q2 q3 q4 q5 q6 q7 z1 K1
  have K2 := Lib.hid hS
  obtain ⟨⟨q0, q1, q2, q3, q4, q5⟩, q6, q7, z1, -, -⟩ := hS
  go_wp2_with fail
  refine wp_region_txt (KR w w.heap.size (2 : Nat) e t c g u r n) (by kernel_rfl) (by kernel_rfl) (kr_drew K2.out) ?_
  repeat (first
    | (refine text_skip (by rfl) ?_; simp only [Act.put, List.setIfInBounds_toArray, List.set_cons_zero, List.set_cons_succ])
    | (refine text_pure (v := ?_) (by rfl) (fun wx hS => ?_) ?_; rotate_left; (go_simp; with_reducible exact rfl); simp only [Act.put, List.setIfInBounds_toArray, List.set_cons_zero, List.set_cons_succ])
    | (refine text_call (v := ?_) (f := ?_) (args := ?_) (by rfl) (fun wx hS => ?_) (fun wx hS => ?_) ?_; rotate_left 3; (go_simp; constructor <;> with_reducible rfl)
       (first
         | with_reducible exact meets HK.out HIg.out wx hS
         | with_reducible exact meets HK.out HIu.out wx hS)
       simp only [Act.put, List.setIfInBounds_toArray, List.set_cons_zero, List.set_cons_succ]))
  refine text_nil (fun wx3 hS => ?_)
  clear q0 q1 q2 q3 q4 q5 q6 q7 z1 K2
  have K3 := Lib.hid hS
  obtain ⟨⟨q0, q1, q2, q3, q4, q5⟩, q6, q7, z1, -, -⟩ := hS
  go_wp2_with fail
  refine (HIt.out _).mono ?_
  rintro e2 w2 ⟨rfl, hb2⟩
  have B2 := bthen K3.out.2.2.2.2.2 hb2
  clear hb2
  go_wp2_with fail
  go_ret
  exact ⟨by rw [HQ.out]; rfl, B2⟩
set_option maxRecDepth 100000 in
set_option maxHeartbeats 6400000 in
theorem rrshow_three (e t c g u : Nat) (r n : ByteArray) (hn : n.size ≤ 100000) (h : ROk (3 : Nat) e t c g u r n) (w : World) (ht : Tab w) : Calls Tryd.prog 15 #[RVal (3 : Nat) e t c g u r n] w fun x w' =>
    x = .returned (.string (joinS [sHold, n, decS g, sAt, decS t])) ∧ Below w.heap.size w w' := by
  have hC := rright_any (3 : Nat) e t c g u r n hn
  rw [decide_eq_true h] at hC
  have HC := Lib.hid hC
  have hf := rok_fits h
  have HIg := Lib.hid (rdig g (by unfold FitsR at hf; omega))
  have hlg := decS_len g (by unfold FitsR at hf; omega)
  have HIu := Lib.hid (rdig u (by unfold FitsR at hf; omega))
  have hlu := decS_len u (by unfold FitsR at hf; omega)
  have HIt := Lib.hid (rdig t (by unfold FitsR at hf; omega))
  have hlt := decS_len t (by unfold FitsR at hf; omega)
  generalize decS g = G at *
  generalize decS u = U at *
  generalize decS t = T at *
  obtain ⟨P1, e1, z1, s1⟩ := add_mk (⟨#[112, 117, 114, 103, 101, 32]⟩ : ByteArray) G 6 19 25 (Nat.le_refl _) hlg (by decide) (by decide)
  obtain ⟨P2, e2, z2, s2⟩ := add_mk P1 (⟨#[32]⟩ : ByteArray) 25 1 26 z1 (Nat.le_refl _) (by decide) (by decide)
  obtain ⟨P3, e3, z3, s3⟩ := add_mk P2 U 26 19 45 z2 hlu (by decide) (by decide)
  obtain ⟨P4, e4, z4, s4⟩ := add_mk (⟨#[104, 111, 108, 100, 32]⟩ : ByteArray) n 5 100000 100005 (Nat.le_refl _) hn (by decide) (by decide)
  obtain ⟨P5, e5, z5, s5⟩ := add_mk P4 (⟨#[32]⟩ : ByteArray) 100005 1 100006 z4 (Nat.le_refl _) (by decide) (by decide)
  obtain ⟨P6, e6, z6, s6⟩ := add_mk P5 G 100006 19 100025 z5 hlg (by decide) (by decide)
  obtain ⟨P7, e7, z7, s7⟩ := add_mk P6 (⟨#[32, 97, 116, 32]⟩ : ByteArray) 100025 4 100029 z6 (Nat.le_refl _) (by decide) (by decide)
  obtain ⟨P8, e8, z8, s8⟩ := add_mk P7 T 100029 19 100048 z7 hlt (by decide) (by decide)
  have HQ : Hid (P8 = joinS [sHold, n, G, sAt, T]) := Lib.hid (by
    rw [e8, e7, e6, e5, e4]
    exact jn5 _ _ _ _ _ _ _ rfl rfl)
  have HTab := Lib.hid ht
  clear h hC hf hn ht hlg hlu hlt e1 e2 e3 e4 e5 e6 e7 e8 z1 z2 z3 z4 z5 z6 z7 z8
  generalize joinS [sHold, n, G, sAt, T] = R at *
  go_enter Tryd.func15, Tryd.ntmps15
  go_wp2_with fail
  refine (HC.out _).mono ?_
  rintro e1 w1 ⟨rfl, hb1⟩
  have k1 : KR w w.heap.size (3 : Nat) e t c g u r n w1 := kr_row ((hb1.block w.heap.size (by simp)).trans (heap_alloc_new w (.cells (RC (3 : Nat) e t c g u r n) 23))) ((HTab.out.below (bnew w _)).below hb1) (bthen (bnew w _) hb1)
  have K1 := Lib.hid k1
  obtain ⟨⟨q0, q1, q2, q3, q4, q5⟩, q6, q7, z1, -, -⟩ := k1
  clear hb1
  have HK : Hid (Keeps (KR w w.heap.size (3 : Nat) e t c g u r n)) := Lib.hid kr
  go_wp2_with fail
  refine wp_region_txt (KR w w.heap.size (3 : Nat) e t c g u r n) (by kernel_rfl) (by kernel_rfl) (kr_drew K1.out) ?_
  repeat (first
    | (refine text_skip (by rfl) ?_; simp only [Act.put, List.setIfInBounds_toArray, List.set_cons_zero, List.set_cons_succ])
    | (refine text_pure (v := ?_) (by rfl) (fun wx hS => ?_) ?_; rotate_left; (go_simp; with_reducible exact rfl); simp only [Act.put, List.setIfInBounds_toArray, List.set_cons_zero, List.set_cons_succ])
    | (refine text_call (v := ?_) (f := ?_) (args := ?_) (by rfl) (fun wx hS => ?_) (fun wx hS => ?_) ?_; rotate_left 3; (go_simp; constructor <;> with_reducible rfl)
       (first
         | with_reducible exact meets HK.out HIg.out wx hS
         | with_reducible exact meets HK.out HIu.out wx hS)
       simp only [Act.put, List.setIfInBounds_toArray, List.set_cons_zero, List.set_cons_succ]))
  refine text_nil (fun wx2 hS => ?_)
  clear q0 q1 q2 q3 q4 q5 q6 q7 z1 K1
  have K2 := Lib.hid hS
  obtain ⟨⟨q0, q1, q2, q3, q4, q5⟩, q6, q7, z1, -, -⟩ := hS
  go_wp2_with fail
  refine wp_region_txt (KR w w.heap.size (3 : Nat) e t c g u r n) (by kernel_rfl) (by kernel_rfl) (kr_drew K2.out) ?_
  repeat (first
    | (refine text_skip (by rfl) ?_; simp only [Act.put, List.setIfInBounds_toArray, List.set_cons_zero, List.set_cons_succ])
    | (refine text_pure (v := ?_) (by rfl) (fun wx hS => ?_) ?_; rotate_left; (go_simp; with_reducible exact rfl); simp only [Act.put, List.setIfInBounds_toArray, List.set_cons_zero, List.set_cons_succ])
    | (refine text_call (v := ?_) (f := ?_) (args := ?_) (by rfl) (fun wx hS => ?_) (fun wx hS => ?_) ?_; rotate_left 3; (go_simp; constructor <;> with_reducible rfl)
       (first
         | with_reducible exact meets HK.out HIg.out wx hS)
       simp only [Act.put, List.setIfInBounds_toArray, List.set_cons_zero, List.set_cons_succ]))
  refine text_nil (fun wx3 hS => ?_)
  clear q0 q1 q2 q3 q4 q5 q6 q7 z1 K2
  have K3 := Lib.hid hS
  obtain ⟨⟨q0, q1, q2, q3, q4, q5⟩, q6, q7, z1, -, -⟩ := hS
  go_wp2_with fail
  refine (HIt.out _).mono ?_
  rintro e2 w2 ⟨rfl, hb2⟩
  have B2 := bthen K3.out.2.2.2.2.2 hb2
  clear hb2
  go_wp2_with fail
  go_ret
  exact ⟨by rw [HQ.out]; rfl, B2⟩
set_option maxRecDepth 100000 in
set_option maxHeartbeats 6400000 in
theorem rrshow_four (e t c g u : Nat) (r n : ByteArray) (hn : n.size ≤ 100000) (h : ROk (4 : Nat) e t c g u r n) (w : World) (ht : Tab w) : Calls Tryd.prog 15 #[RVal (4 : Nat) e t c g u r n] w fun x w' =>
    x = .returned (.string (joinS [sRelease, n, sAt, decS t])) ∧ Below w.heap.size w w' := by
  have hC := rright_any (4 : Nat) e t c g u r n hn
  rw [decide_eq_true h] at hC
  have HC := Lib.hid hC
  have hf := rok_fits h
  have HIg := Lib.hid (rdig g (by unfold FitsR at hf; omega))
  have hlg := decS_len g (by unfold FitsR at hf; omega)
  have HIu := Lib.hid (rdig u (by unfold FitsR at hf; omega))
  have hlu := decS_len u (by unfold FitsR at hf; omega)
  have HIt := Lib.hid (rdig t (by unfold FitsR at hf; omega))
  have hlt := decS_len t (by unfold FitsR at hf; omega)
  generalize decS g = G at *
  generalize decS u = U at *
  generalize decS t = T at *
  obtain ⟨P1, e1, z1, s1⟩ := add_mk (⟨#[112, 117, 114, 103, 101, 32]⟩ : ByteArray) G 6 19 25 (Nat.le_refl _) hlg (by decide) (by decide)
  obtain ⟨P2, e2, z2, s2⟩ := add_mk P1 (⟨#[32]⟩ : ByteArray) 25 1 26 z1 (Nat.le_refl _) (by decide) (by decide)
  obtain ⟨P3, e3, z3, s3⟩ := add_mk P2 U 26 19 45 z2 hlu (by decide) (by decide)
  obtain ⟨P4, e4, z4, s4⟩ := add_mk (⟨#[114, 101, 108, 101, 97, 115, 101, 32]⟩ : ByteArray) n 8 100000 100008 (Nat.le_refl _) hn (by decide) (by decide)
  obtain ⟨P5, e5, z5, s5⟩ := add_mk P4 (⟨#[32, 97, 116, 32]⟩ : ByteArray) 100008 4 100012 z4 (Nat.le_refl _) (by decide) (by decide)
  obtain ⟨P6, e6, z6, s6⟩ := add_mk P5 T 100012 19 100031 z5 hlt (by decide) (by decide)
  have HQ : Hid (P6 = joinS [sRelease, n, sAt, T]) := Lib.hid (by
    rw [e6, e5, e4]
    exact jn4 _ _ _ _ _ _ rfl rfl)
  have HTab := Lib.hid ht
  clear h hC hf hn ht hlg hlu hlt e1 e2 e3 e4 e5 e6 z1 z2 z3 z4 z5 z6
  generalize joinS [sRelease, n, sAt, T] = R at *
  go_enter Tryd.func15, Tryd.ntmps15
  go_wp2_with fail
  refine (HC.out _).mono ?_
  rintro e1 w1 ⟨rfl, hb1⟩
  have k1 : KR w w.heap.size (4 : Nat) e t c g u r n w1 := kr_row ((hb1.block w.heap.size (by simp)).trans (heap_alloc_new w (.cells (RC (4 : Nat) e t c g u r n) 23))) ((HTab.out.below (bnew w _)).below hb1) (bthen (bnew w _) hb1)
  have K1 := Lib.hid k1
  obtain ⟨⟨q0, q1, q2, q3, q4, q5⟩, q6, q7, z1, -, -⟩ := k1
  clear hb1
  have HK : Hid (Keeps (KR w w.heap.size (4 : Nat) e t c g u r n)) := Lib.hid kr
  go_wp2_with fail
  refine wp_region_txt (KR w w.heap.size (4 : Nat) e t c g u r n) (by kernel_rfl) (by kernel_rfl) (kr_drew K1.out) ?_
  repeat (first
    | (refine text_skip (by rfl) ?_; simp only [Act.put, List.setIfInBounds_toArray, List.set_cons_zero, List.set_cons_succ])
    | (refine text_pure (v := ?_) (by rfl) (fun wx hS => ?_) ?_; rotate_left; (go_simp; with_reducible exact rfl); simp only [Act.put, List.setIfInBounds_toArray, List.set_cons_zero, List.set_cons_succ])
    | (refine text_call (v := ?_) (f := ?_) (args := ?_) (by rfl) (fun wx hS => ?_) (fun wx hS => ?_) ?_; rotate_left 3; (go_simp; constructor <;> with_reducible rfl)
       (first
         | with_reducible exact meets HK.out HIg.out wx hS
         | with_reducible exact meets HK.out HIu.out wx hS)
       simp only [Act.put, List.setIfInBounds_toArray, List.set_cons_zero, List.set_cons_succ]))
  refine text_nil (fun wx2 hS => ?_)
  clear q0 q1 q2 q3 q4 q5 q6 q7 z1 K1
  have K2 := Lib.hid hS
  obtain ⟨⟨q0, q1, q2, q3, q4, q5⟩, q6, q7, z1, -, -⟩ := hS
  go_wp2_with fail
  refine (HIt.out _).mono ?_
  rintro e2 w2 ⟨rfl, hb2⟩
  have B2 := bthen K2.out.2.2.2.2.2 hb2
  clear hb2
  go_wp2_with fail
  go_ret
  exact ⟨by rw [HQ.out]; rfl, B2⟩
set_option maxRecDepth 100000 in
set_option maxHeartbeats 6400000 in
theorem rrshow_five (e t c g u : Nat) (r n : ByteArray) (hn : n.size ≤ 100000) (h : ROk (5 : Nat) e t c g u r n) (w : World) (ht : Tab w) : Calls Tryd.prog 15 #[RVal (5 : Nat) e t c g u r n] w fun x w' =>
    x = .returned (.string (joinS [sPurge, decS g, decS u, sAt, decS t])) ∧ Below w.heap.size w w' := by
  have hC := rright_any (5 : Nat) e t c g u r n hn
  rw [decide_eq_true h] at hC
  have HC := Lib.hid hC
  have hf := rok_fits h
  have HIg := Lib.hid (rdig g (by unfold FitsR at hf; omega))
  have hlg := decS_len g (by unfold FitsR at hf; omega)
  have HIu := Lib.hid (rdig u (by unfold FitsR at hf; omega))
  have hlu := decS_len u (by unfold FitsR at hf; omega)
  have HIt := Lib.hid (rdig t (by unfold FitsR at hf; omega))
  have hlt := decS_len t (by unfold FitsR at hf; omega)
  generalize decS g = G at *
  generalize decS u = U at *
  generalize decS t = T at *
  obtain ⟨P1, e1, z1, s1⟩ := add_mk (⟨#[112, 117, 114, 103, 101, 32]⟩ : ByteArray) G 6 19 25 (Nat.le_refl _) hlg (by decide) (by decide)
  obtain ⟨P2, e2, z2, s2⟩ := add_mk P1 (⟨#[32]⟩ : ByteArray) 25 1 26 z1 (Nat.le_refl _) (by decide) (by decide)
  obtain ⟨P3, e3, z3, s3⟩ := add_mk P2 U 26 19 45 z2 hlu (by decide) (by decide)
  obtain ⟨P4, e4, z4, s4⟩ := add_mk P3 (⟨#[32, 97, 116, 32]⟩ : ByteArray) 45 4 49 z3 (Nat.le_refl _) (by decide) (by decide)
  obtain ⟨P5, e5, z5, s5⟩ := add_mk P4 T 49 19 68 z4 hlt (by decide) (by decide)
  have HQ : Hid (P5 = joinS [sPurge, G, U, sAt, T]) := Lib.hid (by
    rw [e5, e4, e3, e2, e1]
    exact jn5 _ _ _ _ _ _ _ rfl rfl)
  have HTab := Lib.hid ht
  clear h hC hf hn ht hlg hlu hlt e1 e2 e3 e4 e5 z1 z2 z3 z4 z5
  generalize joinS [sPurge, G, U, sAt, T] = R at *
  go_enter Tryd.func15, Tryd.ntmps15
  go_wp2_with fail
  refine (HC.out _).mono ?_
  rintro e1 w1 ⟨rfl, hb1⟩
  have k1 : KR w w.heap.size (5 : Nat) e t c g u r n w1 := kr_row ((hb1.block w.heap.size (by simp)).trans (heap_alloc_new w (.cells (RC (5 : Nat) e t c g u r n) 23))) ((HTab.out.below (bnew w _)).below hb1) (bthen (bnew w _) hb1)
  have K1 := Lib.hid k1
  obtain ⟨⟨q0, q1, q2, q3, q4, q5⟩, q6, q7, z1, -, -⟩ := k1
  clear hb1
  have HK : Hid (Keeps (KR w w.heap.size (5 : Nat) e t c g u r n)) := Lib.hid kr
  go_wp2_with fail
  refine wp_region_txt (KR w w.heap.size (5 : Nat) e t c g u r n) (by kernel_rfl) (by kernel_rfl) (kr_drew K1.out) ?_
  repeat (first
    | (refine text_skip (by rfl) ?_; simp only [Act.put, List.setIfInBounds_toArray, List.set_cons_zero, List.set_cons_succ])
    | (refine text_pure (v := ?_) (by rfl) (fun wx hS => ?_) ?_; rotate_left; (go_simp; with_reducible exact rfl); simp only [Act.put, List.setIfInBounds_toArray, List.set_cons_zero, List.set_cons_succ])
    | (refine text_call (v := ?_) (f := ?_) (args := ?_) (by rfl) (fun wx hS => ?_) (fun wx hS => ?_) ?_; rotate_left 3; (go_simp; constructor <;> with_reducible rfl)
       (first
         | with_reducible exact meets HK.out HIg.out wx hS
         | with_reducible exact meets HK.out HIu.out wx hS)
       simp only [Act.put, List.setIfInBounds_toArray, List.set_cons_zero, List.set_cons_succ]))
  refine text_nil (fun wx2 hS => ?_)
  clear q0 q1 q2 q3 q4 q5 q6 q7 z1 K1
  have K2 := Lib.hid hS
  obtain ⟨⟨q0, q1, q2, q3, q4, q5⟩, q6, q7, z1, -, -⟩ := hS
  go_wp2_with fail
  refine (HIt.out _).mono ?_
  rintro e2 w2 ⟨rfl, hb2⟩
  have B2 := bthen K2.out.2.2.2.2.2 hb2
  clear hb2
  go_wp2_with fail
  go_ret
  exact ⟨by rw [HQ.out]; rfl, B2⟩
set_option maxRecDepth 100000 in
set_option maxHeartbeats 3200000 in
theorem rrshow_no (k e t c g u : Int) (r n : ByteArray) (hn : n.size ≤ 100000) (h : ¬ ROk k e t c g u r n) (w : World) : Calls Tryd.prog 15 #[RVal k e t c g u r n] w fun x w' => x = .returned (.string ⟨#[]⟩) ∧ Below w.heap.size w w' := by
  have hC := rright_any k e t c g u r n hn
  rw [decide_eq_false h] at hC
  have HC := Lib.hid hC
  clear h hC
  go_enter Tryd.func15, Tryd.ntmps15
  go_wp2_with fail
  refine (HC.out _).mono ?_
  rintro e1 w1 ⟨rfl, hb1⟩
  have b1 := bthen (bnew w (.cells (RC k e t c g u r n) 23)) hb1
  clear hb1
  go_wp2_with fail
  go_ret
  exact ⟨rfl, b1⟩
theorem rrshow_yes (k e t c g u : Nat) (r n : ByteArray) (hn : n.size ≤ 100000) (h : ROk k e t c g u r n) (w : World) (ht : Tab w) : Calls Tryd.prog 15 #[RVal k e t c g u r n] w fun x w' => x = .returned (.string (joinS (shP k e t c g u n))) ∧ Below w.heap.size w w' := by
  have hk : k = 1 ∨ k = 2 ∨ k = 3 ∨ k = 4 ∨ k = 5 := by unfold ROk at h; omega
  rcases hk with rfl | rfl | rfl | rfl | rfl
  · exact rrshow_one e t c g u r n hn h w ht
  · exact rrshow_two e t c g u r n hn h w ht
  · exact rrshow_three e t c g u r n hn h w ht
  · exact rrshow_four e t c g u r n hn h w ht
  · exact rrshow_five e t c g u r n hn h w ht
end Go.Proofs.YtdpfcjhhabcheaaDoor

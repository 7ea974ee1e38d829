/-
  The walk of RecordApart. No condition. Own work.
-/
import Derived.Test.YtdpfcjhhabcheaaDoorPutsW
import Derived.Test.YtdpfcjhhabcheaaDoorRecP
namespace Go.Proofs.YtdpfcjhhabcheaaDoor
open Go.RowKit

theorem joinS_ne (a : ByteArray) (l : List ByteArray) (h : 0 < a.size) : joinS (a :: l) ≠ ⟨#[]⟩ := fun e => by
  have h1 : (joinS (a :: l)).data.toList = [] := by rw [e]
  unfold joinS at h1
  rw [List.map_cons, Lib.join_cons] at h1
  have h2 : a.data.toList = [] := (List.append_eq_nil_iff.1 (by simpa using h1)).1
  have h3 : a.size = a.data.toList.length := by simp
  rw [h3, h2] at h
  simp at h
theorem shown_ne (k e t c g u : Nat) (n : ByteArray) : joinS (shP k e t c g u n) ≠ ⟨#[]⟩ := by
  unfold shP
  split
  · exact joinS_ne _ _ (by decide)
  · split
    · exact joinS_ne _ _ (by decide)
    · split
      · exact joinS_ne _ _ (by decide)
      · split
        · exact joinS_ne _ _ (by decide)
        · exact joinS_ne _ _ (by decide)
/-- Two boxed records, in one world. -/
abbrev KRR (w0 : World) (b b' : Nat) (k e t c g u : Int) (r n : ByteArray) (k' e' t' c' g' u' : Int) (r' n' : ByteArray) (w' : World) : Prop := KR w0 b k e t c g u r n w' ∧ KR w0 b' k' e' t' c' g' u' r' n' w'
theorem krr {w0 : World} {b b' : Nat} {k e t c g u k' e' t' c' g' u' : Int} {r n r' n' : ByteArray} : Keeps (KRR w0 b b' k e t c g u r n k' e' t' c' g' u' r' n') := fun _ _ h hb => ⟨kr _ _ h.1 hb, kr _ _ h.2 hb⟩
theorem krr_drew {w0 w : World} {b b' : Nat} {k e t c g u k' e' t' c' g' u' : Int} {r n r' n' : ByteArray} (h : KRR w0 b b' k e t c g u r n k' e' t' c' g' u' r' n' w) : KRR w0 b b' k e t c g u r n k' e' t' c' g' u' r' n' w.drew := ⟨kr_drew h.1, kr_drew h.2⟩
theorem krr_start (k e t c g u : Int) (r n : ByteArray) (k' e' t' c' g' u' : Int) (r' n' : ByteArray) (w w1 : World) (ht : Tab w)
    (hb : Below ((w.alloc (.cells (RC k e t c g u r n) 23)).alloc (.cells (RC k' e' t' c' g' u' r' n') 23)).heap.size ((w.alloc (.cells (RC k e t c g u r n) 23)).alloc (.cells (RC k' e' t' c' g' u' r' n') 23)) w1) :
    KRR w w.heap.size (w.heap.size + 1) k e t c g u r n k' e' t' c' g' u' r' n' w1 := by
  have hz : (w.alloc (.cells (RC k e t c g u r n) 23)).heap.size = w.heap.size + 1 := by simp
  have h1 := heap_alloc_new w (.cells (RC k e t c g u r n) 23)
  have h2 := heap_alloc_new (w.alloc (.cells (RC k e t c g u r n) 23)) (.cells (RC k' e' t' c' g' u' r' n') 23)
  rw [hz] at h2
  have b1 := bnew w (.cells (RC k e t c g u r n) 23)
  have b2 := bnew (w.alloc (.cells (RC k e t c g u r n) 23)) (.cells (RC k' e' t' c' g' u' r' n') 23)
  have b3 := bthen (bthen b1 b2) hb
  have t3 := ((ht.below b1).below b2).below hb
  rw [hz] at b2
  exact ⟨kr_row (((hb.block w.heap.size (by simp; omega)).trans (b2.block _ (by omega))).trans h1) t3 b3, kr_row ((hb.block (w.heap.size + 1) (by simp)).trans h2) t3 b3⟩
set_option maxRecDepth 100000 in
set_option maxHeartbeats 6400000 in
theorem apart_ne (k e t c g u : Int) (r n : ByteArray) (k' e' t' c' g' u' : Int) (r' n' : ByteArray) (S T sh : ByteArray) (N : Nat) (w : World) (ht : Tab w) (hf : fewB r n = true) (hf' : fewB r' n' = true)
    (hs : ∀ w, Calls Tryd.prog 11 #[RVal k e t c g u r n] w fun x w' => x = .returned (.tuple #[.string S, .int .i64 0]) ∧ Below w.heap.size w w')
    (hs' : ∀ w, Calls Tryd.prog 11 #[RVal k' e' t' c' g' u' r' n'] w fun x w' => x = .returned (.tuple #[.string T, .int .i64 0]) ∧ Below w.heap.size w w')
    (hsh : ∀ w, Tab w → Calls Tryd.prog 14 #[RVal k e t c g u r n] w fun x w' => x = .returned (.string sh) ∧ Below w.heap.size w w')
    (hN : min (S.size : Int) (T.size : Int) = (N : Int)) (n1 : (N : Int) ≤ (S.size : Int)) (n2 : (N : Int) ≤ (T.size : Int)) (n0 : (0 : Int) ≤ (N : Int))
    (q1 : ((S.extract 0 N).toList == (T.extract 0 N).toList) = false) (q2 : (S.toList == T.toList) = false) (q4 : (sh.toList == []) = false)
    (hk : (k == k') = false ∨ (e == e') = false ∨ (t == t') = false ∨ (c == c') = false ∨ (g == g') = false ∨ (u == u') = false ∨ (r.toList == r'.toList) = false ∨ (n.toList == n'.toList) = false) :
    Calls Tryd.prog 4 #[RVal k e t c g u r n, RVal k' e' t' c' g' u' r' n'] w fun x w' => x = .returned (.bool true) ∧ Below w.heap.size w w' := by
  have HD := Lib.hid hk
  clear hk
  have HA := Lib.hid alive_any
  have hF := few_any k e t c g u r n
  rw [hf] at hF
  have hF' := few_any k' e' t' c' g' u' r' n'
  rw [hf'] at hF'
  have HF := Lib.hid hF
  have HF' := Lib.hid hF'
  have H1 := Lib.hid hs
  have H2 := Lib.hid hs'
  have H3 := Lib.hid hsh
  have K0 := Lib.hid (krr_start k e t c g u r n k' e' t' c' g' u' r' n' w · ht)
  clear hF hF' hf hf' hs hs' hsh ht
  go_enter Tryd.func4, Tryd.ntmps4
  go_wp2_with fail
  refine (HF.out _).mono ?_
  rintro e1 w1 ⟨rfl, hb1⟩
  have K1 := Lib.hid (K0.out w1 hb1)
  have k1 := K1.out
  obtain ⟨⟨⟨a0, a1, a2, a3, a4, a5⟩, a6, a7, -, -, -⟩, ⟨b0, b1, b2, b3, b4, b5⟩, b6, b7, z1, -, -⟩ := k1
  clear hb1
  go_wp2_with fail
  refine (HF'.out _).mono ?_
  rintro e2 w2 ⟨rfl, hb2⟩
  have K2 := Lib.hid (krr _ _ K1.out hb2)
  clear a0 a1 a2 a3 a4 a5 a6 a7 b0 b1 b2 b3 b4 b5 b6 b7 z1 hb2
  have k2 := K2.out
  obtain ⟨⟨⟨a0, a1, a2, a3, a4, a5⟩, a6, a7, -, -, -⟩, ⟨b0, b1, b2, b3, b4, b5⟩, b6, b7, z1, -, -⟩ := k2
  go_wp2_with fail
  refine (H1.out _).mono ?_
  rintro e3 w3 ⟨rfl, hb3⟩
  have K3 := Lib.hid (krr _ _ K2.out hb3)
  clear a0 a1 a2 a3 a4 a5 a6 a7 b0 b1 b2 b3 b4 b5 b6 b7 z1 hb3
  have k3 := K3.out
  obtain ⟨⟨⟨a0, a1, a2, a3, a4, a5⟩, a6, a7, -, -, -⟩, ⟨b0, b1, b2, b3, b4, b5⟩, b6, b7, z1, -, -⟩ := k3
  go_wp2_with fail
  refine (H2.out _).mono ?_
  rintro e4 w4 ⟨rfl, hb4⟩
  have K4 := Lib.hid (krr _ _ K3.out hb4)
  clear a0 a1 a2 a3 a4 a5 a6 a7 b0 b1 b2 b3 b4 b5 b6 b7 z1 hb4
  go_wp2_with fail
  refine wp_region_txt (KRR w w.heap.size (w.heap.size + 1) k e t c g u r n k' e' t' c' g' u' r' n') (by kernel_rfl) (by kernel_rfl) (krr_drew K4.out) ?_
  have HK : Hid (Keeps (KRR w w.heap.size (w.heap.size + 1) k e t c g u r n k' e' t' c' g' u' r' n')) := Lib.hid krr
  have HKT : Hid (∀ w', KRR w w.heap.size (w.heap.size + 1) k e t c g u r n k' e' t' c' g' u' r' n' w' → Tab w') := Lib.hid fun _ h => h.1.2.2.2.2.1
  rcases HD.out with hk | hk | hk | hk | hk | hk | hk | hk
  all_goals clear HD
  all_goals
    repeat (first
      | (refine text_skip (by rfl) ?_; simp only [Act.put, List.setIfInBounds_toArray, List.set_cons_zero, List.set_cons_succ])
      | (refine text_pure (v := ?_) (by rfl) (fun wx hS => ?_) ?_; rotate_left; (go_simp; with_reducible exact rfl); simp only [Act.put, List.setIfInBounds_toArray, List.set_cons_zero, List.set_cons_succ])
      | (refine text_call (v := ?_) (f := ?_) (args := ?_) (by rfl) (fun wx hS => ?_) (fun wx hS => ?_) ?_; rotate_left 3; (go_simp; constructor <;> with_reducible rfl)
         (first
           | with_reducible exact meetsT HK.out HKT.out H3.out wx hS
           | with_reducible exact meetsT HK.out HKT.out HA.out wx hS)
         simp only [Act.put, List.setIfInBounds_toArray, List.set_cons_zero, List.set_cons_succ]))
    refine text_nil (fun wx hS => ?_)
    have B := hS.1.2.2.2.2.2
    clear hS
    go_wp2_with fail
    go_ret
    exact ⟨rfl, B⟩
set_option maxRecDepth 100000 in
set_option maxHeartbeats 6400000 in
theorem apart_eq (k e t c g u : Int) (r n : ByteArray) (S sh : ByteArray) (N : Nat) (w : World) (ht : Tab w) (hf : fewB r n = true) 
    (hs : ∀ w, Calls Tryd.prog 11 #[RVal k e t c g u r n] w fun x w' => x = .returned (.tuple #[.string S, .int .i64 0]) ∧ Below w.heap.size w w')
    (hsh : ∀ w, Tab w → Calls Tryd.prog 14 #[RVal k e t c g u r n] w fun x w' => x = .returned (.string sh) ∧ Below w.heap.size w w')
    (hN : min (S.size : Int) (S.size : Int) = (N : Int)) (n1 : (N : Int) ≤ (S.size : Int)) (n0 : (0 : Int) ≤ (N : Int))
    (q4 : (sh.toList == []) = false) :
    Calls Tryd.prog 4 #[RVal k e t c g u r n, RVal k e t c g u r n] w fun x w' => x = .returned (.bool true) ∧ Below w.heap.size w w' := by
  have HA := Lib.hid alive_any
  have hF := few_any k e t c g u r n
  rw [hf] at hF
  have HF := Lib.hid hF
  have H1 := Lib.hid hs
  have H3 := Lib.hid hsh
  have K0 := Lib.hid (krr_start k e t c g u r n k e t c g u r n w · ht)
  clear hF hf hs hsh ht
  go_enter Tryd.func4, Tryd.ntmps4
  go_wp2_with fail
  refine (HF.out _).mono ?_
  rintro e1 w1 ⟨rfl, hb1⟩
  have K1 := Lib.hid (K0.out w1 hb1)
  have k1 := K1.out
  obtain ⟨⟨⟨a0, a1, a2, a3, a4, a5⟩, a6, a7, -, -, -⟩, ⟨b0, b1, b2, b3, b4, b5⟩, b6, b7, z1, -, -⟩ := k1
  clear hb1
  go_wp2_with fail
  refine (HF.out _).mono ?_
  rintro e2 w2 ⟨rfl, hb2⟩
  have K2 := Lib.hid (krr _ _ K1.out hb2)
  clear a0 a1 a2 a3 a4 a5 a6 a7 b0 b1 b2 b3 b4 b5 b6 b7 z1 hb2
  have k2 := K2.out
  obtain ⟨⟨⟨a0, a1, a2, a3, a4, a5⟩, a6, a7, -, -, -⟩, ⟨b0, b1, b2, b3, b4, b5⟩, b6, b7, z1, -, -⟩ := k2
  go_wp2_with fail
  refine (H1.out _).mono ?_
  rintro e3 w3 ⟨rfl, hb3⟩
  have K3 := Lib.hid (krr _ _ K2.out hb3)
  clear a0 a1 a2 a3 a4 a5 a6 a7 b0 b1 b2 b3 b4 b5 b6 b7 z1 hb3
  have k3 := K3.out
  obtain ⟨⟨⟨a0, a1, a2, a3, a4, a5⟩, a6, a7, -, -, -⟩, ⟨b0, b1, b2, b3, b4, b5⟩, b6, b7, z1, -, -⟩ := k3
  go_wp2_with fail
  refine (H1.out _).mono ?_
  rintro e4 w4 ⟨rfl, hb4⟩
  have K4 := Lib.hid (krr _ _ K3.out hb4)
  clear a0 a1 a2 a3 a4 a5 a6 a7 b0 b1 b2 b3 b4 b5 b6 b7 z1 hb4
  go_wp2_with fail
  refine wp_region_txt (KRR w w.heap.size (w.heap.size + 1) k e t c g u r n k e t c g u r n) (by kernel_rfl) (by kernel_rfl) (krr_drew K4.out) ?_
  have HK : Hid (Keeps (KRR w w.heap.size (w.heap.size + 1) k e t c g u r n k e t c g u r n)) := Lib.hid krr
  have HKT : Hid (∀ w', KRR w w.heap.size (w.heap.size + 1) k e t c g u r n k e t c g u r n w' → Tab w') := Lib.hid fun _ h => h.1.2.2.2.2.1
  repeat (first
    | (refine text_skip (by rfl) ?_; simp only [Act.put, List.setIfInBounds_toArray, List.set_cons_zero, List.set_cons_succ])
    | (refine text_pure (v := ?_) (by rfl) (fun wx hS => ?_) ?_; rotate_left; (go_simp; with_reducible exact rfl); simp only [Act.put, List.setIfInBounds_toArray, List.set_cons_zero, List.set_cons_succ])
    | (refine text_call (v := ?_) (f := ?_) (args := ?_) (by rfl) (fun wx hS => ?_) (fun wx hS => ?_) ?_; rotate_left 3; (go_simp; constructor <;> with_reducible rfl)
       (first
         | with_reducible exact meetsT HK.out HKT.out H3.out wx hS
         | with_reducible exact meetsT HK.out HKT.out HA.out wx hS)
       simp only [Act.put, List.setIfInBounds_toArray, List.set_cons_zero, List.set_cons_succ]))
  refine text_nil (fun wx hS => ?_)
  have B := hS.1.2.2.2.2.2
  clear hS
  go_wp2_with fail
  go_ret
  exact ⟨rfl, B⟩
end Go.Proofs.YtdpfcjhhabcheaaDoor

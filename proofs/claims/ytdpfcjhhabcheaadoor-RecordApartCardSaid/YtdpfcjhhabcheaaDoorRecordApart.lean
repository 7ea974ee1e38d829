/-
  RecordApart: unlike records have unlike bytes, of which none begins with the other's; and are shown, if they may be. No condition.
-/
import Derived.Test.YtdpfcjhhabcheaaDoorApartW
import Derived.Test.YtdpfcjhhabcheaaDoorCards
import Derived.Test.YtdpfcjhhabcheaaDoorTie
import Derived.SevenTiedAt
namespace Go.Proofs.YtdpfcjhhabcheaaDoor
open Go Go.RowKit Go.ChangeShapes Go.WideShapes Go.ChangeAt Go.Joins

set_option maxRecDepth 100000 in
set_option maxHeartbeats 6400000 in
theorem apart_w1 (k e t c g u : Int) (r n : ByteArray) (k' e' t' c' g' u' : Int) (r' n' : ByteArray) (w : World) (ht : Tab w) (hF : ∀ w, Calls Tryd.prog 9 #[RVal k e t c g u r n] w fun x w' => x = .returned (.bool false) ∧ Below w.heap.size w w') :
    Calls Tryd.prog 4 #[RVal k e t c g u r n, RVal k' e' t' c' g' u' r' n'] w fun x w' => x = .returned (.bool true) ∧ Below w.heap.size w w' := by
  have HA := Lib.hid alive_any
  have HF := Lib.hid hF
  have K0 := Lib.hid (krr_start k e t c g u r n k' e' t' c' g' u' r' n' w · ht)
  clear ht hF
  go_enter Tryd.func4, Tryd.ntmps4
  go_wp2_with fail
  refine (HF.out _).mono ?_
  rintro e1 w1 ⟨rfl, hb1⟩
  have K1 := Lib.hid (K0.out w1 hb1)
  clear hb1
  have k1 := K1.out
  obtain ⟨⟨⟨a0, a1, a2, a3, a4, a5⟩, a6, a7, -, -, -⟩, ⟨b0, b1, b2, b3, b4, b5⟩, b6, b7, z1, -, -⟩ := k1
  clear a0 a1 a2 a3 a4 a5 a6 a7 b0 b1 b2 b3 b4 b5 b6 b7 z1
  go_wp2_with fail
  refine (HA.out _ K1.out.1.2.2.2.2.1).mono ?_
  rintro e9 w9 ⟨rfl, hb9⟩
  have B := bthen K1.out.1.2.2.2.2.2 hb9
  clear hb9
  go_wp2_with fail
  go_ret
  exact ⟨rfl, B⟩
set_option maxRecDepth 100000 in
set_option maxHeartbeats 6400000 in
theorem apart_w2 (k e t c g u : Int) (r n : ByteArray) (k' e' t' c' g' u' : Int) (r' n' : ByteArray) (w : World) (ht : Tab w) (hF : ∀ w, Calls Tryd.prog 9 #[RVal k e t c g u r n] w fun x w' => x = .returned (.bool true) ∧ Below w.heap.size w w') (hG : ∀ w, Calls Tryd.prog 9 #[RVal k' e' t' c' g' u' r' n'] w fun x w' => x = .returned (.bool false) ∧ Below w.heap.size w w') :
    Calls Tryd.prog 4 #[RVal k e t c g u r n, RVal k' e' t' c' g' u' r' n'] w fun x w' => x = .returned (.bool true) ∧ Below w.heap.size w w' := by
  have HA := Lib.hid alive_any
  have HF := Lib.hid hF
  have HG := Lib.hid hG
  have K0 := Lib.hid (krr_start k e t c g u r n k' e' t' c' g' u' r' n' w · ht)
  clear ht hF hG
  go_enter Tryd.func4, Tryd.ntmps4
  go_wp2_with fail
  refine (HF.out _).mono ?_
  rintro e1 w1 ⟨rfl, hb1⟩
  have K1 := Lib.hid (K0.out w1 hb1)
  clear hb1
  have k1 := K1.out
  obtain ⟨⟨⟨a0, a1, a2, a3, a4, a5⟩, a6, a7, -, -, -⟩, ⟨b0, b1, b2, b3, b4, b5⟩, b6, b7, z1, -, -⟩ := k1
  go_wp2_with fail
  refine (HG.out _).mono ?_
  rintro e2 w2 ⟨rfl, hb2⟩
  have K2 := Lib.hid (krr _ _ K1.out hb2)
  clear hb2 a0 a1 a2 a3 a4 a5 a6 a7 b0 b1 b2 b3 b4 b5 b6 b7 z1
  have k2 := K2.out
  obtain ⟨⟨⟨a0, a1, a2, a3, a4, a5⟩, a6, a7, -, -, -⟩, ⟨b0, b1, b2, b3, b4, b5⟩, b6, b7, z1, -, -⟩ := k2
  clear a0 a1 a2 a3 a4 a5 a6 a7 b0 b1 b2 b3 b4 b5 b6 b7 z1
  go_wp2_with fail
  refine (HA.out _ K2.out.1.2.2.2.2.1).mono ?_
  rintro e9 w9 ⟨rfl, hb9⟩
  have B := bthen K2.out.1.2.2.2.2.2 hb9
  clear hb9
  go_wp2_with fail
  go_ret
  exact ⟨rfl, B⟩
set_option maxRecDepth 100000 in
set_option maxHeartbeats 6400000 in
theorem apart_w3 (k e t c g u : Int) (r n : ByteArray) (k' e' t' c' g' u' : Int) (r' n' : ByteArray) (S T : ByteArray) (I : Int) (w : World) (ht : Tab w) (hF : ∀ w, Calls Tryd.prog 9 #[RVal k e t c g u r n] w fun x w' => x = .returned (.bool true) ∧ Below w.heap.size w w') (hG : ∀ w, Calls Tryd.prog 9 #[RVal k' e' t' c' g' u' r' n'] w fun x w' => x = .returned (.bool true) ∧ Below w.heap.size w w') (hP : ∀ w, Calls Tryd.prog 11 #[RVal k e t c g u r n] w fun x w' => x = .returned (.tuple #[.string S, .int .i64 2]) ∧ Below w.heap.size w w') (hQ : ∀ w, Calls Tryd.prog 11 #[RVal k' e' t' c' g' u' r' n'] w fun x w' => x = .returned (.tuple #[.string T, .int .i64 I]) ∧ Below w.heap.size w w') :
    Calls Tryd.prog 4 #[RVal k e t c g u r n, RVal k' e' t' c' g' u' r' n'] w fun x w' => x = .returned (.bool true) ∧ Below w.heap.size w w' := by
  have HA := Lib.hid alive_any
  have HF := Lib.hid hF
  have HG := Lib.hid hG
  have HP := Lib.hid hP
  have HQ := Lib.hid hQ
  have K0 := Lib.hid (krr_start k e t c g u r n k' e' t' c' g' u' r' n' w · ht)
  clear ht hF hG hP hQ
  go_enter Tryd.func4, Tryd.ntmps4
  go_wp2_with fail
  refine (HF.out _).mono ?_
  rintro e1 w1 ⟨rfl, hb1⟩
  have K1 := Lib.hid (K0.out w1 hb1)
  clear hb1
  have k1 := K1.out
  obtain ⟨⟨⟨a0, a1, a2, a3, a4, a5⟩, a6, a7, -, -, -⟩, ⟨b0, b1, b2, b3, b4, b5⟩, b6, b7, z1, -, -⟩ := k1
  go_wp2_with fail
  refine (HG.out _).mono ?_
  rintro e2 w2 ⟨rfl, hb2⟩
  have K2 := Lib.hid (krr _ _ K1.out hb2)
  clear hb2 a0 a1 a2 a3 a4 a5 a6 a7 b0 b1 b2 b3 b4 b5 b6 b7 z1
  have k2 := K2.out
  obtain ⟨⟨⟨a0, a1, a2, a3, a4, a5⟩, a6, a7, -, -, -⟩, ⟨b0, b1, b2, b3, b4, b5⟩, b6, b7, z1, -, -⟩ := k2
  go_wp2_with fail
  refine (HP.out _).mono ?_
  rintro e3 w3 ⟨rfl, hb3⟩
  have K3 := Lib.hid (krr _ _ K2.out hb3)
  clear hb3 a0 a1 a2 a3 a4 a5 a6 a7 b0 b1 b2 b3 b4 b5 b6 b7 z1
  have k3 := K3.out
  obtain ⟨⟨⟨a0, a1, a2, a3, a4, a5⟩, a6, a7, -, -, -⟩, ⟨b0, b1, b2, b3, b4, b5⟩, b6, b7, z1, -, -⟩ := k3
  go_wp2_with fail
  refine (HQ.out _).mono ?_
  rintro e4 w4 ⟨rfl, hb4⟩
  have K4 := Lib.hid (krr _ _ K3.out hb4)
  clear hb4 a0 a1 a2 a3 a4 a5 a6 a7 b0 b1 b2 b3 b4 b5 b6 b7 z1
  have k4 := K4.out
  obtain ⟨⟨⟨a0, a1, a2, a3, a4, a5⟩, a6, a7, -, -, -⟩, ⟨b0, b1, b2, b3, b4, b5⟩, b6, b7, z1, -, -⟩ := k4
  clear a0 a1 a2 a3 a4 a5 a6 a7 b0 b1 b2 b3 b4 b5 b6 b7 z1
  go_wp2_with fail
  refine (HA.out _ K4.out.1.2.2.2.2.1).mono ?_
  rintro e9 w9 ⟨rfl, hb9⟩
  have B := bthen K4.out.1.2.2.2.2.2 hb9
  clear hb9
  go_wp2_with fail
  go_ret
  exact ⟨rfl, B⟩
set_option maxRecDepth 100000 in
set_option maxHeartbeats 6400000 in
theorem apart_w4 (k e t c g u : Int) (r n : ByteArray) (k' e' t' c' g' u' : Int) (r' n' : ByteArray) (S T : ByteArray) (w : World) (ht : Tab w) (hF : ∀ w, Calls Tryd.prog 9 #[RVal k e t c g u r n] w fun x w' => x = .returned (.bool true) ∧ Below w.heap.size w w') (hG : ∀ w, Calls Tryd.prog 9 #[RVal k' e' t' c' g' u' r' n'] w fun x w' => x = .returned (.bool true) ∧ Below w.heap.size w w') (hP : ∀ w, Calls Tryd.prog 11 #[RVal k e t c g u r n] w fun x w' => x = .returned (.tuple #[.string S, .int .i64 0]) ∧ Below w.heap.size w w') (hQ : ∀ w, Calls Tryd.prog 11 #[RVal k' e' t' c' g' u' r' n'] w fun x w' => x = .returned (.tuple #[.string T, .int .i64 2]) ∧ Below w.heap.size w w') :
    Calls Tryd.prog 4 #[RVal k e t c g u r n, RVal k' e' t' c' g' u' r' n'] w fun x w' => x = .returned (.bool true) ∧ Below w.heap.size w w' := by
  have HA := Lib.hid alive_any
  have HF := Lib.hid hF
  have HG := Lib.hid hG
  have HP := Lib.hid hP
  have HQ := Lib.hid hQ
  have K0 := Lib.hid (krr_start k e t c g u r n k' e' t' c' g' u' r' n' w · ht)
  clear ht hF hG hP hQ
  go_enter Tryd.func4, Tryd.ntmps4
  go_wp2_with fail
  refine (HF.out _).mono ?_
  rintro e1 w1 ⟨rfl, hb1⟩
  have K1 := Lib.hid (K0.out w1 hb1)
  clear hb1
  have k1 := K1.out
  obtain ⟨⟨⟨a0, a1, a2, a3, a4, a5⟩, a6, a7, -, -, -⟩, ⟨b0, b1, b2, b3, b4, b5⟩, b6, b7, z1, -, -⟩ := k1
  go_wp2_with fail
  refine (HG.out _).mono ?_
  rintro e2 w2 ⟨rfl, hb2⟩
  have K2 := Lib.hid (krr _ _ K1.out hb2)
  clear hb2 a0 a1 a2 a3 a4 a5 a6 a7 b0 b1 b2 b3 b4 b5 b6 b7 z1
  have k2 := K2.out
  obtain ⟨⟨⟨a0, a1, a2, a3, a4, a5⟩, a6, a7, -, -, -⟩, ⟨b0, b1, b2, b3, b4, b5⟩, b6, b7, z1, -, -⟩ := k2
  go_wp2_with fail
  refine (HP.out _).mono ?_
  rintro e3 w3 ⟨rfl, hb3⟩
  have K3 := Lib.hid (krr _ _ K2.out hb3)
  clear hb3 a0 a1 a2 a3 a4 a5 a6 a7 b0 b1 b2 b3 b4 b5 b6 b7 z1
  have k3 := K3.out
  obtain ⟨⟨⟨a0, a1, a2, a3, a4, a5⟩, a6, a7, -, -, -⟩, ⟨b0, b1, b2, b3, b4, b5⟩, b6, b7, z1, -, -⟩ := k3
  go_wp2_with fail
  refine (HQ.out _).mono ?_
  rintro e4 w4 ⟨rfl, hb4⟩
  have K4 := Lib.hid (krr _ _ K3.out hb4)
  clear hb4 a0 a1 a2 a3 a4 a5 a6 a7 b0 b1 b2 b3 b4 b5 b6 b7 z1
  have k4 := K4.out
  obtain ⟨⟨⟨a0, a1, a2, a3, a4, a5⟩, a6, a7, -, -, -⟩, ⟨b0, b1, b2, b3, b4, b5⟩, b6, b7, z1, -, -⟩ := k4
  clear a0 a1 a2 a3 a4 a5 a6 a7 b0 b1 b2 b3 b4 b5 b6 b7 z1
  go_wp2_with fail
  refine (HA.out _ K4.out.1.2.2.2.2.1).mono ?_
  rintro e9 w9 ⟨rfl, hb9⟩
  have B := bthen K4.out.1.2.2.2.2.2 hb9
  clear hb9
  go_wp2_with fail
  go_ret
  exact ⟨rfl, B⟩
theorem beq_no {a b : Int} (h : a ≠ b) : (a == b) = false := by simpa using h
theorem lbeq_no {a b : ByteArray} (h : a ≠ b) : (a.toList == b.toList) = false := by
  rw [ByteArray.toList_eq, ByteArray.toList_eq]
  simp only [beq_eq_false_iff_ne, ne_eq]
  exact fun e => h (ByteArray.ext (Array.toList_inj.1 e))
theorem apart_yes (k e t c g u : Nat) (r n : ByteArray) (k' e' t' c' g' u' : Nat) (r' n' : ByteArray) (w : World) (ht : Tab w) (hf : fewB r n = true) (hf' : fewB r' n' = true) (h : ROk k e t c g u r n) (h' : ROk k' e' t' c' g' u' r' n') :
    Calls Tryd.prog 4 #[RVal k e t c g u r n, RVal k' e' t' c' g' u' r' n'] w fun x w' => x = .returned (.bool true) ∧ Below w.heap.size w w' := by
  have hz : r.size ≤ 5000 ∧ n.size ≤ 5000 := of_decide_eq_true hf
  have hz' : r'.size ≤ 5000 ∧ n'.size ≤ 5000 := of_decide_eq_true hf'
  have p1 := put_yes k e t c g u r n (by omega) (by omega) h
  have p2 := put_yes k' e' t' c' g' u' r' n' (by omega) (by omega) h'
  have p3 := show_yes k e t c g u r n (by omega) h
  have hsh := lbeq_no (shown_ne k e t c g u n)
  rw [show (⟨#[]⟩ : ByteArray).toList = [] from by rw [ByteArray.toList_eq]] at hsh
  have hinj : ∀ x y, recB k e t c g u r.data.toList n.data.toList ++ x = recB k' e' t' c' g' u' r'.data.toList n'.data.toList ++ y → (k = k' ∧ e = e' ∧ t = t' ∧ c = c' ∧ g = g' ∧ u = u') ∧ r.data.toList = r'.data.toList ∧ n.data.toList = n'.data.toList ∧ x = y := fun x y he =>
    rec_inj (rok_fits h) (rok_fits h') (by simp; omega) (by simp; omega) (by simp; omega) (by simp; omega) he
  have hba : ∀ {a b : ByteArray}, a.data.toList = b.data.toList → a = b := fun he => ByteArray.ext (Array.toList_inj.1 he)
  by_cases hall : ((k : Int) = k' ∧ (e : Int) = e' ∧ (t : Int) = t' ∧ (c : Int) = c' ∧ (g : Int) = g' ∧ (u : Int) = u') ∧ r = r' ∧ n = n'
  · obtain ⟨⟨a1, a2, a3, a4, a5, a6⟩, rfl, rfl⟩ := hall
    rw [← a1, ← a2, ← a3, ← a4, ← a5, ← a6]
    exact apart_eq k e t c g u r n _ _ (recB k e t c g u r.data.toList n.data.toList).length w ht hf p1 p3 (Int.min_self _) (Int.le_refl _) (by omega) hsh
  · have hbd : (k : Int) ≠ k' ∨ (e : Int) ≠ e' ∨ (t : Int) ≠ t' ∨ (c : Int) ≠ c' ∨ (g : Int) ≠ g' ∨ (u : Int) ≠ u' ∨ r ≠ r' ∨ n ≠ n' := by
      by_cases x1 : (k : Int) = k'
      · by_cases x2 : (e : Int) = e'
        · by_cases x3 : (t : Int) = t'
          · by_cases x4 : (c : Int) = c'
            · by_cases x5 : (g : Int) = g'
              · by_cases x6 : (u : Int) = u'
                · by_cases x7 : r = r'
                  · exact .inr (.inr (.inr (.inr (.inr (.inr (.inr fun x8 => hall ⟨⟨x1, x2, x3, x4, x5, x6⟩, x7, x8⟩))))))
                  · exact .inr (.inr (.inr (.inr (.inr (.inr (.inl x7))))))
                · exact .inr (.inr (.inr (.inr (.inr (.inl x6)))))
              · exact .inr (.inr (.inr (.inr (.inl x5))))
            · exact .inr (.inr (.inr (.inl x4)))
          · exact .inr (.inr (.inl x3))
        · exact .inr (.inl x2)
      · exact .inl x1
    have hno : ∀ x y, recB k e t c g u r.data.toList n.data.toList ++ x ≠ recB k' e' t' c' g' u' r'.data.toList n'.data.toList ++ y := fun x y he => by
      obtain ⟨⟨b1, b2, b3, b4, b5, b6⟩, b7, b8, _⟩ := hinj x y he
      exact hall ⟨⟨by omega, by omega, by omega, by omega, by omega, by omega⟩, hba b7, hba b8⟩
    generalize recB k e t c g u r.data.toList n.data.toList = A at *
    generalize recB k' e' t' c' g' u' r'.data.toList n'.data.toList = B at *
    have hsA : (⟨A.toArray⟩ : ByteArray).size = A.length := rfl
    have hsB : (⟨B.toArray⟩ : ByteArray).size = B.length := rfl
    have hex : ∀ (X : List UInt8) (m : Nat), ((⟨X.toArray⟩ : ByteArray).extract 0 m).data.toList = X.take m := fun X m => by rw [ext_list]; simp
    refine apart_ne k e t c g u r n k' e' t' c' g' u' r' n' ⟨A.toArray⟩ ⟨B.toArray⟩ _ (min A.length B.length) w ht hf hf' p1 p2 p3 (by rw [hsA, hsB]; omega) (by rw [hsA]; omega) (by rw [hsB]; omega) (by omega)
      (lbeq_no fun he => ?_) (lbeq_no fun he => ?_) hsh ?_
    · have h1 := congrArg (·.data.toList) he
      simp only [hex] at h1
      rcases pre_cases h1 with ⟨y, hy⟩ | ⟨y, hy⟩
      · exact hno _ _ hy
      · exact hno _ _ hy
    · have h1 := congrArg (·.data.toList) he
      simp only at h1
      exact hno [] [] (by rw [h1])
    · rcases hbd with q | q | q | q | q | q | q | q
      · exact .inl (beq_no q)
      · exact .inr (.inl (beq_no q))
      · exact .inr (.inr (.inl (beq_no q)))
      · exact .inr (.inr (.inr (.inl (beq_no q))))
      · exact .inr (.inr (.inr (.inr (.inl (beq_no q)))))
      · exact .inr (.inr (.inr (.inr (.inr (.inl (beq_no q))))))
      · exact .inr (.inr (.inr (.inr (.inr (.inr (.inl (lbeq_no q)))))))
      · exact .inr (.inr (.inr (.inr (.inr (.inr (.inr (lbeq_no q)))))))
theorem apart_walk (k e t c g u : Int) (r n : ByteArray) (k' e' t' c' g' u' : Int) (r' n' : ByteArray) (w : World) (ht : Tab w) :
    Calls Tryd.prog 4 #[RVal k e t c g u r n, RVal k' e' t' c' g' u' r' n'] w fun x w' => x = .returned (.bool true) ∧ Below w.heap.size w w' := by
  have f1 := few_any k e t c g u r n
  have f2 := few_any k' e' t' c' g' u' r' n'
  cases hf : fewB r n with
  | false => rw [hf] at f1; exact apart_w1 k e t c g u r n k' e' t' c' g' u' r' n' w ht f1
  | true =>
    cases hf' : fewB r' n' with
    | false => rw [hf] at f1; rw [hf'] at f2; exact apart_w2 k e t c g u r n k' e' t' c' g' u' r' n' w ht f1 f2
    | true =>
      obtain ⟨ok, S, sh, hok, h1, -⟩ := puts_pack k e t c g u r n hf
      obtain ⟨ok', T, sh', hok', h1', -⟩ := puts_pack k' e' t' c' g' u' r' n' hf'
      rw [hf] at f1
      rw [hf'] at f2
      cases ok with
      | false => exact apart_w3 k e t c g u r n k' e' t' c' g' u' r' n' S T _ w ht f1 f2 h1 h1'
      | true =>
        cases ok' with
        | false => exact apart_w4 k e t c g u r n k' e' t' c' g' u' r' n' S T w ht f1 f2 h1 h1'
        | true =>
          have h := hok.1 rfl
          have h' := hok'.1 rfl
          have q := rok_nat h
          have q' := rok_nat h'
          obtain ⟨k, rfl⟩ : ∃ x : Nat, k = (x : Int) := ⟨k.toNat, by omega⟩
          obtain ⟨e, rfl⟩ : ∃ x : Nat, e = (x : Int) := ⟨e.toNat, by omega⟩
          obtain ⟨t, rfl⟩ : ∃ x : Nat, t = (x : Int) := ⟨t.toNat, by omega⟩
          obtain ⟨c, rfl⟩ : ∃ x : Nat, c = (x : Int) := ⟨c.toNat, by omega⟩
          obtain ⟨g, rfl⟩ : ∃ x : Nat, g = (x : Int) := ⟨g.toNat, by omega⟩
          obtain ⟨u, rfl⟩ : ∃ x : Nat, u = (x : Int) := ⟨u.toNat, by omega⟩
          obtain ⟨k', rfl⟩ : ∃ x : Nat, k' = (x : Int) := ⟨k'.toNat, by omega⟩
          obtain ⟨e', rfl⟩ : ∃ x : Nat, e' = (x : Int) := ⟨e'.toNat, by omega⟩
          obtain ⟨t', rfl⟩ : ∃ x : Nat, t' = (x : Int) := ⟨t'.toNat, by omega⟩
          obtain ⟨c', rfl⟩ : ∃ x : Nat, c' = (x : Int) := ⟨c'.toNat, by omega⟩
          obtain ⟨g', rfl⟩ : ∃ x : Nat, g' = (x : Int) := ⟨g'.toNat, by omega⟩
          obtain ⟨u', rfl⟩ : ∃ x : Nat, u' = (x : Int) := ⟨u'.toNat, by omega⟩
          exact apart_yes k e t c g u r n k' e' t' c' g' u' r' n' w ht hf hf' h h'

set_option maxRecDepth 100000 in
theorem recordApart_lifted (os : Os) (started : os.Started) (H : Type) (enc : TypeId × Value → H) :
    ReturnsInHanded {} Tryd.checked os 4 .any (fun w args => (Rows.recordApartSpec.pre enc Tryd.prog Tryd.f4 [] false w args ∧ laidMetH Tryd.prog L3 w) ∧ sizedMet enc Tryd.prog Tryd.f4 (OpenSpec.ofChange Rows.recordApartSpec) false w args) (Rows.recordApartSpec.post enc Tryd.prog Tryd.f4 false true false false) := by
  refine LawKit.liftedL (C := Tryd.checked) (tb := 4) L3 own started (by kernel_rfl) Tryd.func4
    (ChangeSpec.witness_shaped (enc := enc) (C := Tryd.checked) (os := os) (X := fun w _ => laidMetH Tryd.prog L3 w) false (World.doorLaid Tryd.prog 24 os) #[RVal 0 0 0 0 0 0 ⟨#[]⟩ ⟨#[]⟩, RVal 0 0 0 0 0 0 ⟨#[]⟩ ⟨#[]⟩] 8 rfl (World.shaped_of_RefB (by kernel_rfl) (by kernel_rfl)) (by kernel_rfl) (by kernel_rfl) (by kernel_rfl) (door_met os _))
    laidOut (by kernel_rfl) rfl (fun ds h => by match ds, h with | [_, _], _ => rfl) rfl Tryd.underlying4 ?_
  intro W base args ds ps hval0 hA0 hlt hsz hL
  have hval : ∀ (j : Nat) t v, Tryd.f4.params[j]? = some t → args[j]? = some v → Value.okWide Tryd.prog W .any base t v := hval0
  have hA : DataW.TrodAll enc Tryd.prog W 0 (fun _ => true) true Tryd.f4.params.toList args.toList ds ps := hA0
  rw [Tryd.params4] at hA hval
  clear hval0 hA0
  obtain ⟨v0, vs0, d0, ds0, p0, q0, hargs, rfl, rfl, t0, r0⟩ := trodAll_cons hA
  obtain ⟨v1, vs1, d1, ds1, p1, q1, rfl, rfl, rfl, t1, r1⟩ := trodAll_cons r0
  obtain ⟨rfl, rfl, rfl⟩ := trodAll_nil r1
  obtain rfl : args = #[v0, v1] := by cases args; simp_all
  obtain ⟨kx0, ex0, tx0, cx0, gx0, ux0, rx0, nx0, rfl⟩ := open_rec (hval 0 _ v0 rfl rfl) t0
  obtain ⟨kx1, ex1, tx1, cx1, gx1, ux1, rx1, nx1, rfl⟩ := open_rec (hval 1 _ v1 rfl rfl) t1
  exact apart_walk kx0 ex0 tx0 cx0 gx0 ux0 rx0 nx0 kx1 ex1 tx1 cx1 gx1 ux1 rx1 nx1 W (tab_of_laid hL)

theorem recordApart_row : Rows.RecordApartSaid :=
  OpenClaim.holds_of_wide 4 Tryd.f4 rfl rfl rfl rfl rfl rfl rfl ⟨rfl, rfl, rfl, rfl, rfl⟩ rfl rfl rfl rfl rfl (by kernel_rfl) Tryd.func4 (by kernel_rfl)
    (of_decide_eq_true (by kernel_rfl)) (by unfold Func.isWrapper; first | (rw [if_pos (by decide +kernel)]; kernel_rfl) | (rw [if_neg (by decide +kernel)]; exact ⟨rfl, rfl⟩))
    (fun os started H enc _ => recordApart_lifted os started H enc)
theorem recordApartCard_holds : Rows.RecordApartCardSaid :=
  Claim7.holds_tied_plain_at .later [] [.data, .data, .data] true (true, Rows.recordApartCard.stood.harness.2) false
    recordApart_row (fun _ h => by cases h) (by kernel_rfl) (fun _ h => by cases h) recordApart_row_tie rfl ⟨rfl, rfl⟩ (by kernel_rfl) rfl
    (fun f fn hf hfn => by
      obtain rfl : f = 4 := Option.some.inj ((show Tryd.prog.funcNamed "keepsake/keepsakelaw19.RecordApart" = some 4 by kernel_rfl).symm.trans hf) |>.symm
      obtain rfl : fn = Tryd.f4 := (Option.some.inj (Tryd.func4.symm.trans hfn)).symm
      exact ⟨by kernel_rfl, fun j t ht => by
        rw [Tryd.params4] at ht
        have hm : t ∈ [23, 23] := by simpa using Array.mem_of_getElem? ht
        have hall : ([23, 23].all fun u => !Tryd.prog.wantsStandIn u) = true := by kernel_rfl
        exact (show Tryd.prog.wantsStandIn t = false by simpa using List.all_eq_true.1 hall t hm)⟩)
    (by kernel_rfl)
#print axioms recordApartCard_holds
end Go.Proofs.YtdpfcjhhabcheaaDoor

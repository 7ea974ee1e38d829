/-
  The walk of RecordPuts; the contracts of Few and alive. No condition. Own work.
-/
import Derived.Test.YtdpfcjhhabcheaaDoorLawL
import Derived.Test.YtdpfcjhhabcheaaDoorRShow3
namespace Go.Proofs.YtdpfcjhhabcheaaDoor
open Go.RowKit

/-- Has a record texts of so few bytes? -/
def fewB (r n : ByteArray) : Bool := decide (r.size ≤ 5000 ∧ n.size ≤ 5000)
set_option maxRecDepth 100000 in
set_option maxHeartbeats 1600000 in
theorem few_any (k e t c g u : Int) (r n : ByteArray) (w : World) : Calls Tryd.prog 9 #[RVal k e t c g u r n] w fun x w' => x = .returned (.bool (fewB r n)) ∧ Below w.heap.size w w' := by
  obtain ⟨F, hF⟩ : ∃ F, F = fewB r n := ⟨_, rfl⟩
  rw [← hF]
  by_cases h1 : (r.size : Int) ≤ 5000
  · by_cases h2 : (n.size : Int) ≤ 5000
    · have e : F = true := by rw [hF]; exact decide_eq_true (by omega)
      subst e
      clear hF
      go_enter Tryd.func9, Tryd.ntmps9
      go_wp2_with fail
      go_ret
      exact ⟨rfl, bnew _ _⟩
    · have e : F = false := by rw [hF]; exact decide_eq_false (by omega)
      subst e
      clear hF
      go_enter Tryd.func9, Tryd.ntmps9
      go_wp2_with fail
      go_ret
      exact ⟨rfl, bnew _ _⟩
  · have e : F = false := by rw [hF]; exact decide_eq_false (by omega)
    subst e
    clear hF
    go_enter Tryd.func9, Tryd.ntmps9
    go_wp2_with fail
    go_ret
    exact ⟨rfl, bnew _ _⟩
abbrev sA : ByteArray := ⟨#[97]⟩
theorem alive_rok : ROk (3 : Nat) (4 : Nat) (9 : Nat) (0 : Nat) (2 : Nat) (0 : Nat) ⟨#[]⟩ sA := by
  have h : nameL sA.data.toList = true := by decide
  have hz : (⟨#[]⟩ : ByteArray).toList = [] := by rw [ByteArray.toList_eq]
  unfold ROk tgOk
  simp [h, hz]
theorem alive_text : joinS (shP 3 4 9 0 2 0 sA) = ⟨#[104, 111, 108, 100, 32, 97, 32, 50, 32, 97, 116, 32, 57]⟩ := by
  apply ByteArray.ext
  apply Array.toList_inj.1
  show Lib.join ((shP 3 4 9 0 2 0 sA).map (·.data.toList)) [32] = _
  have h2 : decS 2 = ⟨#[50]⟩ := by unfold decS; rw [dd_small 2 (by omega)]; rfl
  have h9 : decS 9 = ⟨#[57]⟩ := by unfold decS; rw [dd_small 9 (by omega)]; rfl
  have e : shP 3 4 9 0 2 0 sA = [sHold, sA, decS 2, sAt, decS 9] := rfl
  rw [e, h2, h9]
  rfl
set_option maxRecDepth 100000 in
set_option maxHeartbeats 1600000 in
theorem alive_any (w : World) (ht : Tab w) : Calls Tryd.prog 10 #[] w fun x w' => x = .returned (.bool true) ∧ Below w.heap.size w w' := by
  have hS := show_yes 3 4 9 0 2 0 ⟨#[]⟩ sA (by decide) alive_rok
  rw [alive_text] at hS
  have HS := Lib.hid hS
  have HT := Lib.hid ht
  clear hS ht
  go_enter Tryd.func10, Tryd.ntmps10
  go_wp2_with fail
  refine (HS.out _ HT.out).mono ?_
  rintro e w1 ⟨rfl, hb⟩
  go_wp2_with fail
  go_ret
  exact ⟨rfl, hb⟩
/-- Both Puts, both Shows, Check of any record: what they answer, without its bytes. -/
theorem puts_pack (k e t c g u : Int) (r n : ByteArray) (hf : fewB r n = true) : ∃ (ok : Bool) (s sh : ByteArray), (ok = true ↔ ROk k e t c g u r n) ∧
    (∀ w, Calls Tryd.prog 11 #[RVal k e t c g u r n] w fun x w' => x = .returned (.tuple #[.string s, .int .i64 (if ok then 0 else 2)]) ∧ Below w.heap.size w w') ∧
    (∀ w, Calls Tryd.prog 12 #[RVal k e t c g u r n] w fun x w' => x = .returned (.tuple #[.string s, .bool ok]) ∧ Below w.heap.size w w') ∧
    (∀ w, Calls Tryd.prog 13 #[RVal k e t c g u r n] w fun x w' => x = .returned (.int .i64 (if ok then 0 else 2)) ∧ Below w.heap.size w w') ∧
    (∀ w, Tab w → Calls Tryd.prog 14 #[RVal k e t c g u r n] w fun x w' => x = .returned (.string sh) ∧ Below w.heap.size w w') ∧
    (∀ w, Tab w → Calls Tryd.prog 15 #[RVal k e t c g u r n] w fun x w' => x = .returned (.string sh) ∧ Below w.heap.size w w') := by
  have hs : r.size ≤ 5000 ∧ n.size ≤ 5000 := of_decide_eq_true hf
  have hC := check_any k e t c g u r n (by omega)
  by_cases h : ROk k e t c g u r n
  · have hn := rok_nat h
    obtain ⟨k, rfl⟩ : ∃ x : Nat, k = (x : Int) := ⟨k.toNat, by omega⟩
    obtain ⟨e, rfl⟩ : ∃ x : Nat, e = (x : Int) := ⟨e.toNat, by omega⟩
    obtain ⟨t, rfl⟩ : ∃ x : Nat, t = (x : Int) := ⟨t.toNat, by omega⟩
    obtain ⟨c, rfl⟩ : ∃ x : Nat, c = (x : Int) := ⟨c.toNat, by omega⟩
    obtain ⟨g, rfl⟩ : ∃ x : Nat, g = (x : Int) := ⟨g.toNat, by omega⟩
    obtain ⟨u, rfl⟩ : ∃ x : Nat, u = (x : Int) := ⟨u.toNat, by omega⟩
    rw [okV, if_pos h] at hC
    exact ⟨true, _, _, ⟨fun _ => h, fun _ => rfl⟩, put_yes k e t c g u r n (by omega) (by omega) h, rrput_yes k e t c g u r n (by omega) (by omega) h, hC, show_yes k e t c g u r n (by omega) h, rrshow_yes k e t c g u r n (by omega) h⟩
  · rw [okV, if_neg h] at hC
    exact ⟨false, _, _, ⟨fun h => (Bool.false_ne_true h).elim, fun q => (h q).elim⟩, put_no k e t c g u r n (by omega) h, rrput_no k e t c g u r n (by omega) h, hC, fun w _ => show_no k e t c g u r n (by omega) h w, fun w _ => rrshow_no k e t c g u r n (by omega) h w⟩
set_option maxRecDepth 100000 in
set_option maxHeartbeats 6400000 in
theorem puts_walk (k e t c g u : Int) (r n m : ByteArray) (w : World) (ht : Tab w) : Calls Tryd.prog 3 #[RVal k e t c g u r n, .string m] w fun x w' => x = .returned (.bool true) ∧ Below w.heap.size w w' := by
  have HT := Lib.hid ht
  have HA := Lib.hid alive_any
  have hF := few_any k e t c g u r n
  obtain ⟨F, hFF⟩ : ∃ F, fewB r n = F := ⟨_, rfl⟩
  rw [hFF] at hF
  have HF := Lib.hid hF
  have k0 : ∀ w1, Below (w.alloc (.cells (RC k e t c g u r n) 23)).heap.size (w.alloc (.cells (RC k e t c g u r n) 23)) w1 → KR w w.heap.size k e t c g u r n w1 := fun w1 hb1 =>
    kr_row ((hb1.block w.heap.size (by simp)).trans (heap_alloc_new w (.cells (RC k e t c g u r n) 23))) ((HT.out.below (bnew w _)).below hb1) (bthen (bnew w _) hb1)
  have K0 := Lib.hid k0
  clear hF ht k0
  by_cases hgo : F = true ∧ m.size ≤ 5000
  · obtain ⟨rfl, hm⟩ := hgo
    obtain ⟨ok, s, sh, -, h1, h2, h3, h4, h5⟩ := puts_pack k e t c g u r n hFF
    have H1 := Lib.hid h1
    have H2 := Lib.hid h2
    have H3 := Lib.hid h3
    have H4 := Lib.hid h4
    have H5 := Lib.hid h5
    have H6 := Lib.hid (name_any m (by omega))
    have H7 := Lib.hid (rname_any m (by omega))
    generalize nameL m.data.toList = N at *
    have hm' : ¬ (5000 : Int) < (m.size : Int) := by omega
    clear h1 h2 h3 h4 h5 hFF hm
    cases ok
    all_goals
      go_enter Tryd.func3, Tryd.ntmps3
      go_wp2_with fail
      refine (HF.out _).mono ?_
      rintro e1 w1 ⟨rfl, hb1⟩
      have K1 := Lib.hid (K0.out w1 hb1)
      have k1 := K1.out
      obtain ⟨⟨q0, q1, q2, q3, q4, q5⟩, q6, q7, z1, -, -⟩ := k1
      clear hb1
      go_wp2_with fail
      refine (H1.out _).mono ?_
      rintro e2 w2 ⟨rfl, hb2⟩
      have K2 := Lib.hid (kr _ _ K1.out hb2)
      clear q0 q1 q2 q3 q4 q5 q6 q7 z1 hb2
      have k2 := K2.out
      obtain ⟨⟨q0, q1, q2, q3, q4, q5⟩, q6, q7, z1, -, -⟩ := k2
      go_wp2_with fail
      refine (H2.out _).mono ?_
      rintro e3 w3 ⟨rfl, hb3⟩
      have K3 := Lib.hid (kr _ _ K2.out hb3)
      clear q0 q1 q2 q3 q4 q5 q6 q7 z1 hb3
      have k3 := K3.out
      obtain ⟨⟨q0, q1, q2, q3, q4, q5⟩, q6, q7, z1, -, -⟩ := k3
      go_wp2_with fail
      refine wp_region_txt (KR w w.heap.size k e t c g u r n) (by kernel_rfl) (by kernel_rfl) (kr_drew K3.out) ?_
      clear q0 q1 q2 q3 q4 q5 q6 q7 z1
      have HK : Hid (Keeps (KR w w.heap.size k e t c g u r n)) := Lib.hid kr
      have HKT : Hid (∀ w', KR w w.heap.size k e t c g u r n w' → Tab w') := Lib.hid fun _ h => h.2.2.2.2.1
      repeat (first
        | (refine text_skip (by rfl) ?_; simp only [Act.put, List.setIfInBounds_toArray, List.set_cons_zero, List.set_cons_succ])
        | (refine text_pure (v := ?_) (by rfl) (fun wx hS => ?_) ?_; rotate_left; (go_simp; with_reducible exact rfl); simp only [Act.put, List.setIfInBounds_toArray, List.set_cons_zero, List.set_cons_succ])
        | (refine text_call (v := ?_) (f := ?_) (args := ?_) (by rfl) (fun wx hS => ?_) (fun wx hS => ?_) ?_; rotate_left 3; (go_simp; constructor <;> with_reducible rfl)
           (first
             | with_reducible exact meets HK.out H3.out wx hS
             | with_reducible exact meetsT HK.out HKT.out H4.out wx hS
             | with_reducible exact meetsT HK.out HKT.out H5.out wx hS
             | with_reducible exact meetsEq H6.out wx hS
             | with_reducible exact meetsEq H7.out wx hS
             | with_reducible exact meetsT HK.out HKT.out HA.out wx hS)
           simp only [Act.put, List.setIfInBounds_toArray, List.set_cons_zero, List.set_cons_succ]))
      refine text_nil (fun wx hS => ?_)
      have B := hS.2.2.2.2.2
      clear hS
      go_wp2_with fail
      go_ret
      exact ⟨rfl, B⟩
  · have hm : F = true → (5000 : Int) < (m.size : Int) := fun h => by
      have : ¬ m.size ≤ 5000 := fun q => hgo ⟨h, q⟩
      omega
    clear hgo hFF
    cases F
    · go_enter Tryd.func3, Tryd.ntmps3
      clear hm
      go_wp2_with fail
      refine (HF.out _).mono ?_
      rintro e1 w1 ⟨rfl, hb1⟩
      have K1 := Lib.hid (K0.out w1 hb1)
      clear hb1
      go_wp2_with fail
      refine (HA.out _ K1.out.2.2.2.2.1).mono ?_
      rintro e2 w2 ⟨rfl, hb2⟩
      have B := bthen K1.out.2.2.2.2.2 hb2
      clear hb2
      go_wp2_with fail
      go_ret
      exact ⟨rfl, B⟩
    · have hm' := hm rfl
      clear hm
      go_enter Tryd.func3, Tryd.ntmps3
      go_wp2_with fail
      refine (HF.out _).mono ?_
      rintro e1 w1 ⟨rfl, hb1⟩
      have K1 := Lib.hid (K0.out w1 hb1)
      clear hb1
      go_wp2_with fail
      refine (HA.out _ K1.out.2.2.2.2.1).mono ?_
      rintro e2 w2 ⟨rfl, hb2⟩
      have B := bthen K1.out.2.2.2.2.2 hb2
      clear hb2
      go_wp2_with fail
      go_ret
      exact ⟨rfl, B⟩
end Go.Proofs.YtdpfcjhhabcheaaDoor

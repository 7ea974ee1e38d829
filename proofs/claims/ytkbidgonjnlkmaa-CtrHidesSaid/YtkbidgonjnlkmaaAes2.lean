/-
  The contract of AES's each. No condition. Own work.
-/
import Derived.Test.YtkbidgonjnlkmaaAes1
namespace Go.Proofs.Ytkbidgonjnlkmaa
open Go.RowKit

theorem grown_trans {a b c : World} {k : Option Nat} (h : a.grownBy b k) (h' : b.grownBy c k) : a.grownBy c k :=
  ⟨h'.os.trans h.os, h'.tape.trans h.tape, h'.output.trans h.output, Nat.le_trans h.size h'.size, fun i hi hne => (h'.block i (Nat.lt_of_lt_of_le hi h.size) hne).trans (h.block i hi hne)⟩

set_option maxRecDepth 20000 in
set_option maxHeartbeats 3200000 in
theorem each_any (g : Nat) (X : List UInt8) (fid : FuncId) (cap : Value) (f : UInt8 → UInt8) (hX : X.length = 16) (w : World) (hA : Arr w g 63 X)
    (hcf : ∀ args W, (callFunc fid args).run Try.prog W = .ok (.enter fid args) W)
    (hf : ∀ w', w.grownBy w' (some g) → ∀ b : UInt8, Calls Try.prog fid #[bv b, cap] w' fun e w'' => e = .returned (bv (f b)) ∧ w' = w'') :
    Calls Try.prog 38 #[.pointer (some ⟨g, 0, none⟩), .func (.func fid) #[] #[cap]] w fun e w' => e = .returned (.tuple #[]) ∧ w.grownBy w' (some g) ∧ Arr w' g 63 (X.map f) := by
  have hgl := hA.lt
  obtain ⟨N, hN⟩ : ∃ N, N = X.map f := ⟨_, rfl⟩
  rw [← hN]
  have hNl : N.length = 16 := by rw [hN, List.length_map, hX]
  have hNi : ∀ i a, X[i]? = some a → N[i]? = some (f a) := fun i a h => by rw [hN, List.getElem?_map, h]; rfl
  have HNI := Lib.hid hNi
  have HA := Lib.hid hA
  have HF := Lib.hid hf
  clear hN hA hNi hf
  go_enter Try.func38, Try.ntmps38
  go_wp2_with fail
  go_loopw [7] (fun c wr => ∃ i : Nat, i ≤ 16 ∧ c = .int .i64 i ∧ Arr wr g 63 (mixL N X i) ∧ w.grownBy wr (some g)) (fun c _ => 16 - (intOf c).toNat)
  case atStart => exact ⟨0, by omega, rfl, by rw [mixL_zero]; exact HA.out, grown_of_below (Below.refl _ _) _⟩
  case round =>
    obtain ⟨i, hi, rfl, hx, hg⟩ := hrel
    by_cases hlt : i < 16
    · have hil : (i : Int) < 16 := by omega
      have hi0 : (0 : Int) ≤ (i : Int) := by omega
      obtain ⟨a, ha⟩ : ∃ a, X[i]? = some a := ⟨X[i], List.getElem?_eq_getElem _⟩
      have hni := HNI.out i a ha
      have hcx : (mixL N X i)[i]? = some a := by rw [mixL_get _ _ _ _ (by omega), if_neg (by omega)]; exact ha
      have c0 := hx.cell hcx
      have hfz := hx.frozen i
      have hcall : ∀ wx, wr.drew.drew = wx → Calls Try.prog fid #[bv a, cap] wx fun e w'' => e = .returned (bv (f a)) ∧ wr.drew.drew = w'' := fun wx h => by
        subst h
        exact HF.out wr.drew.drew (grown_drew (grown_drew hg)) a
      obtain ⟨c, hc⟩ : ∃ c, c = f a := ⟨_, rfl⟩
      rw [← hc] at hni hcall
      have HCall := Lib.hid hcall
      have HNI2 := Lib.hid hni
      have HX := Lib.hid hx
      have HG := Lib.hid hg
      clear hx hg hni ha hcx hc hcall
      go_wp2_with fail
      refine wp_region_txt (Cells1 ⟨g, i, none⟩ (bv a) wr.drew) (by kernel_rfl) (by kernel_rfl) ⟨c0, rfl⟩ ?_
      repeat (first
        | (refine text_skip (by rfl) ?_; simp only [Act.put, List.setIfInBounds_toArray, List.set_cons_zero, List.set_cons_succ])
        | (refine text_pure (v := ?_) (by rfl) (fun wx hS => ?_) ?_; rotate_left; (go_simp; with_reducible exact rfl); simp only [Act.put, List.setIfInBounds_toArray, List.set_cons_zero, List.set_cons_succ]))
      refine text_nil (fun wx hS => ?_)
      obtain ⟨_, rfl⟩ := hS
      go_wp2_with fail
      refine wp_region_tailN2 7 (fun w' => wr.drew.drew = w') (by kernel_rfl) (by kernel_rfl) (by kernel_rfl) rfl ?_
      simp only [List.take_succ_cons, List.take_zero, List.drop_succ_cons, List.drop_zero]
      repeat (first
        | (refine text_skip (by rfl) ?_; simp only [Act.put, List.setIfInBounds_toArray, List.set_cons_zero, List.set_cons_succ])
        | (refine text_pure (v := ?_) (by rfl) (fun wx hS => ?_) ?_; rotate_left; (go_simp; with_reducible exact rfl); simp only [Act.put, List.setIfInBounds_toArray, List.set_cons_zero, List.set_cons_succ])
        | (refine text_call (v := ?_) (f := ?_) (args := ?_) (by rfl) (fun wx hS => ?_) (fun wx hS => ?_) ?_; rotate_left 3; (go_simp; constructor <;> with_reducible rfl)
           (first
             | with_reducible exact HCall.out wx hS)
           simp only [Act.put, List.setIfInBounds_toArray, List.set_cons_zero, List.set_cons_succ]))
      refine text_nil (fun wx hS => ?_)
      subst hS
      go_wp2_with fail
      refine ⟨⟨i + 1, by omega, by go_num, ?_, grown_drew (grown_drew (grown_set HG.out _ _))⟩, by simp [intOf]; omega⟩
      have h := (HX.out.set i c).drew.drew
      rw [mixL_set (by omega) HNI2.out] at h
      exact h
    · have hi16 : i = 16 := by omega
      subst hi16
      rw [mixL_end _ _ _ (by omega) (by omega)] at hx
      go_wp2_with fail
      go_returns
      exact ⟨rfl, hg, hx⟩
end Go.Proofs.Ytkbidgonjnlkmaa

/-
  The contracts of AES's steps: add, each, turn, mix. No condition. Own work.
-/
import Derived.Test.YtkbidgonjnlkmaaArr
import Derived.Test.YtkbidgonjnlkmaaTail
import Derived.Handy
namespace Go.Proofs.Ytkbidgonjnlkmaa
open Go.RowKit

/-- A round's words are added. -/
def addV (X W : List UInt8) (round : Nat) : List UInt8 := (List.range 16).map fun i => X.getD i 0 ^^^ W.getD (16 * round + i) 0
theorem addV_len (X W : List UInt8) (round : Nat) : (addV X W round).length = 16 := by simp [addV]
theorem range_get (f : Nat → UInt8) (n i : Nat) (h : i < n) : ((List.range n).map f)[i]? = some (f i) := by
  rw [List.getElem?_map, List.getElem?_range h]; rfl
theorem getD_some {X : List UInt8} {i : Nat} (h : i < X.length) : X[i]? = some (X.getD i 0) := by
  rw [List.getD_eq_getElem?_getD, List.getElem?_eq_getElem h]; rfl

set_option maxRecDepth 20000 in
set_option maxHeartbeats 3200000 in
theorem add_any (g : Nat) (X W : List UInt8) (round : Nat) (hX : X.length = 16) (hW : W.length = 176) (hr : round ≤ 10) (w : World) (hA : Arr w g 63 X) :
    Calls Try.prog 37 #[.pointer (some ⟨g, 0, none⟩), .agg (bvs W), .int .i64 (round : Int)] w fun e w' => e = .returned (.tuple #[]) ∧ w.grownBy w' (some g) ∧ Arr w' g 63 (addV X W round) := by
  have hgl := hA.lt
  obtain ⟨N, hN⟩ : ∃ N, N = addV X W round := ⟨_, rfl⟩
  rw [← hN]
  have hNl : N.length = 16 := by rw [hN, addV_len]
  have hNi : ∀ i, i < 16 → N[i]? = some (X.getD i 0 ^^^ W.getD (16 * round + i) 0) := fun i hi => by rw [hN]; exact range_get _ 16 i hi
  have HNI := Lib.hid hNi
  have HA := Lib.hid hA
  clear hN hA hNi
  go_enter Try.func37, Try.ntmps37
  go_wp2_with fail
  go_loopw [7] (fun c wr => ∃ i : Nat, i ≤ 16 ∧ c = .int .i64 i ∧ Arr wr g 63 (mixL N X i) ∧ Arr wr w.heap.size 28 W ∧ w.grownBy wr (some g)) (fun c _ => 16 - (intOf c).toNat)
  case atStart => exact ⟨0, by omega, rfl, by rw [mixL_zero]; exact HA.out.alloc _, Arr.new _ _ _, grown_of_below (bnew _ _) _⟩
  case round =>
    obtain ⟨i, hi, rfl, hx, hw, hg⟩ := hrel
    by_cases hlt : i < 16
    · obtain ⟨q, r, hq⟩ : ∃ q r, i = 4 * q + r ∧ r < 4 ∧ q < 4 := ⟨i / 4, i % 4, by omega⟩
      obtain ⟨hqr, hr4, hq4⟩ := hq
      have hil : (i : Int) < 16 := by omega
      have e1 : (i : Int).tdiv 4 = (q : Int) := by rw [Int.tdiv_eq_ediv_of_nonneg (by omega)]; omega
      have e2 : (i : Int).tmod 4 = (r : Int) := by rw [Int.tmod_eq_emod_of_nonneg (by omega)]; omega
      obtain ⟨m, hm⟩ : ∃ m, m = 4 * round + q := ⟨_, rfl⟩
      have w1 : IntKind.i64.wrap (4 * (round : Int)) = 4 * (round : Int) := by rw [IntKind.wrap_i64]; omega
      have w2 : IntKind.i64.wrap (q : Int) = (q : Int) := by rw [IntKind.wrap_i64]; omega
      have w3 : IntKind.i64.wrap (r : Int) = (r : Int) := by rw [IntKind.wrap_i64]; omega
      have w4 : IntKind.i64.wrap (4 * (round : Int) + (q : Int)) = (m : Int) := by rw [IntKind.wrap_i64]; omega
      have hm0 : (0 : Int) ≤ (m : Int) := by omega
      have hm4 : (m : Int) < 44 := by omega
      have hr0 : (0 : Int) ≤ (r : Int) := by omega
      have hri4 : (r : Int) < 4 := by omega
      obtain ⟨a, ha⟩ : ∃ a, a = X.getD i 0 := ⟨_, rfl⟩
      obtain ⟨b, hb⟩ : ∃ b, b = W.getD (16 * round + i) 0 := ⟨_, rfl⟩
      have hni := HNI.out i hlt
      rw [← ha, ← hb] at hni
      have hcx : (mixL N X i)[i]? = some a := by rw [mixL_get _ _ _ _ (by omega), if_neg (by omega), ha]; exact getD_some (by omega)
      have hcw : W[m * 4 + r]? = some b := by rw [hb, show m * 4 + r = 16 * round + i from by omega]; exact getD_some (by omega)
      have c0 := hx.cell hcx
      have c1 := hw.cell hcw
      have hfz := hx.frozen i
      have hxo := axor a b
      obtain ⟨c, hc⟩ : ∃ c, c = a ^^^ b := ⟨_, rfl⟩
      rw [← hc] at hxo hni
      have HNI2 := Lib.hid hni
      have HX := Lib.hid hx
      have HW := Lib.hid hw
      have HG := Lib.hid hg
      have HQR := Lib.hid hqr
      clear hx hw hg hni ha hb hcx hcw hc hqr hm
      go_wp2_with fail
      refine wp_region_tailN2 18 (Cells2 ⟨g, i, none⟩ ⟨w.heap.size, m * 4 + r, none⟩ (bv a) (bv b) wr.drew) (by kernel_rfl) (by kernel_rfl) (by kernel_rfl) ⟨c0, c1, rfl⟩ ?_
      simp only [List.take_succ_cons, List.take_zero, List.drop_succ_cons, List.drop_zero]
      repeat (first
        | (refine text_skip (by rfl) ?_; simp only [Act.put, List.setIfInBounds_toArray, List.set_cons_zero, List.set_cons_succ])
        | (refine text_pure (v := ?_) (by rfl) (fun wx hS => ?_) ?_; rotate_left; (go_simp; with_reducible exact rfl); simp only [Act.put, List.setIfInBounds_toArray, List.set_cons_zero, List.set_cons_succ]))
      refine text_nil (fun wx hS => ?_)
      obtain ⟨_, _, rfl⟩ := hS
      go_wp2_with fail
      refine ⟨⟨i + 1, by omega, by go_num, ?_, (HW.out.other _ (by simp; omega)).drew, grown_drew (grown_set HG.out _ _)⟩, by simp [intOf]; omega⟩
      have h := (HX.out.set i c).drew
      rw [mixL_set (by omega) HNI2.out] at h
      exact h
    · have hi16 : i = 16 := by omega
      subst hi16
      rw [mixL_end _ _ _ (by omega) (by omega)] at hx
      go_wp2_with fail
      go_returns
      exact ⟨rfl, hg, hx⟩
end Go.Proofs.Ytkbidgonjnlkmaa

/-
  The contracts of AES's turn and mix. No condition. Own work.
-/
import Derived.Test.YtkbidgonjnlkmaaAes2
namespace Go.Proofs.Ytkbidgonjnlkmaa
open Go.RowKit

def turnI (back : Bool) (i : Nat) : Nat := (if back then i / 4 + (4 - i % 4) else i / 4 + i % 4) % 4 * 4 + i % 4
def turnV (back : Bool) (X : List UInt8) : List UInt8 := (List.range 16).map fun i => X.getD (turnI back i) 0
theorem turnV_len (back : Bool) (X : List UInt8) : (turnV back X).length = 16 := by simp [turnV]

set_option maxRecDepth 20000 in
set_option maxHeartbeats 3200000 in
theorem turn_any (g : Nat) (X : List UInt8) (back : Bool) (hX : X.length = 16) (w : World) (hA : Arr w g 63 X) :
    Calls Try.prog 40 #[.pointer (some ⟨g, 0, none⟩), .bool back] w fun e w' => e = .returned (.tuple #[]) ∧ w.grownBy w' (some g) ∧ Arr w' g 63 (turnV back X) := by
  have hgl := hA.lt
  obtain ⟨N, hN⟩ : ∃ N, N = turnV back X := ⟨_, rfl⟩
  rw [← hN]
  have hNl : N.length = 16 := by rw [hN, turnV_len]
  have hNi : ∀ i, i < 16 → N[i]? = some (X.getD (turnI back i) 0) := fun i hi => by rw [hN]; exact range_get _ 16 i hi
  have HNI := Lib.hid hNi
  have HA := Lib.hid hA
  have hsz : (Try.prog.info? 63).map (·.size) = some X.length := by rw [hX]; kernel_rfl
  have HSZ := Lib.hid hsz
  clear hN hA hNi hsz
  go_enter Try.func40, Try.ntmps40
  go_wp2_with (first
    | (refine wpList_load_arr rfl 63 _ rfl g 63 X 16 5 rfl HA.out Try.underlying63 HSZ.out ?_)
    | (refine wpList_store_arr rfl 63 _ _ rfl w.heap.size 63 (List.replicate 16 0) X rfl rfl (Arr.new w 63 (List.replicate 16 0)) (by rw [hX]; rfl) HSZ.out ?_))
  rw [World.setRow_alloc_new]
  go_loopw [11] (fun c wr => ∃ i : Nat, i ≤ 16 ∧ c = .int .i64 i ∧ Arr wr g 63 (mixL N X i) ∧ Arr wr w.heap.size 63 X ∧ w.grownBy wr (some g)) (fun c _ => 16 - (intOf c).toNat)
  case atStart => exact ⟨0, by omega, rfl, by rw [mixL_zero]; exact HA.out.alloc _, Arr.new _ _ _, grown_of_below (bnew _ _) _⟩
  case round =>
    obtain ⟨i, hi, rfl, hx, hw, hg⟩ := hrel
    by_cases hlt : i < 16
    · obtain ⟨q, r, hqr, hr4, hq4⟩ : ∃ q r, i = 4 * q + r ∧ r < 4 ∧ q < 4 := ⟨i / 4, i % 4, by omega⟩
      have hil : (i : Int) < 16 := by omega
      have hi0 : (0 : Int) ≤ (i : Int) := by omega
      have e1 : (i : Int).tdiv 4 = (q : Int) := by rw [Int.tdiv_eq_ediv_of_nonneg (by omega)]; omega
      have e2 : (i : Int).tmod 4 = (r : Int) := by rw [Int.tmod_eq_emod_of_nonneg (by omega)]; omega
      obtain ⟨c, hc⟩ : ∃ c, c = (if back then i / 4 + (4 - i % 4) else i / 4 + i % 4) := ⟨_, rfl⟩
      have hcl : c < 8 := by rw [hc]; split <;> omega
      obtain ⟨m, hm⟩ : ∃ m, m = c % 4 := ⟨_, rfl⟩
      obtain ⟨k, hk⟩ : ∃ k, k = m * 4 + r := ⟨_, rfl⟩
      have hkt : turnI back i = k := by unfold turnI; rw [← hc, ← hm, hk]; omega
      have hk16 : k < 16 := by omega
      have e3 : (c : Int).tmod 4 = (m : Int) := by rw [Int.tmod_eq_emod_of_nonneg (by omega)]; omega
      have w0 : IntKind.i64.wrap (m : Int) = (m : Int) := by rw [IntKind.wrap_i64]; omega
      have w1 : IntKind.i64.wrap ((m : Int) * 4) = (m : Int) * 4 := by rw [IntKind.wrap_i64]; omega
      have w2 : IntKind.i64.wrap ((m : Int) * 4 + (r : Int)) = (k : Int) := by rw [IntKind.wrap_i64]; omega
      have hk0 : (0 : Int) ≤ (k : Int) := by omega
      have hki : (k : Int) < 16 := by omega
      obtain ⟨a, ha⟩ : ∃ a, a = X.getD k 0 := ⟨_, rfl⟩
      have hni := HNI.out i hlt
      rw [hkt, ← ha] at hni
      have hcw : X[k]? = some a := by rw [ha]; exact getD_some (by omega)
      have c1 := hw.cell hcw
      have hcx : ∃ v, (mixL N X i)[i]? = some v := ⟨_, getD_some (by rw [mixL_len _ _ _ (by omega)]; omega)⟩
      obtain ⟨v, hv⟩ := hcx
      have c0 := hx.cell hv
      have hfz := hx.frozen i
      have HNI2 := Lib.hid hni
      have HX := Lib.hid hx
      have HW := Lib.hid hw
      have HG := Lib.hid hg
      have fin : ∀ W', W' = wr.setCell ⟨g, i, none⟩ (bv a) → Arr W' g 63 (mixL N X (i + 1)) ∧ Arr W' w.heap.size 63 X ∧ w.grownBy W' (some g) := fun W' h => by
        subst h
        have h := hx.set i a
        rw [mixL_set (by omega) hni] at h
        exact ⟨h, hw.other _ (by simp; omega), grown_set hg _ _⟩
      have HFin := Lib.hid fin
      cases back with
      | true =>
        simp only [if_true] at hc
        have hci : (q : Int) + (4 - (r : Int)) = (c : Int) := by omega
        clear hx hw hg hni ha hcw hqr hm hk hkt hc hv fin
        go_wp2_with fail
        refine wp_region_tailN2 11 (Cells2 ⟨w.heap.size, k, none⟩ ⟨g, i, none⟩ (bv a) (bv v) wr.drew) (by kernel_rfl) (by kernel_rfl) (by kernel_rfl) ⟨c1, c0, rfl⟩ ?_
        simp only [List.take_succ_cons, List.take_zero, List.drop_succ_cons, List.drop_zero]
        repeat (first
          | (refine text_skip (by rfl) ?_; simp only [Act.put, List.setIfInBounds_toArray, List.set_cons_zero, List.set_cons_succ])
          | (refine text_pure (v := ?_) (by rfl) (fun wx hS => ?_) ?_; rotate_left; (go_simp; with_reducible exact rfl); simp only [Act.put, List.setIfInBounds_toArray, List.set_cons_zero, List.set_cons_succ]))
        refine text_nil (fun wx hS => ?_)
        obtain ⟨_, _, rfl⟩ := hS
        go_wp2_with fail
        obtain ⟨f1, f2, f3⟩ := HFin.out _ rfl
        exact ⟨⟨i + 1, by omega, by go_num, f1.drew, f2.drew, grown_drew f3⟩, by simp [intOf]; omega⟩
      | false =>
        simp only [Bool.false_eq_true, if_false] at hc
        have hci : (q : Int) + (r : Int) = (c : Int) := by omega
        clear hx hw hg hni ha hcw hqr hm hk hkt hc hv fin
        go_wp2_with fail
        refine wp_region_tailN2 11 (Cells2 ⟨w.heap.size, k, none⟩ ⟨g, i, none⟩ (bv a) (bv v) wr.drew) (by kernel_rfl) (by kernel_rfl) (by kernel_rfl) ⟨c1, c0, rfl⟩ ?_
        simp only [List.take_succ_cons, List.take_zero, List.drop_succ_cons, List.drop_zero]
        repeat (first
          | (refine text_skip (by rfl) ?_; simp only [Act.put, List.setIfInBounds_toArray, List.set_cons_zero, List.set_cons_succ])
          | (refine text_pure (v := ?_) (by rfl) (fun wx hS => ?_) ?_; rotate_left; (go_simp; with_reducible exact rfl); simp only [Act.put, List.setIfInBounds_toArray, List.set_cons_zero, List.set_cons_succ]))
        refine text_nil (fun wx hS => ?_)
        obtain ⟨_, _, rfl⟩ := hS
        go_wp2_with fail
        obtain ⟨f1, f2, f3⟩ := HFin.out _ rfl
        exact ⟨⟨i + 1, by omega, by go_num, f1.drew, f2.drew, grown_drew f3⟩, by simp [intOf]; omega⟩
    · have hi16 : i = 16 := by omega
      subst hi16
      rw [mixL_end _ _ _ (by omega) (by omega)] at hx
      go_wp2_with fail
      go_returns
      exact ⟨rfl, hg, hx⟩
end Go.Proofs.Ytkbidgonjnlkmaa

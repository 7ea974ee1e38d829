/-
  The contract of AES's mix. No condition. Own work.
-/
import Derived.Test.YtkbidgonjnlkmaaAes3
namespace Go.Proofs.Ytkbidgonjnlkmaa
open Go.RowKit

theorem Arr.new2 (w : World) (o : Obj) (T : TypeId) (R : List UInt8) : Arr ((w.alloc o).alloc (.cells (bvs R) T)) (w.heap.size + 1) T R := by
  have := Arr.new (w.alloc o) T R
  rwa [show (w.alloc o).heap.size = w.heap.size + 1 from by simp] at this
/-- The sum of k products. -/
def mixS (B X : List UInt8) (i : Nat) : Nat → UInt8
  | 0 => 0
  | k + 1 => mixS B X i k ^^^ gm (X.getD (i / 4 * 4 + k) 0) (B.getD ((k + 4 - i % 4) % 4) 0)
def mixV (B X : List UInt8) : List UInt8 := (List.range 16).map fun i => mixS B X i 4
theorem mixV_len (B X : List UInt8) : (mixV B X).length = 16 := by simp [mixV]

set_option maxRecDepth 20000 in
set_option maxHeartbeats 6400000 in
theorem mix_any (g : Nat) (B X : List UInt8) (hX : X.length = 16) (hB : B.length = 4) (w : World) (hA : Arr w g 63 X) :
    Calls Try.prog 41 #[.pointer (some ⟨g, 0, none⟩), .agg (bvs B)] w fun e w' => e = .returned (.tuple #[]) ∧ w.grownBy w' (some g) ∧ Arr w' g 63 (mixV B X) := by
  have hgl := hA.lt
  obtain ⟨N, hN⟩ : ∃ N, N = mixV B X := ⟨_, rfl⟩
  rw [← hN]
  have hNl : N.length = 16 := by rw [hN, mixV_len]
  have hNi : ∀ i, i < 16 → N[i]? = some (mixS B X i 4) := fun i hi => by rw [hN]; exact range_get _ 16 i hi
  have HNI := Lib.hid hNi
  have HA := Lib.hid (hA.alloc (.cells (bvs B) 26))
  have hsz : (Try.prog.info? 63).map (·.size) = some X.length := by rw [hX]; kernel_rfl
  have HSZ := Lib.hid hsz
  clear hN hA hNi hsz
  go_enter Try.func41, Try.ntmps41
  go_wp2_with (first
    | (refine wpList_load_arr rfl 63 _ rfl g 63 X 16 5 rfl HA.out Try.underlying63 HSZ.out ?_)
    | (refine wpList_store_arr rfl 63 _ _ rfl (w.heap.size + 1) 63 (List.replicate 16 0) X rfl rfl (Arr.new2 w (.cells (bvs B) 26) 63 (List.replicate 16 0)) (by rw [hX]; rfl) HSZ.out ?_))
  have hsr := World.setRow_alloc_new (w.alloc (.cells (bvs B) 26)) (bvs (List.replicate 16 0)) (bvs X) 63
  rw [show (w.alloc (.cells (bvs B) 26)).heap.size = w.heap.size + 1 from by simp] at hsr
  have hsr' : ((w.alloc (.cells (bvs B) 26)).alloc (Obj.cells #[Value.int IntKind.u8 0, Value.int IntKind.u8 0, Value.int IntKind.u8 0, Value.int IntKind.u8 0, Value.int IntKind.u8 0, Value.int IntKind.u8 0, Value.int IntKind.u8 0, Value.int IntKind.u8 0, Value.int IntKind.u8 0, Value.int IntKind.u8 0, Value.int IntKind.u8 0, Value.int IntKind.u8 0, Value.int IntKind.u8 0, Value.int IntKind.u8 0, Value.int IntKind.u8 0, Value.int IntKind.u8 0] 63)).setRow (w.heap.size + 1) (bvs X) = (w.alloc (.cells (bvs B) 26)).alloc (.cells (bvs X) 63) := hsr
  rw [hsr']
  clear hsr hsr'
  go_loopw [13] (fun c wr => ∃ i : Nat, i ≤ 16 ∧ c = .int .i64 i ∧ Arr wr g 63 (mixL N X i) ∧ Arr wr (w.heap.size + 1) 63 X ∧ Arr wr w.heap.size 26 B ∧ w.grownBy wr (some g)) (fun c _ => 16 - (intOf c).toNat)
  case atStart => exact ⟨0, by omega, rfl, by rw [mixL_zero]; exact HA.out.alloc _, Arr.new2 _ _ _ _, (Arr.new _ _ _).alloc _, grown_of_below ((bnew _ _).alloc (by simp) _) _⟩
  case round =>
    obtain ⟨i, hi, rfl, hx, hw, hb, hg⟩ := hrel
    by_cases hlt : i < 16
    · obtain ⟨q, r, hqr, hr4, hq4⟩ : ∃ q r, i = 4 * q + r ∧ r < 4 ∧ q < 4 := ⟨i / 4, i % 4, by omega⟩
      have hil : (i : Int) < 16 := by omega
      have hi0 : (0 : Int) ≤ (i : Int) := by omega
      have e1 : (i : Int).tdiv 4 = (q : Int) := by rw [Int.tdiv_eq_ediv_of_nonneg (by omega)]; omega
      have e2 : (i : Int).tmod 4 = (r : Int) := by rw [Int.tmod_eq_emod_of_nonneg (by omega)]; omega
      have hq' : i / 4 = q := by omega
      have hr' : i % 4 = r := by omega
      have hni := HNI.out i hlt
      have HNI2 := Lib.hid hni
      have HQ := Lib.hid hq'
      have HRR := Lib.hid hr'
      have HX := Lib.hid hx
      have HW := Lib.hid hw
      have HB := Lib.hid hb
      have HG := Lib.hid hg
      clear hx hw hg hb hni hqr hq' hr'
      obtain ⟨wo, hwo⟩ : ∃ wo, wo = wr := ⟨_, rfl⟩
      rw [← hwo] at HX HW HB HG ⊢
      clear hwo
      go_wp2_with fail
      go_loopw [8, 20] (fun n c wi => ∃ k : Nat, k ≤ 4 ∧ c = .int .i64 k ∧ n = bv (mixS B X i k) ∧ Arr wi g 63 (mixL N X i) ∧ Arr wi (w.heap.size + 1) 63 X ∧ Arr wi w.heap.size 26 B ∧ w.grownBy wi (some g)) (fun _ c _ => 4 - (intOf c).toNat)
      case atStart => exact ⟨0, by omega, rfl, rfl, HX.out, HW.out, HB.out, HG.out⟩
      case round =>
        clear HX HW HB HG
        obtain ⟨k, hk, rfl, rfl, hx, hw, hb, hg⟩ := hrel
        have HX := Lib.hid hx
        have HG := Lib.hid hg
        by_cases hk4 : k < 4
        · obtain ⟨m, hm⟩ : ∃ m, m = q * 4 + k := ⟨_, rfl⟩
          obtain ⟨p, hp⟩ : ∃ p, p = (k + 4 - r) % 4 := ⟨_, rfl⟩
          have hki : (k : Int) < 4 := by omega
          have w1 : IntKind.i64.wrap ((q : Int) * 4) = (q : Int) * 4 := by rw [IntKind.wrap_i64]; omega
          have w2 : IntKind.i64.wrap ((q : Int) * 4 + (k : Int)) = (m : Int) := by rw [IntKind.wrap_i64]; omega
          have w3 : IntKind.i64.wrap ((k : Int) + 4) = (k : Int) + 4 := by rw [IntKind.wrap_i64]; omega
          have w4 : IntKind.i64.wrap ((k : Int) + 4 - (r : Int)) = (k : Int) + 4 - (r : Int) := by rw [IntKind.wrap_i64]; omega
          have w5 : ((k : Int) + 4 - (r : Int)).tmod 4 = (p : Int) := by rw [Int.tmod_eq_emod_of_nonneg (by omega)]; omega
          have w6 : IntKind.i64.wrap (p : Int) = (p : Int) := by rw [IntKind.wrap_i64]; omega
          have hm0 : (0 : Int) ≤ (m : Int) := by omega
          have hm16 : (m : Int) < 16 := by omega
          have hp0 : (0 : Int) ≤ (p : Int) := by omega
          have hp4 : (p : Int) < 4 := by omega
          obtain ⟨a, ha⟩ : ∃ a, a = X.getD m 0 := ⟨_, rfl⟩
          obtain ⟨b, hbb⟩ : ∃ b, b = B.getD p 0 := ⟨_, rfl⟩
          have c0 := hw.cell (i := m) (c := a) (by rw [ha]; exact getD_some (by omega))
          have c1 := hb.cell (i := p) (c := b) (by rw [hbb]; exact getD_some (by omega))
          have hS : mixS B X i (k + 1) = mixS B X i k ^^^ gm a b := by
            rw [mixS, HQ.out, HRR.out, ← hm, ← hp, ← ha, ← hbb]
          obtain ⟨s, hs⟩ : ∃ s, s = mixS B X i k := ⟨_, rfl⟩
          obtain ⟨s2, hs2⟩ : ∃ s2, s2 = mixS B X i (k + 1) := ⟨_, rfl⟩
          have hxo := axor s (gm a b)
          rw [← hs, ← hs2] at hS
          rw [← hS] at hxo
          rw [← hs]
          have HS2 := Lib.hid hs2
          have HW := Lib.hid hw
          have HB := Lib.hid hb
          clear hx hw hg hb ha hbb hm hp hs2 hS hs
          go_wp2_with fail
          refine wp_region_txt (Cells2 ⟨w.heap.size + 1, m, none⟩ ⟨w.heap.size, p, none⟩ (bv a) (bv b) wr.drew) (by kernel_rfl) (by kernel_rfl) ⟨c0, c1, rfl⟩ ?_
          repeat (first
            | (refine text_skip (by rfl) ?_; simp only [Act.put, List.setIfInBounds_toArray, List.set_cons_zero, List.set_cons_succ])
            | (refine text_pure (v := ?_) (by rfl) (fun wx hS => ?_) ?_; rotate_left; (go_simp; with_reducible exact rfl); simp only [Act.put, List.setIfInBounds_toArray, List.set_cons_zero, List.set_cons_succ])
            | (refine text_call (v := ?_) (f := ?_) (args := ?_) (by rfl) (fun wx hS => ?_) (fun wx hS => ?_) ?_; rotate_left 3; (go_simp; constructor <;> with_reducible rfl)
               (first
                 | with_reducible exact meetsEq (mul_any a b) wx hS)
               simp only [Act.put, List.setIfInBounds_toArray, List.set_cons_zero, List.set_cons_succ]))
          refine text_nil (fun wx hS => ?_)
          obtain ⟨_, _, rfl⟩ := hS
          go_wp2_with fail
          go_roundw
          case rel => exact ⟨k + 1, by omega, by go_num, by rw [HS2.out], HX.out.drew, HW.out.drew, HB.out.drew, grown_drew HG.out⟩
          case measure => simp [intOf]; omega
        · have hk4' : k = 4 := by omega
          subst hk4'
          obtain ⟨a, ha⟩ : ∃ a, a = mixS B X i 4 := ⟨_, rfl⟩
          rw [← ha]
          have hcx : ∃ v, (mixL N X i)[i]? = some v := ⟨_, getD_some (by rw [mixL_len _ _ _ (by omega)]; omega)⟩
          obtain ⟨v, hv⟩ := hcx
          have c0 := hx.cell hv
          have hfz := hx.frozen i
          have fin : ∀ W', W' = wr.setCell ⟨g, i, none⟩ (bv a) → Arr W' g 63 (mixL N X (i + 1)) ∧ Arr W' (w.heap.size + 1) 63 X ∧ Arr W' w.heap.size 26 B ∧ w.grownBy W' (some g) := fun W' h => by
            subst h
            have h := hx.set i a
            rw [mixL_set (by omega) (by rw [HNI2.out, ha])] at h
            exact ⟨h, hw.other _ (by simp; omega), hb.other _ (by simp; omega), grown_set hg _ _⟩
          have HFin := Lib.hid fin
          clear hx hw hb hg hv fin ha
          go_wp2_with fail
          obtain ⟨f1, f2, f3, f4⟩ := HFin.out _ rfl
          go_roundw
          case rel => exact ⟨i + 1, by omega, by go_num, f1, f2, f3, f4⟩
          case measure => simp [intOf]; omega
    · have hi16 : i = 16 := by omega
      subst hi16
      rw [mixL_end _ _ _ (by omega) (by omega)] at hx
      go_wp2_with fail
      go_returns
      exact ⟨rfl, hg, hx⟩
end Go.Proofs.Ytkbidgonjnlkmaa

/-
  The contracts of aes.backs, Sub, Back. No condition. Own work.
-/
import Derived.Test.YtkbidgonjnlkmaaAliveA
namespace Go.Proofs.Ytkbidgonjnlkmaa
open Go.RowKit

def bkL : Nat → List UInt8
  | 0 => List.replicate 256 0
  | k + 1 => (bkL k).set (boxT.getD k 0).toNat (UInt8.ofNat k)
theorem bkL_len (k : Nat) : (bkL k).length = 256 := by
  induction k with
  | zero => exact List.length_replicate
  | succ k ih => rw [bkL, List.length_set, ih]
def backT : List UInt8 := bkL 256
theorem backT_len : backT.length = 256 := bkL_len 256

set_option maxRecDepth 20000 in
set_option maxHeartbeats 3200000 in
theorem backs_any (w : World) : Calls Try.prog 45 #[] w fun e w' => e = .returned (.agg (bvs backT)) ∧ Below w.heap.size w w' := by
  obtain ⟨hzv, hzs⟩ := zero_of_info zero_info
  obtain ⟨Z, hZ⟩ : ∃ Z, Z = List.replicate 256 (0 : UInt8) := ⟨_, rfl⟩
  have hZl : Z.length = 256 := by rw [hZ]; exact List.length_replicate
  have HZ0 : Hid (bkL 0 = Z) := Lib.hid (by rw [hZ]; rfl)
  rw [← hZ] at hzv
  obtain ⟨B, hB⟩ : ∃ B, B = boxT := ⟨_, rfl⟩
  have hBl : B.length = 256 := by rw [hB, boxT_len]
  have HBX := Lib.hid boxes_any
  rw [← hB] at HBX
  have HBS : Hid (∀ k, bkL (k + 1) = (bkL k).set (B.getD k 0).toNat (UInt8.ofNat k)) := Lib.hid fun k => by rw [hB]; rfl
  have hbt : (Try.prog.info? 29).map (·.size) = some 256 := hzs
  have HBT := Lib.hid hbt
  clear hZ hB hzs hbt
  have A0 := Lib.hid ((Arr.new w 29 Z).alloc (.cells (bvs Z) 29))
  have A1 := Lib.hid (Arr.new2 w (.cells (bvs Z) 29) 29 Z)
  have B0 : Hid (Below w.heap.size w ((w.alloc (.cells (bvs Z) 29)).alloc (.cells (bvs Z) 29))) := Lib.hid ((bnew _ _).alloc (by simp) _)
  have S0 : Hid (((w.alloc (.cells (bvs Z) 29)).alloc (.cells (bvs Z) 29)).heap.size = w.heap.size + 2) := Lib.hid (by simp)
  go_enter Try.func45, Try.ntmps45
  go_wp2_with fail
  refine (HBX.out _).mono ?_
  rintro e w1 ⟨rfl, hb1⟩
  have a0 := A0.out.below hb1 (by rw [S0.out]; omega)
  have a1 := A1.out.below hb1 (by rw [S0.out]; omega)
  have b0 := bthen2 B0.out hb1 B0.out.size
  clear hb1 A0 A1 B0 S0 hzv
  go_wp2_with fail
  go_loopw [5] (fun c wr => ∃ i : Nat, i ≤ 256 ∧ c = .int .i64 (i : Int) ∧ Arr wr w.heap.size 29 Z ∧ Arr wr (w.heap.size + 1) 29 (bkL i) ∧ Below w.heap.size w wr) (fun c _ => 256 - (intOf c).toNat)
  case atStart => exact ⟨0, by omega, rfl, a0, by rw [HZ0.out]; exact a1, b0⟩
  case round =>
    clear a0 a1 b0
    obtain ⟨i, hi, rfl, hA, hT, hbw⟩ := hrel
    by_cases hlt : i < 256
    · have hii : (i : Int) < 256 := by omega
      have hi0 : (0 : Int) ≤ (i : Int) := by omega
      obtain ⟨c, hc⟩ : ∃ c, c = B.getD i 0 := ⟨_, rfl⟩
      have hidx : ∀ w, (Instr.index 29 (.agg (bvs B)) (.int .i64 (i : Int))).run Try.prog w = .ok (bv c) w := fun w =>
        run_index_bvs 29 5 B .i64 i c (by rw [hBl]; exact Try.underlying29) Try.underlying5 (by kernel_rfl) (by rw [hc]; exact getD_some (by omega)) w
      have hcl : ((c.toNat : Nat) : Int) < 256 := by have := c.toNat_lt; omega
      obtain ⟨d, hd⟩ : ∃ d, (bkL i)[c.toNat]? = some d := ⟨_, getD_some (by rw [bkL_len]; exact c.toNat_lt)⟩
      have hcell := hT.cell hd
      have hfz := hT.frozen c.toNat
      have w1 : IntKind.u8.wrap (i : Int) = (i : Int) := by rw [IntKind.wrap_u8]; omega
      have w2 : (i : Int) % 256 = (i : Int) := by omega
      have fin : ∀ W', W' = wr.setCell ⟨w.heap.size + 1, c.toNat, none⟩ (.int .u8 (i : Int)) → Arr W' w.heap.size 29 Z ∧ Arr W' (w.heap.size + 1) 29 (bkL (i + 1)) ∧ Below w.heap.size w W' := fun W' h => by
        subst h
        have h := hT.set c.toNat (UInt8.ofNat i)
        rw [show bv (UInt8.ofNat i) = .int .u8 (i : Int) from by unfold bv; rw [UInt8.toNat_ofNat', Nat.mod_eq_of_lt (by omega)], hc, ← HBS.out, ← hc] at h
        exact ⟨hA.other _ (by simp), h, hbw.setCell (by simp) _⟩
      have HFin := Lib.hid fin
      clear hA hT hbw hd fin hc
      go_wp2_with fail
      go_roundw
      case rel =>
        obtain ⟨f1, f2, f3⟩ := HFin.out _ rfl
        exact ⟨i + 1, by omega, by go_num, f1, f2, f3⟩
      case measure => simp [intOf]; omega
    · have hi2 : i = 256 := by omega
      subst hi2
      obtain ⟨S, hS⟩ : ∃ S, S = bkL 256 := ⟨_, rfl⟩
      have hSl : S.length = 256 := by rw [hS, bkL_len]
      have HS : Hid (S = backT) := Lib.hid hS
      rw [← hS] at hT
      have HT := Lib.hid hT
      have HA := Lib.hid hA
      have HB := Lib.hid hbw
      have HSL : Hid ((Try.prog.info? 29).map (·.size) = some S.length) := Lib.hid (by rw [hSl]; exact HBT.out)
      clear hS hA hT hbw
      go_wp2_with (first
        | (refine wpList_load_arr rfl 29 _ rfl (w.heap.size + 1) 29 S 256 5 rfl HT.out Try.underlying29 HSL.out ?_)
        | (refine wpList_store_arr rfl 29 _ _ rfl w.heap.size 29 Z S rfl rfl HA.out (by omega) HSL.out ?_))
      have HA3 := HA.out.setRow (S := S)
      refine bodyPost_ret (v := .agg (bvs S)) (results_cell_row Try.results45 _ _ w.heap.size 29 (bvs S) (0, 0) _ rfl HA3 Try.underlying29 rfl (by rw [bvs_size]; exact HSL.out)) rfl ⟨by rw [HS.out], below_setRow HB.out (Nat.le_refl _) _⟩

theorem sub_any (b : UInt8) (w : World) : Calls Try.prog 18 #[bv b] w fun e w' => e = .returned (bv (bxf boxT b)) ∧ Below w.heap.size w w' := by
  obtain ⟨B, hB⟩ : ∃ B, B = boxT := ⟨_, rfl⟩
  have hBl : B.length = 256 := by rw [hB, boxT_len]
  have HBX := Lib.hid boxes_any
  rw [← hB] at HBX ⊢
  clear hB
  obtain ⟨c, hc⟩ : ∃ c, c = bxf B b := ⟨_, rfl⟩
  rw [← hc]
  have hidx : ∀ w, (Instr.index 29 (.agg (bvs B)) (bv b)).run Try.prog w = .ok (bv c) w := fun w =>
    run_index_bvs 29 5 B .u8 b.toNat c (by rw [hBl]; exact Try.underlying29) Try.underlying5 (by kernel_rfl) (by rw [hc]; exact getD_some (by rw [hBl]; exact b.toNat_lt)) w
  clear hc
  go_enter Try.func18, Try.ntmps18
  go_wp2_with (go_at_call 35; (with_reducible refine (HBX.out _).mono ?_); rintro e w1 ⟨rfl, hb1⟩)
  go_ret
  exact ⟨rfl, hb1⟩
theorem back_any (b : UInt8) (w : World) : Calls Try.prog 21 #[bv b] w fun e w' => e = .returned (bv (bxf backT b)) ∧ Below w.heap.size w w' := by
  obtain ⟨B, hB⟩ : ∃ B, B = backT := ⟨_, rfl⟩
  have hBl : B.length = 256 := by rw [hB, backT_len]
  have HBX := Lib.hid backs_any
  rw [← hB] at HBX ⊢
  clear hB
  obtain ⟨c, hc⟩ : ∃ c, c = bxf B b := ⟨_, rfl⟩
  rw [← hc]
  have hidx : ∀ w, (Instr.index 29 (.agg (bvs B)) (bv b)).run Try.prog w = .ok (bv c) w := fun w =>
    run_index_bvs 29 5 B .u8 b.toNat c (by rw [hBl]; exact Try.underlying29) Try.underlying5 (by kernel_rfl) (by rw [hc]; exact getD_some (by rw [hBl]; exact b.toNat_lt)) w
  clear hc
  go_enter Try.func21, Try.ntmps21
  go_wp2_with (go_at_call 45; (with_reducible refine (HBX.out _).mono ?_); rintro e w1 ⟨rfl, hb1⟩)
  go_ret
  exact ⟨rfl, hb1⟩
end Go.Proofs.Ytkbidgonjnlkmaa

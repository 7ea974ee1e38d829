/-
  AES's steps lead back, plainly. No condition. Own work.
-/
import Derived.Test.YtkbidgonjnlkmaaDec
namespace Go.Proofs.Ytkbidgonjnlkmaa
open Go.RowKit

theorem xlc (a b c : UInt8) : a ^^^ (b ^^^ c) = b ^^^ (a ^^^ c) := by rw [← UInt8.xor_assoc, UInt8.xor_comm a b, UInt8.xor_assoc]
theorem lin4 (x0 x1 x2 x3 a00 a01 a02 a03 a10 a11 a12 a13 a20 a21 a22 a23 a30 a31 a32 a33 b0 b1 b2 b3 : UInt8) :
    gm (gm x0 a00 ^^^ gm x1 a10 ^^^ gm x2 a20 ^^^ gm x3 a30) b0 ^^^ gm (gm x0 a01 ^^^ gm x1 a11 ^^^ gm x2 a21 ^^^ gm x3 a31) b1 ^^^
    gm (gm x0 a02 ^^^ gm x1 a12 ^^^ gm x2 a22 ^^^ gm x3 a32) b2 ^^^ gm (gm x0 a03 ^^^ gm x1 a13 ^^^ gm x2 a23 ^^^ gm x3 a33) b3 =
    gm x0 (gm a00 b0 ^^^ gm a01 b1 ^^^ gm a02 b2 ^^^ gm a03 b3) ^^^ gm x1 (gm a10 b0 ^^^ gm a11 b1 ^^^ gm a12 b2 ^^^ gm a13 b3) ^^^
    gm x2 (gm a20 b0 ^^^ gm a21 b1 ^^^ gm a22 b2 ^^^ gm a23 b3) ^^^ gm x3 (gm a30 b0 ^^^ gm a31 b1 ^^^ gm a32 b2 ^^^ gm a33 b3) := by
  simp only [xor_gm, gm_xor, gm_assoc]
  simp only [UInt8.xor_assoc, xlc]

def cf (B : List UInt8) (j k : Nat) : UInt8 := B.getD ((j + 4 - k) % 4) 0
theorem mixS_at (B X : List UInt8) (c r : Nat) (hr : r < 4) :
    mixS B X (4 * c + r) 4 = gm (X.getD (4 * c + 0) 0) (cf B 0 r) ^^^ gm (X.getD (4 * c + 1) 0) (cf B 1 r) ^^^ gm (X.getD (4 * c + 2) 0) (cf B 2 r) ^^^ gm (X.getD (4 * c + 3) 0) (cf B 3 r) := by
  unfold cf
  simp only [mixS]
  rw [show (4 * c + r) / 4 * 4 = 4 * c from by omega, show (4 * c + r) % 4 = r from by omega]
  rw [UInt8.zero_xor]
theorem mixV_getD (B X : List UInt8) (i : Nat) (h : i < 16) : (mixV B X).getD i 0 = mixS B X i 4 := by
  rw [List.getD_eq_getElem?_getD, show (mixV B X)[i]? = some (mixS B X i 4) from range_get _ 16 i h]; rfl
theorem mix_mix (A B : List UInt8) (H : ∀ j, j < 4 → ∀ r, r < 4 → gm (cf A j 0) (cf B 0 r) ^^^ gm (cf A j 1) (cf B 1 r) ^^^ gm (cf A j 2) (cf B 2 r) ^^^ gm (cf A j 3) (cf B 3 r) = if j = r then 1 else 0)
    (X : List UInt8) (hX : X.length = 16) : mixV B (mixV A X) = X := by
  apply List.ext_getElem?
  intro i
  by_cases hi : i < 16
  · obtain ⟨c, r, hc, hr, hic⟩ : ∃ c r, c < 4 ∧ r < 4 ∧ i = 4 * c + r := ⟨i / 4, i % 4, by omega⟩
    rw [show (mixV B (mixV A X))[i]? = some (mixS B (mixV A X) i 4) from range_get _ 16 i hi, getD_some (by omega : i < X.length), hic, mixS_at _ _ _ _ hr]
    rw [mixV_getD _ _ _ (by omega), mixV_getD _ _ _ (by omega), mixV_getD _ _ _ (by omega), mixV_getD _ _ _ (by omega)]
    rw [mixS_at _ _ _ _ (by omega), mixS_at _ _ _ _ (by omega), mixS_at _ _ _ _ (by omega), mixS_at _ _ _ _ (by omega), lin4, H 0 (by omega) r hr, H 1 (by omega) r hr, H 2 (by omega) r hr, H 3 (by omega) r hr]
    congr 1
    have hr4 : r = 0 ∨ r = 1 ∨ r = 2 ∨ r = 3 := by omega
    rcases hr4 with rfl | rfl | rfl | rfl <;> simp [gm_one, gm_zero]
  · rw [List.getElem?_eq_none (by rw [mixV_len]; omega), List.getElem?_eq_none (by omega)]
theorem mix_out (X : List UInt8) (hX : X.length = 16) : mixV [14, 11, 13, 9] (mixV [2, 3, 1, 1] X) = X := mix_mix _ _ (by decide +kernel) X hX
theorem mix_in (X : List UInt8) (hX : X.length = 16) : mixV [2, 3, 1, 1] (mixV [14, 11, 13, 9] X) = X := mix_mix _ _ (by decide +kernel) X hX
theorem decM_encM (n : Nat) (X : List UInt8) (hX : X.length = 16) : decM n (encM n X) = X := by
  unfold decM encM
  by_cases h : n < 10
  · rw [if_pos h, if_pos h, mix_out X hX]
  · rw [if_neg h, if_neg h]
theorem encM_decM (n : Nat) (X : List UInt8) (hX : X.length = 16) : encM n (decM n X) = X := by
  unfold decM encM
  by_cases h : n < 10
  · rw [if_pos h, if_pos h, mix_in X hX]
  · rw [if_neg h, if_neg h]
theorem encM_len (n : Nat) (Y : List UInt8) (h : Y.length = 16) : (encM n Y).length = 16 := by unfold encM; split; exact mixV_len _ _; exact h

theorem addV_addV (X W : List UInt8) (r : Nat) (hX : X.length = 16) : addV (addV X W r) W r = X := by
  apply List.ext_getElem?
  intro i
  by_cases hi : i < 16
  · rw [show (addV (addV X W r) W r)[i]? = some ((addV X W r).getD i 0 ^^^ W.getD (16 * r + i) 0) from range_get _ 16 i hi, getD_some (by omega : i < X.length)]
    rw [List.getD_eq_getElem?_getD (l := addV X W r), show (addV X W r)[i]? = some (X.getD i 0 ^^^ W.getD (16 * r + i) 0) from range_get _ 16 i hi]
    simp only [Option.getD_some]
    rw [UInt8.xor_assoc, UInt8.xor_self, UInt8.xor_zero]
  · rw [List.getElem?_eq_none (by rw [addV_len]; omega), List.getElem?_eq_none (by omega)]
theorem turn_turn (b : Bool) (X : List UInt8) (hX : X.length = 16) : turnV b (turnV (!b) X) = X := by
  apply List.ext_getElem?
  intro i
  by_cases hi : i < 16
  · have hj : turnI b i < 16 := by unfold turnI; omega
    rw [show (turnV b (turnV (!b) X))[i]? = some ((turnV (!b) X).getD (turnI b i) 0) from range_get _ 16 i hi, getD_some (by omega : i < X.length)]
    rw [List.getD_eq_getElem?_getD (l := turnV (!b) X), show (turnV (!b) X)[turnI b i]? = some (X.getD (turnI (!b) (turnI b i)) 0) from range_get _ 16 _ hj]
    simp only [Option.getD_some]
    have h : ∀ i, i < 16 → turnI (!b) (turnI b i) = i := by cases b <;> decide
    rw [h i hi]
  · rw [List.getElem?_eq_none (by rw [turnV_len]; omega), List.getElem?_eq_none (by omega)]
set_option maxRecDepth 100000 in
theorem back_box (b : UInt8) : bxf backT (bxf boxT b) = b := by
  have h : ∀ n, n < 256 → bxf backT (bxf boxT (UInt8.ofNat n)) = UInt8.ofNat n := by decide +kernel
  have := h b.toNat b.toNat_lt
  rwa [UInt8.ofNat_toNat] at this
set_option maxRecDepth 100000 in
theorem box_back (b : UInt8) : bxf boxT (bxf backT b) = b := by
  have h : ∀ n, n < 256 → bxf boxT (bxf backT (UInt8.ofNat n)) = UInt8.ofNat n := by decide +kernel
  have := h b.toNat b.toNat_lt
  rwa [UInt8.ofNat_toNat] at this
theorem map_inv (f g : UInt8 → UInt8) (h : ∀ b, g (f b) = b) (X : List UInt8) : (X.map f).map g = X := by
  induction X with
  | nil => rfl
  | cons x X ih => rw [List.map_cons, List.map_cons, ih, h]
theorem map_back (X : List UInt8) : (X.map (bxf boxT)).map (bxf backT) = X := map_inv _ _ back_box X
theorem map_box (X : List UInt8) : (X.map (bxf backT)).map (bxf boxT) = X := map_inv _ _ box_back X
theorem dec_enc (K X : List UInt8) (hX : X.length = 16) : decV K (encV K X) = X := by
  unfold decV encV
  generalize exL K 40 = W
  have h : ∀ n, n ≤ 10 → decR W backT (encR W boxT X 10) n = encR W boxT X (10 - n) := by
    intro n
    induction n with
    | zero => intro _; rfl
    | succ n ih =>
      intro hn
      obtain ⟨m, hm⟩ : ∃ m, 10 - n = m + 1 := ⟨9 - n, by omega⟩
      rw [decR, ih (by omega), show 10 - (n + 1) = m from by omega, hm, encR, addV_addV _ _ _ (encM_len _ _ (turnV_len _ _)), decM_encM _ _ (turnV_len _ _), show turnV true (turnV false ((encR W boxT X m).map (bxf boxT))) = _ from turn_turn true _ (by rw [List.length_map, encR_len]), map_back]
  rw [h 10 (by omega)]
  exact addV_addV _ _ _ hX
theorem enc_dec (K X : List UInt8) (hX : X.length = 16) : encV K (decV K X) = X := by
  unfold decV encV
  generalize exL K 40 = W
  have h : ∀ n, n ≤ 10 → encR W boxT (addV (decR W backT X 10) W 0) n = decR W backT X (10 - n) := by
    intro n
    induction n with
    | zero => intro _; exact addV_addV _ _ _ (decR_len _ _ _ hX _)
    | succ n ih =>
      intro hn
      obtain ⟨m, hm⟩ : ∃ m, 10 - n = m + 1 := ⟨9 - n, by omega⟩
      rw [encR, ih (by omega), show 10 - (n + 1) = m from by omega, hm, decR, show 10 - m = n + 1 from by omega, map_box, show turnV false (turnV true (decM (n + 1) (addV (decR W backT X m) W (n + 1)))) = _ from turn_turn false _ (decM_len _ _ (addV_len _ _ _)),
        encM_decM _ _ (addV_len _ _ _), addV_addV _ _ _ (decR_len _ _ _ hX _)]
  rw [h 10 (by omega)]
  rfl
theorem decV_len (K X : List UInt8) : (decV K X).length = 16 := addV_len _ _ _
end Go.Proofs.Ytkbidgonjnlkmaa

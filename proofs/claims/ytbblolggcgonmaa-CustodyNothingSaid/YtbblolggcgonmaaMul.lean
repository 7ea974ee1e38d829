/-
  The contracts of aes.Mul, custody.Over; the reference's Mul, One, Over. No condition. Own work.
-/
import Derived.Test.YtbblolggcgonmaaPoly
import Derived.Test.YtbblolggcgonmaaBytes
namespace Go.Proofs.Ytbblolggcgonmaa
open Go.RowKit

theorem and1_u8 (b : Nat) (h : b < 256) : bits .and .u8 (b : Int) 1 = ((b % 2 : Nat) : Int) := by
  have := u8_and_nat b 1 h (by omega)
  rw [show ((1 : Nat) : Int) = 1 from rfl] at this
  rw [this, Nat.and_one_is_mod]

set_option maxHeartbeats 800000 in
theorem mul_nat (x y : Nat) (hx : x < 256) (hy : y < 256) (w : World) :
    Calls Try.prog 34 #[.int .u8 (x : Int), .int .u8 (y : Int)] w fun e w' => e = .returned (.int .u8 ((gmN x y : Nat) : Int)) ∧ w = w' := by
  obtain ⟨R, hR⟩ : ∃ R, R = gmN x y := ⟨_, rfl⟩
  have h0 : gmGo 8 x y 0 = R := hR.symm
  rw [← hR]
  clear hR
  go_enter Try.func34, Try.ntmps34
  go_wp2_with fail
  go_loop [0, 1, 5, 7] (fun a b n c => ∃ k av bv nv : Nat, k ≤ 8 ∧ c = .int .i64 (8 - (k : Int)) ∧ a = .int .u8 (av : Int) ∧ b = .int .u8 (bv : Int) ∧ n = .int .u8 (nv : Int) ∧ av < 256 ∧ bv < 256 ∧ nv < 256 ∧ gmGo k av bv nv = R) (fun _ _ _ c => (8 - intOf c).toNat)
  case atStart => exact ⟨8, x, y, 0, Nat.le_refl _, rfl, rfl, rfl, rfl, hx, hy, by omega, h0⟩
  case round =>
    clear h0 hx hy
    obtain ⟨k, av, bw, nv, hk, rfl, rfl, rfl, rfl, ha, hb, hn, hg⟩ := hrel
    by_cases hk0 : k = 0
    · subst hk0
      have HG := Lib.hid hg
      clear hg
      go_wp2_with fail
      go_ret
      exact ⟨by rw [← HG.out]; rfl, rfl⟩
    · obtain ⟨k, rfl⟩ : ∃ j, k = j + 1 := ⟨k - 1, by omega⟩
      have h1 := and1_u8 bw hb
      have h2 := u8_xor_nat nv av hn ha
      have hxl := xtN_lt ha
      have hnl := xor_lt hn ha
      have h4 : av / 128 * 27 < 256 := by omega
      have h3 : bits .xor .u8 ((av : Int) * 2 % 256) ((av : Int) / 128 * 27) = ((xtN av : Nat) : Int) := by
        have e := u8_xor_nat (2 * av % 256) (av / 128 * 27) (Nat.mod_lt _ (by omega)) h4
        rw [show (((2 * av % 256 : Nat) : Nat) : Int) = (av : Int) * 2 % 256 from by omega, show (((av / 128 * 27 : Nat) : Nat) : Int) = (av : Int) / 128 * 27 from by omega] at e
        exact e
      rw [gmGo] at hg
      by_cases hb1 : bw % 2 = 1
      · rw [if_pos hb1] at hg
        rw [hb1] at h1
        have HG := Lib.hid hg
        have H2 := Lib.hid h2
        have H3 := Lib.hid h3
        clear hg h2 h3
        go_wp2_with fail
        exact ⟨⟨k, xtN av, bw / 2, nv ^^^ av, by omega, by go_num, by rw [H3.out], by go_num, by rw [H2.out], hxl, by omega, hnl, HG.out⟩, by simp [intOf]; omega⟩
      · rw [if_neg hb1] at hg
        have hb0 : bw % 2 = 0 := by omega
        rw [hb0] at h1
        have HG := Lib.hid hg
        have H3 := Lib.hid h3
        clear hg h2 h3
        go_wp2_with fail
        exact ⟨⟨k, xtN av, bw / 2, nv, by omega, by go_num, by rw [H3.out], by go_num, rfl, hxl, by omega, hn, HG.out⟩, by simp [intOf]; omega⟩

theorem mul_any (x y : UInt8) (w : World) :
    Calls Try.prog 34 #[bv x, bv y] w fun e w' => e = .returned (bv (gm x y)) ∧ w = w' := by
  have h := mul_nat x.toNat y.toNat x.toNat_lt y.toNat_lt w
  rw [← gm_nat] at h
  exact h

set_option maxHeartbeats 800000 in
set_option maxRecDepth 20000 in
theorem over_nat (xn : Nat) (hxl : xn < 256) (w : World) :
    Calls Try.prog 28 #[.int .u8 (xn : Int)] w fun e w' => e = .returned (.int .u8 ((ovN xn : Nat) : Int)) ∧ w = w' := by
  obtain ⟨R, hR⟩ : ∃ R, R = ovN xn := ⟨_, rfl⟩
  have h0 : gpGo 254 1 xn = R := hR.symm
  rw [← hR]
  clear hR
  go_enter Try.func28, Try.ntmps28
  go_wp2_with fail
  go_loop [3, 4] (fun n c => ∃ i k nv : Nat, i + k = 254 ∧ c = .int .i64 (i : Int) ∧ n = .int .u8 (nv : Int) ∧ nv < 256 ∧ gpGo k nv xn = R) (fun _ c => (254 - intOf c).toNat)
  case atStart => exact ⟨0, 254, 1, rfl, rfl, rfl, by omega, h0⟩
  case round =>
    clear h0
    obtain ⟨i, k, nv, hk, rfl, rfl, hn, hg⟩ := hrel
    by_cases hk0 : k = 0
    · subst hk0
      have hi : i = 254 := by omega
      subst hi
      have HG := Lib.hid hg
      clear hg
      go_wp2_with fail
      go_ret
      exact ⟨by rw [← HG.out]; rfl, rfl⟩
    · obtain ⟨k, rfl⟩ : ∃ j, k = j + 1 := ⟨k - 1, by omega⟩
      have hi : i < 254 := by omega
      rw [gpGo] at hg
      have hm := fun w => mul_nat nv xn hn hxl w
      have hml : gmN nv xn < 256 := gmN_lt hn
      generalize gmN nv xn = m at *
      have HM := Lib.hid hm
      have HG := Lib.hid hg
      have HK := Lib.hid hk
      clear hm hg hk
      go_wp2_with (go_at_call 34; refine (HM.out _).mono ?_; rintro e w' ⟨rfl, rfl⟩)
      have hk := HK.out
      exact ⟨⟨i + 1, k, m, by omega, by go_num, rfl, hml, HG.out⟩, by simp [intOf]; omega⟩

theorem over_any (x : UInt8) (w : World) :
    Calls Try.prog 28 #[bv x] w fun e w' => e = .returned (bv (ov x)) ∧ w = w' := by
  have h := over_nat x.toNat x.toNat_lt w
  rw [← ov_nat] at h
  exact h
end Go.Proofs.Ytbblolggcgonmaa

/-
  The contracts of the reference's power, bit, Sub (chapter 05). No condition. Own work.
-/
import Derived.Test.YtkbidgonjnlkmaaBacks
namespace Go.Proofs.Ytkbidgonjnlkmaa
open Go.RowKit

theorem power_any (n : Nat) (hn : n ≤ 8) (w : World) : Calls Try.prog 44 #[.int .i64 (n : Int)] w fun e w' => e = .returned (.int .i64 ((2 ^ n : Nat) : Int)) ∧ w = w' := by
  go_enter Try.func44, Try.ntmps44
  go_wp2_with fail
  go_loopw [3, 4] (fun x c wr => ∃ k : Nat, k ≤ n ∧ c = .int .i64 (k : Int) ∧ x = .int .i64 ((2 ^ k : Nat) : Int) ∧ w = wr) (fun _ c _ => n - (intOf c).toNat)
  case atStart => exact ⟨0, by omega, rfl, rfl, rfl⟩
  case round =>
    obtain ⟨k, hk, rfl, rfl, rfl⟩ := hrel
    by_cases hlt : k < n
    · have hki : (k : Int) < (n : Int) := by omega
      have hp : 2 ^ k ≤ 2 ^ 7 := Nat.pow_le_pow_right (by omega) (by omega)
      obtain ⟨p, hpk⟩ : ∃ p, p = 2 ^ k := ⟨_, rfl⟩
      have hp2 : 2 ^ (k + 1) = 2 * p := by rw [hpk, Nat.pow_succ, Nat.mul_comm]
      rw [← hpk] at hp ⊢
      have HP := Lib.hid hp2
      have hpl : p ≤ 128 := by omega
      clear hp hpk hp2
      go_wp2_with fail
      go_roundw
      case rel => exact ⟨k + 1, by omega, by go_num, by rw [HP.out]; go_num, trivial⟩
      case measure => simp [intOf]; omega
    · have hkn : k = n := by omega
      subst hkn
      go_wp2_with fail
      go_ret
      exact ⟨rfl, rfl⟩
theorem bit_any (n i : Nat) (hn : n < 256) (hi : i ≤ 8) (w : World) : Calls Try.prog 43 #[.int .i64 (n : Int), .int .i64 (i : Int)] w fun e w' => e = .returned (.int .i64 ((n / 2 ^ i % 2 : Nat) : Int)) ∧ w = w' := by
  have HP := Lib.hid fun w => power_any i hi w
  obtain ⟨p, hp⟩ : ∃ p, p = 2 ^ i := ⟨_, rfl⟩
  have hp0 : 0 < p := by rw [hp]; exact Nat.pow_pos (by omega)
  rw [← hp] at HP ⊢
  clear hp
  obtain ⟨q, hq⟩ : ∃ q, q = n / p := ⟨_, rfl⟩
  have hql : q ≤ n := by rw [hq]; exact Nat.div_le_self _ _
  have e1 : (n : Int).tdiv (p : Int) = (q : Int) := by rw [Int.tdiv_eq_ediv_of_nonneg (by omega), hq]; rfl
  have e2 : (q : Int).tmod 2 = ((q % 2 : Nat) : Int) := by rw [Int.tmod_eq_emod_of_nonneg (by omega)]; rfl
  have hpne : ¬ (p : Int) = 0 := by omega
  rw [← hq]
  clear hq
  go_enter Try.func43, Try.ntmps43
  go_wp2_with (go_at_call 44; (with_reducible refine (HP.out _).mono ?_); rintro e w1 ⟨rfl, rfl⟩)
  go_ret
  refine ⟨?_, rfl⟩
  rfl
def sbX (b i : Nat) : Nat → Nat
  | 0 => 99 / 2 ^ i % 2 + b / 2 ^ i % 2
  | k + 1 => sbX b i k + b / 2 ^ ((i + (4 + k)) % 8) % 2
def sbN (b : Nat) : Nat → Nat
  | 0 => 0
  | i + 1 => sbN b i + sbX b i 4 % 2 * 2 ^ i
theorem sbX_le (b i k : Nat) : sbX b i k ≤ 2 + k := by
  induction k with
  | zero => rw [sbX]; omega
  | succ k ih => rw [sbX]; have := Nat.mod_lt (b / 2 ^ ((i + (4 + k)) % 8)) (by omega : 2 > 0); omega
theorem sbN_lt (b i : Nat) : sbN b i < 2 ^ i := by
  induction i with
  | zero => exact Nat.one_pos
  | succ i ih =>
    rw [sbN, Nat.pow_succ]
    have h : sbX b i 4 % 2 * 2 ^ i ≤ 1 * 2 ^ i := Nat.mul_le_mul_right _ (by have := Nat.mod_lt (sbX b i 4) (by omega : 2 > 0); omega)
    omega
def affI (y : UInt8) : UInt8 := rotl y 1 ^^^ rotl y 3 ^^^ rotl y 6 ^^^ 5
set_option maxRecDepth 100000 in
theorem sbN_check : ∀ n, n < 256 → n = 0 ∨ (gmN n (affI (bxf boxT (UInt8.ofNat n))).toNat = 1 ∧ sbN (affI (bxf boxT (UInt8.ofNat n))).toNat 8 = (bxf boxT (UInt8.ofNat n)).toNat) := by decide +kernel
set_option maxRecDepth 100000 in
theorem sbN_zero : sbN (ovN 0) 8 = (bxf boxT 0).toNat := by decide +kernel
theorem sbN_all (a : UInt8) : sbN (ovN a.toNat) 8 = (bxf boxT a).toNat := by
  have h := sbN_check a.toNat a.toNat_lt
  rw [UInt8.ofNat_toNat] at h
  rcases h with h | ⟨h1, h2⟩
  · have : a = 0 := UInt8.toNat_inj.mp h
    subst this
    exact sbN_zero
  · rw [← ov_one a.toNat_lt (UInt8.toNat_lt _) h1]
    exact h2

set_option maxHeartbeats 3200000 in
theorem rsub_nat (a : Nat) (ha : a < 256) (w : World) : Calls Try.prog 19 #[.int .i64 (a : Int)] w fun e w' => e = .returned (.int .i64 ((sbN (ovN a) 8 : Nat) : Int)) ∧ w = w' := by
  have HO := Lib.hid fun w => one_any a ha w
  have hbl := ovN_all a ha
  obtain ⟨b, hb⟩ : ∃ b, b = ovN a := ⟨_, rfl⟩
  rw [← hb] at HO ⊢
  have hbl : b < 256 := by rw [hb]; exact hbl.1
  clear hb
  obtain ⟨R, hR⟩ : ∃ R, R = sbN b 8 := ⟨_, rfl⟩
  rw [← hR]
  have HR := Lib.hid hR
  clear hR
  go_enter Try.func19, Try.ntmps19
  go_wp2_with (go_at_call 42; (with_reducible refine (HO.out _).mono ?_); rintro e w1 ⟨rfl, rfl⟩)
  go_loopw [4, 5] (fun x c wr => ∃ i : Nat, i ≤ 8 ∧ c = .int .i64 (i : Int) ∧ x = .int .i64 ((sbN b i : Nat) : Int) ∧ w = wr) (fun _ c _ => 8 - (intOf c).toNat)
  case atStart => exact ⟨0, by omega, rfl, rfl, rfl⟩
  case round =>
    obtain ⟨i, hi, rfl, rfl, rfl⟩ := hrel
    by_cases hlt : i < 8
    · have hii : (i : Int) < 8 := by omega
      have HB1 := Lib.hid fun w => bit_any 99 i (by omega) (by omega) w
      have HB2 := Lib.hid fun w => bit_any b i hbl (by omega) w
      have HPW := Lib.hid fun w => power_any i (by omega) w
      have hX0 : sbX b i 0 = 99 / 2 ^ i % 2 + b / 2 ^ i % 2 := rfl
      obtain ⟨u, hu⟩ : ∃ u, u = 99 / 2 ^ i % 2 := ⟨_, rfl⟩
      obtain ⟨v, hv⟩ : ∃ v, v = b / 2 ^ i % 2 := ⟨_, rfl⟩
      have hul : u < 2 := by rw [hu]; exact Nat.mod_lt _ (by omega)
      have hvl : v < 2 := by rw [hv]; exact Nat.mod_lt _ (by omega)
      rw [← hu] at HB1 hX0
      rw [← hv] at HB2 hX0
      have HB1 : Hid (∀ w, Calls Try.prog 43 #[.int .i64 99, .int .i64 (i : Int)] w fun e w' => e = .returned (.int .i64 (u : Int)) ∧ w = w') := HB1
      have hs1 := sbN_lt b i
      have hpw : 2 ^ i ≤ 2 ^ 7 := Nat.pow_le_pow_right (by omega) (by omega)
      have hS : sbN b (i + 1) = sbN b i + sbX b i 4 % 2 * 2 ^ i := rfl
      obtain ⟨p, hp⟩ : ∃ p, p = 2 ^ i := ⟨_, rfl⟩
      rw [← hp] at hs1 hpw HPW hS
      obtain ⟨sn, hsn⟩ : ∃ s, s = sbN b i := ⟨_, rfl⟩
      rw [← hsn] at hs1 hS ⊢
      have hpl : p ≤ 128 := by omega
      have HX0 := Lib.hid hX0
      have HS := Lib.hid hS
      clear hu hv hp hsn hpw hX0 hS
      go_wp2_with (go_at_call 43; first
        | ((with_reducible refine (HB1.out _).mono ?_); rintro e w1 ⟨rfl, rfl⟩)
        | ((with_reducible refine (HB2.out _).mono ?_); rintro e w1 ⟨rfl, rfl⟩))
      go_loopw [6, 7] (fun x c wr => ∃ k : Nat, k ≤ 4 ∧ c = .int .i64 ((k : Int) + 4) ∧ x = .int .i64 ((sbX b i k : Nat) : Int) ∧ w = wr) (fun _ c _ => 8 - (intOf c).toNat)
      case atStart => exact ⟨0, by omega, rfl, by rw [HX0.out]; rfl, rfl⟩
      case round =>
        obtain ⟨k, hk, rfl, rfl, rfl⟩ := hrel
        by_cases hk4 : k < 4
        · have hki : (k : Int) + 4 < 8 := by omega
          obtain ⟨q, hq⟩ : ∃ q, q = (i + (4 + k)) % 8 := ⟨_, rfl⟩
          have e1 : ((i : Int) + ((k : Int) + 4)).tmod 8 = (q : Int) := by rw [Int.tmod_eq_emod_of_nonneg (by omega), hq]; omega
          have e2 : ((i : Int) + ((k : Int) + 4)) % 8 = (q : Int) := by rw [hq]; omega
          have HB3 := Lib.hid fun w => bit_any b q hbl (by omega) w
          have hX : sbX b i (k + 1) = sbX b i k + b / 2 ^ q % 2 := by rw [hq]; rfl
          obtain ⟨t, ht⟩ : ∃ t, t = b / 2 ^ q % 2 := ⟨_, rfl⟩
          have htl : t < 2 := by rw [ht]; exact Nat.mod_lt _ (by omega)
          have hxl := sbX_le b i k
          obtain ⟨x, hx⟩ : ∃ x, x = sbX b i k := ⟨_, rfl⟩
          rw [← ht] at HB3 hX
          rw [← hx] at hX hxl ⊢
          have HX := Lib.hid hX
          clear hq ht hx hX
          go_wp2_with (go_at_call 43; (with_reducible refine (HB3.out _).mono ?_); rintro e w1 ⟨rfl, rfl⟩)
          go_roundw
          case rel => exact ⟨k + 1, by omega, by go_num, by rw [HX.out]; go_num, trivial⟩
          case measure => simp [intOf]; omega
        · have hk' : k = 4 := by omega
          subst hk'
          have hxl := sbX_le b i 4
          obtain ⟨x, hx⟩ : ∃ x, x = sbX b i 4 := ⟨_, rfl⟩
          have hS := HS.out
          rw [← hx] at hxl hS ⊢
          obtain ⟨z, hz⟩ : ∃ z, z = x % 2 := ⟨_, rfl⟩
          have hzl : z < 2 := by omega
          have e1 : (x : Int).tmod 2 = (z : Int) := by rw [Int.tmod_eq_emod_of_nonneg (by omega), hz]; omega
          have e2 : (x : Int) % 2 = (z : Int) := by omega
          obtain ⟨y, hy⟩ : ∃ y, y = z * p := ⟨_, rfl⟩
          have hyl : y ≤ 128 := by
            rw [hy]
            have : z * p ≤ 1 * p := Nat.mul_le_mul_right _ (by omega)
            omega
          have e3 : (z : Int) * (p : Int) = (y : Int) := by rw [hy]; simp
          rw [← hz, ← hy] at hS
          have HS2 := Lib.hid hS
          clear hx hz hy hS HS HX0
          go_wp2_with (go_at_call 44; (with_reducible refine (HPW.out _).mono ?_); rintro e w1 ⟨rfl, rfl⟩)
          go_roundw
          case rel => exact ⟨i + 1, by omega, by go_num, by rw [HS2.out]; go_num, trivial⟩
          case measure => simp [intOf]; omega
    · have hi8 : i = 8 := by omega
      subst hi8
      rw [← HR.out]
      go_wp2_with fail
      go_ret
      exact ⟨rfl, rfl⟩
end Go.Proofs.Ytkbidgonjnlkmaa

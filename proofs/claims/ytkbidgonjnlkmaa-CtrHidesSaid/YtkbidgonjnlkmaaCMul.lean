/-
  The contracts of aes.Mul and of the reference's Mul and One (chapter 5). No condition. Own work.
-/
import Derived.Test.YtkbidgonjnlkmaaField
import Derived.Test.YtkbidgonjnlkmaaBytes
namespace Go.Proofs.Ytkbidgonjnlkmaa
open Go.RowKit

theorem and1_u8 (b : Nat) (h : b < 256) : bits .and .u8 (b : Int) 1 = ((b % 2 : Nat) : Int) := by
  have := u8_and_nat b 1 h (by omega)
  rw [show ((1 : Nat) : Int) = 1 from rfl] at this
  rw [this, Nat.and_one_is_mod]

set_option maxHeartbeats 800000 in
theorem mul_nat (x y : Nat) (hx : x < 256) (hy : y < 256) (w : World) :
    Calls Try.prog 16 #[.int .u8 (x : Int), .int .u8 (y : Int)] w fun e w' => e = .returned (.int .u8 ((gmN x y : Nat) : Int)) ∧ w = w' := by
  obtain ⟨R, hR⟩ : ∃ R, R = gmN x y := ⟨_, rfl⟩
  have h0 : gmGo 8 x y 0 = R := hR.symm
  rw [← hR]
  clear hR
  go_enter Try.func16, Try.ntmps16
  go_wp2_with fail
  go_loop [0, 1, 5, 7] (fun a b n c => ∃ k av bv nv : Nat, k ≤ 8 ∧ c = .int .i64 (8 - (k : Int)) ∧ a = .int .u8 (av : Int) ∧ b = .int .u8 (bv : Int) ∧ n = .int .u8 (nv : Int) ∧ av < 256 ∧ bv < 256 ∧ nv < 256 ∧ gmGo k av bv nv = R) (fun _ _ _ c => (8 - intOf c).toNat)
  case atStart => exact ⟨8, x, y, 0, Nat.le_refl _, rfl, rfl, rfl, rfl, hx, hy, by omega, h0⟩
  case round =>
    clear h0 hx hy
    obtain ⟨k, av, bw, nv, hk, rfl, rfl, rfl, rfl, ha, hb, hn, hg⟩ := hrel
    by_cases hk0 : k = 0
    · subst hk0
      have HG := Lib.hid hg
      clear hg
      go_wp2_with fail
      go_ret
      exact ⟨by rw [← HG.out]; rfl, rfl⟩
    · obtain ⟨k, rfl⟩ : ∃ j, k = j + 1 := ⟨k - 1, by omega⟩
      have h1 := and1_u8 bw hb
      have h2 := u8_xor_nat nv av hn ha
      have hxl := xtN_lt ha
      have hnl := xor_lt hn ha
      have h4 : av / 128 * 27 < 256 := by omega
      have h3 : bits .xor .u8 ((av : Int) * 2 % 256) ((av : Int) / 128 * 27) = ((xtN av : Nat) : Int) := by
        have e := u8_xor_nat (2 * av % 256) (av / 128 * 27) (Nat.mod_lt _ (by omega)) h4
        rw [show (((2 * av % 256 : Nat) : Nat) : Int) = (av : Int) * 2 % 256 from by omega, show (((av / 128 * 27 : Nat) : Nat) : Int) = (av : Int) / 128 * 27 from by omega] at e
        exact e
      rw [gmGo] at hg
      by_cases hb1 : bw % 2 = 1
      · rw [if_pos hb1] at hg
        rw [hb1] at h1
        have HG := Lib.hid hg
        have H2 := Lib.hid h2
        have H3 := Lib.hid h3
        clear hg h2 h3
        go_wp2_with fail
        exact ⟨⟨k, xtN av, bw / 2, nv ^^^ av, by omega, by go_num, by rw [H3.out], by go_num, by rw [H2.out], hxl, by omega, hnl, HG.out⟩, by simp [intOf]; omega⟩
      · rw [if_neg hb1] at hg
        have hb0 : bw % 2 = 0 := by omega
        rw [hb0] at h1
        have HG := Lib.hid hg
        have H3 := Lib.hid h3
        clear hg h2 h3
        go_wp2_with fail
        exact ⟨⟨k, xtN av, bw / 2, nv, by omega, by go_num, by rw [H3.out], by go_num, rfl, hxl, by omega, hn, HG.out⟩, by simp [intOf]; omega⟩

theorem mul_any (x y : UInt8) (w : World) :
    Calls Try.prog 16 #[bv x, bv y] w fun e w' => e = .returned (bv (gm x y)) ∧ w = w' := by
  have h := mul_nat x.toNat y.toNat x.toNat_lt y.toNat_lt w
  rw [← gm_nat] at h
  exact h

def cpN (a b : Nat) : Nat → Nat
  | 0 => 0
  | i + 1 => if b / 2 ^ i % 2 = 1 then cpN a b i ^^^ (a * 2 ^ i) else cpN a b i
def rdN : Nat → Nat → Nat
  | 0, n => n
  | k + 1, n => rdN k (if n / 2 ^ (8 + k) % 2 = 1 then n ^^^ (283 * 2 ^ k) else n)

theorem xor_div (a b i : Nat) : (a ^^^ b) / 2 ^ i = a / 2 ^ i ^^^ b / 2 ^ i := by
  have := Nat.shiftRight_xor_distrib (a := a) (b := b) (i := i)
  simpa [Nat.shiftRight_eq_div_pow] using this
theorem xor_mulp (a b i : Nat) : (a ^^^ b) * 2 ^ i = a * 2 ^ i ^^^ b * 2 ^ i := by
  have := Nat.shiftLeft_xor_distrib (a := a) (b := b) (i := i)
  simpa [Nat.shiftLeft_eq] using this
theorem x3N (a b c : Nat) : a ^^^ b ^^^ (a ^^^ c) = b ^^^ c := by
  have : a ^^^ b ^^^ (a ^^^ c) = (a ^^^ a) ^^^ (b ^^^ c) := by ac_rfl
  simp [this]
theorem x4N (a b c : Nat) : a ^^^ c ^^^ (b ^^^ c) = a ^^^ b := by
  have : a ^^^ c ^^^ (b ^^^ c) = (c ^^^ c) ^^^ (a ^^^ b) := by ac_rfl
  simp [this]

theorem cpN_left (a c b i : Nat) : cpN (a ^^^ c) b i = cpN a b i ^^^ cpN c b i := by
  induction i with
  | zero => simp [cpN]
  | succ i ih =>
    simp only [cpN, ih, xor_mulp]
    split
    · ac_rfl
    · rfl
theorem cpN_right (a b c i : Nat) : cpN a (b ^^^ c) i = cpN a b i ^^^ cpN a c i := by
  induction i with
  | zero => simp [cpN]
  | succ i ih =>
    simp only [cpN, ih, xor_div, xor_mod2]
    rcases Nat.mod_two_eq_zero_or_one (b / 2 ^ i) with h | h <;> rcases Nat.mod_two_eq_zero_or_one (c / 2 ^ i) with h' | h' <;> simp only [h, h'] <;> simp
    · ac_rfl
    · ac_rfl
    · exact (x4N _ _ _).symm
theorem rdN_xor (k n m : Nat) : rdN k (n ^^^ m) = rdN k n ^^^ rdN k m := by
  induction k generalizing n m with
  | zero => rfl
  | succ k ih =>
    simp only [rdN, xor_div, xor_mod2]
    rcases Nat.mod_two_eq_zero_or_one (n / 2 ^ (8 + k)) with h | h <;> rcases Nat.mod_two_eq_zero_or_one (m / 2 ^ (8 + k)) with h' | h' <;> simp only [h, h'] <;> simp
    · exact ih _ _
    · rw [← ih]; congr 1; ac_rfl
    · rw [← ih]; congr 1; ac_rfl
    · rw [← ih, x4N]

theorem cpN_zero_left (b i : Nat) : cpN 0 b i = 0 := by
  have := cpN_left 0 0 b i
  simpa using this
theorem cpN_zero_right (a i : Nat) : cpN a 0 i = 0 := by
  have := cpN_right a 0 0 i
  simpa using this
theorem rdN_zero (k : Nat) : rdN k 0 = 0 := by
  have := rdN_xor k 0 0
  simpa using this

theorem rm_eq {a b : Nat} (ha : a < 256) (hb : b < 256) : rdN 8 (cpN a b 8) = gmN a b := by
  rw [gmN_eq]
  have key : ∀ b, b < 256 → ∀ a, a < 256 → rdN 8 (cpN a b 8) = glN 8 a b := by
    apply all_bytes (P := fun b => ∀ a, a < 256 → rdN 8 (cpN a b 8) = glN 8 a b)
    · intro a _; rw [cpN_zero_right, rdN_zero, glN_zero_right]
    · intro i hi
      apply all_bytes (P := fun a => rdN 8 (cpN a (2 ^ i) 8) = glN 8 a (2 ^ i))
      · rw [cpN_zero_left, rdN_zero, glN_zero_left]
      · revert i
        decide +kernel
      · intro x y hx hy h1 h2
        rw [cpN_left, rdN_xor, glN_left hx hy, h1, h2]
    · intro x y _ _ h1 h2 a ha
      rw [cpN_right, rdN_xor, glN_right, h1 a ha, h2 a ha]
  exact key b hb a ha

theorem cpN_lt {a b : Nat} (ha : a < 256) (i : Nat) (hi : i ≤ 8) : cpN a b i < 32768 := by
  induction i with
  | zero => simp [cpN]
  | succ i ih =>
    have h1 := ih (by omega)
    have h2 : a * 2 ^ i < 32768 := by
      have : 2 ^ i ≤ 2 ^ 7 := Nat.pow_le_pow_right (n := 2) (by omega) (by omega)
      have : a * 2 ^ i ≤ 255 * 2 ^ 7 := Nat.mul_le_mul (by omega) this
      omega
    simp only [cpN]
    split
    · exact Nat.xor_lt_two_pow (n := 15) h1 h2
    · exact h1

theorem i64_xor_nat (a b : Nat) (ha : a < 4611686018427387904) (hb : b < 4611686018427387904) : bits .xor .i64 (a : Int) (b : Int) = ((a ^^^ b : Nat) : Int) := by
  have hx : a ^^^ b < 4611686018427387904 := Nat.xor_lt_two_pow (n := 62) ha hb
  have h1 : (BitVec.ofInt 64 (a : Int) ^^^ BitVec.ofInt 64 (b : Int)).toNat = a ^^^ b := by
    rw [BitVec.toNat_xor, BitVec.toNat_ofInt, BitVec.toNat_ofInt]
    have e2 : ((2 ^ 64 : Nat) : Int) = 18446744073709551616 := rfl
    rw [e2]
    rw [show ((a : Int) % 18446744073709551616).toNat = a from by omega, show ((b : Int) % 18446744073709551616).toNat = b from by omega]
  show IntKind.i64.wrap ((BitVec.ofInt 64 (a : Int) ^^^ BitVec.ofInt 64 (b : Int)).toNat : Int) = _
  rw [h1, IntKind.wrap_i64]
  omega
theorem shr_bit (b i : Nat) : ((b : Int) / 2 ^ i).tmod 2 = ((b / 2 ^ i % 2 : Nat) : Int) := by
  have e : (b : Int) / 2 ^ i = ((b / 2 ^ i : Nat) : Int) := by simp
  rw [e]
  rfl
theorem shl_cast (a i : Nat) (h : a * 2 ^ i < 4611686018427387904) : wrap64 ((a : Int) * 2 ^ i) = ((a * 2 ^ i : Nat) : Int) := by
  have e : (a : Int) * 2 ^ i = ((a * 2 ^ i : Nat) : Int) := by simp
  rw [e]
  generalize a * 2 ^ i = n at *
  unfold wrap64
  omega

set_option maxHeartbeats 1600000 in
theorem rmul_any (a b : Nat) (ha : a < 256) (hb : b < 256) (w : World) :
    Calls Try.prog 17 #[.int .i64 (a : Int), .int .i64 (b : Int)] w fun e w' => e = .returned (.int .i64 ((gmN a b : Nat) : Int)) ∧ w = w' := by
  obtain ⟨R, hR⟩ : ∃ R, R = gmN a b := ⟨_, rfl⟩
  rw [← hR]
  rw [← rm_eq ha hb] at hR
  have HR := Lib.hid hR
  clear hR
  go_enter Try.func17, Try.ntmps17
  go_wp2_with fail
  go_loop [5, 6] (fun n c => ∃ i : Nat, i ≤ 8 ∧ c = .int .i64 (i : Int) ∧ n = .int .i64 ((cpN a b i : Nat) : Int)) (fun _ c => (8 - intOf c).toNat)
  case atStart => exact ⟨0, by omega, rfl, rfl⟩
  case round =>
    obtain ⟨i, hi, rfl, rfl⟩ := hrel
    have hcl := cpN_lt (b := b) ha i hi
    by_cases h8 : i < 8
    · have h2 : a * 2 ^ i < 32768 := by
        have : 2 ^ i ≤ 2 ^ 7 := Nat.pow_le_pow_right (n := 2) (by omega) (by omega)
        have : a * 2 ^ i ≤ 255 * 2 ^ 7 := Nat.mul_le_mul (by omega) this
        omega
      have hq : cpN a b (i + 1) = if b / 2 ^ i % 2 = 1 then cpN a b i ^^^ (a * 2 ^ i) else cpN a b i := rfl
      have hsb := shr_bit b i
      have hsl := shl_cast a i (Nat.lt_trans h2 (by decide))
      have hxo := i64_xor_nat (cpN a b i) (a * 2 ^ i) (Nat.lt_trans hcl (by decide)) (Nat.lt_trans h2 (by decide))
      by_cases hb1 : b / 2 ^ i % 2 = 1
      · rw [if_pos hb1] at hq
        rw [hb1] at hsb
        rw [← hq, ← hsl] at hxo
        have HX := Lib.hid hxo
        clear hxo hq hsl h2
        go_wp2_with fail
        exact ⟨⟨i + 1, by omega, by go_num, by rw [HX.out]⟩, by simp [intOf]; omega⟩
      · rw [if_neg hb1] at hq
        rw [show b / 2 ^ i % 2 = 0 from by omega] at hsb
        have HQ := Lib.hid hq
        clear hxo hq hsl h2
        go_wp2_with fail
        exact ⟨⟨i + 1, by omega, by go_num, by rw [HQ.out]⟩, by simp [intOf]; omega⟩
    · have : i = 8 := by omega
      subst this
      obtain ⟨n0, hn0⟩ : ∃ n, n = cpN a b 8 := ⟨_, rfl⟩
      rw [← hn0] at HR hcl ⊢
      clear hn0 hi h8
      go_wp2_with fail
      go_loop [5, 7] (fun n c => ∃ k nv : Nat, k ≤ 8 ∧ c = .int .i64 ((k : Int) + 7) ∧ n = .int .i64 (nv : Int) ∧ nv < 65536 ∧ rdN k nv = R) (fun _ c => (intOf c).toNat)
      case atStart => exact ⟨8, n0, by omega, rfl, rfl, by omega, HR.out.symm⟩
      case round =>
        clear HR
        obtain ⟨k, nv, hk, rfl, rfl, hn, hg⟩ := hrel
        by_cases hk0 : k = 0
        · subst hk0
          have HG := Lib.hid hg
          clear hg
          go_wp2_with fail
          go_ret
          exact ⟨by rw [← HG.out]; rfl, rfl⟩
        · obtain ⟨k, rfl⟩ : ∃ j, k = j + 1 := ⟨k - 1, by omega⟩
          have hsb := shr_bit nv (8 + k)
          have h2 : 283 * 2 ^ k < 65536 := by
            have : 2 ^ k ≤ 2 ^ 7 := Nat.pow_le_pow_right (n := 2) (by omega) (by omega)
            exact Nat.lt_of_le_of_lt (Nat.mul_le_mul_left 283 this) (by decide)
          have hsl := shl_cast 283 k (Nat.lt_trans h2 (by decide))
          have hxo := i64_xor_nat nv (283 * 2 ^ k) (by omega) (Nat.lt_trans h2 (by decide))
          have hsh : bits .xor .i64 (nv : Int) (wrap64 (283 * 2 ^ k)) = ((nv ^^^ (283 * 2 ^ k) : Nat) : Int) := by rw [← hxo, ← hsl]; rfl
          have hxl : nv ^^^ (283 * 2 ^ k) < 65536 := Nat.xor_lt_two_pow (n := 16) hn h2
          rw [rdN] at hg
          clear h2 hsl hxo
          by_cases hb1 : nv / 2 ^ (8 + k) % 2 = 1
          · rw [if_pos hb1] at hg
            rw [hb1, show 8 + k = k + 1 + 7 from by omega] at hsb
            generalize nv ^^^ (283 * 2 ^ k) = m at *
            have HX := Lib.hid hsh
            have HG := Lib.hid hg
            clear hsh hg
            go_wp2_with fail
            exact ⟨⟨k, m, by omega, by go_num, by rw [HX.out], hxl, HG.out⟩, by simp [intOf]; omega⟩
          · rw [if_neg hb1] at hg
            rw [show nv / 2 ^ (8 + k) % 2 = 0 from by omega, show 8 + k = k + 1 + 7 from by omega] at hsb
            have HG := Lib.hid hg
            clear hsh hg hxl
            go_wp2_with fail
            exact ⟨⟨k, nv, by omega, by go_num, rfl, hn, HG.out⟩, by simp [intOf]; omega⟩

/-- A byte whose product with a is 1 is the one. -/
theorem ov_one {a b : Nat} (ha : a < 256) (hb : b < 256) (h : gmN a b = 1) : b = ovN a := by
  have h1 := ovN_all a ha
  by_cases ha0 : a = 0
  · rw [ha0, gmN_eq, glN_zero_left] at h; omega
  · rw [if_neg ha0] at h1
    have e : gmN (gmN (ovN a) a) b = gmN (gmN (ovN a) a) (ovN a) := by
      rw [← gmN_assoc h1.1 ha hb, ← gmN_assoc h1.1 ha h1.1, h, h1.2]
    rw [gmN_comm h1.1 ha, h1.2] at e
    have o : ∀ b, b < 256 → gmN 1 b = b := by decide +kernel
    rwa [o b hb, o _ h1.1] at e

set_option maxRecDepth 20000 in
set_option maxHeartbeats 800000 in
theorem one_any (a : Nat) (ha : a < 256) (w : World) :
    Calls Try.prog 42 #[.int .i64 (a : Int)] w fun e w' => e = .returned (.int .i64 ((ovN a : Nat) : Int)) ∧ w = w' := by
  have h1 := ovN_all a ha
  obtain ⟨R, hR⟩ : ∃ R, R = ovN a := ⟨_, rfl⟩
  have HO : Hid (∀ b, b < 256 → gmN a b = 1 → b = R) := Lib.hid (fun b hb h => by rw [hR]; exact ov_one ha hb h)
  rw [← hR] at h1 ⊢
  have HZ : Hid (a = 0 → R = 0) := Lib.hid (fun h => by rw [hR, h]; decide +kernel)
  have H1 := Lib.hid h1
  clear hR h1
  go_enter Try.func42, Try.ntmps42
  go_wp2_with fail
  go_loop [3] (fun c => ∃ b : Nat, b ≤ 256 ∧ c = .int .i64 (b : Int) ∧ ∀ j, j < b → gmN a j ≠ 1) (fun c => (256 - intOf c).toNat)
  case atStart => exact ⟨0, by omega, rfl, fun j hj => absurd hj (Nat.not_lt_zero j)⟩
  case round =>
    obtain ⟨b, hb, rfl, hn⟩ := hrel
    have HN := Lib.hid hn
    clear hn
    by_cases hlt : b < 256
    · have hm := fun w => rmul_any a b ha hlt w
      have hml : gmN a b < 256 := gmN_lt ha
      obtain ⟨m, hmm⟩ : ∃ m, m = gmN a b := ⟨_, rfl⟩
      have HMM := Lib.hid hmm
      rw [← hmm] at hm hml
      have HM := Lib.hid hm
      have hli : (b : Int) < 256 := by omega
      clear hm hmm
      by_cases h1 : m = 1
      · subst h1
        have HBR := Lib.hid (HO.out b hlt HMM.out.symm)
        clear hlt hb hml
        go_wp2_with (go_at_call 17; (with_reducible refine (HM.out _).mono ?_); rintro e w' ⟨rfl, rfl⟩)
        go_ret
        exact ⟨by rw [HBR.out]; rfl, rfl⟩
      · have h2 : ((m : Int) == 1) = false := by simp; omega
        clear hlt hb hml
        go_wp2_with (go_at_call 17; (with_reducible refine (HM.out _).mono ?_); rintro e w' ⟨rfl, rfl⟩)
        refine ⟨⟨b + 1, by omega, by go_num, fun j hj => ?_⟩, by simp [intOf]; omega⟩
        by_cases hjb : j = b
        · rw [hjb, ← HMM.out]; exact h1
        · exact HN.out j (by omega)
    · have hb' : b = 256 := by omega
      subst hb'
      go_wp2_with fail
      go_ret
      refine ⟨?_, rfl⟩
      have h3 : a = 0 := by
        by_cases h : a = 0
        · exact h
        · have := H1.out
          rw [if_neg h] at this
          exact absurd this.2 (HN.out R this.1)
      rw [HZ.out h3]; rfl

end Go.Proofs.Ytkbidgonjnlkmaa

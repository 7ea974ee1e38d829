/-
  The 256 bytes as a field: the product by shifts, its laws. No program in sight. No condition. Own work.
-/
import Derived.Test.YtkbidgonjnlkmaaRows
namespace Go.Proofs.Ytkbidgonjnlkmaa

/-- A byte times x. -/
def xtN (a : Nat) : Nat := (2 * a % 256) ^^^ (a / 128 * 27)
/-- The product, as the code goes. -/
def gmGo : Nat → Nat → Nat → Nat → Nat
  | 0, _, _, n => n
  | k + 1, a, b, n => gmGo k (xtN a) (b / 2) (if b % 2 = 1 then n ^^^ a else n)
def gmN (a b : Nat) : Nat := gmGo 8 a b 0
def glN : Nat → Nat → Nat → Nat
  | 0, _, _ => 0
  | k + 1, a, b => (if b % 2 = 1 then a else 0) ^^^ glN k (xtN a) (b / 2)

theorem xor_lt {a b : Nat} (ha : a < 256) (hb : b < 256) : a ^^^ b < 256 := Nat.xor_lt_two_pow (n := 8) ha hb
theorem xtN_lt {a : Nat} (ha : a < 256) : xtN a < 256 := by
  unfold xtN
  exact xor_lt (Nat.mod_lt _ (by omega)) (by have : a / 128 < 2 := by omega
                                             omega)
theorem xtN_xor {a b : Nat} (ha : a < 256) (hb : b < 256) : xtN (a ^^^ b) = xtN a ^^^ xtN b := by
  have h : ∀ a, a < 256 → ∀ b, b < 256 → xtN (a ^^^ b) = xtN a ^^^ xtN b := by decide +kernel
  exact h a ha b hb

theorem gmGo_eq (k a b n : Nat) : gmGo k a b n = n ^^^ glN k a b := by
  induction k generalizing a b n with
  | zero => simp [gmGo, glN]
  | succ k ih =>
    simp only [gmGo, glN, ih]
    by_cases h : b % 2 = 1
    · simp [h, Nat.xor_assoc]
    · simp [h]
theorem gmN_eq (a b : Nat) : gmN a b = glN 8 a b := by simp [gmN, gmGo_eq]

theorem glN_lt {k a b : Nat} (ha : a < 256) : glN k a b < 256 := by
  induction k generalizing a b with
  | zero => simp [glN]
  | succ k ih =>
    simp only [glN]
    refine xor_lt ?_ (ih (xtN_lt ha))
    split <;> omega
theorem glN_left {k a b c : Nat} (ha : a < 256) (hb : b < 256) : glN k (a ^^^ b) c = glN k a c ^^^ glN k b c := by
  induction k generalizing a b c with
  | zero => simp [glN]
  | succ k ih =>
    simp only [glN, xtN_xor ha hb, ih (xtN_lt ha) (xtN_lt hb)]
    by_cases h : c % 2 = 1
    · simp only [h, if_true]
      ac_rfl
    · simp [h]
theorem xor_mod2 (a b : Nat) : (a ^^^ b) % 2 = (a % 2 + b % 2) % 2 := by
  have := Nat.xor_mod_two_pow (a := a) (b := b) (n := 1)
  simp only [Nat.pow_one] at this
  rw [this]
  have h1 : a % 2 < 2 := by omega
  have h2 : b % 2 < 2 := by omega
  revert h1 h2
  generalize a % 2 = x
  generalize b % 2 = y
  intro h1 h2
  match x, y, h1, h2 with
  | 0, 0, _, _ => rfl
  | 0, 1, _, _ => rfl
  | 1, 0, _, _ => rfl
  | 1, 1, _, _ => rfl
theorem xor_div2 (a b : Nat) : (a ^^^ b) / 2 = a / 2 ^^^ b / 2 := by
  have := Nat.shiftRight_xor_distrib (a := a) (b := b) (i := 1)
  simpa [Nat.shiftRight_eq_div_pow] using this
theorem glN_right {k a b c : Nat} : glN k a (b ^^^ c) = glN k a b ^^^ glN k a c := by
  induction k generalizing a b c with
  | zero => simp [glN]
  | succ k ih =>
    simp only [glN, xor_div2, ih, xor_mod2]
    rcases Nat.mod_two_eq_zero_or_one b with h | h <;> rcases Nat.mod_two_eq_zero_or_one c with h' | h'
    · simp [h, h']
    · simp only [h, h']
      simp
      ac_rfl
    · simp only [h, h']
      simp
      ac_rfl
    · simp only [h, h']
      simp
      have e : a ^^^ glN k (xtN a) (b / 2) ^^^ (a ^^^ glN k (xtN a) (c / 2)) = (a ^^^ a) ^^^ (glN k (xtN a) (b / 2) ^^^ glN k (xtN a) (c / 2)) := by ac_rfl
      simp [e]

/-- What holds of 0 and of the powers of 2, and of sums, holds of all bytes. -/
theorem all_bytes {P : Nat → Prop} (h0 : P 0) (hp : ∀ i, i < 8 → P (2 ^ i)) (hx : ∀ a b, a < 256 → b < 256 → P a → P b → P (a ^^^ b)) : ∀ b, b < 256 → P b := by
  have h : ∀ k, k ≤ 8 → ∀ b, b < 2 ^ k → P b := by
    intro k
    induction k with
    | zero => intro _ b hb; have : b = 0 := by simpa using hb
              rw [this]; exact h0
    | succ k ih =>
      intro hk b hb
      have hle : 2 ^ (k + 1) ≤ 256 := Nat.pow_le_pow_right (n := 2) (by omega) hk
      by_cases hlt : b < 2 ^ k
      · exact ih (by omega) b hlt
      · have e : b = 2 ^ k ^^^ (b - 2 ^ k) := by
          have h1 : b - 2 ^ k < 2 ^ k := by rw [Nat.pow_succ] at hb; omega
          have h2 := Nat.two_pow_add_eq_or_of_lt h1 1
          have h3 : 2 ^ k ^^^ (b - 2 ^ k) = 2 ^ k ||| (b - 2 ^ k) := by
            apply Nat.eq_of_testBit_eq
            intro i
            simp only [Nat.testBit_xor, Nat.testBit_or, Nat.testBit_two_pow]
            by_cases hi : k = i
            · subst hi
              simp [Nat.testBit_lt_two_pow h1]
            · simp [hi]
          rw [h3]
          simp only [Nat.mul_one] at h2
          rw [← h2]; omega
        rw [e]
        have hlt' : b - 2 ^ k < 2 ^ k := by rw [Nat.pow_succ] at hb; omega
        exact hx _ _ (by rw [Nat.pow_succ] at hle; omega) (by rw [Nat.pow_succ] at hle; omega) (hp k (by omega)) (ih (by omega) _ hlt')
  intro b hb
  exact h 8 (by omega) b hb

theorem glN_zero_left (k b : Nat) : glN k 0 b = 0 := by
  have h := glN_left (k := k) (a := 0) (b := 0) (c := b) (by omega) (by omega)
  simpa using h
theorem glN_zero_right (k a : Nat) : glN k a 0 = 0 := by
  have h := glN_right (k := k) (a := a) (b := 0) (c := 0)
  simpa using h

theorem gmN_comm {a b : Nat} (ha : a < 256) (hb : b < 256) : gmN a b = gmN b a := by
  simp only [gmN_eq]
  revert a
  have key : ∀ b, b < 256 → ∀ a, a < 256 → glN 8 a b = glN 8 b a := by
    apply all_bytes (P := fun b => ∀ a, a < 256 → glN 8 a b = glN 8 b a)
    · intro a _; rw [glN_zero_left, glN_zero_right]
    · decide +kernel
    · intro x y hx hy h1 h2 a ha
      rw [glN_right, glN_left hx hy, h1 a ha, h2 a ha]
  exact fun {a} ha => key b hb a ha

theorem gmN_assoc {a b c : Nat} (ha : a < 256) (hb : b < 256) (hc : c < 256) : gmN a (gmN b c) = gmN (gmN a b) c := by
  simp only [gmN_eq]
  have key : ∀ c, c < 256 → ∀ b, b < 256 → ∀ a, a < 256 → glN 8 a (glN 8 b c) = glN 8 (glN 8 a b) c := by
    apply all_bytes (P := fun c => ∀ b, b < 256 → ∀ a, a < 256 → glN 8 a (glN 8 b c) = glN 8 (glN 8 a b) c)
    · intro b _ a _; simp only [glN_zero_right]
    · intro i hi
      apply all_bytes (P := fun b => ∀ a, a < 256 → glN 8 a (glN 8 b (2 ^ i)) = glN 8 (glN 8 a b) (2 ^ i))
      · intro a _; simp only [glN_zero_right, glN_zero_left]
      · intro j hj
        apply all_bytes (P := fun a => glN 8 a (glN 8 (2 ^ j) (2 ^ i)) = glN 8 (glN 8 a (2 ^ j)) (2 ^ i))
        · simp only [glN_zero_left]
        · revert j
          revert i
          decide +kernel
        · intro x y hx hy h1 h2
          simp only [glN_left hx hy, glN_left (glN_lt hx) (glN_lt hy), h1, h2]
      · intro x y hx hy h1 h2 a ha
        simp only [glN_left hx hy, glN_right, glN_left (glN_lt ha) (glN_lt ha), h1 a ha, h2 a ha]
    · intro x y hx hy h1 h2 b hb a ha
      simp only [glN_right, h1 b hb a ha, h2 b hb a ha]
  exact key c hc b hb a ha

theorem gmN_lt {a b : Nat} (ha : a < 256) : gmN a b < 256 := by rw [gmN_eq]; exact glN_lt ha

/-- The product of two bytes. -/
def gm (a b : UInt8) : UInt8 := UInt8.ofNat (gmN a.toNat b.toNat)
theorem gm_nat (a b : UInt8) : (gm a b).toNat = gmN a.toNat b.toNat := by
  unfold gm
  rw [UInt8.toNat_ofNat']
  exact Nat.mod_eq_of_lt (gmN_lt a.toNat_lt)
theorem gm_comm (a b : UInt8) : gm a b = gm b a := by
  apply UInt8.toNat_inj.mp
  rw [gm_nat, gm_nat, gmN_comm a.toNat_lt b.toNat_lt]
theorem gm_assoc (a b c : UInt8) : gm (gm a b) c = gm a (gm b c) := by
  apply UInt8.toNat_inj.mp
  simp only [gm_nat]
  rw [gmN_assoc a.toNat_lt b.toNat_lt c.toNat_lt]
theorem gm_xor (a b c : UInt8) : gm a (b ^^^ c) = gm a b ^^^ gm a c := by
  apply UInt8.toNat_inj.mp
  simp only [gm_nat, UInt8.toNat_xor, gmN_eq, glN_right]
theorem xor_gm (a b c : UInt8) : gm (a ^^^ b) c = gm a c ^^^ gm b c := by
  rw [gm_comm, gm_xor, gm_comm c a, gm_comm c b]
theorem gm_zero (a : UInt8) : gm a 0 = 0 := by
  apply UInt8.toNat_inj.mp
  rw [gm_nat, gmN_eq]
  exact glN_zero_right 8 _
theorem zero_gm (a : UInt8) : gm 0 a = 0 := by rw [gm_comm, gm_zero]
theorem gm_one (a : UInt8) : gm a 1 = a := by
  apply UInt8.toNat_inj.mp
  rw [gm_nat]
  have h : ∀ a, a < 256 → gmN a 1 = a := by decide +kernel
  exact h _ a.toNat_lt
theorem one_gm (a : UInt8) : gm 1 a = a := by rw [gm_comm, gm_one]
instance : Std.Commutative gm := ⟨gm_comm⟩
instance : Std.Associative gm := ⟨gm_assoc⟩

/-- out times a, n times. -/
def gpGo : Nat → Nat → Nat → Nat
  | 0, o, _ => o
  | k + 1, o, a => gpGo k (gmN o a) a
def ovN (a : Nat) : Nat := gpGo 254 1 a
theorem ovN_all : ∀ a, a < 256 → ovN a < 256 ∧ (gmN a (ovN a) = if a = 0 then 0 else 1) := by decide +kernel
/-- The byte whose product with it is 1. -/
def ov (a : UInt8) : UInt8 := UInt8.ofNat (ovN a.toNat)
theorem ov_nat (a : UInt8) : (ov a).toNat = ovN a.toNat := by
  unfold ov
  rw [UInt8.toNat_ofNat']
  exact Nat.mod_eq_of_lt (ovN_all _ a.toNat_lt).1
theorem gm_ov {a : UInt8} (h : a ≠ 0) : gm a (ov a) = 1 := by
  apply UInt8.toNat_inj.mp
  rw [gm_nat, ov_nat, (ovN_all _ a.toNat_lt).2, if_neg (fun x : a.toNat = 0 => h (UInt8.toNat_inj.mp x))]
  rfl
theorem ov_zero : ov 0 = 0 := by decide +kernel
theorem gm_cancel {a b c : UInt8} (h : a ≠ 0) (e : gm a b = gm a c) : b = c := by
  have h1 : gm (ov a) (gm a b) = gm (ov a) (gm a c) := by rw [e]
  rw [← gm_assoc, ← gm_assoc, gm_comm (ov a) a, gm_ov h, one_gm, one_gm] at h1
  exact h1
theorem gm_eq_zero {a b : UInt8} (h : gm a b = 0) : a = 0 ∨ b = 0 := by
  by_cases ha : a = 0
  · exact .inl ha
  · exact .inr (gm_cancel ha (by rw [h, gm_zero]))
theorem ov_ov (a : UInt8) : ov (ov a) = a := by
  by_cases h : a = 0
  · subst h; rw [ov_zero, ov_zero]
  · have h1 := gm_ov h
    have h2 : ov a ≠ 0 := fun x => by rw [x, gm_zero] at h1; exact absurd h1 (by decide)
    have h3 := gm_ov h2
    exact gm_cancel h2 (by rw [h3, gm_comm, h1])
end Go.Proofs.Ytkbidgonjnlkmaa

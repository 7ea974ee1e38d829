/-
  AesProducts returns true for every three bytes. No condition.
-/
import Derived.Test.YtkbidgonjnlkmaaAliveA
namespace Go.Proofs.Ytkbidgonjnlkmaa
open Go.RowKit Go.ChangeShapes Go.WideShapes Go.ChangeAt

theorem byte_of {a : Int} (h : 0 ≤ a ∧ a ≤ 255) : ∃ x : UInt8, a = ((x.toNat : Nat) : Int) := ⟨UInt8.ofNat a.toNat, by rw [UInt8.toNat_ofNat']; omega⟩
/-- How many of the first k bytes have with a the product 1. -/
def cnt1 (a : UInt8) : Nat → Nat
  | 0 => 0
  | k + 1 => cnt1 a k + if gm a (UInt8.ofNat k) = 1 then 1 else 0
theorem cnt1_le (a : UInt8) (k : Nat) : cnt1 a k ≤ k := by
  induction k with
  | zero => exact Nat.le_refl _
  | succ k ih => rw [cnt1]; split <;> omega
theorem cnt1_ov (a : UInt8) (h : a ≠ 0) (k : Nat) (hk : k ≤ 256) : cnt1 a k = if (ov a).toNat < k then 1 else 0 := by
  induction k with
  | zero => rfl
  | succ k ih =>
    rw [cnt1, ih (by omega)]
    have e : gm a (UInt8.ofNat k) = 1 ↔ k = (ov a).toNat := by
      constructor
      · intro h1
        have := gm_cancel h (h1.trans (gm_ov h).symm)
        rw [← this, UInt8.toNat_ofNat']
        omega
      · intro h1
        rw [h1, UInt8.ofNat_toNat]
        exact gm_ov h
    simp only [e]
    by_cases h1 : k = (ov a).toNat
    · rw [if_pos h1, if_neg (by omega), if_pos (by omega)]
    · rw [if_neg h1]
      by_cases h2 : (ov a).toNat < k
      · rw [if_pos h2, if_pos (by omega)]
      · rw [if_neg h2, if_neg (by omega)]
theorem cnt1_some {a : UInt8} (h : a ≠ 0) : cnt1 a 256 = 1 := by
  rw [cnt1_ov a h 256 (Nat.le_refl _), if_pos (ov a).toNat_lt]
theorem cnt1_zero (k : Nat) : cnt1 0 k = 0 := by
  induction k with
  | zero => rfl
  | succ k ih => rw [cnt1, ih, zero_gm, if_neg (by decide)]

set_option maxRecDepth 100000 in
set_option maxHeartbeats 3200000 in
theorem products_law (a b c : UInt8) (w : World) : Calls Try.prog 4 #[bv a, bv b, bv c] w fun e w' => e = .returned (.bool true) ∧ Below w.heap.size w w' := by
  obtain ⟨p, hp⟩ : ∃ p, p = gm a b := ⟨_, rfl⟩
  obtain ⟨q, hq⟩ : ∃ q, q = gm b c := ⟨_, rfl⟩
  obtain ⟨t, ht⟩ : ∃ t, t = gm a q := ⟨_, rfl⟩
  obtain ⟨r, hr⟩ : ∃ r, r = gm a c := ⟨_, rfl⟩
  obtain ⟨x, hx⟩ : ∃ x, x = b ^^^ c := ⟨_, rfl⟩
  obtain ⟨y, hy⟩ : ∃ y, y = gm a x := ⟨_, rfl⟩
  have x1 := axor b c
  rw [← hx] at x1
  have x2 := axor p r
  rw [show p ^^^ r = y from by rw [hy, hx, gm_xor, hp, hr]] at x2
  have M1 : Hid (∀ w, Calls Try.prog 16 #[bv a, bv b] w fun e w' => e = .returned (bv p) ∧ w = w') := Lib.hid fun w => by rw [hp]; exact mul_any a b w
  have M2 : Hid (∀ w, Calls Try.prog 16 #[bv b, bv a] w fun e w' => e = .returned (bv p) ∧ w = w') := Lib.hid fun w => by rw [hp, gm_comm]; exact mul_any b a w
  have M3 : Hid (∀ w, Calls Try.prog 16 #[bv b, bv c] w fun e w' => e = .returned (bv q) ∧ w = w') := Lib.hid fun w => by rw [hq]; exact mul_any b c w
  have M4 : Hid (∀ w, Calls Try.prog 16 #[bv a, bv q] w fun e w' => e = .returned (bv t) ∧ w = w') := Lib.hid fun w => by rw [ht]; exact mul_any a q w
  have M5 : Hid (∀ w, Calls Try.prog 16 #[bv p, bv c] w fun e w' => e = .returned (bv t) ∧ w = w') := Lib.hid fun w => by rw [ht, hq, ← gm_assoc, ← hp]; exact mul_any p c w
  have M6 : Hid (∀ w, Calls Try.prog 16 #[bv a, .int .u8 ((x.toNat : Nat) : Int)] w fun e w' => e = .returned (bv y) ∧ w = w') := Lib.hid fun w => by rw [hy]; exact mul_any a x w
  have M7 : Hid (∀ w, Calls Try.prog 16 #[bv a, bv c] w fun e w' => e = .returned (bv r) ∧ w = w') := Lib.hid fun w => by rw [hr]; exact mul_any a c w
  have M8 : Hid (∀ w, Calls Try.prog 16 #[bv a, .int .u8 1] w fun e w' => e = .returned (bv a) ∧ w = w') := Lib.hid fun w => by have := mul_any a 1 w; rw [gm_one] at this; exact this
  have M9 : Hid (∀ w, Calls Try.prog 16 #[bv a, .int .u8 0] w fun e w' => e = .returned (.int .u8 0) ∧ w = w') := Lib.hid fun w => by have := mul_any a 0 w; rw [gm_zero] at this; exact this
  clear hp hq ht hr hx hy
  go_enter Try.func4, Try.ntmps4
  go_wp2_with (go_at_call 16; first
    | ((with_reducible refine (M1.out _).mono ?_); rintro e w1 ⟨rfl, rfl⟩)
    | ((with_reducible refine (M2.out _).mono ?_); rintro e w1 ⟨rfl, rfl⟩)
    | ((with_reducible refine (M3.out _).mono ?_); rintro e w1 ⟨rfl, rfl⟩)
    | ((with_reducible refine (M4.out _).mono ?_); rintro e w1 ⟨rfl, rfl⟩)
    | ((with_reducible refine (M5.out _).mono ?_); rintro e w1 ⟨rfl, rfl⟩)
    | ((with_reducible refine (M6.out _).mono ?_); rintro e w1 ⟨rfl, rfl⟩)
    | ((with_reducible refine (M7.out _).mono ?_); rintro e w1 ⟨rfl, rfl⟩)
    | ((with_reducible refine (M8.out _).mono ?_); rintro e w1 ⟨rfl, rfl⟩)
    | ((with_reducible refine (M9.out _).mono ?_); rintro e w1 ⟨rfl, rfl⟩))
  go_loopw [7, 55] (fun n c wr => ∃ k : Nat, k ≤ 256 ∧ c = .int .i64 (k : Int) ∧ n = .int .i64 ((cnt1 a k : Nat) : Int) ∧ w = wr) (fun _ c _ => 256 - (intOf c).toNat)
  case atStart => exact ⟨0, by omega, rfl, rfl, rfl⟩
  case round =>
    obtain ⟨k, hk, rfl, rfl, rfl⟩ := hrel
    have hcl := cnt1_le a k
    by_cases hlt : k < 256
    · have hki : (k : Int) < 256 := by omega
      obtain ⟨z, hz⟩ : ∃ z, z = UInt8.ofNat k := ⟨_, rfl⟩
      have hzk : z.toNat = k := by rw [hz, UInt8.toNat_ofNat']; omega
      have hw : IntKind.u8.wrap (k : Int) = (k : Int) := by rw [IntKind.wrap_u8]; omega
      have hw2 : (k : Int) % 256 = (k : Int) := by omega
      by_cases h1 : gm a z = 1
      · have hc1 : cnt1 a (k + 1) = cnt1 a k + 1 := by rw [cnt1, ← hz, if_pos h1]
        have M : Hid (∀ w, Calls Try.prog 16 #[bv a, .int .u8 (k : Int)] w fun e w' => e = .returned (.int .u8 1) ∧ w = w') := Lib.hid fun w => by
          have := mul_any a z w
          rw [h1, show bv z = .int .u8 (k : Int) from by rw [← hzk]] at this
          exact this
        obtain ⟨n, hn⟩ : ∃ n, n = cnt1 a k := ⟨_, rfl⟩
        rw [← hn] at hc1 hcl ⊢
        have HC := Lib.hid hc1
        clear hz hzk h1 hn hc1
        go_wp2_with (go_at_call 16; (with_reducible refine (M.out _).mono ?_); rintro e w1 ⟨rfl, rfl⟩)
        go_roundw
        case rel => exact ⟨k + 1, by omega, by go_num, by rw [HC.out]; go_num, trivial⟩
        case measure => simp [intOf]; omega
      · have hc1 : cnt1 a (k + 1) = cnt1 a k := by rw [cnt1, ← hz, if_neg h1]; rfl
        have M : Hid (∀ w, Calls Try.prog 16 #[bv a, .int .u8 (k : Int)] w fun e w' => e = .returned (bv (gm a z)) ∧ w = w') := Lib.hid fun w => by
          have := mul_any a z w
          rw [show bv z = .int .u8 (k : Int) from by rw [← hzk]] at this
          exact this
        have hne : ¬ (((gm a z).toNat : Nat) : Int) = 1 := fun h => h1 (UInt8.toNat_inj.mp (by show _ = 1; omega))
        have hbe : ((((gm a z).toNat : Nat) : Int) == 1) = false := by simp only [beq_eq_false_iff_ne, ne_eq]; exact hne
        generalize gm a z = m at *
        obtain ⟨n, hn⟩ : ∃ n, n = cnt1 a k := ⟨_, rfl⟩
        rw [← hn] at hc1 hcl ⊢
        have HC := Lib.hid hc1
        clear hz hzk h1 hn hc1
        go_wp2_with (go_at_call 16; (with_reducible refine (M.out _).mono ?_); rintro e w1 ⟨rfl, rfl⟩)
        go_roundw
        case rel => exact ⟨k + 1, by omega, by go_num, by rw [HC.out], trivial⟩
        case measure => simp [intOf]; omega
    · have hk' : k = 256 := by omega
      subst hk'
      by_cases ha : a = 0
      · have h0 : cnt1 a 256 = 0 := by rw [ha, cnt1_zero]
        rw [h0]
        have n1 : (((a.toNat : Nat) : Int) != 0) = false := by rw [ha]; rfl
        have n2 : (((a.toNat : Nat) : Int) == 0) = true := by rw [ha]; rfl
        clear h0 ha
        go_wp2_with (go_at_call 15; (with_reducible refine (aes_alive _).mono ?_); rintro e w6 ⟨rfl, hb6⟩)
        go_ret
        exact ⟨rfl, hb6⟩
      · rw [cnt1_some ha]
        have hne : ¬ (((a.toNat : Nat) : Int) = 0) := fun h => ha (UInt8.toNat_inj.mp (by show _ = 0; omega))
        have n1 : (((a.toNat : Nat) : Int) != 0) = true := by simp only [bne_iff_ne, ne_eq]; exact hne
        have n2 : (((a.toNat : Nat) : Int) == 0) = false := by simp only [beq_eq_false_iff_ne, ne_eq]; exact hne
        clear ha hne
        go_wp2_with (go_at_call 15; (with_reducible refine (aes_alive _).mono ?_); rintro e w6 ⟨rfl, hb6⟩)
        go_ret
        exact ⟨rfl, hb6⟩
theorem products_any (a b c : Int) (ha : 0 ≤ a ∧ a ≤ 255) (hb : 0 ≤ b ∧ b ≤ 255) (hc : 0 ≤ c ∧ c ≤ 255) (w : World) : Calls Try.prog 4 #[.int .u8 a, .int .u8 b, .int .u8 c] w fun e w' => e = .returned (.bool true) ∧ Below w.heap.size w w' := by
  obtain ⟨x, rfl⟩ := byte_of ha
  obtain ⟨y, rfl⟩ := byte_of hb
  obtain ⟨z, rfl⟩ := byte_of hc
  exact products_law x y z w

set_option maxRecDepth 100000 in
theorem aesProducts_lifted (os : Os) (started : os.Started) (H : Type) (enc : TypeId × Value → H) :
    ReturnsInHanded {} Try.checked os 4 .any (Rows.aesProductsSpec.pre6 enc Try.prog Try.f4 [] false) (Rows.aesProductsSpec.post enc Try.prog Try.f4 false true false false) := by
  refine LawKit.lifted (C := Try.checked) (tb := 4) own started (by kernel_rfl) Try.func4
    (ChangeSpec.witness6 (enc := enc) (C := Try.checked) false ⟨#[], #[.int .u8 0, .int .u8 0, .int .u8 0], []⟩ 8 (by kernel_rfl) (by kernel_rfl) (by kernel_rfl) (by kernel_rfl))
    laidOut (by kernel_rfl) rfl (fun ds h => by match ds, h with | [_, _, _], _ => rfl) rfl Try.underlying4 ?_
  intro W base args ds ps hval0 hA0 hlt hsz
  have hval : ∀ (j : Nat) t v, Try.f4.params[j]? = some t → args[j]? = some v → Value.okWide Try.prog W .any base t v := hval0
  have hA : DataW.TrodAll enc Try.prog W 0 (fun _ => true) true Try.f4.params.toList args.toList ds ps := hA0
  rw [Try.params4] at hA hval
  clear hval0 hA0
  obtain ⟨v0, vs0, d0, ds0, p0, q0, hargs, rfl, rfl, t0, r0⟩ := trodAll_cons hA
  obtain ⟨v1, vs1, d1, ds1, p1, q1, rfl, rfl, rfl, t1, r1⟩ := trodAll_cons r0
  obtain ⟨v2, vs2, d2, ds2, p2, q2, rfl, rfl, rfl, t2, r2⟩ := trodAll_cons r1
  obtain ⟨rfl, rfl, rfl⟩ := trodAll_nil r2
  obtain rfl : args = #[v0, v1, v2] := by cases args; simp_all
  obtain ⟨a, rfl, -, -, w_a⟩ := open_int Try.underlying5 (hval 0 _ v0 rfl rfl) t0
  obtain ⟨b, rfl, -, -, w_b⟩ := open_int Try.underlying5 (hval 1 _ v1 rfl rfl) t1
  obtain ⟨c, rfl, -, -, w_c⟩ := open_int Try.underlying5 (hval 2 _ v2 rfl rfl) t2
  exact products_any a b c (byte_bd w_a) (byte_bd w_b) (byte_bd w_c) W

theorem aesProducts_holds : Rows.AesProductsSaid :=
  OpenClaim.holds_of_wide 4 Try.f4 rfl rfl rfl rfl rfl rfl rfl ⟨rfl, rfl, rfl, rfl, rfl⟩ rfl rfl rfl rfl rfl (by kernel_rfl) Try.func4 (by kernel_rfl)
    (of_decide_eq_true (by kernel_rfl)) (by unfold Func.isWrapper; first | (rw [if_pos (by decide +kernel)]; kernel_rfl) | (rw [if_neg (by decide +kernel)]; exact ⟨rfl, rfl⟩))
    (fun os started H enc _ => aesProducts_lifted os started H enc)
#print axioms aesProducts_holds

end Go.Proofs.Ytkbidgonjnlkmaa

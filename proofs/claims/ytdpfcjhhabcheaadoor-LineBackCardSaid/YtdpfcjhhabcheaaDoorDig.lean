/-
  The contract of the reference's Digits. No condition. Own work.
-/
import Derived.Test.YtdpfcjhhabcheaaDoorSl
namespace Go.Proofs.YtdpfcjhhabcheaaDoor
open Go.RowKit

set_option maxHeartbeats 1600000 in
theorem rdig_small (n : Nat) (h : n < 10) (w : World) : Calls Tryd.prog 41 #[.int .i64 (n : Int)] w fun e w' => e = .returned (.string (decS n)) ∧ Below w.heap.size w w' := by
  obtain ⟨c, hc⟩ : ∃ c, c = UInt8.ofNat (48 + n) := ⟨_, rfl⟩
  have hcn : c.toNat = 48 + n := by rw [hc, UInt8.toNat_ofNat']; omega
  have hd : decS n = ⟨#[c]⟩ := by rw [decS, dd_small n h, ← hc]
  rw [hd]
  have h10 : (n : Int) < 10 := by omega
  have had : (48 : Int) + (n : Int) = ((c.toNat : Nat) : Int) := by omega
  have hw64 : wrap64 ((c.toNat : Nat) : Int) = ((c.toNat : Nat) : Int) := by have := c.toNat_lt; unfold wrap64; omega
  have hcw : IntKind.u8.wrap ((c.toNat : Nat) : Int) = ((c.toNat : Nat) : Int) := by rw [IntKind.wrap_u8]; have := c.toNat_lt; omega
  have hcm : ((c.toNat : Nat) : Int) % 256 = ((c.toNat : Nat) : Int) := by have := c.toNat_lt; omega
  have o1 : ∀ W : World, (convert 93 9 (.slice (some ⟨W.heap.size, 0, none⟩) 1 1)).run Tryd.prog (W.alloc (.cells #[.int .u8 ((c.toNat : Nat) : Int)] 5)) = .ok (.string ⟨#[c]⟩) (W.alloc (.cells #[.int .u8 ((c.toNat : Nat) : Int)] 5)) := fun W => one_str c W
  generalize (⟨#[c]⟩ : ByteArray) = S at *
  clear hd hc hcn
  go_enter Tryd.func41, Tryd.ntmps41
  go_wp2_with fail
  go_ret
  exact ⟨rfl, bnew _ _⟩
set_option maxHeartbeats 1600000 in
theorem rdig_any (k : Nat) : ∀ (n : Nat) (_h : n < 10 ^ (k + 1)) (_hm : n ≤ 9223372036854775807) (w : World), Calls Tryd.prog 41 #[.int .i64 (n : Int)] w fun e w' => e = .returned (.string (decS n)) ∧ Below w.heap.size w w' := by
  induction k with
  | zero => intro n h _ w; exact rdig_small n (by omega) w
  | succ k ih =>
    intro n h hm w
    by_cases h10 : n < 10
    · exact rdig_small n h10 w
    · have hA := ih (n / 10) (by rw [Nat.div_lt_iff_lt_mul (by omega), ← Nat.pow_succ]; exact h) (by omega)
      have hB := rdig_small (n % 10) (by omega)
      have hd : decS (n / 10) ++ decS (n % 10) = decS n := by
        unfold decS
        rw [str_app, ← dd_big n h10]
      have hl1 := decS_len (n / 10) (by omega)
      have hl2 := decS_len (n % 10) (by omega)
      have hadd : ∀ W, (Op.stringOp .add (decS (n / 10)) (decS (n % 10))).run Tryd.prog W = .ok (.string (decS n)) W := fun W => by
        rw [← hd]
        exact run_string_add_sum W _ _ (by omega)
      have e1 : (n : Int) / 10 = ((n / 10 : Nat) : Int) := by omega
      have e2 : (n : Int) % 10 = ((n % 10 : Nat) : Int) := by omega
      have hn : ¬ (n : Int) < 10 := by omega
      have hm' : (n : Int) ≤ 9223372036854775807 := by omega
      have h0' : (0 : Int) ≤ (n : Int) := by omega
      have t1 : (n : Int).tdiv 10 = ((n / 10 : Nat) : Int) := by rw [Int.tdiv_eq_ediv_of_nonneg (by omega)]; exact e1
      have t2 : (n : Int).tmod 10 = ((n % 10 : Nat) : Int) := by rw [Int.tmod_eq_emod_of_nonneg (by omega)]; exact e2
      have w1 : wrap64 ((n / 10 : Nat) : Int) = ((n / 10 : Nat) : Int) := by unfold wrap64; omega
      generalize decS (n / 10) = A at *
      generalize decS (n % 10) = B at *
      generalize decS n = C at *
      generalize n / 10 = p at *
      generalize n % 10 = q at *
      have HA := Lib.hid hA
      have HB := Lib.hid hB
      clear hA hB hd ih h h10 hm hl1 hl2
      go_enter Tryd.func41, Tryd.ntmps41
      go_wp2_with fail
      (with_reducible refine (HA.out _).mono ?_)
      rintro e w1 ⟨rfl, hb1⟩
      go_wp2_with fail
      (with_reducible refine (HB.out _).mono ?_)
      rintro e w2 ⟨rfl, hb2⟩
      go_wp2_with fail
      go_ret
      exact ⟨rfl, bthen hb1 hb2⟩
theorem rdig (n : Nat) (hm : n ≤ 9223372036854775807) (w : World) : Calls Tryd.prog 41 #[.int .i64 (n : Int)] w fun e w' => e = .returned (.string (decS n)) ∧ Below w.heap.size w w' :=
  rdig_any 18 n (by omega) hm w
end Go.Proofs.YtdpfcjhhabcheaaDoor

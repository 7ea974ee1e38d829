/-
  The contract of the reference's Put (chapter 01). No condition. Own work.
-/
import Derived.Test.YtdpfcjhhabcheaaDoorOct2
namespace Go.Proofs.YtdpfcjhhabcheaaDoor
open Go.RowKit

theorem str_app (A B : List UInt8) : (⟨A.toArray⟩ : ByteArray) ++ ⟨B.toArray⟩ = ⟨(A ++ B).toArray⟩ := by
  apply ByteArray.ext
  simp [ByteArray.data_append]
theorem str_snoc (A : List UInt8) (v : UInt8) : (⟨A.toArray⟩ : ByteArray) ++ ⟨#[v]⟩ = ⟨(A ++ [v]).toArray⟩ := str_app A [v]
/-- 'string([]byte{byte(n)})'. -/
theorem one_str (v : UInt8) (W : World) : (convert 93 9 (.slice (some ⟨W.heap.size, 0, none⟩) 1 1)).run Tryd.prog (W.alloc (.cells #[bv v] 5)) = .ok (.string ⟨#[v]⟩) (W.alloc (.cells #[bv v] 5)) := by
  have hA := Arr.new W 5 [v]
  exact hA.str (P := Tryd.prog) 1 1 rfl 93 5 9 Tryd.underlying93 Tryd.underlying5 Tryd.underlying9
theorem str_idx (s : ByteArray) (i : Nat) (c : UInt8) (h : s.data.toList[i]? = some c) : ∀ W, (Instr.index 9 (.string s) (.int .i64 (i : Int))).run Tryd.prog W = .ok (.int .u8 ((c.toNat : Nat) : Int)) W := by
  intro W
  have hi : i < s.size := by
    have := (List.getElem?_eq_some_iff.mp h).1
    simpa using this
  have hx : s[i] = c := by
    have h2 : s.data[i]? = some c := by simpa using h
    obtain ⟨h3, h4⟩ := Array.getElem?_eq_some_iff.mp h2
    exact h4
  simp [go_sem, hi, hx]
def rputR (n k : Nat) : Value := if n < 2 ^ (8 * k) then .tuple #[.string ⟨(be n k).toArray⟩, .int .i64 0] else .tuple #[.string ⟨#[]⟩, .int .i64 2]
set_option maxHeartbeats 1600000 in
theorem rput_nat (n k : Nat) (hn : n ≤ 9223372036854775807) (hk1 : 1 ≤ k) (hk8 : k ≤ 8) (w : World) :
    Calls Tryd.prog 58 #[.int .i64 (n : Int), .int .i64 (k : Int)] w fun e w' => e = .returned (rputR n k) ∧ Below w.heap.size w w' := by
  have h1 : ¬ (k : Int) < 1 := by omega
  have h2 : ¬ (8 : Int) < (k : Int) := by omega
  have h3 : ¬ (n : Int) < 0 := by omega
  obtain ⟨RR, hRR⟩ : ∃ R, R = rputR n k := ⟨_, rfl⟩
  rw [← hRR]
  have HRR := Lib.hid hRR
  clear hRR
  go_enter Tryd.func58, Tryd.ntmps58
  go_wp2_with fail
  go_loopw [0, 6, 7] (fun nv o c wr => ∃ (i m : Nat), i ≤ k ∧ c = .int .i64 (i : Int) ∧ m = n / 2 ^ (8 * i) ∧ nv = .int .i64 (m : Int) ∧ o = .string ⟨(be n i).toArray⟩ ∧ Below w.heap.size w wr) (fun _ _ c _ => k - (intOf c).toNat)
  case atStart => exact ⟨0, n, by omega, rfl, by simp, rfl, rfl, Below.refl _ _⟩
  case round =>
    obtain ⟨i, m, hi, rfl, hm, rfl, rfl, hbw⟩ := hrel
    by_cases hik : i < k
    · have hii : (i : Int) < (k : Int) := by omega
      obtain ⟨c, hc⟩ : ∃ c, c = UInt8.ofNat m := ⟨_, rfl⟩
      have hmc : (m : Int) % 256 = ((c.toNat : Nat) : Int) := by rw [hc, UInt8.toNat_ofNat']; simp
      have hmc2 : (m : Int).tmod 256 = ((c.toNat : Nat) : Int) := by rw [Int.tmod_eq_emod_of_nonneg (by omega)]; exact hmc
      obtain ⟨m2, hm2⟩ : ∃ m2 : Nat, (m : Int) / 256 = (m2 : Int) := ⟨m / 256, by omega⟩
      have hml : m ≤ n := by rw [hm]; exact Nat.div_le_self _ _
      have hm2w : wrap64 (m2 : Int) = (m2 : Int) := by unfold wrap64; omega
      have hm3 : (m : Int).tdiv 256 = (m2 : Int) := by rw [Int.tdiv_eq_ediv_of_nonneg (by omega)]; exact hm2
      have hnext : m2 = n / 2 ^ (8 * (i + 1)) := by
        have : m2 = m / 256 := by omega
        rw [this, hm, Nat.div_div_eq_div_mul, show 8 * (i + 1) = 8 * i + 8 from by omega, Nat.pow_add]
      have hcw : IntKind.u8.wrap ((c.toNat : Nat) : Int) = ((c.toNat : Nat) : Int) := by rw [IntKind.wrap_u8]; have := c.toNat_lt; omega
      have hcm : ((c.toNat : Nat) : Int) % 256 = ((c.toNat : Nat) : Int) := by have := c.toNat_lt; omega
      have hbe : be n (i + 1) = [c] ++ be n i := by rw [be, hc, hm]; rfl
      have hs := str_app [c] (be n i)
      rw [← hbe] at hs
      have hl : (⟨(be n i).toArray⟩ : ByteArray).size ≤ 8 := by simp [ByteArray.size, be_len]; omega
      have h1s : (⟨[c].toArray⟩ : ByteArray).size = 1 := rfl
      have o1 : ∀ W : World, (convert 93 9 (.slice (some ⟨W.heap.size, 0, none⟩) 1 1)).run Tryd.prog (W.alloc (.cells #[.int .u8 ((c.toNat : Nat) : Int)] 5)) = .ok (.string ⟨[c].toArray⟩) (W.alloc (.cells #[.int .u8 ((c.toNat : Nat) : Int)] 5)) := fun W => one_str c W
      have HN := Lib.hid hnext
      have HB := Lib.hid hbw
      have hbz := hbw.size
      obtain ⟨A', hA'⟩ : ∃ A' : ByteArray, A' = ⟨(be n (i + 1)).toArray⟩ := ⟨_, rfl⟩
      rw [← hA'] at hs
      have HA' := Lib.hid hA'
      generalize (⟨(be n i).toArray⟩ : ByteArray) = A at *
      generalize (⟨[c].toArray⟩ : ByteArray) = C at *
      clear hbw hnext hbe hc hm hA'
      go_wp2_with fail
      exact ⟨⟨i + 1, m2, by omega, by go_num, HN.out, rfl, by rw [HA'.out], HB.out.alloc hbz _⟩, by simp [intOf]; omega⟩
    · have hi2 : i = k := by omega
      subst hi2
      by_cases hfit : n < 2 ^ (8 * i)
      · have hm0 : m = 0 := by rw [hm]; exact Nat.div_eq_of_lt hfit
        have hR2 : RR = .tuple #[.string ⟨(be n i).toArray⟩, .int .i64 0] := by rw [HRR.out, rputR, if_pos hfit]
        have HR2 := Lib.hid hR2
        subst hm0
        clear hm hR2
        go_wp2_with fail
        go_ret2
        exact ⟨by rw [HR2.out]; rfl, hbw⟩
      · have hm0 : 0 < m := by rw [hm]; exact Nat.div_pos (by omega) (Nat.two_pow_pos _)
        have hm1 : (0 : Int) < (m : Int) := by omega
        have hR2 : RR = .tuple #[.string ⟨#[]⟩, .int .i64 2] := by rw [HRR.out, rputR, if_neg hfit]
        have HR2 := Lib.hid hR2
        clear hm hR2 hfit
        go_wp2_with fail
        go_ret2
        exact ⟨by rw [HR2.out]; rfl, hbw⟩
theorem rput_neg (n : Int) (k : Nat) (hn : n < 0) (hk1 : 1 ≤ k) (hk8 : k ≤ 8) (w : World) :
    Calls Tryd.prog 58 #[.int .i64 n, .int .i64 (k : Int)] w fun e w' => e = .returned (.tuple #[.string ⟨#[]⟩, .int .i64 2]) ∧ Below w.heap.size w w' := by
  have h1 : ¬ (k : Int) < 1 := by omega
  have h2 : ¬ (8 : Int) < (k : Int) := by omega
  go_enter Tryd.func58, Tryd.ntmps58
  go_wp2_with fail
  go_ret2
  exact ⟨rfl, Below.refl _ _⟩
/-- Of any number, in four bytes: what the reference returns. -/
theorem rput4 (n : Int) (hn : n ≤ 9223372036854775807) : (∃ m : Nat, n = (m : Int) ∧ m < 4294967296 ∧ ∀ w, Calls Tryd.prog 58 #[.int .i64 n, .int .i64 4] w fun e w' => e = .returned (.tuple #[.string ⟨(be m 4).toArray⟩, .int .i64 0]) ∧ Below w.heap.size w w') ∨
    (¬ (0 ≤ n ∧ n < 4294967296) ∧ ∀ w, Calls Tryd.prog 58 #[.int .i64 n, .int .i64 4] w fun e w' => e = .returned (.tuple #[.string ⟨#[]⟩, .int .i64 2]) ∧ Below w.heap.size w w') := by
  by_cases h0 : n < 0
  · exact .inr ⟨by omega, fun w => rput_neg n 4 h0 (by omega) (by omega) w⟩
  · obtain ⟨m, rfl⟩ : ∃ m : Nat, n = (m : Int) := ⟨n.toNat, by omega⟩
    by_cases hm : m < 4294967296
    · exact .inl ⟨m, rfl, hm, fun w => by have h := rput_nat m 4 (by omega) (by omega) (by omega) w; rw [rputR, if_pos (by omega)] at h; exact h⟩
    · exact .inr ⟨by omega, fun w => by have h := rput_nat m 4 (by omega) (by omega) (by omega) w; rw [rputR, if_neg (by omega)] at h; exact h⟩
end Go.Proofs.YtdpfcjhhabcheaaDoor

/-
  The contracts of octet.Get and of the reference's Get: the number of bytes. No condition. Own work.
-/
import Derived.Test.YtdpfcjhhabcheaaDoorRPut
namespace Go.Proofs.YtdpfcjhhabcheaaDoor
open Go.RowKit

/-- The number of bytes. -/
def gt (l : List UInt8) : Nat := l.foldl (fun n c => 256 * n + c.toNat) 0
theorem gt_snoc (A : List UInt8) (c : UInt8) : gt (A ++ [c]) = 256 * gt A + c.toNat := by unfold gt; rw [List.foldl_append]; rfl
theorem gt_go (l : List UInt8) : ∀ n, l.foldl (fun n c => 256 * n + c.toNat) n = n * 2 ^ (8 * l.length) + gt l := by
  induction l with
  | nil => intro n; simp [gt]
  | cons c l ih =>
    intro n
    have e : gt (c :: l) = (256 * 0 + c.toNat) * 2 ^ (8 * l.length) + gt l := ih _
    rw [List.foldl_cons, ih, e, List.length_cons, show 8 * (l.length + 1) = 8 + 8 * l.length from by omega, Nat.pow_add, show (2 : Nat) ^ 8 = 256 from rfl]
    generalize 2 ^ (8 * l.length) = P
    rw [Nat.add_mul, Nat.add_mul, Nat.mul_zero, Nat.zero_mul, Nat.zero_add, Nat.mul_left_comm n 256 P, Nat.mul_assoc 256 n P, Nat.add_assoc]
theorem gt_cons (c : UInt8) (l : List UInt8) : gt (c :: l) = c.toNat * 2 ^ (8 * l.length) + gt l := by
  have := gt_go l (256 * 0 + c.toNat)
  unfold gt at this ⊢
  rw [List.foldl_cons, this]
  simp
theorem gt_lt (l : List UInt8) : gt l < 2 ^ (8 * l.length) := by
  induction l with
  | nil => decide
  | cons c l ih =>
    rw [gt_cons, List.length_cons, show 8 * (l.length + 1) = 8 + 8 * l.length from by omega, Nat.pow_add, show (2 : Nat) ^ 8 = 256 from rfl]
    have hc := c.toNat_lt
    have : c.toNat * 2 ^ (8 * l.length) + 2 ^ (8 * l.length) ≤ 256 * 2 ^ (8 * l.length) := by
      rw [show c.toNat * 2 ^ (8 * l.length) + 2 ^ (8 * l.length) = (c.toNat + 1) * 2 ^ (8 * l.length) from by rw [Nat.add_mul, Nat.one_mul]]
      exact Nat.mul_le_mul_right _ (by omega)
    omega
theorem be_add (c x k : Nat) : ∀ m, m ≤ k → be (c * 2 ^ (8 * k) + x) m = be x m
  | 0, _ => rfl
  | m + 1, h => by
    rw [be, be, be_add c x k m (by omega)]
    congr 1
    apply UInt8.toNat_inj.mp
    rw [UInt8.toNat_ofNat', UInt8.toNat_ofNat', show 8 * k = 8 * (k - m - 1) + 8 + 8 * m from by omega, Nat.pow_add, ← Nat.mul_assoc, Nat.mul_comm _ (2 ^ (8 * m)), Nat.mul_add_div (Nat.two_pow_pos _), Nat.pow_add, ← Nat.mul_assoc, Nat.mul_comm _ (2 ^ 8), Nat.mul_add_mod]
theorem be_gt (l : List UInt8) : be (gt l) l.length = l := by
  induction l with
  | nil => rfl
  | cons c l ih =>
    rw [List.length_cons, be, gt_cons, be_add _ _ _ _ (Nat.le_refl _), ih, Nat.mul_comm, Nat.mul_add_div (Nat.two_pow_pos _), Nat.div_eq_of_lt (gt_lt l), Nat.add_zero]
    congr 1
    apply UInt8.toNat_inj.mp
    rw [UInt8.toNat_ofNat']
    exact Nat.mod_eq_of_lt c.toNat_lt
theorem gt_be (n : Nat) : ∀ k, gt (be n k) = n % 2 ^ (8 * k)
  | 0 => by rw [be, Nat.mul_zero, Nat.pow_zero, Nat.mod_one]; rfl
  | k + 1 => by
    rw [be, gt_cons, gt_be n k, be_len, UInt8.toNat_ofNat', show 8 * (k + 1) = 8 * k + 8 from by omega, Nat.pow_add, Nat.mod_mul, Nat.add_comm]
    congr 1
    exact Nat.mul_comm _ _
theorem gt_take_le (l : List UInt8) (i : Nat) : gt (l.take i) ≤ gt l := by
  have h : ∀ A B : List UInt8, gt A ≤ gt (A ++ B) := fun A B => by
    have e : gt (A ++ B) = gt A * 2 ^ (8 * B.length) + gt B := by
      show List.foldl _ 0 (A ++ B) = _
      rw [List.foldl_append]
      exact gt_go B _
    rw [e]
    exact Nat.le_trans (Nat.le_mul_of_pos_right _ (Nat.two_pow_pos _)) (Nat.le_add_right _ _)
  have := h (l.take i) (l.drop i)
  rwa [List.take_append_drop] at this
theorem or_add (n c : Nat) (hn : 256 * n + c < 9223372036854775808) (hc : c < 256) : bits .or .i64 (((256 * n : Nat)) : Int) (c : Int) = ((256 * n + c : Nat) : Int) := by
  have h1 : (BitVec.ofInt 64 ((256 * n : Nat) : Int) ||| BitVec.ofInt 64 (c : Int)).toNat = 256 * n + c := by
    rw [BitVec.toNat_or, BitVec.toNat_ofInt, BitVec.toNat_ofInt]
    have e2 : ((2 ^ 64 : Nat) : Int) = 18446744073709551616 := rfl
    rw [e2, show (((256 * n : Nat) : Int) % 18446744073709551616).toNat = 256 * n from by omega, show ((c : Int) % 18446744073709551616).toNat = c from by omega]
    exact (Nat.two_pow_add_eq_or_of_lt (i := 8) hc n).symm
  show IntKind.i64.wrap ((BitVec.ofInt 64 ((256 * n : Nat) : Int) ||| BitVec.ofInt 64 (c : Int)).toNat : Int) = _
  rw [h1, IntKind.wrap_i64]
  omega
/-- May bytes be a number's? -/
def numOk (l : List UInt8) : Prop := 1 ≤ l.length ∧ l.length ≤ 8 ∧ (l.length = 8 → (l.getD 0 0).toNat < 128)
instance (l : List UInt8) : Decidable (numOk l) := by unfold numOk; infer_instance
theorem numOk_lt {l : List UInt8} (h : numOk l) : gt l < 9223372036854775808 := by
  obtain ⟨h1, h2, h3⟩ := h
  by_cases h8 : l.length = 8
  · match l, h8 with
    | c :: l, h8 =>
      have hc := h3 h8
      simp only [List.getD_cons_zero] at hc
      have hl : l.length = 7 := by simpa using h8
      have := gt_lt l
      rw [gt_cons, hl]
      rw [hl] at this
      omega
  · have := gt_lt l
    have h2 : (2 : Nat) ^ (8 * l.length) ≤ 2 ^ 56 := Nat.pow_le_pow_right (by omega) (by omega)
    have : gt l < 2 ^ 56 := by omega
    omega

theorem w64c (a : UInt8) : wrap64 ((a.toNat : Nat) : Int) = ((a.toNat : Nat) : Int) := by
  have := a.toNat_lt
  unfold wrap64
  omega
set_option maxHeartbeats 3200000 in
theorem get_yes (s : ByteArray) (h : numOk s.data.toList) (w : World) : Calls Tryd.prog 63 #[.string s] w fun e w' => e = .returned (.tuple #[.int .i64 ((gt s.data.toList : Nat) : Int), .int .i64 0]) ∧ w = w' := by
  have hlt := numOk_lt h
  obtain ⟨h1, h2, h3⟩ := h
  obtain ⟨l, hl⟩ : ∃ l, l = s.data.toList := ⟨_, rfl⟩
  have hn : s.size = l.length := by rw [hl]; simp
  have hidx : ∀ (i : Nat) (c : UInt8), l[i]? = some c → ∀ W, (Instr.index 9 (.string s) (.int .i64 (i : Int))).run Tryd.prog W = .ok (.int .u8 ((c.toNat : Nat) : Int)) W := fun i c h => str_idx s i c (by rw [← hl]; exact h)
  obtain ⟨c0, hc0⟩ : ∃ c, l[0]? = some c := ⟨_, List.getElem?_eq_getElem (by rw [hl]; omega)⟩
  have hx0 : ∀ W, (Instr.index 9 (.string s) (.int .i64 0)).run Tryd.prog W = .ok (.int .u8 ((c0.toNat : Nat) : Int)) W := hidx 0 c0 hc0
  have hcl : s.size = 8 → ¬ 127 < ((c0.toNat : Nat) : Int) := fun h8 => by
    have := h3 (by rw [← hl, ← hn]; exact h8)
    rw [← hl, List.getD_eq_getElem?_getD, hc0] at this
    simp at this
    omega
  have hne3 : ¬ s.toList = [] := by
    rw [ByteArray.toList_eq, ← hl]
    intro h
    rw [h] at hc0
    cases hc0
  rw [← hl] at hlt h1 h2 ⊢
  have HIX := Lib.hid hidx
  have hsz : (s.size : Int) = ((l.length : Nat) : Int) := by omega
  obtain ⟨n, hnn⟩ : ∃ n, n = l.length := ⟨_, rfl⟩
  rw [← hnn] at hsz h1 h2
  have HN := Lib.hid hnn
  clear hl hidx hc0 h3 hnn
  have hne4 : (s.toList == []) = false := by simpa using hne3
  have hne5 : s.toList.isEmpty = false := by
    cases h : s.toList with
    | nil => exact absurd h hne3
    | cons a b => rfl
  have hn0 : ¬ (8 : Int) < (n : Int) := by omega
  have HS8 : Hid ((n : Int) = 8 → ¬ (127 : Int) < ((c0.toNat : Nat) : Int)) := Lib.hid fun h => hcl (by omega)
  clear hcl
  by_cases h8 : (n : Int) = 8
  · have h9 := HS8.out h8
    have h10 : ((n : Int) == 8) = true := by simp [h8]
    go_enter Tryd.func63, Tryd.ntmps63
    go_wp2_with fail
    clear hx0 hne3 hne4 hne5
    go_loopw [4, 25] (fun nv c wr => ∃ i : Nat, i ≤ n ∧ c = .int .i64 (i : Int) ∧ nv = .int .i64 ((gt (l.take i) : Nat) : Int) ∧ w = wr) (fun _ c _ => n - (intOf c).toNat)
    case atStart => exact ⟨0, by omega, rfl, rfl, rfl⟩
    case round =>
      obtain ⟨i, hi, rfl, rfl, rfl⟩ := hrel
      by_cases hlt2 : i < n
      · have hil : (i : Int) < (n : Int) := by omega
        obtain ⟨c, hc⟩ : ∃ c, l[i]? = some c := ⟨_, List.getElem?_eq_getElem (by rw [← HN.out]; exact hlt2)⟩
        have hix := HIX.out i c hc
        have hT : gt (l.take (i + 1)) = 256 * gt (l.take i) + c.toNat := by
          rw [List.take_add_one, hc]
          exact gt_snoc _ _
        have hle := gt_take_le l (i + 1)
        obtain ⟨m, hm⟩ : ∃ m, m = gt (l.take i) := ⟨_, rfl⟩
        rw [← hm] at hT ⊢
        rw [hT] at hle
        have hcl := c.toNat_lt
        have hor := or_add m c.toNat (by omega) hcl
        have hsh : (m : Int) * 256 = ((256 * m : Nat) : Int) := by omega
        have hsw : wrap64 ((256 * m : Nat) : Int) = ((256 * m : Nat) : Int) := by unfold wrap64; omega
        have hcw := w64c c
        obtain ⟨q, hq⟩ : ∃ q, q = 256 * m := ⟨_, rfl⟩
        rw [← hq] at hor hsh hsw hT hle
        obtain ⟨r, hr⟩ : ∃ r, r = q + c.toNat := ⟨_, rfl⟩
        rw [← hr] at hor hT
        have HT := Lib.hid hT
        clear hT hm hq hr hc
        go_wp2_with fail
        exact ⟨⟨i + 1, by omega, by go_num, by rw [HT.out], by first | trivial | rfl⟩, by simp [intOf]; omega⟩
      · have hi2 : i = n := by omega
        subst hi2
        rw [List.take_of_length_le (by rw [← HN.out]; exact Nat.le_refl _)]
        go_wp2_with fail
        go_ret2
        exact ⟨rfl, rfl⟩
  · have h10 : ((n : Int) == 8) = false := by simpa using h8
    go_enter Tryd.func63, Tryd.ntmps63
    go_wp2_with fail
    clear hx0 hne3 hne4 hne5
    go_loopw [4, 25] (fun nv c wr => ∃ i : Nat, i ≤ n ∧ c = .int .i64 (i : Int) ∧ nv = .int .i64 ((gt (l.take i) : Nat) : Int) ∧ w = wr) (fun _ c _ => n - (intOf c).toNat)
    case atStart => exact ⟨0, by omega, rfl, rfl, rfl⟩
    case round =>
      obtain ⟨i, hi, rfl, rfl, rfl⟩ := hrel
      by_cases hlt2 : i < n
      · have hil : (i : Int) < (n : Int) := by omega
        obtain ⟨c, hc⟩ : ∃ c, l[i]? = some c := ⟨_, List.getElem?_eq_getElem (by rw [← HN.out]; exact hlt2)⟩
        have hix := HIX.out i c hc
        have hT : gt (l.take (i + 1)) = 256 * gt (l.take i) + c.toNat := by
          rw [List.take_add_one, hc]
          exact gt_snoc _ _
        have hle := gt_take_le l (i + 1)
        obtain ⟨m, hm⟩ : ∃ m, m = gt (l.take i) := ⟨_, rfl⟩
        rw [← hm] at hT ⊢
        rw [hT] at hle
        have hcl := c.toNat_lt
        have hor := or_add m c.toNat (by omega) hcl
        have hsh : (m : Int) * 256 = ((256 * m : Nat) : Int) := by omega
        have hsw : wrap64 ((256 * m : Nat) : Int) = ((256 * m : Nat) : Int) := by unfold wrap64; omega
        have hcw := w64c c
        obtain ⟨q, hq⟩ : ∃ q, q = 256 * m := ⟨_, rfl⟩
        rw [← hq] at hor hsh hsw hT hle
        obtain ⟨r, hr⟩ : ∃ r, r = q + c.toNat := ⟨_, rfl⟩
        rw [← hr] at hor hT
        have HT := Lib.hid hT
        clear hT hm hq hr hc
        go_wp2_with fail
        exact ⟨⟨i + 1, by omega, by go_num, by rw [HT.out], by first | trivial | rfl⟩, by simp [intOf]; omega⟩
      · have hi2 : i = n := by omega
        subst hi2
        rw [List.take_of_length_le (by rw [← HN.out]; exact Nat.le_refl _)]
        go_wp2_with fail
        go_ret2
        exact ⟨rfl, rfl⟩
end Go.Proofs.YtdpfcjhhabcheaaDoor

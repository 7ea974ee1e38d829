/-
  The contracts of package same: Choose, Less, Equal; Noughts of the reference; chapter 7's examples. No condition. Own work.
-/
import Derived.Test.YtdjlagjdbehafaaSame
import Derived.Test.YtdjlagjdbehafaaBytes
import Derived.Test.YtdjlagjdbehafaaText
namespace Go.Proofs.Ytdjlagjdbehafaa
open Go.RowKit

set_option maxHeartbeats 400000 in
theorem equal_any (a b : ByteArray) (ha : a.size ≤ maxLen) (hb : b.size ≤ maxLen) (w : World) :
    Calls Try.prog 36 #[.string a, .string b] w fun e w' => e = .returned (.bool (decide (a.data.toList = b.data.toList))) ∧ Below w.heap.size w w' := by
  have hb := bit_any a b ha hb
  by_cases h : a.data.toList = b.data.toList
  · rw [num, if_pos h] at hb
    have HB := Lib.hid hb
    rw [decide_eq_true h]
    clear hb ha h
    go_enter Try.func36, Try.ntmps36
    go_wp2_with (go_at_call 35; refine (HB.out _).mono ?_; rintro e w1 ⟨rfl, hb1⟩)
    go_ret
    exact ⟨rfl, hb1⟩
  · rw [num, if_neg h] at hb
    have HB := Lib.hid hb
    rw [decide_eq_false h]
    clear hb ha h
    go_enter Try.func36, Try.ntmps36
    go_wp2_with (go_at_call 35; refine (HB.out _).mono ?_; rintro e w1 ⟨rfl, hb1⟩)
    go_ret
    exact ⟨rfl, hb1⟩

/-! ### Choose -/
set_option maxHeartbeats 1600000 in
theorem choose_eq (m : Int) (hm : m = 0 ∨ m = 255) (bit : Int) (hbit : bits .and .i64 bit 1 = if m = 0 then 0 else 1) (a b : ByteArray) (ha : a.size ≤ 70368744177664) (hab : a.size = b.size) (w : World) :
    Calls Try.prog 30 #[.int .i64 bit, .string a, .string b] w fun e w' => e = .returned (.string (if m = 0 then b else a)) ∧ Below w.heap.size w w' := by
  obtain ⟨i0, hi, iz0, iz1, iz2⟩ := info_parts byte_info
  have hmk := fun W => run_make_bytes (P := Try.prog) 64 5 i0 Try.underlying64 hi iz0 iz1 iz2 a.size (by omega) W
  obtain ⟨R, hR⟩ : ∃ R : ByteArray, R = if m = 0 then b else a := ⟨_, rfl⟩
  have hRs : R.size = a.size := by rw [hR]; split <;> omega
  have hRk : ∀ k (h1 : k < a.size) (h2 : k < b.size), bits .or .u8 (bits .and .u8 ((a[k].toNat : Nat) : Int) m) (bits .andNot .u8 ((b[k].toNat : Nat) : Int) m) = ((R.data.toList.getD k 0).toNat : Nat) := by
    intro k h1 h2
    have e : R.data.toList.getD k 0 = if m = 0 then b[k] else a[k] := by
      rw [hR]
      rcases hm with h | h
      · rw [if_pos h, if_pos h, List.getD_eq_getElem?_getD, List.getElem?_eq_getElem (by simpa using h2)]; rfl
      · rw [if_neg (by omega), if_neg (by omega), List.getD_eq_getElem?_getD, List.getElem?_eq_getElem (by simpa using h1)]; rfl
    rw [e]
    rcases hm with rfl | rfl
    · rw [u8_and0, u8_andNot0, u8_0or]; rfl
    · rw [u8_and255, u8_andNot255, u8_or0]; rfl
  rw [← hR]
  have HM : Hid (bits .and .i64 bit 1 = if m = 0 then 0 else 1) := Lib.hid hbit
  have hne : ((a.size : Int) == b.size) = true := by simp [hab]
  have HAB := Lib.hid hab
  have HRK := Lib.hid hRk
  have HRS := Lib.hid hRs
  clear hR hRs hRk hab hbit hi iz0 iz1 iz2
  rcases hm with rfl | rfl
  all_goals
    have hbit := HM.out
    simp only [if_true, show ((255 : Int) = 0) = False from by simp, if_false] at hbit
    go_enter Try.func30, Try.ntmps30
    go_wp2_with fail
    try rw [show (-1 : Int) % 256 = 255 from rfl]
    go_loopw [24] (fun c wr => ∃ k : Nat, k ≤ a.size ∧ c = .int .i64 k ∧ Filled wr w.heap.size 5 a.size R.data.toList (· < k) ∧ Below w.heap.size w wr) (fun c _ => a.size - (intOf c).toNat)
    case atStart => exact ⟨0, Nat.zero_le _, rfl, by have := Filled.start w 5 (madeCells #[.int .u8 0] a.size) R.data.toList (D := (· < 0)) (fun j => Nat.not_lt_zero j); rw [size_made] at this; exact this, bnew _ _⟩
    case round =>
      obtain ⟨k, hk, rfl, hF, hB⟩ := hrel
      clear hmk hbit
      by_cases hlt : k < a.size
      · have hlb : k < b.size := by rw [← HAB.out]; exact hlt
        have hrk := HRK.out k hlt hlb
        obtain ⟨x, hx⟩ : ∃ x, x = R.data.toList.getD k 0 := ⟨_, rfl⟩
        have hRx : R.data.toList[k]? = some x := by
          rw [hx, List.getD_eq_getElem?_getD, List.getElem?_eq_getElem (by have := HRS.out; simpa [this] using hlt)]; rfl
        rw [← hx] at hrk
        obtain ⟨v, hv⟩ := hF.cell hlt
        have hfz := hF.frozen k
        have HF := Lib.hid hF
        have HRX := Lib.hid hRx
        clear hx hF hRx
        go_wp2_with fail
        refine wp_region_tailN 14 (fun w' => wr.drew = w') (by kernel_rfl) (by kernel_rfl) (by kernel_rfl) rfl ?_
        simp only [List.take_succ_cons, List.take_zero, List.drop_succ_cons, List.drop_zero]
        repeat (first
          | (refine text_skip (by rfl) ?_; simp only [Act.put, List.setIfInBounds_toArray, List.set_cons_zero, List.set_cons_succ])
          | (refine text_pure (v := ?_) (by rfl) (fun wx hS => ?_) ?_; rotate_left; (go_simp; with_reducible exact rfl); simp only [Act.put, List.setIfInBounds_toArray, List.set_cons_zero, List.set_cons_succ]))
        refine text_nil (fun wx hS => ?_)
        subst hS
        go_wp2_with fail
        go_roundw
        case rel => exact ⟨k + 1, by omega, by go_num, HF.out.set hlt HRX.out (fun j hj => by omega), hB.drew.setCell (Nat.le_refl _) _⟩
        case measure => simp [intOf]; omega
      · have hka : k = a.size := by omega
        have hcv := hF.str (P := Try.prog) (fun j hj => by omega) (by simpa using HRS.out) a.size 64 5 9 Try.underlying64 Try.underlying5 Try.underlying9
        rw [show (⟨R.data.toList.toArray⟩ : ByteArray) = R from by simp] at hcv
        subst hka
        go_wp2_with fail
        go_ret
        exact ⟨rfl, hB⟩

set_option maxHeartbeats 400000 in
theorem choose_ne (bit : Int) (a b : ByteArray) (_ha : a.size ≤ 70368744177664) (_hb : b.size ≤ 70368744177664) (hab : a.size ≠ b.size) (w : World) :
    Calls Try.prog 30 #[.int .i64 bit, .string a, .string b] w fun e w' => e = .returned (.string ⟨#[]⟩) ∧ w = w' := by
  have hne : ((a.size : Int) == b.size) = false := by simp; omega
  clear hab
  go_enter Try.func30, Try.ntmps30
  go_wp2_with fail
  go_ret
  exact ⟨rfl, rfl⟩

/-- What is chosen. -/
def chooseV (bit : Int) (a b : ByteArray) : ByteArray := if a.size = b.size then (if bit % 2 = 0 then b else a) else ⟨#[]⟩
theorem choose_any (bit : Int) (a b : ByteArray) (ha : a.size ≤ 70368744177664) (hb : b.size ≤ 70368744177664) (w : World) :
    Calls Try.prog 30 #[.int .i64 bit, .string a, .string b] w fun e w' => e = .returned (.string (chooseV bit a b)) ∧ Below w.heap.size w w' := by
  by_cases hab : a.size = b.size
  · rw [chooseV, if_pos hab]
    by_cases h : bit % 2 = 0
    · have := choose_eq 0 (.inl rfl) bit (by rw [and1_i64, h]; rfl) a b ha hab w
      rw [if_pos h]
      simpa using this
    · have := choose_eq 255 (.inr rfl) bit (by rw [and1_i64]; have : bit % 2 = 1 := by omega
                                               rw [this]; rfl) a b ha hab w
      rw [if_neg h]
      simpa using this
  · rw [chooseV, if_neg hab]
    exact (choose_ne bit a b ha hb hab w).mono fun e w' ⟨he, hw⟩ => ⟨he, hw ▸ Below.refl _ _⟩

/-! ### Less -/
theorem bytesLess_irrefl : ∀ A : List UInt8, Op.bytesLess A A = false
  | [] => rfl
  | x :: A => by simp [Op.bytesLess, bytesLess_irrefl A]
theorem bytesLess_snoc : ∀ (A B : List UInt8) (x y : UInt8), A.length = B.length → Op.bytesLess (A ++ [x]) (B ++ [y]) = (Op.bytesLess A B || (decide (A = B) && decide (x < y)))
  | [], [], x, y, _ => by simp [Op.bytesLess]
  | u :: A, v :: B, x, y, h => by
    have ih := bytesLess_snoc A B x y (by simpa using h)
    simp only [List.cons_append, Op.bytesLess, ih]
    by_cases huv : u = v
    · subst huv
      simp
    · have hf : (u == v) = false := by simp [huv]
      by_cases hlt : u < v <;> simp [huv, hlt, hf]

theorem num_congr {p q : Prop} [Decidable p] [Decidable q] (h : p ↔ q) : num p = num q := by
  unfold num
  by_cases hp : p
  · rw [if_pos hp, if_pos (h.1 hp)]
  · rw [if_neg hp, if_neg (fun hq => hp (h.2 hq))]
theorem bits_and_num (p q : Prop) [Decidable p] [Decidable q] : bits .and .i64 (num p) (num q) = num (p ∧ q) := by
  unfold num
  by_cases hp : p <;> by_cases hq : q <;> simp only [hp, hq, if_true, if_false, and_self, and_false, false_and] <;> rfl
theorem bits_or_num (p q : Prop) [Decidable p] [Decidable q] : bits .or .i64 (num p) (num q) = num (p ∨ q) := by
  unfold num
  by_cases hp : p <;> by_cases hq : q <;> simp only [hp, hq, if_true, if_false, or_self, or_false, or_true] <;> rfl
theorem less_bit (x y : UInt8) : bits .and .i64 ((((x.toNat : Nat) : Int) - ((y.toNat : Nat) : Int)) / 256) 1 = num (x < y) := by
  have hx := x.toNat_lt
  have hy := y.toNat_lt
  rw [and1_i64]
  unfold num
  by_cases h : x < y
  · rw [if_pos h]
    have : x.toNat < y.toNat := h
    omega
  · rw [if_neg h]
    have : ¬ x.toNat < y.toNat := h
    omega

set_option maxHeartbeats 1600000 in
theorem less_eq (a b : ByteArray) (ha : a.size ≤ 70368744177664) (hab : a.size = b.size) (w : World) :
    Calls Try.prog 34 #[.string a, .string b] w fun e w' => e = .returned (.int .i64 (num (Op.bytesLess a.data.toList b.data.toList = true))) ∧ Below w.heap.size w w' := by
  have hne : ((a.size : Int) == b.size) = true := by simp [hab]
  have HAB := Lib.hid hab
  clear hab
  go_enter Try.func34, Try.ntmps34
  go_wp2_with fail
  go_loopw [5, 6, 17] (fun l o c wr => ∃ k : Nat, k ≤ a.size ∧ c = .int .i64 k ∧ l = .int .i64 (num (Op.bytesLess (a.data.toList.take k) (b.data.toList.take k) = true)) ∧ o = .int .i64 (num (a.data.toList.take k = b.data.toList.take k)) ∧ Below w.heap.size w wr) (fun _ _ c _ => a.size - (intOf c).toNat)
  case atStart => exact ⟨0, Nat.zero_le _, rfl, rfl, rfl, Below.refl _ _⟩
  case round =>
    obtain ⟨k, hk, rfl, rfl, rfl, hB⟩ := hrel
    by_cases hlt : k < a.size
    · have hlb : k < b.size := by rw [← HAB.out]; exact hlt
      have hta := take_snocB a.data.toList k (by simpa using hlt)
      have htb := take_snocB b.data.toList k (by simpa using hlb)
      obtain ⟨x, hx⟩ : ∃ x, x = a[k] := ⟨_, rfl⟩
      obtain ⟨y, hy⟩ : ∃ y, y = b[k] := ⟨_, rfl⟩
      have hl1 : (a.data.toList.take k).length = (b.data.toList.take k).length := by simp; omega
      have hta' : a.data.toList.take (k + 1) = a.data.toList.take k ++ [x] := by rw [hta, hx]; rfl
      have htb' : b.data.toList.take (k + 1) = b.data.toList.take k ++ [y] := by rw [htb, hy]; rfl
      have g1 := less_bit x y
      have g2 := bits_and_num (a.data.toList.take k = b.data.toList.take k) (x < y)
      have g3 : bits .or .i64 (num (Op.bytesLess (a.data.toList.take k) (b.data.toList.take k) = true)) (num (a.data.toList.take k = b.data.toList.take k ∧ x < y)) = num (Op.bytesLess (a.data.toList.take (k + 1)) (b.data.toList.take (k + 1)) = true) := by
        rw [bits_or_num, hta', htb', bytesLess_snoc _ _ _ _ hl1]
        exact num_congr (by simp)
      have g4 : bits .and .i64 (num (a.data.toList.take k = b.data.toList.take k)) (num (x = y)) = num (a.data.toList.take (k + 1) = b.data.toList.take (k + 1)) := by
        rw [bits_and_num, hta', htb']
        refine num_congr ⟨fun h => by rw [h.1, h.2], fun h => ?_⟩
        have := List.append_inj h hl1
        exact ⟨this.1, by simpa using this.2⟩
      have hx1 := u8_xor_nat x.toNat y.toNat x.toNat_lt y.toNat_lt
      rw [← UInt8.toNat_xor] at hx1
      have hn := nought_any (x ^^^ y).toNat (x ^^^ y).toNat_lt
      have hnz : (if (x ^^^ y).toNat = 0 then (1 : Int) else 0) = num (x = y) := by
        unfold num
        by_cases h : x = y
        · rw [if_pos h, if_pos (by rw [(xor_zero x y).2 h]; rfl)]
        · rw [if_neg h, if_neg (fun h0 : (x ^^^ y).toNat = 0 => h ((xor_zero x y).1 (UInt8.toNat_inj.1 (show (x ^^^ y).toNat = (0 : UInt8).toNat from h0))))]
      rw [hnz] at hn
      have b1 := num_bd (a.data.toList.take k = b.data.toList.take k)
      have b2 := num_bd (x < y)
      have b3 := num_bd (x = y)
      have hrel' : ∀ wr', Below w.heap.size w wr' → ∃ k' : Nat, k' ≤ a.size ∧ Value.int .i64 ((k : Int) + 1) = .int .i64 k' ∧ Value.int .i64 (num (Op.bytesLess (a.data.toList.take (k + 1)) (b.data.toList.take (k + 1)) = true)) = .int .i64 (num (Op.bytesLess (a.data.toList.take k') (b.data.toList.take k') = true)) ∧
          Value.int .i64 (num (a.data.toList.take (k + 1) = b.data.toList.take (k + 1))) = .int .i64 (num (a.data.toList.take k' = b.data.toList.take k')) ∧ Below w.heap.size w wr' := fun wr' h => ⟨k + 1, by omega, by go_num, rfl, rfl, h⟩
      generalize num (Op.bytesLess (a.data.toList.take (k + 1)) (b.data.toList.take (k + 1)) = true) = l' at *
      generalize num (a.data.toList.take (k + 1) = b.data.toList.take (k + 1)) = o' at *
      generalize num (a.data.toList.take k = b.data.toList.take k ∧ x < y) = ot at *
      generalize num (Op.bytesLess (a.data.toList.take k) (b.data.toList.take k) = true) = l at *
      generalize num (a.data.toList.take k = b.data.toList.take k) = o at *
      generalize num (x < y) = t at *
      generalize num (x = y) = z at *
      generalize (x ^^^ y).toNat = xy at *
      have HN := Lib.hid hn
      have HREL := Lib.hid hrel'
      have HX := Lib.hid hx
      have HY := Lib.hid hy
      obtain ⟨b1, b1'⟩ := b1
      obtain ⟨b2, b2'⟩ := b2
      obtain ⟨b3, b3'⟩ := b3
      have i1 : ∀ W, (Instr.index 9 (.string a) (.int .i64 (k : Int))).run Try.prog W = .ok (.int .u8 ((x.toNat : Nat) : Int)) W := by intro W; simp [go_sem, hlt, hx]
      have i2 : ∀ W, (Instr.index 9 (.string b) (.int .i64 (k : Int))).run Try.prog W = .ok (.int .u8 ((y.toNat : Nat) : Int)) W := by intro W; simp [go_sem, hlb, hy]
      have x1 := x.toNat_lt
      have y1 := y.toNat_lt
      clear hta htb hta' htb' hl1 hn hnz hrel' hx hy
      go_wp2_with fail
      refine wp_region_txt (fun w' => wr.drew = w') (by kernel_rfl) (by kernel_rfl) rfl ?_
      repeat (first
        | (refine text_skip (by rfl) ?_; simp only [Act.put, List.setIfInBounds_toArray, List.set_cons_zero, List.set_cons_succ])
        | (refine text_pure (v := ?_) (by rfl) (fun wx hS => ?_) ?_; rotate_left; (go_simp; with_reducible exact rfl); simp only [Act.put, List.setIfInBounds_toArray, List.set_cons_zero, List.set_cons_succ]))
      refine text_nil (fun wx hS => ?_)
      subst hS
      go_wp2_with fail
      refine wp_region_txt (fun w' => wr.drew.drew = w') (by kernel_rfl) (by kernel_rfl) rfl ?_
      repeat (first
        | (refine text_skip (by rfl) ?_; simp only [Act.put, List.setIfInBounds_toArray, List.set_cons_zero, List.set_cons_succ])
        | (refine text_pure (v := ?_) (by rfl) (fun wx hS => ?_) ?_; rotate_left; (go_simp; with_reducible exact rfl); simp only [Act.put, List.setIfInBounds_toArray, List.set_cons_zero, List.set_cons_succ])
        | (refine text_call (v := ?_) (f := ?_) (args := ?_) (by rfl) (fun wx hS => ?_) (fun wx hS => ?_) ?_; rotate_left 3; (go_simp; constructor <;> with_reducible rfl)
           (first
             | with_reducible exact meetsEq HN.out wx hS)
           simp only [Act.put, List.setIfInBounds_toArray, List.set_cons_zero, List.set_cons_succ]))
      refine text_nil (fun wx hS => ?_)
      subst hS
      go_wp2_with fail
      go_roundw
      case rel => exact HREL.out _ hB.drew.drew
      case measure => simp [intOf]; omega
    · have hka : k = a.size := by omega
      have e1 : a.data.toList.take k = a.data.toList := List.take_of_length_le (by simp; omega)
      have e2 : b.data.toList.take k = b.data.toList := List.take_of_length_le (by have := HAB.out; simp; omega)
      rw [e1, e2]
      clear e1 e2
      go_wp2_with fail
      go_ret
      exact ⟨rfl, hB⟩

theorem less_any (a b : ByteArray) (ha : a.size ≤ 70368744177664) (_hb : b.size ≤ 70368744177664) (w : World) :
    Calls Try.prog 34 #[.string a, .string b] w fun e w' => e = .returned (.int .i64 (num (a.size = b.size ∧ Op.bytesLess a.data.toList b.data.toList = true))) ∧ Below w.heap.size w w' := by
  by_cases hab : a.size = b.size
  · rw [num_congr (show (a.size = b.size ∧ Op.bytesLess a.data.toList b.data.toList = true) ↔ Op.bytesLess a.data.toList b.data.toList = true from ⟨fun h => h.2, fun h => ⟨hab, h⟩⟩)]
    exact less_eq a b ha hab w
  · have hf : num (a.size = b.size ∧ Op.bytesLess a.data.toList b.data.toList = true) = 0 := if_neg (fun h => hab h.1)
    rw [hf]
    have hne : ((a.size : Int) == b.size) = false := by simp; omega
    clear hab hf
    go_enter Try.func34, Try.ntmps34
    go_wp2_with fail
    go_ret
    exact ⟨rfl, Below.refl _ _⟩

set_option maxHeartbeats 400000 in
theorem number_any (c : Bool) (w : World) : Calls Try.prog 32 #[.bool c] w fun e w' => e = .returned (.int .i64 (num (c = true))) ∧ w = w' := by
  cases c
  all_goals
    go_enter Try.func32, Try.ntmps32
    go_wp2_with fail
    go_ret
    exact ⟨rfl, rfl⟩

set_option maxHeartbeats 400000 in
theorem noughts_any (n : Nat) (hn : n ≤ 70368744177664) (w : World) :
    Calls Try.prog 33 #[.int .i64 (n : Int)] w fun e w' => e = .returned (.string ⟨(List.replicate n (0 : UInt8)).toArray⟩) ∧ Below w.heap.size w w' := by
  by_cases h0 : n = 0
  · subst h0
    go_enter Try.func33, Try.ntmps33
    go_wp2_with fail
    go_ret
    exact ⟨rfl, Below.refl _ _⟩
  · have h1 : 1 ≤ n := by omega
    obtain ⟨i0, hi, iz0, iz1, iz2⟩ := info_parts byte_info
    have hmk := fun W => run_make_bytes (P := Try.prog) 64 5 i0 Try.underlying64 hi iz0 iz1 iz2 n (by omega) W
    have hF : Filled (w.alloc (.cells (madeCells #[.int .u8 0] n) 5)) w.heap.size 5 n (List.replicate n 0) (fun _ => True) := by
      refine ⟨madeCells #[.int .u8 0] n, heap_alloc_new w _, size_made _ _, fun j c _ hj => ?_⟩
      rw [List.getElem?_replicate] at hj
      by_cases hjn : j < n
      · rw [if_pos hjn] at hj
        injection hj with hj
        subst hj
        simp [madeCells, hjn, Nat.mod_one]
      · rw [if_neg hjn] at hj; cases hj
    have hcv := hF.str (P := Try.prog) (fun j hj => trivial) (by simp) n 64 5 9 Try.underlying64 Try.underlying5 Try.underlying9
    generalize (⟨(List.replicate n (0 : UInt8)).toArray⟩ : ByteArray) = s at *
    clear hF hi h0 iz0 iz1 iz2
    go_enter Try.func33, Try.ntmps33
    go_wp2_with fail
    go_ret
    exact ⟨rfl, bnew _ _⟩

end Go.Proofs.Ytdjlagjdbehafaa

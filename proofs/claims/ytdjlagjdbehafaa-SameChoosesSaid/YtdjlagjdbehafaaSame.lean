/-
  The contracts of package same. No condition. Own work.
-/
import Derived.Test.YtdjlagjdbehafaaRows
import Derived.Test.YtdjlagjdbehafaaBase
import Derived.Test.YtdjlagjdbehafaaText
namespace Go.Proofs.Ytdjlagjdbehafaa
open Go.RowKit

/-- One of two bytes' bits. -/
def orL (L : List UInt8) : Nat := L.foldl (fun n c => n ||| c.toNat) 0
theorem orL_snoc (L : List UInt8) (c : UInt8) : orL (L ++ [c]) = orL L ||| c.toNat := by simp [orL]
theorem orL_lt (L : List UInt8) : orL L < 256 := by
  have : ∀ (L : List UInt8) (n : Nat), n < 256 → L.foldl (fun n c => n ||| c.toNat) n < 256 := by
    intro L
    induction L with
    | nil => exact fun n h => h
    | cons c L ih => exact fun n h => ih _ (Nat.or_lt_two_pow (n := 8) h c.toNat_lt)
  exact this L 0 (by omega)
theorem orL_zero (L : List UInt8) : orL L = 0 ↔ ∀ c ∈ L, c = 0 := by
  have : ∀ (L : List UInt8) (n : Nat), L.foldl (fun n c => n ||| c.toNat) n = 0 ↔ n = 0 ∧ ∀ c ∈ L, c = 0 := by
    intro L
    induction L with
    | nil => intro n; simp
    | cons c L ih =>
      intro n
      rw [List.foldl_cons, ih, Nat.or_eq_zero_iff]
      simp only [List.mem_cons, forall_eq_or_imp]
      constructor
      · rintro ⟨⟨h1, h2⟩, h3⟩
        exact ⟨h1, UInt8.toNat_inj.1 h2, h3⟩
      · rintro ⟨h1, rfl, h3⟩
        exact ⟨⟨h1, rfl⟩, h3⟩
  rw [orL, this]
  simp
theorem take_snocB (L : List UInt8) (k : Nat) (h : k < L.length) : L.take (k + 1) = L.take k ++ [L[k]] := by
  rw [List.take_add_one, List.getElem?_eq_getElem h]; rfl

set_option maxHeartbeats 400000 in
theorem nought_any (x : Nat) (h1 : x < 256) (w : World) : Calls Try.prog 43 #[.int .u8 (x : Int)] w fun e w' => e = .returned (.int .i64 (if x = 0 then 1 else 0)) ∧ w = w' := by
  by_cases h : x = 0
  · subst h
    go_enter Try.func43, Try.ntmps43
    go_wp2
    go_ret
    exact ⟨rfl, rfl⟩
  · have h0 : 1 ≤ x := by omega
    rw [if_neg h]
    go_enter Try.func43, Try.ntmps43
    go_wp2
    go_ret
    exact ⟨ret_i64 (by rw [show ((x : Int) - 1) / 256 = 0 from by omega]; rfl), rfl⟩

set_option maxHeartbeats 400000 in
theorem any1 (s : ByteArray) (i g : Nat) (hi : i < s.size) (w : World) (hc : w.cell? ⟨g, 0, none⟩ = some (.string s)) :
    Calls Try.prog 45 #[.int .i64 (i : Int), .pointer (some ⟨g, 0, none⟩)] w fun e w' => e = .returned (.int .u8 ((s[i].toNat : Nat) : Int)) ∧ w = w' := by
  go_enter Try.func45, Try.ntmps45
  go_wp2
  go_ret
  exact ⟨rfl, rfl⟩

set_option maxHeartbeats 800000 in
theorem gather_any (s : ByteArray) (hs : s.size ≤ maxLen) (g : Nat) (w : World) (hc : w.cell? ⟨g, 0, none⟩ = some (.string s)) :
    Calls Try.prog 44 #[.int .i64 (s.size : Int), .func (.func 45) #[] #[.pointer (some ⟨g, 0, none⟩)]] w fun e w' => e = .returned (.int .u8 ((orL s.data.toList : Nat) : Int)) ∧ w = w' := by
  unfold maxLen at hs
  go_enter Try.func44, Try.ntmps44
  go_wp2_with fail
  go_loop [5, 8] (fun a c => ∃ k : Nat, k ≤ s.size ∧ c = .int .i64 k ∧ a = .int .u8 ((orL (s.data.toList.take k) : Nat) : Int)) (fun _ c => s.size - (intOf c).toNat)
  case atStart => exact ⟨0, Nat.zero_le _, rfl, rfl⟩
  case round =>
    obtain ⟨k, hk, rfl, rfl⟩ := hrel
    by_cases hlt : k < s.size
    · have hts := take_snocB s.data.toList k (by simpa using hlt)
      have hor := u8_or_nat (orL (s.data.toList.take k)) (s[k].toNat) (orL_lt _) s[k].toNat_lt
      have hq : orL (s.data.toList.take (k + 1)) = orL (s.data.toList.take k) ||| s[k].toNat := by rw [hts, orL_snoc]; rfl
      rw [← hq] at hor
      have HO := Lib.hid hor
      clear hts hor hq
      go_wp2_with (go_at_call 45; refine (any1 s k g hlt _ hc).mono ?_; rintro e w' ⟨rfl, rfl⟩)
      exact ⟨⟨k + 1, by omega, by go_num, by rw [HO.out]⟩, by simp [intOf]; omega⟩
    · have : k = s.size := by omega
      subst this
      go_wp2_with fail
      go_ret
      exact ⟨by rw [List.take_of_length_le (by simp)]; rfl, rfl⟩

set_option maxHeartbeats 800000 in
theorem any_any (s : ByteArray) (hs : s.size ≤ maxLen) (w : World) :
    Calls Try.prog 31 #[.string s] w fun e w' => e = .returned (.int .i64 (if ∀ c ∈ s.data.toList, c = 0 then 0 else 1)) ∧ Below w.heap.size w w' := by
  have hg := gather_any s hs w.heap.size (w.alloc (.cells #[.string s] 9)) (by simp [go_sem])
  have hn := nought_any (orL s.data.toList) (orL_lt _)
  have hz := orL_zero s.data.toList
  generalize orL s.data.toList = n at *
  obtain ⟨r, hr⟩ : ∃ r, r = (if n = 0 then (1 : Int) else 0) := ⟨_, rfl⟩
  have hr1 : 0 ≤ r ∧ r ≤ 1 := by rw [hr]; split <;> omega
  have hf : (if ∀ c ∈ s.data.toList, c = 0 then (0 : Int) else 1) = 1 - r := by
    rw [hr]
    by_cases h0 : n = 0
    · rw [if_pos (hz.1 h0), if_pos h0]; rfl
    · rw [if_neg (fun h => h0 (hz.2 h)), if_neg h0]; rfl
  rw [← hr] at hn
  obtain ⟨r0, r1⟩ := hr1
  have HG := Lib.hid hg
  have HN := Lib.hid hn
  have HF := Lib.hid hf
  have hs' : s.size ≤ 9223372036854775807 := hs
  clear hg hn hz hs hr hf
  rw [HF.out]
  go_enter Try.func31, Try.ntmps31
  go_wp2_with (first
    | (go_at_call 44; refine HG.out.mono ?_; rintro e w' ⟨rfl, rfl⟩)
    | (go_at_call 43; refine (HN.out _).mono ?_; rintro e w' ⟨rfl, rfl⟩))
  go_ret
  exact ⟨rfl, bnew _ _⟩

/-! ### Two texts -/
def xorL (A B : List UInt8) : List UInt8 := List.zipWith (· ^^^ ·) A B

set_option maxHeartbeats 800000 in
theorem bit1 (a b : ByteArray) (i g h : Nat) (hi : i < a.size) (hj : i < b.size) (w : World) (hc : w.cell? ⟨g, 0, none⟩ = some (.string a)) (hd : w.cell? ⟨h, 0, none⟩ = some (.string b)) :
    Calls Try.prog 46 #[.int .i64 (i : Int), .pointer (some ⟨g, 0, none⟩), .pointer (some ⟨h, 0, none⟩)] w fun e w' => e = .returned (.int .u8 (((a[i] ^^^ b[i]).toNat : Nat) : Int)) ∧ w.drewN 1 = w' := by
  have hx := u8_xor_nat (a[i].toNat) (b[i].toNat) a[i].toNat_lt b[i].toNat_lt
  rw [← UInt8.toNat_xor] at hx
  go_enter Try.func46, Try.ntmps46
  go_wp2_with fail
  refine wp_region_txt (fun w' => w'.cell? ⟨g, 0, none⟩ = some (.string a) ∧ w'.cell? ⟨h, 0, none⟩ = some (.string b) ∧ w.drewN 1 = w') (by kernel_rfl) (by kernel_rfl) ⟨hc, hd, rfl⟩ ?_
  repeat (first
    | (refine text_skip (by rfl) ?_; simp only [Act.put, List.setIfInBounds_toArray, List.set_cons_zero, List.set_cons_succ])
    | (refine text_pure (v := ?_) (by rfl) (fun wx hS => ?_) ?_; rotate_left; (go_simp; with_reducible exact rfl); simp only [Act.put, List.setIfInBounds_toArray, List.set_cons_zero, List.set_cons_succ]))
  refine text_nil (fun wx hS => ?_)
  go_wp2
  go_ret
  exact ⟨rfl, hS.2.2⟩

theorem xorL_len (A B : List UInt8) (h : A.length = B.length) : (xorL A B).length = A.length := by simp [xorL, h]
theorem xorL_take (A B : List UInt8) (k : Nat) (h1 : k < A.length) (h2 : k < B.length) : (xorL A B).take (k + 1) = (xorL A B).take k ++ [A[k] ^^^ B[k]] := by
  rw [take_snocB _ _ (by simp [xorL]; omega)]
  simp [xorL]
theorem xor_zero (x y : UInt8) : x ^^^ y = 0 ↔ x = y := by
  constructor
  · intro h
    have h2 : x ^^^ y ^^^ y = 0 ^^^ y := by rw [h]
    rw [UInt8.xor_assoc, UInt8.xor_self, UInt8.xor_zero, UInt8.zero_xor] at h2
    exact h2
  · rintro rfl; exact UInt8.xor_self
theorem xorL_zero : ∀ (A B : List UInt8), A.length = B.length → ((∀ c ∈ xorL A B, c = 0) ↔ A = B)
  | [], [], _ => by simp [xorL]
  | x :: A, y :: B, h => by
    have ih := xorL_zero A B (by simpa using h)
    unfold xorL at ih ⊢
    rw [List.zipWith_cons_cons, List.forall_mem_cons, ih, xor_zero]
    simp

set_option maxHeartbeats 800000 in
theorem gather_bit {w : World} (a b : ByteArray) (hs : a.size ≤ maxLen) (hab : a.size = b.size) (g h : Nat) (hgw : g < w.heap.size) (hhw : h < w.heap.size) (hc : w.cell? ⟨g, 0, none⟩ = some (.string a)) (hd : w.cell? ⟨h, 0, none⟩ = some (.string b)) :
    Calls Try.prog 44 #[.int .i64 (a.size : Int), .func (.func 46) #[] #[.pointer (some ⟨g, 0, none⟩), .pointer (some ⟨h, 0, none⟩)]] w fun e w' => e = .returned (.int .u8 ((orL (xorL a.data.toList b.data.toList) : Nat) : Int)) ∧ Below w.heap.size w w' := by
  unfold maxLen at hs
  have HAB := Lib.hid hab
  have HC := Lib.hid hc
  have HD := Lib.hid hd
  clear hab hc hd
  go_enter Try.func44, Try.ntmps44
  go_wp2_with fail
  go_loopw [5, 8] (fun x c wr => ∃ k : Nat, k ≤ a.size ∧ c = .int .i64 k ∧ x = .int .u8 ((orL ((xorL a.data.toList b.data.toList).take k) : Nat) : Int) ∧ Below w.heap.size w wr) (fun _ c _ => a.size - (intOf c).toNat)
  case atStart => exact ⟨0, Nat.zero_le _, rfl, rfl, Below.refl _ _⟩
  case round =>
    obtain ⟨k, hk, rfl, rfl, hB⟩ := hrel
    by_cases hlt : k < a.size
    · have hlb : k < b.size := by rw [← HAB.out]; exact hlt
      have hts := xorL_take a.data.toList b.data.toList k (by simpa using hlt) (by simpa using hlb)
      have hor := u8_or_nat (orL ((xorL a.data.toList b.data.toList).take k)) ((a[k] ^^^ b[k]).toNat) (orL_lt _) (a[k] ^^^ b[k]).toNat_lt
      have hq : orL ((xorL a.data.toList b.data.toList).take (k + 1)) = orL ((xorL a.data.toList b.data.toList).take k) ||| (a[k] ^^^ b[k]).toNat := by rw [hts, orL_snoc]; rfl
      rw [← hq] at hor
      have hb1 := bit1 a b k g h hlt hlb wr ((hB.cell hgw).trans HC.out) ((hB.cell hhw).trans HD.out)
      generalize (a[k] ^^^ b[k]).toNat = x at *
      generalize orL ((xorL a.data.toList b.data.toList).take k) = y at *
      have HO := Lib.hid hor
      have HB1 := Lib.hid hb1
      clear hts hor hq hb1
      go_wp2_with (go_at_call 46; refine HB1.out.mono ?_; rintro e w' ⟨rfl, rfl⟩)
      go_roundw
      case rel => exact ⟨k + 1, by omega, by go_num, by rw [HO.out], bdrewN hB 1⟩
      case measure => simp [intOf]; omega
    · have : k = a.size := by omega
      subst this
      go_wp2_with fail
      go_ret
      exact ⟨by rw [List.take_of_length_le (by simp [xorL]; omega)]; rfl, hB⟩

/-- 1, if it is so. -/
def num (c : Prop) [Decidable c] : Int := if c then 1 else 0
theorem num_bd (c : Prop) [Decidable c] : 0 ≤ num c ∧ num c ≤ 1 := by unfold num; split <;> omega

set_option maxHeartbeats 1600000 in
theorem bit_any (a b : ByteArray) (ha : a.size ≤ maxLen) (hb : b.size ≤ maxLen) (w : World) :
    Calls Try.prog 35 #[.string a, .string b] w fun e w' => e = .returned (.int .i64 (num (a.data.toList = b.data.toList))) ∧ Below w.heap.size w w' := by
  have ha' : a.size ≤ 9223372036854775807 := ha
  have hb' : b.size ≤ 9223372036854775807 := hb
  by_cases hab : a.size = b.size
  · have hg := gather_bit (w := (w.alloc (.cells #[.string a] 9)).alloc (.cells #[.string b] 9)) a b ha hab w.heap.size (w.heap.size + 1) (by simp; omega) (by simp) (by simp [go_sem]) (by simp [go_sem])
    have hn := nought_any (orL (xorL a.data.toList b.data.toList)) (orL_lt _)
    have hz := orL_zero (xorL a.data.toList b.data.toList)
    rw [xorL_zero _ _ (by simpa using hab)] at hz
    have hf : (if orL (xorL a.data.toList b.data.toList) = 0 then (1 : Int) else 0) = num (a.data.toList = b.data.toList) := by
      unfold num
      by_cases h0 : orL (xorL a.data.toList b.data.toList) = 0
      · rw [if_pos h0, if_pos (hz.1 h0)]
      · rw [if_neg h0, if_neg (fun h => h0 (hz.2 h))]
    rw [hf] at hn
    generalize orL (xorL a.data.toList b.data.toList) = n at *
    generalize num (a.data.toList = b.data.toList) = r at *
    have HG := Lib.hid hg
    have HN := Lib.hid hn
    have hne : ((a.size : Int) == b.size) = true := by simp [hab]
    clear hg hn hz ha hb hf hab
    go_enter Try.func35, Try.ntmps35
    go_wp2_with (first
      | (go_at_call 44; refine HG.out.mono ?_; rintro e w1 ⟨rfl, hb1⟩)
      | (go_at_call 43; refine (HN.out _).mono ?_; rintro e w' ⟨rfl, rfl⟩))
    go_ret
    exact ⟨rfl, bthen ((bnew _ _).alloc (by simp) _) hb1⟩
  · have hf : num (a.data.toList = b.data.toList) = 0 := if_neg (fun h => hab (by have := congrArg List.length h; simpa using this))
    rw [hf]
    have hne : ((a.size : Int) == b.size) = false := by simp; omega
    clear hf hab ha hb
    go_enter Try.func35, Try.ntmps35
    go_wp2_with fail
    go_ret
    exact ⟨rfl, (bnew _ _).alloc (by simp) _⟩

end Go.Proofs.Ytdjlagjdbehafaa

/-
  The contracts of octet.Text, octet.Cut and of the reference's Text. No condition. Own work.
-/
import Derived.Test.YtdpfcjhhabcheaaDoorOct4
import Derived.Test.YtdpfcjhhabcheaaDoorText
namespace Go.Proofs.YtdpfcjhhabcheaaDoor
open Go.RowKit

theorem and_len (n : Nat) (h : n < 4294967296) : bits .and .i64 (n : Int) 4294967295 = (n : Int) := by
  have h1 : (BitVec.ofInt 64 (n : Int) &&& BitVec.ofInt 64 4294967295).toNat = n := by
    rw [BitVec.toNat_and, BitVec.toNat_ofInt, BitVec.toNat_ofInt]
    have e2 : ((2 ^ 64 : Nat) : Int) = 18446744073709551616 := rfl
    rw [e2, show ((n : Int) % 18446744073709551616).toNat = n from by omega, show ((4294967295 : Int) % 18446744073709551616).toNat = 2 ^ 32 - 1 from by decide, Nat.and_two_pow_sub_one_eq_mod]
    omega
  show IntKind.i64.wrap ((BitVec.ofInt 64 (n : Int) &&& BitVec.ofInt 64 4294967295).toNat : Int) = _
  rw [h1, IntKind.wrap_i64]
  omega
/-- A text's bytes: its length, and itself. -/
def txB (l : List UInt8) : List UInt8 := be l.length 4 ++ l
theorem txB_len (l : List UInt8) : (txB l).length = 4 + l.length := by simp [txB, be_len]
theorem text_any (s : ByteArray) (h : s.size ≤ 100000) (w : World) : Calls Tryd.prog 33 #[.string s] w fun e w' => e = .returned (.string ⟨(txB s.data.toList).toArray⟩) ∧ Below w.heap.size w w' := by
  have hl : s.data.toList.length = s.size := by simp
  have HP : Hid (∀ w, Calls Tryd.prog 55 #[.int .i64 (s.size : Int), .int .i64 4] w fun e w' => e = .returned (.tuple #[.string ⟨(be s.size 4).toArray⟩, .int .i64 0]) ∧ Below w.heap.size w w') := Lib.hid (put_any s.size 4 (by omega) (by omega) (by omega) (by omega))
  have hand := and_len s.size (by omega)
  have hb := be_len s.size 4
  have hadd : ∀ W, (Op.stringOp .add (⟨(be s.size 4).toArray⟩ : ByteArray) s).run Tryd.prog W = .ok (.string ⟨(txB s.data.toList).toArray⟩) W := fun W => by
    have e2 : (⟨(be s.size 4).toArray⟩ : ByteArray) ++ s = ⟨(txB s.data.toList).toArray⟩ := by
      unfold txB
      rw [hl, ← str_app]
    rw [← e2]
    exact run_string_add_sum W _ _ (by have e9 : (⟨(be s.size 4).toArray⟩ : ByteArray).size = (be s.size 4).length := rfl
                                       rw [e9, hb]; omega)
  generalize txB s.data.toList = T at *
  generalize be s.size 4 = B at *
  clear hl hb
  go_enter Tryd.func33, Tryd.ntmps33
  go_wp2_with fail
  (with_reducible refine (HP.out _).mono ?_)
  rintro e w1 ⟨rfl, hb1⟩
  go_wp2_with fail
  go_ret
  exact ⟨rfl, hb1⟩
theorem rtext_any (s : ByteArray) (h : s.size ≤ 100000) (w : World) : Calls Tryd.prog 36 #[.string s] w fun e w' => e = .returned (.string ⟨(txB s.data.toList).toArray⟩) ∧ Below w.heap.size w w' := by
  have hl : s.data.toList.length = s.size := by simp
  have HP := Lib.hid ((fun w => by have h := rput_nat s.size 4 (by omega) (by omega) (by omega) w; rw [rputR, if_pos (by omega)] at h; exact h : ∀ w, Calls Tryd.prog 58 #[.int .i64 (s.size : Int), .int .i64 4] w fun e w' => e = .returned (.tuple #[.string ⟨(be s.size 4).toArray⟩, .int .i64 0]) ∧ Below w.heap.size w w'))
  have hb := be_len s.size 4
  have hadd : ∀ W, (Op.stringOp .add (⟨(be s.size 4).toArray⟩ : ByteArray) s).run Tryd.prog W = .ok (.string ⟨(txB s.data.toList).toArray⟩) W := fun W => by
    have e2 : (⟨(be s.size 4).toArray⟩ : ByteArray) ++ s = ⟨(txB s.data.toList).toArray⟩ := by
      unfold txB
      rw [hl, ← str_app]
    rw [← e2]
    exact run_string_add_sum W _ _ (by have e9 : (⟨(be s.size 4).toArray⟩ : ByteArray).size = (be s.size 4).length := rfl
                                       rw [e9, hb]; omega)
  generalize txB s.data.toList = T at *
  generalize be s.size 4 = B at *
  clear hl hb
  go_enter Tryd.func36, Tryd.ntmps36
  go_wp2_with fail
  (with_reducible refine (HP.out _).mono ?_)
  rintro e w1 ⟨rfl, hb1⟩
  go_wp2_with fail
  go_ret
  exact ⟨rfl, hb1⟩
/-- The text that bytes begin with, and what is behind it. -/
def cutO (l : List UInt8) : Option (List UInt8 × List UInt8) := if l.length < 4 then none else if l.length - 4 < gt (l.take 4) then none else some ((l.drop 4).take (gt (l.take 4)), (l.drop 4).drop (gt (l.take 4)))
def cutV (bad : Int) : Option (List UInt8 × List UInt8) → Value
  | none => .tuple #[.string ⟨#[]⟩, .string ⟨#[]⟩, .int .i64 bad]
  | some (a, b) => .tuple #[.string ⟨a.toArray⟩, .string ⟨b.toArray⟩, .int .i64 0]
end Go.Proofs.YtdpfcjhhabcheaaDoor

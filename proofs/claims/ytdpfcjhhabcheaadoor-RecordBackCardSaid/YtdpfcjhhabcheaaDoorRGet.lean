/-
  The contract of the reference's Get for four bytes (as in GRef). No condition. Own work.
-/
import Derived.Test.YtdpfcjhhabcheaaDoorOct3
namespace Go.Proofs.YtdpfcjhhabcheaaDoor
open Go.RowKit

set_option maxRecDepth 100000 in
set_option maxHeartbeats 3200000 in
theorem rget4 (s : ByteArray) (h : s.data.toList.length = 4) (w : World) : Calls Tryd.prog 64 #[.string s] w fun e w' => e = .returned (.tuple #[.int .i64 ((gt s.data.toList : Nat) : Int), .int .i64 0]) ∧ w = w' := by
  obtain ⟨l, hl⟩ : ∃ l, l = s.data.toList := ⟨_, rfl⟩
  have hlt := gt_lt s.data.toList
  rw [h] at hlt
  have hn : s.size = l.length := by rw [hl]; simp
  have hidx : ∀ (i : Nat) (c : UInt8), l[i]? = some c → ∀ W, (Instr.index 9 (.string s) (.int .i64 (i : Int))).run Tryd.prog W = .ok (.int .u8 ((c.toNat : Nat) : Int)) W := fun i c h => str_idx s i c (by rw [← hl]; exact h)
  rw [← hl] at hlt h ⊢
  have HIX := Lib.hid hidx
  have hsz : (s.size : Int) = ((4 : Nat) : Int) := by omega
  have HN := Lib.hid h
  clear hl hidx h
  go_enter Tryd.func64, Tryd.ntmps64
  go_wp2_with fail
  go_loopw [4, 5] (fun nv c wr => ∃ i : Nat, i ≤ 4 ∧ c = .int .i64 (i : Int) ∧ nv = .int .i64 ((gt (l.take i) : Nat) : Int) ∧ w = wr) (fun _ c _ => 4 - (intOf c).toNat)
  case atStart => exact ⟨0, by omega, rfl, rfl, rfl⟩
  case round =>
    obtain ⟨i, hi, rfl, rfl, rfl⟩ := hrel
    by_cases hlt2 : i < 4
    · have hil : (i : Int) < ((4 : Nat) : Int) := by omega
      obtain ⟨c, hc⟩ : ∃ c, l[i]? = some c := ⟨_, List.getElem?_eq_getElem (by rw [HN.out]; exact hlt2)⟩
      have hix := HIX.out i c hc
      have hT : gt (l.take (i + 1)) = 256 * gt (l.take i) + c.toNat := by
        rw [List.take_add_one, hc]
        exact gt_snoc _ _
      have hle := gt_take_le l (i + 1)
      obtain ⟨m, hm⟩ : ∃ m, m = gt (l.take i) := ⟨_, rfl⟩
      rw [← hm] at hT ⊢
      rw [hT] at hle
      have hcl := c.toNat_lt
      have hsh : (256 : Int) * (m : Int) = ((256 * m : Nat) : Int) := by omega
      have hsw : wrap64 ((256 * m : Nat) : Int) = ((256 * m : Nat) : Int) := by unfold wrap64; omega
      have hcw := w64c c
      obtain ⟨q, hq⟩ : ∃ q, q = 256 * m := ⟨_, rfl⟩
      rw [← hq] at hsh hsw hT hle
      have had : (q : Int) + ((c.toNat : Nat) : Int) = ((q + c.toNat : Nat) : Int) := by omega
      have haw : wrap64 ((q + c.toNat : Nat) : Int) = ((q + c.toNat : Nat) : Int) := by unfold wrap64; omega
      obtain ⟨r, hr⟩ : ∃ r, r = q + c.toNat := ⟨_, rfl⟩
      rw [← hr] at had haw hT
      have HT := Lib.hid hT
      clear hT hm hq hr hc
      go_wp2_with fail
      exact ⟨⟨i + 1, by omega, by go_num, by rw [HT.out], by first | trivial | rfl⟩, by simp [intOf]; omega⟩
    · have hi2 : i = 4 := by omega
      subst hi2
      rw [List.take_of_length_le (by rw [HN.out]; exact Nat.le_refl _)]
      go_wp2_with fail
      go_ret2
      exact ⟨rfl, rfl⟩
end Go.Proofs.YtdpfcjhhabcheaaDoor

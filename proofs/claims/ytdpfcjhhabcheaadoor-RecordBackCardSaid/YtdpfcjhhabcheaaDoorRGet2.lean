/-
  The contract of the reference's Get of any bytes (after octet.Get's). No condition. Own work.
-/
import Derived.Test.YtdpfcjhhabcheaaDoorOct4
namespace Go.Proofs.YtdpfcjhhabcheaaDoor
open Go.RowKit

set_option maxRecDepth 100000 in
set_option maxHeartbeats 3200000 in
theorem rget_yes (s : ByteArray) (h : numOk s.data.toList) (w : World) : Calls Tryd.prog 64 #[.string s] w fun e w' => e = .returned (.tuple #[.int .i64 ((gt s.data.toList : Nat) : Int), .int .i64 0]) ∧ w = w' := by
  have hlt := numOk_lt h
  obtain ⟨h1, h2, h3⟩ := h
  obtain ⟨l, hl⟩ : ∃ l, l = s.data.toList := ⟨_, rfl⟩
  have hn : s.size = l.length := by rw [hl]; simp
  have hidx : ∀ (i : Nat) (c : UInt8), l[i]? = some c → ∀ W, (Instr.index 9 (.string s) (.int .i64 (i : Int))).run Tryd.prog W = .ok (.int .u8 ((c.toNat : Nat) : Int)) W := fun i c h => str_idx s i c (by rw [← hl]; exact h)
  obtain ⟨c0, hc0⟩ : ∃ c, l[0]? = some c := ⟨_, List.getElem?_eq_getElem (by rw [hl]; omega)⟩
  have hx0 : ∀ W, (Instr.index 9 (.string s) (.int .i64 0)).run Tryd.prog W = .ok (.int .u8 ((c0.toNat : Nat) : Int)) W := hidx 0 c0 hc0
  have hcl : s.size = 8 → ((c0.toNat : Nat) : Int) < 128 := fun h8 => by
    have := h3 (by rw [← hl, ← hn]; exact h8)
    rw [← hl, List.getD_eq_getElem?_getD, hc0] at this
    simp at this
    omega
  have hne3 : ¬ s.toList = [] := by
    rw [ByteArray.toList_eq, ← hl]
    intro h
    rw [h] at hc0
    cases hc0
  rw [← hl] at hlt h1 h2 ⊢
  have HIX := Lib.hid hidx
  have hsz : (s.size : Int) = ((l.length : Nat) : Int) := by omega
  obtain ⟨n, hnn⟩ : ∃ n, n = l.length := ⟨_, rfl⟩
  rw [← hnn] at hsz h1 h2
  have HN := Lib.hid hnn
  clear hl hidx hc0 h3 hnn
  have hne4 : (s.toList == []) = false := by simpa using hne3
  have hne5 : s.toList.isEmpty = false := by
    cases h : s.toList with
    | nil => exact absurd h hne3
    | cons a b => rfl
  have hn0 : ¬ (8 : Int) < (n : Int) := by omega
  have HS8 : Hid ((n : Int) = 8 → ((c0.toNat : Nat) : Int) < 128) := Lib.hid fun h => hcl (by omega)
  clear hcl
  by_cases h8 : (n : Int) = 8
  · have h9 := HS8.out h8
    have h10 : ((n : Int) == 8) = true := by simp [h8]
    go_enter Tryd.func64, Tryd.ntmps64
    go_wp2_with fail
    clear hx0 hne3 hne4 hne5
    go_loopw [4, 5] (fun nv c wr => ∃ i : Nat, i ≤ n ∧ c = .int .i64 (i : Int) ∧ nv = .int .i64 ((gt (l.take i) : Nat) : Int) ∧ w = wr) (fun _ c _ => n - (intOf c).toNat)
    case atStart => exact ⟨0, by omega, rfl, rfl, rfl⟩
    case round =>
      obtain ⟨i, hi, rfl, rfl, rfl⟩ := hrel
      by_cases hlt2 : i < n
      · have hil : (i : Int) < (n : Int) := by omega
        obtain ⟨c, hc⟩ : ∃ c, l[i]? = some c := ⟨_, List.getElem?_eq_getElem (by rw [← HN.out]; exact hlt2)⟩
        have hix := HIX.out i c hc
        have hT : gt (l.take (i + 1)) = 256 * gt (l.take i) + c.toNat := by
          rw [List.take_add_one, hc]
          exact gt_snoc _ _
        have hle := gt_take_le l (i + 1)
        obtain ⟨m, hm⟩ : ∃ m, m = gt (l.take i) := ⟨_, rfl⟩
        rw [← hm] at hT ⊢
        rw [hT] at hle
        have hcl := c.toNat_lt
        have hsh : (256 : Int) * (m : Int) = ((256 * m : Nat) : Int) := by omega
        have hsw : wrap64 ((256 * m : Nat) : Int) = ((256 * m : Nat) : Int) := by unfold wrap64; omega
        have hcw := w64c c
        obtain ⟨q, hq⟩ : ∃ q, q = 256 * m := ⟨_, rfl⟩
        rw [← hq] at hsh hsw hT hle
        have had : (q : Int) + ((c.toNat : Nat) : Int) = ((q + c.toNat : Nat) : Int) := by omega
        have haw : wrap64 ((q + c.toNat : Nat) : Int) = ((q + c.toNat : Nat) : Int) := by unfold wrap64; omega
        obtain ⟨r, hr⟩ : ∃ r, r = q + c.toNat := ⟨_, rfl⟩
        rw [← hr] at had haw hT
        have HT := Lib.hid hT
        clear hT hm hq hr hc
        go_wp2_with fail
        exact ⟨⟨i + 1, by omega, by go_num, by rw [HT.out], by first | trivial | rfl⟩, by simp [intOf]; omega⟩
      · have hi2 : i = n := by omega
        subst hi2
        rw [List.take_of_length_le (by rw [← HN.out]; exact Nat.le_refl _)]
        go_wp2_with fail
        go_ret2
        exact ⟨rfl, rfl⟩
  · have h10 : ((n : Int) == 8) = false := by simpa using h8
    go_enter Tryd.func64, Tryd.ntmps64
    go_wp2_with fail
    clear hx0 hne3 hne4 hne5
    go_loopw [4, 5] (fun nv c wr => ∃ i : Nat, i ≤ n ∧ c = .int .i64 (i : Int) ∧ nv = .int .i64 ((gt (l.take i) : Nat) : Int) ∧ w = wr) (fun _ c _ => n - (intOf c).toNat)
    case atStart => exact ⟨0, by omega, rfl, rfl, rfl⟩
    case round =>
      obtain ⟨i, hi, rfl, rfl, rfl⟩ := hrel
      by_cases hlt2 : i < n
      · have hil : (i : Int) < (n : Int) := by omega
        obtain ⟨c, hc⟩ : ∃ c, l[i]? = some c := ⟨_, List.getElem?_eq_getElem (by rw [← HN.out]; exact hlt2)⟩
        have hix := HIX.out i c hc
        have hT : gt (l.take (i + 1)) = 256 * gt (l.take i) + c.toNat := by
          rw [List.take_add_one, hc]
          exact gt_snoc _ _
        have hle := gt_take_le l (i + 1)
        obtain ⟨m, hm⟩ : ∃ m, m = gt (l.take i) := ⟨_, rfl⟩
        rw [← hm] at hT ⊢
        rw [hT] at hle
        have hcl := c.toNat_lt
        have hsh : (256 : Int) * (m : Int) = ((256 * m : Nat) : Int) := by omega
        have hsw : wrap64 ((256 * m : Nat) : Int) = ((256 * m : Nat) : Int) := by unfold wrap64; omega
        have hcw := w64c c
        obtain ⟨q, hq⟩ : ∃ q, q = 256 * m := ⟨_, rfl⟩
        rw [← hq] at hsh hsw hT hle
        have had : (q : Int) + ((c.toNat : Nat) : Int) = ((q + c.toNat : Nat) : Int) := by omega
        have haw : wrap64 ((q + c.toNat : Nat) : Int) = ((q + c.toNat : Nat) : Int) := by unfold wrap64; omega
        obtain ⟨r, hr⟩ : ∃ r, r = q + c.toNat := ⟨_, rfl⟩
        rw [← hr] at had haw hT
        have HT := Lib.hid hT
        clear hT hm hq hr hc
        go_wp2_with fail
        exact ⟨⟨i + 1, by omega, by go_num, by rw [HT.out], by first | trivial | rfl⟩, by simp [intOf]; omega⟩
      · have hi2 : i = n := by omega
        subst hi2
        rw [List.take_of_length_le (by rw [← HN.out]; exact Nat.le_refl _)]
        go_wp2_with fail
        go_ret2
        exact ⟨rfl, rfl⟩
set_option maxRecDepth 100000 in
set_option maxHeartbeats 1600000 in
theorem rget_no (s : ByteArray) (h : ¬ numOk s.data.toList) (h8 : s.size ≤ 8) (h1 : 1 ≤ s.size) (w : World) : Calls Tryd.prog 64 #[.string s] w fun e w' => e = .returned (.tuple #[.int .i64 0, .int .i64 3]) ∧ w = w' := by
  have hl : s.data.toList.length = s.size := by simp
  have hn8 : s.size = 8 := by
    rcases Nat.lt_or_ge s.size 8 with h' | h'
    · exact absurd ⟨by omega, by omega, fun e => by omega⟩ h
    · omega
  obtain ⟨c0, hc0⟩ : ∃ c, s.data.toList[0]? = some c := ⟨_, List.getElem?_eq_getElem (by omega)⟩
  have hx0 : ∀ W, (Instr.index 9 (.string s) (.int .i64 0)).run Tryd.prog W = .ok (.int .u8 ((c0.toNat : Nat) : Int)) W := str_idx s 0 c0 hc0
  have hc : ¬ ((c0.toNat : Nat) : Int) < 128 := by
    rcases Nat.lt_or_ge c0.toNat 128 with h' | h'
    · exact absurd ⟨by omega, by omega, fun _ => by rw [List.getD_eq_getElem?_getD, hc0]; exact h'⟩ h
    · omega
  have hne3 : ¬ s.toList = [] := by
    rw [ByteArray.toList_eq]
    intro h
    rw [h] at hc0
    cases hc0
  have hne4 : (s.toList == []) = false := by simpa using hne3
  have hne5 : s.toList.isEmpty = false := by
    cases h : s.toList with
    | nil => exact absurd h hne3
    | cons a b => rfl
  have hsz : (s.size : Int) = 8 := by omega
  clear h hl hc0
  go_enter Tryd.func64, Tryd.ntmps64
  go_wp2_with fail
  go_ret2
  exact ⟨rfl, rfl⟩
end Go.Proofs.YtdpfcjhhabcheaaDoor

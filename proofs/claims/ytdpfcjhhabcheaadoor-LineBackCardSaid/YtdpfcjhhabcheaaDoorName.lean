/-
  The contracts of record.within, record.Name and of the reference's Name. No condition. Own work.
-/
import Derived.Test.YtdpfcjhhabcheaaDoorStrs
namespace Go.Proofs.YtdpfcjhhabcheaaDoor
open Go.RowKit

theorem within_any (n most : Int) (w : World) : Calls Tryd.prog 38 #[.int .i64 n, .int .i64 most] w fun e w' => e = .returned (.bool (decide (0 ≤ n ∧ n ≤ most))) ∧ w = w' := by
  by_cases h0 : 0 ≤ n
  · by_cases h1 : n ≤ most
    · rw [decide_eq_true ⟨h0, h1⟩]
      go_enter Tryd.func38, Tryd.ntmps38
      go_wp2_with fail
      go_ret
      exact ⟨ret_bool (by simp; try omega), rfl⟩
    · rw [decide_eq_false (fun h => h1 h.2)]
      go_enter Tryd.func38, Tryd.ntmps38
      go_wp2_with fail
      go_ret
      exact ⟨ret_bool (by simp; try omega), rfl⟩
  · rw [decide_eq_false (fun h => h0 h.1)]
    go_enter Tryd.func38, Tryd.ntmps38
    go_wp2_with fail
    go_ret
    exact ⟨ret_bool (by simp; try omega), rfl⟩
/-- A letter or a digit. -/
def nameC (c : UInt8) : Bool := (decide (97 ≤ c.toNat) && decide (c.toNat ≤ 122)) || (decide (48 ≤ c.toNat) && decide (c.toNat ≤ 57))
/-- Is a text a name? -/
def nameL (l : List UInt8) : Bool := decide (1 ≤ l.length) && decide (l.length ≤ 16) && l.all nameC
set_option maxRecDepth 100000 in
set_option maxHeartbeats 3200000 in
theorem name_any (s : ByteArray) (hs : s.size ≤ 100000) (w : World) : Calls Tryd.prog 16 #[.string s] w fun e w' => e = .returned (.bool (nameL s.data.toList)) ∧ w = w' := by
  obtain ⟨l, hl⟩ : ∃ l, l = s.data.toList := ⟨_, rfl⟩
  have hn : s.size = l.length := by rw [hl]; simp
  have hidx : ∀ (i : Nat) (c : UInt8), l[i]? = some c → ∀ W, (Instr.index 9 (.string s) (.int .i64 (i : Int))).run Tryd.prog W = .ok (.int .u8 ((c.toNat : Nat) : Int)) W := fun i c h => str_idx s i c (by rw [← hl]; exact h)
  have hne : s.toList = l := by rw [ByteArray.toList_eq, hl]
  rw [← hl]
  have HIX := Lib.hid hidx
  obtain ⟨n, hnn⟩ : ∃ n, n = l.length := ⟨_, rfl⟩
  have hsz : (s.size : Int) = (n : Int) := by omega
  have HN := Lib.hid hnn
  have HNE := Lib.hid hne
  obtain ⟨R, hR⟩ : ∃ R, R = nameL l := ⟨_, rfl⟩
  rw [← hR]
  have HR := Lib.hid hR
  clear hl hidx hne hnn hR hn
  go_enter Tryd.func16, Tryd.ntmps16
  go_wp2_with fail
  go_loopw [6] (fun c wr => ∃ i : Nat, i ≤ n ∧ c = .int .i64 (i : Int) ∧ (∀ j c, j < i → l[j]? = some c → nameC c = true) ∧ w = wr) (fun c _ => n - (intOf c).toNat)
  case atStart => exact ⟨0, by omega, rfl, fun j c h => by omega, rfl⟩
  case round =>
    obtain ⟨i, hi, rfl, hall, rfl⟩ := hrel
    have HALL := Lib.hid hall
    clear hall
    by_cases hlt2 : i < n
    · have hil : (i : Int) < (n : Int) := by omega
      obtain ⟨c, hc⟩ : ∃ c, l[i]? = some c := ⟨_, List.getElem?_eq_getElem (by rw [← HN.out]; exact hlt2)⟩
      have hix := HIX.out i c hc
      have HC := Lib.hid hc
      clear hc
      have hk : (97 ≤ c.toNat ∧ c.toNat ≤ 122) ∨ (48 ≤ c.toNat ∧ c.toNat ≤ 57) ∨ c.toNat < 48 ∨ (57 < c.toNat ∧ c.toNat < 97) ∨ 122 < c.toNat := by omega
      rcases hk with hk | hk | hk | hk | hk
      · have a0 : ¬ ((c.toNat : Nat) : Int) < 97 := by omega
        have a1 : ¬ 122 < ((c.toNat : Nat) : Int) := by omega
        have hg : nameC c = true := by unfold nameC; simp; omega
        have HG := Lib.hid hg
        clear hg
        go_wp2_with fail
        exact ⟨⟨i + 1, by omega, by go_num, fun j c' hj hc' => by
          by_cases hji : j = i
          · subst hji
            have e := HC.out
            rw [hc'] at e
            cases e
            exact HG.out
          · exact HALL.out j c' (by omega) hc', by first | trivial | rfl⟩, by simp [intOf]; omega⟩
      · have a0 : ((c.toNat : Nat) : Int) < 97 := by omega
        have a1 : ¬ ((c.toNat : Nat) : Int) < 48 := by omega
        have a2 : ¬ 57 < ((c.toNat : Nat) : Int) := by omega
        have hg : nameC c = true := by unfold nameC; simp; omega
        have HG := Lib.hid hg
        clear hg
        go_wp2_with fail
        exact ⟨⟨i + 1, by omega, by go_num, fun j c' hj hc' => by
          by_cases hji : j = i
          · subst hji
            have e := HC.out
            rw [hc'] at e
            cases e
            exact HG.out
          · exact HALL.out j c' (by omega) hc', by first | trivial | rfl⟩, by simp [intOf]; omega⟩
      · have a0 : ((c.toNat : Nat) : Int) < 97 := by omega
        have a1 : ((c.toNat : Nat) : Int) < 48 := by omega
        have hb : R = false := by
          rw [HR.out]
          unfold nameL
          have e : l.all nameC = false := by
            rw [List.all_eq_false]
            exact ⟨c, List.mem_of_getElem? HC.out, by unfold nameC; simp; omega⟩
          rw [e, Bool.and_false]
        subst hb
        clear HR
        go_wp2_with fail
        go_ret
        exact ⟨rfl, rfl⟩
      · have a0 : ((c.toNat : Nat) : Int) < 97 := by omega
        have a1 : ¬ ((c.toNat : Nat) : Int) < 48 := by omega
        have a2 : 57 < ((c.toNat : Nat) : Int) := by omega
        have hb : R = false := by
          rw [HR.out]
          unfold nameL
          have e : l.all nameC = false := by
            rw [List.all_eq_false]
            exact ⟨c, List.mem_of_getElem? HC.out, by unfold nameC; simp; omega⟩
          rw [e, Bool.and_false]
        subst hb
        clear HR
        go_wp2_with fail
        go_ret
        exact ⟨rfl, rfl⟩
      · have a0 : ¬ ((c.toNat : Nat) : Int) < 97 := by omega
        have a1 : 122 < ((c.toNat : Nat) : Int) := by omega
        have a2 : ¬ ((c.toNat : Nat) : Int) < 48 := by omega
        have a3 : 57 < ((c.toNat : Nat) : Int) := by omega
        have hb : R = false := by
          rw [HR.out]
          unfold nameL
          have e : l.all nameC = false := by
            rw [List.all_eq_false]
            exact ⟨c, List.mem_of_getElem? HC.out, by unfold nameC; simp; omega⟩
          rw [e, Bool.and_false]
        subst hb
        clear HR
        go_wp2_with fail
        go_ret
        exact ⟨rfl, rfl⟩
    · have hi2 : i = n := by omega
      subst hi2
      have hall : l.all nameC = true := by
        rw [List.all_eq_true]
        intro c hc
        obtain ⟨j, hj⟩ := List.getElem?_of_mem hc
        exact HALL.out j c (by have := (List.getElem?_eq_some_iff.mp hj).1; have := HN.out; omega) hj
      by_cases h0 : l = []
      · have e1 : R = false := by rw [HR.out, h0]; rfl
        subst e1
        have e2 : s.toList = [] := HNE.out.trans h0
        have e3 : (s.toList == []) = true := by rw [e2]; rfl
        have e4 : s.toList.isEmpty = true := by rw [e2]; rfl
        clear HR hall
        go_wp2_with fail
        go_ret
        exact ⟨rfl, rfl⟩
      · have e2 : ¬ s.toList = [] := fun h => h0 (HNE.out.symm.trans h)
        have e3 : (s.toList == []) = false := by simpa using e2
        have e4 : s.toList.isEmpty = false := by
          cases h : s.toList with
          | nil => exact absurd h e2
          | cons a b => rfl
        have h1 : 1 ≤ i := by
          cases l with
          | nil => exact absurd rfl h0
          | cons a b => have := HN.out; simp at this; omega
        have e5 : R = decide (i ≤ 16) := by
          rw [HR.out]
          unfold nameL
          rw [hall, ← HN.out, decide_eq_true h1, Bool.true_and, Bool.and_true]
        by_cases h16 : i ≤ 16
        · have e6 : R = true := by rw [e5]; exact decide_eq_true h16
          subst e6
          have e7 : (i : Int) ≤ 16 := by omega
          clear HR hall e5
          go_wp2_with fail
          go_ret
          exact ⟨rfl, rfl⟩
        · have e6 : R = false := by rw [e5]; exact decide_eq_false h16
          subst e6
          have e7 : ¬ (i : Int) ≤ 16 := by omega
          clear HR hall e5
          go_wp2_with fail
          go_ret
          exact ⟨rfl, rfl⟩
end Go.Proofs.YtdpfcjhhabcheaaDoor

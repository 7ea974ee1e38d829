/-
  The contract of the reference's data. No condition. Own work.
-/
import Derived.Test.YtdpfcjhhabcheaaDoorData
import Derived.Test.YtdpfcjhhabcheaaDoorRName
namespace Go.Proofs.YtdpfcjhhabcheaaDoor
open Go Go.RowKit

set_option maxRecDepth 100000 in
set_option maxHeartbeats 3200000 in
theorem rdata_any (s : ByteArray) (hs : s.size ≤ 1000000) (w : World) : Calls Tryd.prog 49 #[.string s] w fun e w' => e = .returned (.bool (dataB s.data.toList)) ∧ w = w' := by
  obtain ⟨l, hl⟩ : ∃ l, l = s.data.toList := ⟨_, rfl⟩
  have hn : s.size = l.length := by rw [hl]; exact sz_list s
  have hidx : ∀ (i : Nat) (c : UInt8), l[i]? = some c → ∀ W, (Instr.index 9 (.string s) (.int .i64 (i : Int))).run Tryd.prog W = .ok (.int .u8 ((c.toNat : Nat) : Int)) W := fun i c h => str_idx s i c (by rw [← hl]; exact h)
  rw [← hl]
  have HIX := Lib.hid hidx
  obtain ⟨n, hnn⟩ : ∃ n, n = l.length := ⟨_, rfl⟩
  have hsz : (s.size : Int) = (n : Int) := by omega
  have hn9 : (n : Int) ≤ 1000000 := by omega
  have HN := Lib.hid hnn
  obtain ⟨R, hR⟩ : ∃ R, R = dataB l := ⟨_, rfl⟩
  rw [← hR]
  have HR := Lib.hid hR
  clear hl hidx hnn hR hn hs
  go_enter Tryd.func49, Tryd.ntmps49
  go_wp2_with fail
  go_loopw [3] (fun c wr => ∃ i : Nat, i ≤ n ∧ c = .int .i64 (i : Int) ∧ (∀ j c, j < i → l[j]? = some c → nameC c = true) ∧ w = wr) (fun c _ => n - (intOf c).toNat)
  case atStart => exact ⟨0, by omega, rfl, fun j c h => by omega, rfl⟩
  case round =>
    obtain ⟨i, hi, rfl, hall, rfl⟩ := hrel
    have HALL := Lib.hid hall
    clear hall
    by_cases hlt2 : i < n
    · have hil : (i : Int) < (n : Int) := by omega
      obtain ⟨c, hc⟩ : ∃ c, l[i]? = some c := ⟨_, List.getElem?_eq_getElem (by rw [← HN.out]; exact hlt2)⟩
      have hix := HIX.out i c hc
      have HC := Lib.hid hc
      clear hc
      have hk : (97 ≤ c.toNat ∧ c.toNat ≤ 122) ∨ (48 ≤ c.toNat ∧ c.toNat ≤ 57) ∨ c.toNat < 48 ∨ (57 < c.toNat ∧ c.toNat < 97) ∨ 122 < c.toNat := by omega
      rcases hk with hk | hk | hk | hk | hk
      · have a0 : 97 ≤ ((c.toNat : Nat) : Int) := by omega
        have a1 : ((c.toNat : Nat) : Int) ≤ 122 := by omega
        have a2 : 48 ≤ ((c.toNat : Nat) : Int) := by omega
        have a3 : ¬ ((c.toNat : Nat) : Int) ≤ 57 := by omega
        have hg : nameC c = true := by unfold nameC; simp; omega
        have HG := Lib.hid hg
        clear hg
        go_wp2_with fail
        exact ⟨⟨i + 1, by omega, by go_num, fun j c' hj hc' => by
          by_cases hji : j = i
          · subst hji
            have e := HC.out
            rw [hc'] at e
            cases e
            exact HG.out
          · exact HALL.out j c' (by omega) hc', by first | trivial | rfl⟩, by simp [intOf]; omega⟩
      · have a0 : ¬ 97 ≤ ((c.toNat : Nat) : Int) := by omega
        have a1 : 48 ≤ ((c.toNat : Nat) : Int) := by omega
        have a2 : ((c.toNat : Nat) : Int) ≤ 57 := by omega
        have hg : nameC c = true := by unfold nameC; simp; omega
        have HG := Lib.hid hg
        clear hg
        go_wp2_with fail
        exact ⟨⟨i + 1, by omega, by go_num, fun j c' hj hc' => by
          by_cases hji : j = i
          · subst hji
            have e := HC.out
            rw [hc'] at e
            cases e
            exact HG.out
          · exact HALL.out j c' (by omega) hc', by first | trivial | rfl⟩, by simp [intOf]; omega⟩
      · have a0 : ¬ 97 ≤ ((c.toNat : Nat) : Int) := by omega
        have a1 : ¬ 48 ≤ ((c.toNat : Nat) : Int) := by omega
        have hb : R = false := by
          rw [HR.out]
          unfold dataB
          have e : l.all nameC = false := by
            rw [List.all_eq_false]
            exact ⟨c, List.mem_of_getElem? HC.out, by unfold nameC; simp; omega⟩
          rw [e, Bool.and_false]
        subst hb
        clear HR
        go_wp2_with fail
        go_ret
        exact ⟨rfl, rfl⟩
      · have a0 : ¬ 97 ≤ ((c.toNat : Nat) : Int) := by omega
        have a1 : 48 ≤ ((c.toNat : Nat) : Int) := by omega
        have a2 : ¬ ((c.toNat : Nat) : Int) ≤ 57 := by omega
        have hb : R = false := by
          rw [HR.out]
          unfold dataB
          have e : l.all nameC = false := by
            rw [List.all_eq_false]
            exact ⟨c, List.mem_of_getElem? HC.out, by unfold nameC; simp; omega⟩
          rw [e, Bool.and_false]
        subst hb
        clear HR
        go_wp2_with fail
        go_ret
        exact ⟨rfl, rfl⟩
      · have a0 : 97 ≤ ((c.toNat : Nat) : Int) := by omega
        have a1 : ¬ ((c.toNat : Nat) : Int) ≤ 122 := by omega
        have a2 : 48 ≤ ((c.toNat : Nat) : Int) := by omega
        have a3 : ¬ ((c.toNat : Nat) : Int) ≤ 57 := by omega
        have hb : R = false := by
          rw [HR.out]
          unfold dataB
          have e : l.all nameC = false := by
            rw [List.all_eq_false]
            exact ⟨c, List.mem_of_getElem? HC.out, by unfold nameC; simp; omega⟩
          rw [e, Bool.and_false]
        subst hb
        clear HR
        go_wp2_with fail
        go_ret
        exact ⟨rfl, rfl⟩
    · have hi2 : i = n := by omega
      subst hi2
      have hall : l.all nameC = true := by
        rw [List.all_eq_true]
        intro c hc
        obtain ⟨j, hj⟩ := List.getElem?_of_mem hc
        exact HALL.out j c (by have := (List.getElem?_eq_some_iff.mp hj).1; have := HN.out; omega) hj
      have e5 : R = decide (i ≤ 40) := by
        rw [HR.out]
        unfold dataB
        rw [hall, ← HN.out, Bool.and_true]
      by_cases h40 : i ≤ 40
      · have e6 : R = true := by rw [e5]; exact decide_eq_true h40
        have h41 : (i : Int) ≤ 40 := by omega
        subst e6
        clear HR hall e5
        go_wp2_with fail
        go_ret
        exact ⟨rfl, rfl⟩
      · have e6 : R = false := by rw [e5]; exact decide_eq_false h40
        have h41 : ¬ (i : Int) ≤ 40 := by omega
        subst e6
        clear HR hall e5
        go_wp2_with fail
        go_ret
        exact ⟨rfl, rfl⟩
end Go.Proofs.YtdpfcjhhabcheaaDoor

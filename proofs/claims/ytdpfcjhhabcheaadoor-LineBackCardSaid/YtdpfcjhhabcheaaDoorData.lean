/-
  The contracts of line.data and its closure. No condition. Own work.
-/
import Derived.Test.YtdpfcjhhabcheaaDoorRAsk
import Derived.Test.YtdpfcjhhabcheaaDoorName
namespace Go.Proofs.YtdpfcjhhabcheaaDoor
open Go Go.RowKit

/-- Is a rune no letter and no digit? -/
def othP (x : Nat) : Bool := !((decide (97 ≤ x) && decide (x ≤ 122)) || (decide (48 ≤ x) && decide (x ≤ 57)))
set_option maxHeartbeats 1600000 in
theorem oth_any (x : Nat) (w : World) : Calls Tryd.prog 66 #[.int .i32 (x : Int)] w fun e w' => e = .returned (.bool (othP x)) ∧ w = w' := by
  have hk : (97 ≤ x ∧ x ≤ 122) ∨ (48 ≤ x ∧ x ≤ 57) ∨ x < 48 ∨ (57 < x ∧ x < 97) ∨ 122 < x := by omega
  rcases hk with hk | hk | hk | hk | hk
  · have e : othP x = false := by unfold othP; simp; omega
    rw [e]
    have a0 : ¬ (x : Int) < 97 := by omega
    have a1 : ¬ (122 : Int) < (x : Int) := by omega
    clear hk e
    go_enter Tryd.func66, Tryd.ntmps66
    go_wp2_with fail
    go_ret
    exact ⟨rfl, rfl⟩
  · have e : othP x = false := by unfold othP; simp; omega
    rw [e]
    have a0 : (x : Int) < 97 := by omega
    have a1 : ¬ (x : Int) < 48 := by omega
    have a2 : ¬ (57 : Int) < (x : Int) := by omega
    clear hk e
    go_enter Tryd.func66, Tryd.ntmps66
    go_wp2_with fail
    go_ret
    exact ⟨rfl, rfl⟩
  · have e : othP x = true := by unfold othP; simp; omega
    rw [e]
    have a0 : (x : Int) < 97 := by omega
    have a1 : (x : Int) < 48 := by omega
    clear hk e
    go_enter Tryd.func66, Tryd.ntmps66
    go_wp2_with fail
    go_ret
    exact ⟨rfl, rfl⟩
  · have e : othP x = true := by unfold othP; simp; omega
    rw [e]
    have a0 : (x : Int) < 97 := by omega
    have a1 : ¬ (x : Int) < 48 := by omega
    have a2 : (57 : Int) < (x : Int) := by omega
    clear hk e
    go_enter Tryd.func66, Tryd.ntmps66
    go_wp2_with fail
    go_ret
    exact ⟨rfl, rfl⟩
  · have e : othP x = true := by unfold othP; simp; omega
    rw [e]
    have a0 : ¬ (x : Int) < 97 := by omega
    have a1 : (122 : Int) < (x : Int) := by omega
    have a2 : ¬ (x : Int) < 48 := by omega
    have a3 : (57 : Int) < (x : Int) := by omega
    clear hk e
    go_enter Tryd.func66, Tryd.ntmps66
    go_wp2_with fail
    go_ret
    exact ⟨rfl, rfl⟩
theorem dec_low (s : ByteArray) (i : Nat) (c : UInt8) (h : s.data.toList[i]? = some c) (hc : c.toNat < 128) : Utf8.decode s i = (c.toNat, 1) := by
  rw [Lib.decode_at, get_list s i c h]
  unfold Lib.decodeN
  rw [if_pos hc]
theorem dec_high (s : ByteArray) (i : Nat) (c : UInt8) (h : s.data.toList[i]? = some c) (hc : 128 ≤ c.toNat) : 128 ≤ (Utf8.decode s i).1 := by
  rw [Lib.decode_at, get_list s i c h]
  unfold Lib.decodeN
  repeat' split
  all_goals (simp only; omega)
theorem oth_name (c : UInt8) : othP c.toNat = !nameC c := rfl
theorem idx_all (s : ByteArray) : ∀ (f pos : Nat), s.size ≤ pos + f → (Lib.idxFuncFrom othP true s f pos < 0 ↔ (s.data.toList.drop pos).all nameC = true)
  | 0, pos, h => by
    rw [List.drop_of_length_le (by rw [← sz_list]; omega)]
    simp [Lib.idxFuncFrom]
  | f + 1, pos, h => by
    unfold Lib.idxFuncFrom
    by_cases hp : pos < s.size
    · rw [if_pos hp]
      obtain ⟨c, hc⟩ : ∃ c, s.data.toList[pos]? = some c := ⟨_, List.getElem?_eq_getElem (by rw [← sz_list]; exact hp)⟩
      have hd : s.data.toList.drop pos = c :: s.data.toList.drop (pos + 1) := by
        rw [List.drop_eq_getElem_cons (by rw [← sz_list]; exact hp)]
        congr 1
        exact Option.some.inj ((List.getElem?_eq_getElem _).symm.trans hc)
      rw [hd, List.all_cons]
      by_cases h128 : c.toNat < 128
      · rw [dec_low s pos c hc h128, oth_name]
        cases hn : nameC c with
        | true =>
          simp only [Bool.not_true, Bool.false_eq_true, if_false, Bool.true_and]
          exact idx_all s f (pos + 1) (by omega)
        | false =>
          simp only [Bool.not_false, if_true, Bool.false_and, Bool.false_eq_true, iff_false]
          omega
      · have hh := dec_high s pos c hc (by omega)
        have ho : othP (Utf8.decode s pos).1 = true := by unfold othP; simp; omega
        have hn : nameC c = false := by unfold nameC; simp; omega
        rw [ho, hn]
        simp only [if_true, Bool.false_and, Bool.false_eq_true, iff_false]
        omega
    · rw [if_neg hp, List.drop_of_length_le (by rw [← sz_list]; omega)]
      simp
/-- May a text be data? -/
def dataB (l : List UInt8) : Bool := decide (l.length ≤ 40) && l.all nameC
set_option maxRecDepth 100000 in
set_option maxHeartbeats 1600000 in
theorem data_any (s : ByteArray) (w : World) : Calls Tryd.prog 50 #[.string s] w fun e w' => e = .returned (.bool (dataB s.data.toList)) ∧ Below w.heap.size w w' := by
  have hI := fun w => Tryd.strings_IndexFunc_runes 66 #[] (fun _ _ => rfl) othP s w (fun W x _ _ => (oth_any x W).mono fun e w' ⟨he, hw⟩ => ⟨he, 0, hw ▸ rfl⟩)
  have hx := idx_all s s.size 0 (by omega)
  rw [List.drop_zero] at hx
  have HI := Lib.hid hI
  have hdef : ∀ s, Lib.idxFunc othP true s = Lib.idxFuncFrom othP true s s.size 0 := fun _ => rfl
  unfold dataB
  rw [← sz_list]
  by_cases h40 : s.size ≤ 40
  · have h40' : (s.size : Int) ≤ 40 := by omega
    rw [decide_eq_true h40, Bool.true_and]
    rw [hdef s] at HI
    generalize Lib.idxFuncFrom othP true s s.size 0 = x at *
    by_cases hneg : x < 0
    · rw [hx.1 hneg]
      clear hI hx h40 hdef
      go_enter Tryd.func50, Tryd.ntmps50
      go_wp2_with fail
      refine (HI.out _).mono ?_
      rintro e w1 ⟨rfl, hb⟩
      go_wp2_with fail
      go_ret
      first | exact ⟨rfl, hb⟩ | exact ⟨ret_bool (by simp; omega), hb⟩
    · have hf : s.data.toList.all nameC = false := by
        cases ha : s.data.toList.all nameC with
        | false => rfl
        | true => exact absurd (hx.2 ha) hneg
      rw [hf]
      clear hI hx h40 hdef hf
      go_enter Tryd.func50, Tryd.ntmps50
      go_wp2_with fail
      refine (HI.out _).mono ?_
      rintro e w1 ⟨rfl, hb⟩
      go_wp2_with fail
      go_ret
      first | exact ⟨rfl, hb⟩ | exact ⟨ret_bool (by simp; omega), hb⟩
  · have h40' : ¬ (s.size : Int) ≤ 40 := by omega
    rw [decide_eq_false h40, Bool.false_and]
    clear hI hx h40 hdef HI
    go_enter Tryd.func50, Tryd.ntmps50
    go_wp2_with fail
    go_ret
    exact ⟨rfl, Below.refl _ _⟩
end Go.Proofs.YtdpfcjhhabcheaaDoor

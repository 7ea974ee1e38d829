/-
  The contracts of octet.Cut and of the reference's Cut. No condition. Own work.
-/
import Derived.Test.YtdpfcjhhabcheaaDoorTxt
import Derived.Test.YtdpfcjhhabcheaaDoorRGet
namespace Go.Proofs.YtdpfcjhhabcheaaDoor
open Go.RowKit

theorem cutV_short (s : ByteArray) (h : s.size < 4) : cutO s.data.toList = none := by
  unfold cutO
  rw [if_pos (by simpa using h)]
theorem ext_list (s : ByteArray) (i j : Nat) : (s.extract i j).data.toList = (s.data.toList.take j).drop i := by
  simp only [ByteArray.data_extract, Array.toList_extract, List.extract_eq_take_drop, List.drop_take]
theorem cutO_long (s : ByteArray) (h : 4 ≤ s.size) : cutO s.data.toList = if (s.extract 4 s.size).size < gt (s.extract 0 4).data.toList then none else
    some (((s.extract 4 s.size).extract 0 (gt (s.extract 0 4).data.toList)).data.toList, ((s.extract 4 s.size).extract (gt (s.extract 0 4).data.toList) (s.extract 4 s.size).size).data.toList) := by
  have hl : s.data.toList.length = s.size := by simp
  have e1 : (s.extract 0 4).data.toList = s.data.toList.take 4 := by rw [ext_list, List.drop_zero]
  have e2 : (s.extract 4 s.size).data.toList = s.data.toList.drop 4 := by rw [ext_list, ← hl, List.take_length]
  have e3 : (s.extract 4 s.size).size = s.size - 4 := by simp
  have e4 : ∀ n, ((s.extract 4 s.size).extract 0 n).data.toList = (s.data.toList.drop 4).take n := fun n => by rw [ext_list, e2, List.drop_zero]
  have e5 : ∀ n, ((s.extract 4 s.size).extract n (s.extract 4 s.size).size).data.toList = (s.data.toList.drop 4).drop n := fun n => by
    rw [ext_list, e2, List.take_of_length_le (by rw [List.length_drop, hl, e3]; exact Nat.le_refl _)]
  rw [e1, e4, e5, e3]
  unfold cutO
  rw [if_neg (by omega), hl]
set_option maxRecDepth 100000 in
set_option maxHeartbeats 1600000 in
theorem cut_any (s : ByteArray) (h : s.size ≤ 100000) (w : World) : Calls Tryd.prog 43 #[.string s] w fun e w' => e = .returned (cutV 3 (cutO s.data.toList)) ∧ Below w.heap.size w w' := by
  by_cases h4 : s.size < 4
  · rw [cutV_short s h4]
    have h4' : (s.size : Int) < 4 := by omega
    show Calls _ _ _ _ fun e w' => e = .returned (.tuple #[.string ⟨#[]⟩, .string ⟨#[]⟩, .int .i64 3]) ∧ Below w.heap.size w w'
    go_enter Tryd.func43, Tryd.ntmps43
    go_wp2_with fail
    refine bodyPost_ret (v := .tuple #[.string ⟨#[]⟩, .string ⟨#[]⟩, .int .i64 3]) ?_ rfl ⟨rfl, Below.refl _ _⟩
    first | rfl | (rw [results_tmp3 rfl]; go_simp) | trace_state
  · rw [cutO_long s (by omega)]
    have hG := get_yes (s.extract 0 4) (by
      have e : (s.extract 0 4).data.toList.length = 4 := by rw [ext_list, List.drop_zero, List.length_take]; simp; omega
      exact ⟨by omega, by omega, by omega⟩)
    have h4' : ¬ (s.size : Int) < 4 := by omega
    have h4'' : (4 : Int) ≤ (s.size : Int) := by omega
    generalize gt (s.extract 0 4).data.toList = n at *
    obtain ⟨V, hV⟩ : ∃ V : Value, V = cutV 3 (if (s.extract 4 s.size).size < n then none else some (((s.extract 4 s.size).extract 0 n).data.toList, ((s.extract 4 s.size).extract n (s.extract 4 s.size).size).data.toList)) := ⟨_, rfl⟩
    rw [← hV]
    have HV := Lib.hid hV
    have HG := Lib.hid hG
    clear hG hV
    go_enter Tryd.func43, Tryd.ntmps43
    go_wp2_with fail
    refine (HG.out _).mono ?_
    rintro e w1 ⟨rfl, rfl⟩
    go_upto_region 5 with (fail)
    generalize s.extract 4 s.size = t at *
    by_cases hn : t.size < n
    · have hV := HV.out
      rw [if_pos hn] at hV
      subst hV
      have hn1 : (t.size : Int) < (n : Int) := by omega
      clear HV hn
      go_wp2_with fail
      refine bodyPost_ret (v := .tuple #[.string ⟨#[]⟩, .string ⟨#[]⟩, .int .i64 3]) ?_ rfl ⟨rfl, Below.refl _ _⟩
      first | rfl | (rw [results_tmp3 rfl]; go_simp)
    · have hV := HV.out
      rw [if_neg hn] at hV
      subst hV
      have hn1 : ¬ (t.size : Int) < (n : Int) := by omega
      have hn2 : (n : Int) ≤ (t.size : Int) := by omega
      have hn0 : (0 : Int) ≤ (n : Int) := by omega
      clear HV hn
      go_wp2_with fail
      refine wp_region_txt (fun w' => w.drew = w') (by kernel_rfl) (by kernel_rfl) rfl ?_
      repeat (first
        | (refine text_skip (by rfl) ?_; simp only [Act.put, List.setIfInBounds_toArray, List.set_cons_zero, List.set_cons_succ])
        | (refine text_pure (v := ?_) (by rfl) (fun wx hS => ?_) ?_; rotate_left; (go_simp; with_reducible exact rfl); simp only [Act.put, List.setIfInBounds_toArray, List.set_cons_zero, List.set_cons_succ]))
      refine text_nil (fun wx hS => ?_)
      subst hS
      go_wp2_with fail
      refine bodyPost_ret (v := .tuple #[.string (t.extract 0 n), .string (t.extract n t.size), .int .i64 0]) ?_ rfl ⟨rfl, (Below.refl _ _).drew⟩
      first | rfl | (rw [results_tmp3 rfl]; go_simp)
theorem cutO_ref (s : ByteArray) (h : 4 ≤ s.size) : cutO s.data.toList = if s.size - 4 < gt (s.extract 0 4).data.toList then none else
    some ((s.extract 4 (4 + gt (s.extract 0 4).data.toList)).data.toList, (s.extract (4 + gt (s.extract 0 4).data.toList) s.size).data.toList) := by
  have hl : s.data.toList.length = s.size := by simp
  have e1 : (s.extract 0 4).data.toList = s.data.toList.take 4 := by rw [ext_list, List.drop_zero]
  have e4 : ∀ n, (s.extract 4 (4 + n)).data.toList = (s.data.toList.drop 4).take n := fun n => by rw [ext_list, List.drop_take]; congr 1; omega
  have e5 : ∀ n, (s.extract (4 + n) s.size).data.toList = (s.data.toList.drop 4).drop n := fun n => by
    rw [ext_list, ← hl, List.take_length, List.drop_drop]
  rw [e1, e4, e5]
  unfold cutO
  rw [if_neg (by omega), hl]
set_option maxRecDepth 100000 in
set_option maxHeartbeats 1600000 in
theorem rcut_any (s : ByteArray) (h : s.size ≤ 100000) (w : World) : Calls Tryd.prog 45 #[.string s] w fun e w' => e = .returned (cutV 3 (cutO s.data.toList)) ∧ Below w.heap.size w w' := by
  by_cases h4 : s.size < 4
  · rw [cutV_short s h4]
    have h4' : (s.size : Int) < 4 := by omega
    show Calls _ _ _ _ fun e w' => e = .returned (.tuple #[.string ⟨#[]⟩, .string ⟨#[]⟩, .int .i64 3]) ∧ Below w.heap.size w w'
    go_enter Tryd.func45, Tryd.ntmps45
    go_wp2_with fail
    refine bodyPost_ret (v := .tuple #[.string ⟨#[]⟩, .string ⟨#[]⟩, .int .i64 3]) ?_ rfl ⟨rfl, Below.refl _ _⟩
    first | rfl | (rw [results_tmp3 rfl]; go_simp)
  · rw [cutO_ref s (by omega)]
    have e4 : (s.extract 0 4).data.toList.length = 4 := by rw [ext_list, List.drop_zero, List.length_take]; simp; omega
    have hG := rget4 (s.extract 0 4) e4
    have hlt := gt_lt (s.extract 0 4).data.toList
    rw [e4] at hlt
    have h4' : ¬ (s.size : Int) < 4 := by omega
    have h4'' : (4 : Int) ≤ (s.size : Int) := by omega
    generalize gt (s.extract 0 4).data.toList = n at *
    obtain ⟨V, hV⟩ : ∃ V : Value, V = cutV 3 (if s.size - 4 < n then none else some ((s.extract 4 (4 + n)).data.toList, (s.extract (4 + n) s.size).data.toList)) := ⟨_, rfl⟩
    rw [← hV]
    have HV := Lib.hid hV
    have HG := Lib.hid hG
    clear hG hV e4
    have w1 : wrap64 ((s.size : Int) - 4) = (s.size : Int) - 4 := by unfold wrap64; omega
    have w2 : (4 : Int) + (n : Int) = ((4 + n : Nat) : Int) := by omega
    have w3 : wrap64 ((4 + n : Nat) : Int) = ((4 + n : Nat) : Int) := by unfold wrap64; omega
    go_enter Tryd.func45, Tryd.ntmps45
    by_cases hn : s.size - 4 < n
    · have hV := HV.out
      rw [if_pos hn] at hV
      subst hV
      have hn1 : (s.size : Int) - 4 < (n : Int) := by omega
      clear HV hn
      go_wp2_with fail
      refine (HG.out _).mono ?_
      rintro e w1 ⟨rfl, rfl⟩
      go_wp2_with fail
      refine bodyPost_ret (v := .tuple #[.string ⟨#[]⟩, .string ⟨#[]⟩, .int .i64 3]) ?_ rfl ⟨rfl, Below.refl _ _⟩
      first | rfl | (rw [results_tmp3 rfl]; go_simp)
    · have hV := HV.out
      rw [if_neg hn] at hV
      subst hV
      have hn1 : ¬ (s.size : Int) - 4 < (n : Int) := by omega
      have hn2 : ((4 + n : Nat) : Int) ≤ (s.size : Int) := by omega
      have hn3 : (4 : Int) ≤ ((4 + n : Nat) : Int) := by omega
      have hn0 : (0 : Int) ≤ ((4 + n : Nat) : Int) := by omega
      obtain ⟨m, hm⟩ : ∃ m, m = 4 + n := ⟨_, rfl⟩
      rw [← hm] at w2 w3 hn2 hn3 hn0 ⊢
      have w4 : IntKind.i64.wrap (m : Int) = (m : Int) := by rw [IntKind.wrap_i64]; omega
      clear HV hn hm
      go_wp2_with fail
      refine (HG.out _).mono ?_
      rintro e w1 ⟨rfl, rfl⟩
      go_wp2_with fail
      refine wp_region_txt (fun w' => w.drew = w') (by kernel_rfl) (by kernel_rfl) rfl ?_
      repeat (first
        | (refine text_skip (by rfl) ?_; simp only [Act.put, List.setIfInBounds_toArray, List.set_cons_zero, List.set_cons_succ])
        | (refine text_pure (v := ?_) (by rfl) (fun wx hS => ?_) ?_; rotate_left; (go_simp; with_reducible exact rfl); simp only [Act.put, List.setIfInBounds_toArray, List.set_cons_zero, List.set_cons_succ]))
      refine text_nil (fun wx hS => ?_)
      subst hS
      go_wp2_with fail
      refine bodyPost_ret (v := .tuple #[.string (s.extract 4 m), .string (s.extract m s.size), .int .i64 0]) ?_ rfl ⟨rfl, (Below.refl _ _).drew⟩
      first | rfl | (rw [results_tmp3 rfl]; go_simp)
end Go.Proofs.YtdpfcjhhabcheaaDoor

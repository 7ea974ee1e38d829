/-
  The two parses are the same, plainly. No condition. Own work.
-/
import Derived.Test.YtdpfcjhhabcheaaRParseA
namespace Go.Proofs.Ytdpfcjhhabcheaa
open Go Go.RowKit

theorem numR_yes {l : List UInt8} (h : isN l = true) : numR l = ((numI l : Nat) : Int) ∧ numB (numR l) = true := by
  unfold isN at h
  obtain ⟨v, hv⟩ := Option.isSome_iff_exists.1 h
  obtain ⟨h1, h2⟩ := numI_some hv
  unfold numR
  rw [hv, h1]
  exact ⟨rfl, by unfold numB; simp; omega⟩
theorem numR_no {l : List UInt8} (h : isN l = false) : numR l = -1 := by
  unfold isN at h
  unfold numR
  cases hv : numO l with
  | none => rfl
  | some v => rw [hv] at h; cases h
theorem rask_yes {y : List UInt8} (h : askOk y = true) : raskL y = askI y := by
  unfold askOk at h
  unfold raskL raskP askI
  change (match findB 58 (baL y).data.toList with | some i => _ | none => _) = _
  cases hf : findB 58 (baL y).data.toList with
  | none => rw [hf] at h; cases h
  | some i =>
    rw [hf] at h
    dsimp only at h ⊢
    rw [Bool.and_eq_true] at h
    obtain ⟨a1, a2⟩ := numR_yes (l := ((baL y).extract 0 i).data.toList) h.1
    obtain ⟨b1, b2⟩ := numR_yes (l := ((baL y).extract (i + 1) (baL y).size).data.toList) h.2
    change (if 0 ≤ numR ((baL y).extract 0 i).data.toList ∧ 0 ≤ numR ((baL y).extract (i + 1) (baL y).size).data.toList then (numR ((baL y).extract 0 i).data.toList, numR ((baL y).extract (i + 1) (baL y).size).data.toList) else (-1, 0)) = _
    rw [a1, b1, if_pos ⟨by omega, by omega⟩]
theorem rask_no {y : List UInt8} (h : askOk y = false) : askB (raskL y) = false := by
  unfold askOk at h
  unfold raskL raskP
  change askB (match findB 58 (baL y).data.toList with | some i => _ | none => _) = _
  cases hf : findB 58 (baL y).data.toList with
  | none => rfl
  | some i =>
    rw [hf] at h
    dsimp only at h ⊢
    change askB (if 0 ≤ numR ((baL y).extract 0 i).data.toList ∧ 0 ≤ numR ((baL y).extract (i + 1) (baL y).size).data.toList then (numR ((baL y).extract 0 i).data.toList, numR ((baL y).extract (i + 1) (baL y).size).data.toList) else (-1, 0)) = _
    rw [if_neg]
    · rfl
    · rintro ⟨h1, h2⟩
      rw [Bool.and_eq_false_iff] at h
      rcases h with h | h
      · rw [numR_no h] at h1; omega
      · rw [numR_no h] at h2; omega
theorem rEnd_no {wd nm dt : ByteArray} {nums : List Int} {asks : List (Int × Int)} {rest : List (List UInt8)} (h : evOk ⟨wd, nums, nm, dt, asks⟩ = false) : rEnd wd nums nm dt asks rest = none := by
  unfold rEnd
  rw [if_neg]
  rw [h]
  simp
theorem pEnd_is {wd nm dt : ByteArray} {nums : List Int} {asks : List (Int × Int)} {rest : List (List UInt8)} : pEnd wd nums nm dt asks true rest = rEnd wd nums nm dt asks rest := by
  unfold pEnd rEnd
  simp
theorem pEnd_no {wd nm dt : ByteArray} {nums : List Int} {asks : List (Int × Int)} {rest : List (List UInt8)} : pEnd wd nums nm dt asks false rest = none := by
  unfold pEnd
  simp
theorem rShape_no {s : Shp} {wd : ByteArray} {nums : List Int} {rest : List (List UInt8)} (h : ∀ nm dt asks, evOk ⟨wd, nums, nm, dt, asks⟩ = false) : rShape s wd nums rest = none := by
  unfold rShape
  split
  · cases rest with
    | nil => exact rEnd_no (h _ _ _)
    | cons y q => exact rEnd_no (h _ _ _)
  · split
    · cases rest with
      | nil => rfl
      | cons y q => exact rEnd_no (h _ _ _)
    · split
      · exact rEnd_no (h _ _ _)
      · exact rEnd_no (h _ _ _)
theorem evOk_of {x : List UInt8} {s : Shp} (ho : ofW x = some s) (nums : List Int) (nm dt : ByteArray) (asks : List (Int × Int)) :
    evOk ⟨⟨x.toArray⟩, nums, nm, dt, asks⟩ = (headB s ⟨⟨x.toArray⟩, nums, nm, dt, asks⟩ && (nums.all numB && asks.all askB)) := by
  unfold evOk
  dsimp only
  rw [str_tl]
  dsimp only
  rw [ho]
theorem evOk_nums {x : List UInt8} {s : Shp} (ho : ofW x = some s) {nums : List Int} (h : nums.all numB = false) (nm dt : ByteArray) (asks : List (Int × Int)) : evOk ⟨⟨x.toArray⟩, nums, nm, dt, asks⟩ = false := by
  rw [evOk_of ho, h]
  simp
theorem evOk_len {x : List UInt8} {s : Shp} (ho : ofW x = some s) {nums : List Int} (h : nums.length < s.least ∨ s.most < nums.length) (nm dt : ByteArray) (asks : List (Int × Int)) : evOk ⟨⟨x.toArray⟩, nums, nm, dt, asks⟩ = false := by
  rw [evOk_of ho]
  have : headB s ⟨⟨x.toArray⟩, nums, nm, dt, asks⟩ = false := by
    unfold headB
    dsimp only
    rcases h with h | h
    · rw [decide_eq_false (by omega)]; simp
    · rw [decide_eq_false (p := nums.length ≤ s.most) (by omega)]; simp
  rw [this]
  rfl
theorem nums_bad {r : List (List UInt8)} (h : r.all isN = false) : (r.map numR).all numB = false := by
  rw [List.all_eq_false] at h ⊢
  obtain ⟨y, hy, hn⟩ := h
  exact ⟨numR y, List.mem_map.2 ⟨y, hy, rfl⟩, by rw [numR_no (by simpa using hn)]; decide⟩
theorem nums_good {r : List (List UInt8)} (h : r.all isN = true) : r.map numR = r.map fun x => ((numI x : Nat) : Int) := by
  rw [List.all_eq_true] at h
  exact List.map_congr_left fun y hy => (numR_yes (h y hy)).1
theorem parse_eq : ∀ (ws : List (List UInt8)), (∀ y ∈ ws, y ≠ []) → parseW ws = rW ws
  | [], _ => rfl
  | x :: r, hne => by
    unfold parseW rW
    dsimp only
    cases ho : ofW x with
    | none =>
      have : nk sh0 r.length = 0 := rfl
      dsimp only [Option.getD, Option.isSome]
      unfold pNums
      rw [this]
      rw [if_neg (by omega)]
      rw [List.take_zero, List.all_nil, if_pos rfl]
      unfold pName pData pAsks
      simp only [sh0, Bool.false_eq_true, if_false]
      exact pEnd_no
    | some s =>
      dsimp only [Option.getD, Option.isSome]
      have hns := of_ns ho
      have hone := of_one ho
      have hlm := of_lm ho
      by_cases hl : s.least < s.most
      · obtain ⟨f1, f2, f3⟩ := hlm hl
        have hk : nk s r.length = r.length := by unfold nk; rw [if_pos hl]
        unfold pNums
        rw [hk, if_neg (by omega), List.take_of_length_le (Nat.le_refl _), List.drop_of_length_le (Nat.le_refl _)]
        unfold pName pData pAsks rShape
        rw [f1, f2, f3]
        simp only [Bool.false_eq_true, if_false]
        by_cases hm : r.length ≤ s.most
        · rw [List.take_of_length_le hm, List.drop_of_length_le hm]
          cases ha : r.all isN with
          | true => rw [if_pos rfl, nums_good ha]; exact pEnd_is
          | false => rw [if_neg (by simp)]; exact (rEnd_no (evOk_nums ho (nums_bad ha) _ _ _)).symm
        · have e1 : rEnd (ByteArray.mk x.toArray) ((r.take s.most).map numR) ⟨#[]⟩ ⟨#[]⟩ [] (r.drop s.most) = none := by
            unfold rEnd
            rw [if_neg]
            intro h
            have := congrArg List.length h.1
            simp at this
            omega
          rw [e1]
          cases ha : r.all isN with
          | true =>
            rw [if_pos rfl, pEnd_is]
            exact rEnd_no (evOk_len ho (.inr (by simp; omega)) _ _ _)
          | false => rw [if_neg (by simp)]
      · have hk : nk s r.length = s.most := by unfold nk; rw [if_neg hl]; omega
        unfold pNums
        rw [hk]
        by_cases hs : r.length < s.most
        · rw [if_pos hs]
          exact (rShape_no fun nm dt asks => evOk_len ho (.inl (by simp; omega)) nm dt asks).symm
        rw [if_neg hs]
        cases ha : (r.take s.most).all isN with
        | false =>
          rw [if_neg (by simp)]
          exact (rShape_no fun nm dt asks => evOk_nums ho (nums_bad ha) nm dt asks).symm
        | true =>
          rw [if_pos rfl, nums_good ha]
          generalize ((r.take s.most).map fun x => ((numI x : Nat) : Int)) = N
          have hq : ∀ y ∈ r.drop s.most, y ≠ [] := fun y hy => hne y (List.mem_cons_of_mem _ (List.mem_of_mem_drop hy))
          generalize r.drop s.most = rest at hq
          unfold pName pData pAsks rShape
          rcases hone with ⟨f1, f2, f3⟩ | ⟨f1, f2, f3⟩ | ⟨f1, f2, f3⟩ | ⟨f1, f2, f3⟩
          · rw [f1, f2, f3]
            simp only [Bool.false_eq_true, if_false, if_true]
            cases rest with
            | nil =>
              dsimp only
              rw [pEnd_no]
              refine (rEnd_no ?_).symm
              rw [evOk_of ho]
              have : headB s ⟨⟨x.toArray⟩, N, ⟨#[]⟩, ⟨#[]⟩, []⟩ = false := by
                unfold headB
                rw [f1]
                dsimp only
                rw [if_pos rfl, show nameL (ByteArray.mk #[]).data.toList = false from by decide]
                simp
              rw [this]
              rfl
            | cons y q => exact pEnd_is
          · rw [f1, f2, f3]
            simp only [Bool.false_eq_true, if_false, if_true]
            cases rest with
            | nil => exact pEnd_no
            | cons y q =>
              have hy : y.isEmpty = false := by
                cases y with
                | nil => exact absurd rfl (hq [] (List.mem_cons_self ..))
                | cons a b => rfl
              dsimp only
              rw [hy]
              exact pEnd_is
          · rw [f1, f2, f3]
            simp only [Bool.false_eq_true, if_false, if_true, List.nil_append, Bool.true_and]
            cases hk : rest.all askOk with
            | true =>
              rw [pEnd_is]
              have : rest.map askI = rest.map raskL := List.map_congr_left fun y hy => (rask_yes (List.all_eq_true.1 hk y hy)).symm
              rw [this]
              rfl
            | false =>
              rw [pEnd_no]
              refine (rEnd_no ?_).symm
              rw [evOk_of ho]
              have : (rest.map raskL).all askB = false := by
                rw [List.all_eq_false] at hk ⊢
                obtain ⟨y, hy, hn⟩ := hk
                exact ⟨raskL y, List.mem_map.2 ⟨y, hy, rfl⟩, by rw [rask_no (by simpa using hn)]; simp⟩
              rw [this]
              simp
          · rw [f1, f2, f3]
            simp only [Bool.false_eq_true, if_false]
            exact pEnd_is
end Go.Proofs.Ytdpfcjhhabcheaa

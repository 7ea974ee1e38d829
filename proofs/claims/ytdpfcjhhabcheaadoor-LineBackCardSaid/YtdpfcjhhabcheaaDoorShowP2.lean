/-
  A shown event's words are parsed to that event. No condition. Own work.
-/
import Derived.Test.YtdpfcjhhabcheaaDoorShowP
import Derived.Test.YtdpfcjhhabcheaaDoorParse
namespace Go.Proofs.YtdpfcjhhabcheaaDoor
open Go Go.RowKit

def askW (a : Int × Int) : List UInt8 := Lib.decDigits a.1.toNat ++ 58 :: Lib.decDigits a.2.toNat
def midW (s : Shp) (e : Ev) : List (List UInt8) := if s.name then [e.name.data.toList] else if s.data then [if e.data.data.toList = [] then [45] else e.data.data.toList] else []
/-- An event's words. -/
def showW (e : Ev) : List (List UInt8) := e.word.data.toList :: ((e.nums.map fun n => Lib.decDigits n.toNat) ++ (midW ((ofW e.word.data.toList).getD ⟨0, 0, false, false, false⟩) e ++ e.asks.map askW))
theorem askW_ok (a : Int × Int) (h1 : 0 ≤ a.1) (h2 : a.1 ≤ 1099511627776) (h3 : 0 ≤ a.2) (h4 : a.2 ≤ 1099511627776) : askI (askW a) = a ∧ askOk (askW a) = true := by
  obtain ⟨d1, n1, v1⟩ := dd_all a.1.toNat
  have hl : (baL (askW a)).data.toList = askW a := rfl
  have hfind : findB 58 (baL (askW a)).data.toList = some (Lib.decDigits a.1.toNat).length := by
    rw [hl]
    refine find_of (by simp [askW]) (fun j d hj hd => ?_)
    unfold askW at hd
    rw [List.getElem?_append_left hj] at hd
    exact (dig_not d (List.all_eq_true.1 d1 d (List.mem_of_getElem? hd))).2
  have e1 : ((baL (askW a)).extract 0 (Lib.decDigits a.1.toNat).length).data.toList = Lib.decDigits a.1.toNat := by
    rw [ext_list, hl]
    simp [askW]
  have e2 : ((baL (askW a)).extract ((Lib.decDigits a.1.toNat).length + 1) (baL (askW a)).size).data.toList = Lib.decDigits a.2.toNat := by
    rw [ext_list, hl, sz_list, hl, List.take_of_length_le (Nat.le_refl _)]
    unfold askW
    rw [List.drop_append]
    simp
  have k1 := numO_dec a.1.toNat (by omega)
  have k2 := numO_dec a.2.toNat (by omega)
  constructor
  · unfold askI
    rw [hfind]
    dsimp only
    rw [e1, e2, (numI_some k1).1, (numI_some k2).1]
    exact Prod.ext (by dsimp only; omega) (by dsimp only; omega)
  · unfold askOk
    rw [hfind]
    dsimp only
    rw [e1, e2, k1, k2]
    rfl
theorem baL_get (s : ByteArray) : baL s.data.toList = s := rfl
theorem empty_of {s : ByteArray} (h : s.data.toList = []) : s = ⟨#[]⟩ := by
  rw [← baL_get s, h]
  rfl
theorem parse_show (e : Ev) (h : evOk e = true) : parseW (showW e) = some e := by
  have hev := h
  unfold evOk at h
  cases ho : ofW e.word.toList with
  | none => rw [ho] at h; cases h
  | some s =>
    rw [ho] at h
    rw [str_tl] at ho
    dsimp only at h
    rw [Bool.and_eq_true, Bool.and_eq_true] at h
    obtain ⟨h1, h2, h3⟩ := h
    unfold headB at h1
    simp only [Bool.and_eq_true, decide_eq_true_eq] at h1
    obtain ⟨⟨⟨⟨g1, g2⟩, g3⟩, g4, g5⟩, g6⟩ := h1
    have hn : ∀ n ∈ e.nums, 0 ≤ n ∧ n ≤ 1099511627776 := fun n hn => by
      have := List.all_eq_true.1 h2 n hn
      unfold numB at this
      simpa using this
    have ha : ∀ a ∈ e.asks, askI (askW a) = a ∧ askOk (askW a) = true := fun a ha => by
      have := List.all_eq_true.1 h3 a ha
      unfold askB at this
      simp at this
      exact askW_ok a (by omega) (by omega) (by omega) (by omega)
    have hasks1 : (e.asks.map askW).map askI = e.asks := by
      rw [List.map_map]
      exact (List.map_congr_left fun a h => (ha a h).1).trans (List.map_id _)
    have hasks2 : (e.asks.map askW).all askOk = true := by
      rw [List.all_eq_true]
      intro y hy
      obtain ⟨a, h, rfl⟩ := List.mem_map.1 hy
      exact (ha a h).2
    have hnum1 : (e.nums.map fun n => Lib.decDigits n.toNat).all isN = true := by
      rw [List.all_eq_true]
      intro y hy
      obtain ⟨n, h, rfl⟩ := List.mem_map.1 hy
      obtain ⟨k1, k2⟩ := hn n h
      unfold isN
      rw [numO_dec n.toNat (by omega)]
      rfl
    have hnum2 : (e.nums.map fun n => Lib.decDigits n.toNat).map (fun x => ((numI x : Nat) : Int)) = e.nums := by
      rw [List.map_map]
      refine (List.map_congr_left fun n h => ?_).trans (List.map_id _)
      obtain ⟨k1, k2⟩ := hn n h
      dsimp only [Function.comp]
      rw [(numI_some (numO_dec n.toNat (by omega))).1]
      show ((n.toNat : Nat) : Int) = n
      omega
    have hpe : ∀ nm dt, nm = e.name → dt = e.data → pEnd e.word e.nums nm dt e.asks true [] = some e := fun nm dt e1 e2 => by
      subst e1 e2
      unfold pEnd
      rw [if_pos ⟨rfl, rfl, hev⟩]
    unfold showW parseW
    dsimp only
    rw [ho]
    dsimp only [Option.getD, Option.isSome]
    rw [baL_get]
    have hlm := of_lm ho
    have hns := of_ns ho
    have hone := of_one ho
    have hla0 : s.asks = false → e.asks = [] := fun q => by
      rw [q] at g6
      simpa using g6
    have hnk : nk s ((e.nums.map fun n => Lib.decDigits n.toNat) ++ (midW s e ++ e.asks.map askW)).length = (e.nums.map fun n => Lib.decDigits n.toNat).length := by
      unfold nk
      by_cases hl : s.least < s.most
      · obtain ⟨f1, f2, f3⟩ := hlm hl
        rw [if_pos hl, hla0 f3]
        unfold midW
        rw [f1, f2]
        simp
      · rw [if_neg hl]
        simp
        omega
    unfold pNums
    rw [hnk, if_neg (by simp), List.take_left, List.drop_left, if_pos hnum1, hnum2]
    unfold pName pData pAsks midW
    rcases hone with ⟨f1, f2, f3⟩ | ⟨f1, f2, f3⟩ | ⟨f1, f2, f3⟩ | ⟨f1, f2, f3⟩
    · rw [f1, f2, f3]
      have hk := hla0 f3
      have hd : e.data = ⟨#[]⟩ := empty_of (by rw [f2] at g5; simpa using g5)
      simp only [Bool.false_eq_true, if_false, if_true, List.singleton_append]
      rw [hk, List.map_nil]
      have := hpe (baL e.name.data.toList) ⟨#[]⟩ rfl hd.symm
      rw [hk] at this
      exact this
    · rw [f1, f2, f3]
      have hk := hla0 f3
      have hm : e.name = ⟨#[]⟩ := empty_of (by rw [f1] at g3; simpa using g3)
      simp only [Bool.false_eq_true, if_false, if_true, List.singleton_append]
      rw [hk, List.map_nil]
      by_cases hd : e.data.data.toList = []
      · rw [if_pos hd, if_pos rfl]
        have := hpe ⟨#[]⟩ ⟨#[]⟩ hm.symm (empty_of hd).symm
        rw [hk] at this
        exact this
      · rw [if_neg hd]
        have h45 : e.data.data.toList ≠ [45] := fun q => by
          unfold dataB at g4
          rw [q] at g4
          exact absurd g4 (by decide)
        rw [if_neg h45]
        have hy : e.data.data.toList.isEmpty = false := by
          cases hq : e.data.data.toList with
          | nil => exact absurd hq hd
          | cons a b => rfl
        rw [hy]
        have := hpe ⟨#[]⟩ (baL e.data.data.toList) hm.symm rfl
        rw [hk] at this
        exact this
    · rw [f1, f2, f3]
      have hm : e.name = ⟨#[]⟩ := empty_of (by rw [f1] at g3; simpa using g3)
      have hd : e.data = ⟨#[]⟩ := empty_of (by rw [f2] at g5; simpa using g5)
      simp only [Bool.false_eq_true, if_false, if_true, List.nil_append]
      rw [hasks1, hasks2]
      exact hpe ⟨#[]⟩ ⟨#[]⟩ hm.symm hd.symm
    · rw [f1, f2, f3]
      have hk := hla0 f3
      have hm : e.name = ⟨#[]⟩ := empty_of (by rw [f1] at g3; simpa using g3)
      have hd : e.data = ⟨#[]⟩ := empty_of (by rw [f2] at g5; simpa using g5)
      simp only [Bool.false_eq_true, if_false, List.nil_append]
      rw [hk, List.map_nil]
      have := hpe ⟨#[]⟩ ⟨#[]⟩ hm.symm hd.symm
      rw [hk] at this
      exact this
end Go.Proofs.YtdpfcjhhabcheaaDoor

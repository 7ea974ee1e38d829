/-
  strings.Cut at a byte; the contracts of line.ask and of the reference's ask. No condition. Own work.
-/
import Derived.Test.YtdpfcjhhabcheaaDoorRNum
import Derived.Test.YtdpfcjhhabcheaaDoorShelfE
import Derived.Laws.ResultCell
namespace Go.Proofs.YtdpfcjhhabcheaaDoor
open Go Go.RowKit

/-- Where a byte stands first. -/
def findB (c : UInt8) : List UInt8 → Option Nat
  | [] => none
  | b :: l => if b = c then some 0 else (findB c l).map (· + 1)
theorem indexByte_find (c : UInt8) : ∀ l : List UInt8, Lib.indexByte l c = match findB c l with | some i => (i : Int) | none => -1
  | [] => rfl
  | b :: l => by
    have ih := indexByte_find c l
    unfold Lib.indexByte findB
    by_cases h : b = c
    · simp [h]
    · rw [if_neg (by simpa using h), if_neg h, ih]
      cases findB c l with
      | none => simp
      | some i =>
        have : ¬ ((i : Int) == -1) = true := fun e => by
          have := eq_of_beq e
          omega
        simp only [Option.map_some]
        rw [if_neg this]
        simp
theorem find_lt {c : UInt8} : ∀ {l : List UInt8} {i : Nat}, findB c l = some i → i < l.length ∧ l[i]? = some c ∧ ∀ (j : Nat) (d : UInt8), j < i → l[j]? = some d → d ≠ c
  | [], i, h => by cases h
  | b :: l, i, h => by
    unfold findB at h
    by_cases hb : b = c
    · rw [if_pos hb] at h
      injection h with h
      subst h
      exact ⟨by simp, by simp [hb], fun j d hj => by omega⟩
    · rw [if_neg hb] at h
      obtain ⟨k, hk, rfl⟩ := Option.map_eq_some_iff.1 h
      obtain ⟨h1, h2, h3⟩ := find_lt hk
      refine ⟨by simp; omega, by simpa using h2, fun j d hj hd => ?_⟩
      cases j with
      | zero => simp at hd; rw [← hd]; exact hb
      | succ j => exact h3 j d (by omega) (by simpa using hd)
theorem find_none {c : UInt8} : ∀ {l : List UInt8}, findB c l = none → ∀ (j : Nat) (d : UInt8), l[j]? = some d → d ≠ c
  | [], _, j, d, hd => by simp at hd
  | b :: l, h, j, d, hd => by
    unfold findB at h
    by_cases hb : b = c
    · rw [if_pos hb] at h; cases h
    · rw [if_neg hb] at h
      have h2 := Option.map_eq_none_iff.1 h
      cases j with
      | zero => simp at hd; rw [← hd]; exact hb
      | succ j => exact find_none h2 j d (by simpa using hd)
abbrev sColon : ByteArray := ⟨#[58]⟩
/-- What strings.Cut returns. -/
def cutS (s : ByteArray) : Value := match findB 58 s.data.toList with
  | some i => .tuple #[.string (s.extract 0 i), .string (s.extract (i + 1) s.size), .bool true]
  | none => .tuple #[.string s, .string ⟨#[]⟩, .bool false]
set_option maxRecDepth 100000 in
set_option maxHeartbeats 3200000 in
theorem scut_any (s : ByteArray) (hs : s.size ≤ 1000000) (w : World) : Calls Tryd.prog 73 #[.string s, .string sColon] w fun e w' => e = .returned (cutS s) ∧ Below w.heap.size w w' := by
  have hI : ∀ w, Calls Tryd.prog 80 #[.string s, .string sColon] w fun e w' => e = .returned (.int .i64 (Lib.indexByte s.data.toList 58)) ∧ w' = w := fun w => Tryd.stringslite_Index_one s 58 w
  rw [indexByte_find] at hI
  unfold cutS
  cases hf : findB 58 s.data.toList with
  | none =>
    rw [hf] at hI
    have HI := Lib.hid hI
    clear hI hf
    go_enter Tryd.func73, Tryd.ntmps73
    go_wp2_with fail
    refine (HI.out _).mono ?_
    rintro e w1 ⟨rfl, rfl⟩
    go_wp2_with fail
    refine bodyPost_ret (v := .tuple #[.string s, .string ⟨#[]⟩, .bool false]) ?_ rfl ⟨rfl, Below.refl _ _⟩
    first | rfl | (rw [results_tmp3 rfl]; go_simp)
  | some i =>
    rw [hf] at hI
    obtain ⟨h1, -, -⟩ := find_lt hf
    dsimp only
    rw [← sz_list] at h1
    have HI := Lib.hid hI
    have b0 : (0 : Int) ≤ (i : Int) := by omega
    have b1 : (i : Int) ≤ (s.size : Int) := by omega
    have e1 : (i : Int) + 1 = ((i + 1 : Nat) : Int) := by omega
    have b2 : ((i + 1 : Nat) : Int) ≤ (s.size : Int) := by omega
    have b3 : (0 : Int) ≤ ((i + 1 : Nat) : Int) := by omega
    have hm64 : i + 1 < 9223372036854775808 := by omega
    obtain ⟨m, hm⟩ : ∃ m, m = i + 1 := ⟨_, rfl⟩
    rw [← hm] at e1 b2 b3 hm64 ⊢
    have e3 : IntKind.i64.wrap (m : Int) = (m : Int) := by rw [IntKind.wrap_i64]; omega
    have e2 : wrap64 (m : Int) = (m : Int) := w64n _ hm64
    clear hI hf h1 hm hm64
    go_enter Tryd.func73, Tryd.ntmps73
    go_wp2_with fail
    refine (HI.out _).mono ?_
    rintro e w1 ⟨rfl, rfl⟩
    go_wp2_with fail
    refine wp_region_txt (fun w' => w1.drew = w') (by kernel_rfl) (by kernel_rfl) rfl ?_
    repeat (first
      | (refine text_skip (by rfl) ?_; simp only [Act.put, List.setIfInBounds_toArray, List.set_cons_zero, List.set_cons_succ])
      | (refine text_pure (v := ?_) (by rfl) (fun wx hS => ?_) ?_; rotate_left; (go_simp; with_reducible exact rfl); simp only [Act.put, List.setIfInBounds_toArray, List.set_cons_zero, List.set_cons_succ]))
    refine text_nil (fun wx hS => ?_)
    subst hS
    go_wp2_with fail
    refine bodyPost_ret (v := .tuple #[.string (s.extract 0 i), .string (s.extract m s.size), .bool true]) ?_ rfl ⟨rfl, (Below.refl _ _).drew⟩
    first | rfl | (rw [results_tmp3 rfl]; go_simp)
set_option maxRecDepth 100000 in
set_option maxHeartbeats 1600000 in
theorem strcut_any (s : ByteArray) (hs : s.size ≤ 1000000) (w : World) : Calls Tryd.prog 68 #[.string s, .string sColon] w fun e w' => e = .returned (cutS s) ∧ Below w.heap.size w w' := by
  have HC := Lib.hid (scut_any s hs)
  obtain ⟨a, b, t, hV⟩ : ∃ a b t, cutS s = .tuple #[.string a, .string b, .bool t] := by
    unfold cutS
    cases findB 58 s.data.toList with
    | none => exact ⟨_, _, _, rfl⟩
    | some i => exact ⟨_, _, _, rfl⟩
  rw [hV] at HC ⊢
  clear hV
  go_enter Tryd.func68, Tryd.ntmps68
  go_wp2_with fail
  refine (HC.out _).mono ?_
  rintro e w1 ⟨rfl, hb⟩
  go_wp2_with fail
  refine bodyPost_ret (v := .tuple #[.string a, .string b, .bool t]) ?_ rfl ⟨rfl, hb⟩
  first | rfl | (rw [results_tmp3 rfl]; go_simp)
/-- What line.ask returns. -/
def askV (s : ByteArray) : Value := match findB 58 s.data.toList with
  | some i => .tuple #[.agg #[.int .i64 ((numI (s.extract 0 i).data.toList : Nat) : Int), .int .i64 ((numI (s.extract (i + 1) s.size).data.toList : Nat) : Int)], .bool ((numO (s.extract 0 i).data.toList).isSome && (numO (s.extract (i + 1) s.size).data.toList).isSome)]
  | none => .tuple #[.agg #[.int .i64 ((numI s.data.toList : Nat) : Int), .int .i64 ((numI [] : Nat) : Int)], .bool false]
set_option maxRecDepth 100000 in
set_option maxHeartbeats 3200000 in
theorem ask_gen (s a b : ByteArray) (t x y : Bool) (m n : Int) (hc : ∀ w, Calls Tryd.prog 68 #[.string s, .string sColon] w fun e w' => e = .returned (.tuple #[.string a, .string b, .bool t]) ∧ Below w.heap.size w w')
    (h1 : ∀ w, Calls Tryd.prog 52 #[.string a] w fun e w' => e = .returned (.tuple #[.int .i64 m, .bool x]) ∧ w = w') (h2 : ∀ w, Calls Tryd.prog 52 #[.string b] w fun e w' => e = .returned (.tuple #[.int .i64 n, .bool y]) ∧ w = w') (w : World) :
    Calls Tryd.prog 53 #[.string s] w fun e w' => e = .returned (.tuple #[.agg #[.int .i64 m, .int .i64 n], .bool (t && (x && y))]) ∧ Below w.heap.size w w' := by
  have HC := Lib.hid hc
  have H1 := Lib.hid h1
  have H2 := Lib.hid h2
  clear hc h1 h2
  cases t <;> cases x <;> cases y
  all_goals
    go_enter Tryd.func53, Tryd.ntmps53
    go_wp2_with fail
    refine (HC.out _).mono ?_
    rintro e1 w1 ⟨rfl, hb1⟩
    have b1 := bthen (bnew w _) hb1
    have z1 := bsz hb1
    have r1 := (hb1.block w.heap.size (by simp)).trans (heap_alloc_new w (.cells #[.int .i64 0, .int .i64 0] 78))
    have c0 : w1.cell? ⟨w.heap.size, 0, none⟩ = some (.int .i64 0) := by rw [cell_of_row _ _ _ _ _ _ r1]; rfl
    have c1 : w1.cell? ⟨w.heap.size, 1, none⟩ = some (.int .i64 0) := by rw [cell_of_row _ _ _ _ _ _ r1]; rfl
    have f0 := frozen_of_row w1 w.heap.size 0 _ _ r1
    have f1 := frozen_of_row w1 w.heap.size 1 _ _ r1
    clear hb1 r1
    go_wp2_with (first
      | ((with_reducible refine (H1.out _).mono ?_); rintro e2 w2 ⟨rfl, rfl⟩)
      | ((with_reducible refine (H2.out _).mono ?_); rintro e3 w3 ⟨rfl, rfl⟩))
    refine bodyPost_ret (v := .tuple #[.agg #[.int .i64 m, .int .i64 n], .bool _]) ?_ rfl ⟨rfl, ?_⟩
    · rw [results_cell_tmp rfl]
      go_simp
    · exact (b1.setCell (Nat.le_refl _) _).setCell (Nat.le_refl _) _
theorem ask_any (s : ByteArray) (hs : s.size ≤ 1000000) (w : World) : Calls Tryd.prog 53 #[.string s] w fun e w' => e = .returned (askV s) ∧ Below w.heap.size w w' := by
  have hc := strcut_any s hs
  unfold cutS at hc
  unfold askV
  cases hf : findB 58 s.data.toList with
  | none =>
    rw [hf] at hc
    have := ask_gen s s ⟨#[]⟩ false _ _ _ _ hc (number_any s) (number_any ⟨#[]⟩) w
    rw [Bool.false_and] at this
    exact this
  | some i =>
    rw [hf] at hc
    have := ask_gen s _ _ true _ _ _ _ hc (number_any (s.extract 0 i)) (number_any (s.extract (i + 1) s.size)) w
    rw [Bool.true_and] at this
    exact this
end Go.Proofs.YtdpfcjhhabcheaaDoor

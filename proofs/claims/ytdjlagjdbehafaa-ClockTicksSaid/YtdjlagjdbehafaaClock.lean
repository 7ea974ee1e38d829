/-
  The contracts of package clock (there, Now, Past, Tick, New, Clamp, may) and chapter 22's example. No condition. Own work.
-/
import Derived.Test.YtdjlagjdbehafaaRows
import Derived.Test.YtdjlagjdbehafaaBase
import Derived.Test.YtdjlagjdbehafaaText
namespace Go.Proofs.Ytdjlagjdbehafaa
open Go.RowKit

/-- A clock in memory. -/
structure ClkAt (w : World) (g : Nat) (m : Bool) (n : Int) : Prop where
  c0 : w.cell? ⟨g, 0, none⟩ = some (.bool m)
  c1 : w.cell? ⟨g, 1, none⟩ = some (.int .i64 n)
  fz : w.frozen? ⟨g, 1, none⟩ = false
  lt : g < w.heap.size
theorem ClkAt.below {w w' : World} {g : Nat} {m : Bool} {n : Int} (h : ClkAt w g m n) (hb : Below w.heap.size w w') : ClkAt w' g m n :=
  ⟨(hb.cell h.lt).trans h.c0, (hb.cell h.lt).trans h.c1, (hb.frozen h.lt).trans h.fz, Nat.lt_of_lt_of_le h.lt hb.size⟩

set_option maxHeartbeats 400000 in
theorem there_nil (w : World) : Calls Try.prog 42 #[.pointer none] w fun e w' => e = .returned (.bool false) ∧ w = w' := by
  go_enter Try.func42, Try.ntmps42
  go_wp2_with fail
  go_ret
  exact ⟨rfl, rfl⟩
set_option maxHeartbeats 400000 in
theorem there_at (g : Nat) (m : Bool) (n : Int) (w : World) (h : ClkAt w g m n) : Calls Try.prog 42 #[.pointer (some ⟨g, 0, none⟩)] w fun e w' => e = .returned (.bool m) ∧ w = w' := by
  have h0 := h.c0
  clear h
  go_enter Try.func42, Try.ntmps42
  go_wp2_with fail
  go_ret
  exact ⟨rfl, rfl⟩
set_option maxHeartbeats 400000 in
theorem now_nil (w : World) : Calls Try.prog 26 #[.pointer none] w fun e w' => e = .returned (.int .i64 0) ∧ w = w' := by
  go_enter Try.func26, Try.ntmps26
  go_wp2_with (go_at_call 42; refine (there_nil _).mono ?_; rintro e w' ⟨rfl, rfl⟩)
  go_ret
  exact ⟨rfl, rfl⟩
set_option maxHeartbeats 400000 in
theorem now_at (g : Nat) (m : Bool) (n : Int) (w : World) (h : ClkAt w g m n) : Calls Try.prog 26 #[.pointer (some ⟨g, 0, none⟩)] w fun e w' => e = .returned (.int .i64 (if m then n else 0)) ∧ w = w' := by
  have h1 := h.c1
  have H := Lib.hid h
  clear h
  cases m
  all_goals
    go_enter Try.func26, Try.ntmps26
    go_wp2_with (go_at_call 42; refine (there_at _ _ _ _ H.out).mono ?_; rintro e w' ⟨rfl, rfl⟩)
    go_ret
    exact ⟨rfl, rfl⟩
set_option maxHeartbeats 400000 in
theorem past_nil (t : Int) (w : World) : Calls Try.prog 27 #[.pointer none, .int .i64 t] w fun e w' => e = .returned (.bool false) ∧ w = w' := by
  go_enter Try.func27, Try.ntmps27
  go_wp2_with (go_at_call 42; refine (there_nil _).mono ?_; rintro e w' ⟨rfl, rfl⟩)
  go_ret
  exact ⟨rfl, rfl⟩
set_option maxHeartbeats 400000 in
theorem past_at (g : Nat) (m : Bool) (n t : Int) (w : World) (h : ClkAt w g m n) : Calls Try.prog 27 #[.pointer (some ⟨g, 0, none⟩), .int .i64 t] w fun e w' => e = .returned (.bool (m && decide (t ≤ n))) ∧ w = w' := by
  have h1 := h.c1
  have H := Lib.hid h
  clear h
  cases m
  all_goals
    go_enter Try.func27, Try.ntmps27
    go_wp2_with (go_at_call 42; refine (there_at _ _ _ _ H.out).mono ?_; rintro e w' ⟨rfl, rfl⟩)
    go_ret
    exact ⟨ret_bool (by simp), rfl⟩
set_option maxHeartbeats 400000 in
theorem tick_nil (t : Int) (w : World) : Calls Try.prog 25 #[.pointer none, .int .i64 t] w fun e w' => e = .returned (.int .i64 1) ∧ w = w' := by
  go_enter Try.func25, Try.ntmps25
  go_wp2_with (go_at_call 42; refine (there_nil _).mono ?_; rintro e w' ⟨rfl, rfl⟩)
  go_ret
  exact ⟨rfl, rfl⟩
set_option maxHeartbeats 400000 in
theorem tick_unmade (g : Nat) (n t : Int) (w : World) (h : ClkAt w g false n) : Calls Try.prog 25 #[.pointer (some ⟨g, 0, none⟩), .int .i64 t] w fun e w' => e = .returned (.int .i64 1) ∧ w = w' := by
  have H := Lib.hid h
  clear h
  go_enter Try.func25, Try.ntmps25
  go_wp2_with (go_at_call 42; refine (there_at _ _ _ _ H.out).mono ?_; rintro e w' ⟨rfl, rfl⟩)
  go_ret
  exact ⟨rfl, rfl⟩
/-- What a clock that was made answers, when it is told a time. -/
def tickV (n t : Int) : Int := if t < 0 ∨ 1099511627776 < t then 2 else if t < n then 11 else 0
set_option maxHeartbeats 800000 in
theorem tick_no (g : Nat) (n t : Int) (w : World) (h : ClkAt w g true n) (ht : t < 0 ∨ 1099511627776 < t ∨ t < n) : Calls Try.prog 25 #[.pointer (some ⟨g, 0, none⟩), .int .i64 t] w fun e w' => e = .returned (.int .i64 (tickV n t)) ∧ w = w' := by
  have h1 := h.c1
  have H := Lib.hid h
  clear h
  by_cases a : t < 0
  · go_enter Try.func25, Try.ntmps25
    go_wp2_with (go_at_call 42; refine (there_at _ _ _ _ H.out).mono ?_; rintro e w' ⟨rfl, rfl⟩)
    go_ret
    exact ⟨ret_i64 (by rw [tickV, if_pos (.inl a)]), rfl⟩
  · by_cases b : 1099511627776 < t
    · go_enter Try.func25, Try.ntmps25
      go_wp2_with (go_at_call 42; refine (there_at _ _ _ _ H.out).mono ?_; rintro e w' ⟨rfl, rfl⟩)
      go_ret
      exact ⟨ret_i64 (by rw [tickV, if_pos (.inr b)]), rfl⟩
    · have c : t < n := by omega
      clear ht
      go_enter Try.func25, Try.ntmps25
      go_wp2_with (go_at_call 42; refine (there_at _ _ _ _ H.out).mono ?_; rintro e w' ⟨rfl, rfl⟩)
      go_ret
      exact ⟨ret_i64 (by rw [tickV, if_neg (by omega), if_pos c]), rfl⟩
set_option maxHeartbeats 800000 in
theorem tick_yes (g : Nat) (n t : Int) (w : World) (h : ClkAt w g true n) (h0 : 0 ≤ t) (h2 : t ≤ 1099511627776) (h3 : n ≤ t) :
    Calls Try.prog 25 #[.pointer (some ⟨g, 0, none⟩), .int .i64 t] w fun e w' => e = .returned (.int .i64 0) ∧ w.setCell ⟨g, 1, none⟩ (.int .i64 t) = w' := by
  have h1 := h.c1
  have hf := h.fz
  have H := Lib.hid h
  clear h
  go_enter Try.func25, Try.ntmps25
  go_wp2_with (go_at_call 42; refine (there_at _ _ _ _ H.out).mono ?_; rintro e w' ⟨rfl, rfl⟩)
  go_ret
  exact ⟨rfl, rfl⟩
theorem ClkAt.set {w : World} {g : Nat} {m : Bool} {n : Int} (h : ClkAt w g m n) (t : Int) : ClkAt (w.setCell ⟨g, 1, none⟩ (.int .i64 t)) g m t :=
  ⟨by rw [World.cell?_setCell_other w _ _ _ (by simp)]; exact h.c0, World.cell?_setCell_same w _ _ h.c1, by rw [World.frozen?_setCell]; exact h.fz, by simpa [World.setCell] using h.lt⟩

set_option maxHeartbeats 400000 in
theorem may_no (n : Int) (w : World) (h : n < 0 ∨ 1099511627776 < n) : Calls Try.prog 41 #[.int .i64 n] w fun e w' => e = .returned (.bool false) ∧ w = w' := by
  have h' : n < 0 ∨ (0 ≤ n ∧ 1099511627776 < n) := by omega
  clear h
  rcases h' with a | ⟨a, b⟩
  all_goals
    go_enter Try.func41, Try.ntmps41
    go_wp2
    go_ret
    exact ⟨ret_bool (by simp; try omega), rfl⟩
set_option maxHeartbeats 400000 in
theorem may_yes (n : Int) (w : World) (h0 : 0 ≤ n) (h1 : n ≤ 1099511627776) : Calls Try.prog 41 #[.int .i64 n] w fun e w' => e = .returned (.bool true) ∧ w = w' := by
  go_enter Try.func41, Try.ntmps41
  go_wp2
  go_ret
  exact ⟨ret_bool (by simp; try omega), rfl⟩
set_option maxHeartbeats 400000 in
theorem new_no (n : Int) (w : World) (h : n < 0 ∨ 1099511627776 < n) : Calls Try.prog 24 #[.int .i64 n] w fun e w' => e = .returned (.tuple #[.pointer none, .int .i64 2]) ∧ w = w' := by
  have HM := Lib.hid (fun w => may_no n w h)
  clear h
  go_enter Try.func24, Try.ntmps24
  go_wp2_with (go_at_call 41; refine (HM.out _).mono ?_; rintro e w' ⟨rfl, rfl⟩)
  go_ret2
  exact ⟨rfl, rfl⟩
set_option maxHeartbeats 400000 in
theorem new_yes (n : Int) (w : World) (h0 : 0 ≤ n) (h1 : n ≤ 1099511627776) :
    Calls Try.prog 24 #[.int .i64 n] w fun e w' => e = .returned (.tuple #[.pointer (some ⟨w.heap.size, 0, none⟩), .int .i64 0]) ∧ w.alloc (.cells #[.bool true, .int .i64 n] 44) = w' := by
  have HM := Lib.hid (fun w => may_yes n w h0 h1)
  go_enter Try.func24, Try.ntmps24
  go_wp2_with (go_at_call 41; refine (HM.out _).mono ?_; rintro e w' ⟨rfl, rfl⟩)
  go_ret2
  exact ⟨rfl, rfl⟩
theorem ClkAt.new (w : World) (m : Bool) (n : Int) : ClkAt (w.alloc (.cells #[.bool m, .int .i64 n] 44)) w.heap.size m n :=
  ⟨by simp [go_sem], by simp [go_sem], by simp [go_sem], by simp⟩

set_option maxHeartbeats 400000 in
theorem clamp_any (a b : Int) (w : World) : Calls Try.prog 28 #[.int .i64 a, .int .i64 b] w fun e w' => e = .returned (.int .i64 (min (max (max a b) 0) 1099511627776)) ∧ w = w' := by
  go_enter Try.func28, Try.ntmps28
  go_wp2
  all_goals go_ret
  all_goals exact ⟨ret_i64 (by omega), rfl⟩

set_option maxHeartbeats 800000 in
theorem clock_alive (w : World) : Calls Try.prog 23 #[] w fun e w' => e = .returned (.bool true) ∧ Below w.heap.size w w' := by
  have hA := ClkAt.new w true 5
  have H := Lib.hid hA
  clear hA
  go_enter Try.func23, Try.ntmps23
  go_wp2_with (first
    | (go_at_call 24; refine (new_yes 5 _ (by omega) (by omega)).mono ?_; rintro e w' ⟨rfl, rfl⟩)
    | (go_at_call 25; refine (tick_no _ 5 3 _ H.out (by omega)).mono ?_; rintro e w' ⟨rfl, rfl⟩)
    | (go_at_call 26; refine (now_at _ _ _ _ H.out).mono ?_; rintro e w' ⟨rfl, rfl⟩)
    | (go_at_call 27; (with_reducible refine (past_at _ _ _ 5 _ H.out).mono ?_); rintro e w' ⟨rfl, rfl⟩)
    | (go_at_call 27; (with_reducible refine (past_at _ _ _ 6 _ H.out).mono ?_); rintro e w' ⟨rfl, rfl⟩))
  go_ret
  exact ⟨rfl, bnew _ _⟩

end Go.Proofs.Ytdjlagjdbehafaa

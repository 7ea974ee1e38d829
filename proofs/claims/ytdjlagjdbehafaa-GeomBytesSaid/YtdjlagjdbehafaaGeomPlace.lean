/-
  The contracts of geom.Super, geom.Key, geom.Place. No condition. Own work.
-/
import Derived.Test.YtdjlagjdbehafaaGeom
namespace Go.Proofs.Ytdjlagjdbehafaa
open Go.RowKit

set_option maxHeartbeats 400000 in
theorem super_any (n : Int) (w : World) :
    Calls Try.prog 21 #[.int .i64 n] w fun e w' => e = .returned (.int .i64 (if 0 ≤ n then n % 2 else 0)) ∧ w = w' := by
  by_cases h : 0 ≤ n
  all_goals
    go_enter Try.func21, Try.ntmps21
    go_wp2_with fail
    all_goals go_ret
    all_goals exact ⟨rfl, rfl⟩

set_option maxHeartbeats 400000 in
theorem key_any (n : Int) (w : World) :
    Calls Try.prog 22 #[.int .i64 n] w fun e w' => e = .returned (.int .i64 (if 0 ≤ n then 2 + n % 2 else 2)) ∧ w = w' := by
  by_cases h : 0 ≤ n
  all_goals
    go_enter Try.func22, Try.ntmps22
    go_wp2_with fail
    all_goals go_ret
    all_goals exact ⟨rfl, rfl⟩

set_option maxHeartbeats 400000 in
theorem place_yes (b l f i : Int) (h1 : 0 ≤ i) (h2 : i < dataV b l f) (w : World) :
    Calls Try.prog 16 #[GVal b l f, .int .i64 i] w fun e w' => e = .returned (.tuple #[.int .i64 (4 + i), .int .i64 0]) ∧ Below w.heap.size w w' := by
  have hd := data_any b l f
  obtain ⟨h0, h3⟩ := dataV_bd b l f
  generalize dataV b l f = d at *
  have HD := Lib.hid hd
  clear hd
  go_enter Try.func16, Try.ntmps16
  go_wp2_with (go_at_call 15; refine (HD.out _).mono ?_; rintro e w1 ⟨rfl, hb⟩; obtain ⟨hc, hf⟩ := bcell hb)
  go_ret2
  exact ⟨rfl, bthen (bnew _ _) hb⟩

set_option maxHeartbeats 400000 in
theorem place_no (b l f i : Int) (h : ¬ (0 ≤ i ∧ i < dataV b l f)) (w : World) :
    Calls Try.prog 16 #[GVal b l f, .int .i64 i] w fun e w' => e = .returned (.tuple #[.int .i64 0, .int .i64 4]) ∧ Below w.heap.size w w' := by
  have hd := data_any b l f
  obtain ⟨h0, h3⟩ := dataV_bd b l f
  generalize dataV b l f = d at *
  have HD := Lib.hid hd
  clear hd
  by_cases hi : i < 0
  · go_enter Try.func16, Try.ntmps16
    go_wp2_with fail
    go_ret2
    exact ⟨rfl, bnew _ _⟩
  · have h4 : d ≤ i := by omega
    clear h
    go_enter Try.func16, Try.ntmps16
    go_wp2_with (go_at_call 15; refine (HD.out _).mono ?_; rintro e w1 ⟨rfl, hb⟩; obtain ⟨hc, hf⟩ := bcell hb)
    go_ret2
    exact ⟨rfl, bthen (bnew _ _) hb⟩

end Go.Proofs.Ytdjlagjdbehafaa

/-
  The contracts of package geom's small functions (Check, Data, Room, Place, Super, Key) and of their reference: what each returns; nothing that was there is turned. No condition. Own work.
-/
import Derived.Test.YtdjlagjdbehafaaRows
import Derived.Test.YtdjlagjdbehafaaBase
namespace Go.Proofs.Ytdjlagjdbehafaa
open Go.RowKit

/-- May a shape be? -/
def GOk (b l f : Int) : Prop := 8 ≤ b ∧ b ≤ 1024 ∧ 1 ≤ l ∧ l ≤ 4096 ∧ 0 ≤ f ∧ f ≤ 4294967295
instance (b l f : Int) : Decidable (GOk b l f) := by unfold GOk; infer_instance
/-- The shape as a value. -/
abbrev GVal (b l f : Int) : Value := .agg #[.int .i64 b, .int .i64 l, .int .i64 f]

set_option maxHeartbeats 400000 in
theorem check_yes (b l f : Int) (h : GOk b l f) (w : World) :
    Calls Try.prog 18 #[GVal b l f] w fun e w' => e = .returned (.int .i64 0) ∧ Below w.heap.size w w' := by
  obtain ⟨h1, h2, h3, h4, h5, h6⟩ := h
  go_enter Try.func18, Try.ntmps18
  go_wp2
  all_goals go_ret
  all_goals exact ⟨rfl, bnew _ _⟩

set_option maxHeartbeats 400000 in
theorem check_no (b l f : Int) (h : ¬ GOk b l f) (w : World) :
    Calls Try.prog 18 #[GVal b l f] w fun e w' => e = .returned (.int .i64 2) ∧ Below w.heap.size w w' := by
  have h' : b < 8 ∨ 1024 < b ∨ l < 1 ∨ 4096 < l ∨ f < 0 ∨ 4294967295 < f := by unfold GOk at h; omega
  clear h
  go_enter Try.func18, Try.ntmps18
  go_wp2
  all_goals go_ret
  all_goals exact ⟨rfl, bnew _ _⟩

/-- How many blocks are for data. -/
def dataV (b l f : Int) : Int := if GOk b l f then b - 4 else 0
theorem dataV_yes {b l f : Int} (h : GOk b l f) : dataV b l f = b - 4 := if_pos h
theorem dataV_no {b l f : Int} (h : ¬ GOk b l f) : dataV b l f = 0 := if_neg h
theorem dataV_bd (b l f : Int) : 0 ≤ dataV b l f ∧ dataV b l f ≤ 1020 := by
  by_cases h : GOk b l f
  · rw [dataV_yes h]; unfold GOk at h; omega
  · rw [dataV_no h]; omega
/-- How many may be taken. -/
def roomV (d u : Int) : Int := if 0 ≤ u ∧ u < d - 1 then d - 1 - u else 0

set_option maxHeartbeats 400000 in
theorem data_any (b l f : Int) (w : World) :
    Calls Try.prog 15 #[GVal b l f] w fun e w' => e = .returned (.int .i64 (dataV b l f)) ∧ Below w.heap.size w w' := by
  by_cases h : GOk b l f
  · rw [dataV_yes h]
    have hbd : 8 ≤ b ∧ b ≤ 1024 := ⟨h.1, h.2.1⟩
    obtain ⟨hb1, hb2⟩ := hbd
    go_enter Try.func15, Try.ntmps15
    go_wp2_with (go_at_call 18; refine (check_yes b l f h _).mono ?_; rintro e w1 ⟨rfl, hb⟩; obtain ⟨hc, hf⟩ := bcell hb)
    go_ret
    exact ⟨rfl, bthen (bnew _ _) hb⟩
  · rw [dataV_no h]
    go_enter Try.func15, Try.ntmps15
    go_wp2_with (go_at_call 18; refine (check_no b l f h _).mono ?_; rintro e w1 ⟨rfl, hb⟩; obtain ⟨hc, hf⟩ := bcell hb)
    go_ret
    exact ⟨rfl, bthen (bnew _ _) hb⟩

set_option maxHeartbeats 400000 in
theorem room_any (b l f u r : Int) (hr : roomV (dataV b l f) u = r) (w : World) :
    Calls Try.prog 13 #[GVal b l f, .int .i64 u] w fun e w' => e = .returned (.int .i64 r) ∧ Below w.heap.size w w' := by
  have hd := data_any b l f
  obtain ⟨h0, h1⟩ := dataV_bd b l f
  generalize dataV b l f = d at *
  subst hr
  have HD := Lib.hid hd
  clear hd
  by_cases hu : u < 0
  · go_enter Try.func13, Try.ntmps13
    go_wp2_with fail
    go_ret
    exact ⟨ret_i64 (by rw [roomV, if_neg (by omega)]), bnew _ _⟩
  · by_cases h2 : u ≤ 1024
    all_goals
      go_enter Try.func13, Try.ntmps13
      go_wp2_with (go_at_call 15; refine (HD.out _).mono ?_; rintro e w1 ⟨rfl, hb⟩; obtain ⟨hc, hf⟩ := bcell hb)
      all_goals go_ret
      all_goals exact ⟨ret_i64 (by unfold roomV; split <;> first | omega | (simp; omega)), bthen (bnew _ _) hb⟩

/-! ### The reference -/
set_option maxHeartbeats 400000 in
theorem ref_right (b l f : Int) (w : World) :
    Calls Try.prog 19 #[GVal b l f] w fun e w' => e = .returned (.bool (decide (GOk b l f))) ∧ Below w.heap.size w w' := by
  by_cases h : GOk b l f
  · rw [decide_eq_true h]
    obtain ⟨h1, h2, h3, h4, h5, h6⟩ := h
    go_enter Try.func19, Try.ntmps19
    go_wp2
    all_goals go_ret
    all_goals exact ⟨ret_bool (by simp; try omega), bnew _ _⟩
  · rw [decide_eq_false h]
    have h' : b < 8 ∨ 1024 < b ∨ l < 1 ∨ 4096 < l ∨ f < 0 ∨ 4294967295 < f := by unfold GOk at h; omega
    clear h
    go_enter Try.func19, Try.ntmps19
    go_wp2
    all_goals go_ret
    all_goals exact ⟨ret_bool (by simp; try omega), bnew _ _⟩

set_option maxHeartbeats 400000 in
theorem ref_data (b l f : Int) (w : World) :
    Calls Try.prog 17 #[GVal b l f] w fun e w' => e = .returned (.int .i64 (dataV b l f)) ∧ Below w.heap.size w w' := by
  have hr := ref_right b l f
  by_cases h : GOk b l f
  · rw [dataV_yes h]
    rw [decide_eq_true h] at hr
    have HR := Lib.hid hr
    clear hr
    have hbd : 8 ≤ b ∧ b ≤ 1024 := ⟨h.1, h.2.1⟩
    obtain ⟨hb1, hb2⟩ := hbd
    clear h
    go_enter Try.func17, Try.ntmps17
    go_wp2_with (go_at_call 19; refine (HR.out _).mono ?_; rintro e w1 ⟨rfl, hb⟩; obtain ⟨hc, hf⟩ := bcell hb)
    go_ret
    exact ⟨rfl, bthen (bnew _ _) hb⟩
  · rw [dataV_no h]
    rw [decide_eq_false h] at hr
    have HR := Lib.hid hr
    clear hr h
    go_enter Try.func17, Try.ntmps17
    go_wp2_with (go_at_call 19; refine (HR.out _).mono ?_; rintro e w1 ⟨rfl, hb⟩; obtain ⟨hc, hf⟩ := bcell hb)
    go_ret
    exact ⟨rfl, bthen (bnew _ _) hb⟩

set_option maxHeartbeats 400000 in
theorem ref_room (b l f u r : Int) (hr : roomV (dataV b l f) u = r) (w : World) :
    Calls Try.prog 20 #[GVal b l f, .int .i64 u] w fun e w' => e = .returned (.int .i64 r) ∧ Below w.heap.size w w' := by
  have hq := ref_right b l f
  subst hr
  by_cases h : GOk b l f
  · rw [dataV_yes h]
    rw [decide_eq_true h] at hq
    have HR := Lib.hid hq
    clear hq
    have hbd : 8 ≤ b ∧ b ≤ 1024 := ⟨h.1, h.2.1⟩
    obtain ⟨hb1, hb2⟩ := hbd
    clear h
    by_cases hu : u < 0
    · go_enter Try.func20, Try.ntmps20
      go_wp2_with (go_at_call 19; refine (HR.out _).mono ?_; rintro e w1 ⟨rfl, hb⟩; obtain ⟨hc, hf⟩ := bcell hb)
      all_goals go_ret
      all_goals exact ⟨ret_i64 (by unfold roomV; split <;> first | omega | (simp; omega)), bthen (bnew _ _) hb⟩
    · by_cases h2 : u < b - 5
      all_goals
        go_enter Try.func20, Try.ntmps20
        go_wp2_with (go_at_call 19; refine (HR.out _).mono ?_; rintro e w1 ⟨rfl, hb⟩; obtain ⟨hc, hf⟩ := bcell hb)
        all_goals go_ret
        all_goals exact ⟨ret_i64 (by unfold roomV; split <;> first | omega | (simp; omega)), bthen (bnew _ _) hb⟩
  · rw [dataV_no h]
    rw [decide_eq_false h] at hq
    have HR := Lib.hid hq
    clear hq h
    go_enter Try.func20, Try.ntmps20
    go_wp2_with (go_at_call 19; refine (HR.out _).mono ?_; rintro e w1 ⟨rfl, hb⟩; obtain ⟨hc, hf⟩ := bcell hb)
    all_goals go_ret
    all_goals exact ⟨ret_i64 (by unfold roomV; split <;> first | omega | (simp; omega)), bthen (bnew _ _) hb⟩

end Go.Proofs.Ytdjlagjdbehafaa

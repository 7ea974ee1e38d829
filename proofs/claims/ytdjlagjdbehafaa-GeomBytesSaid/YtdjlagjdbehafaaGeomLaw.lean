/-
  Chapter 9's example, and a shape that comes in, opened. No condition. Own work.
-/
import Derived.Test.YtdjlagjdbehafaaGeomPlace
import Derived.Test.YtdjlagjdbehafaaGeomOpen
namespace Go.Proofs.Ytdjlagjdbehafaa
open Go.RowKit Go.ChangeShapes Go.WideShapes Go.ChangeAt Go.Joins

set_option maxHeartbeats 400000 in
theorem geom_alive (w : World) : Calls Try.prog 14 #[] w fun e w' => e = .returned (.bool true) ∧ Below w.heap.size w w' := by
  have hok : GOk 8 10 0 := by unfold GOk; omega
  have hd := data_any 8 10 0
  have hr := room_any 8 10 0 0 3 (by rw [dataV_yes hok]; rfl)
  rw [dataV_yes hok] at hd
  have HD := Lib.hid hd
  have HR := Lib.hid hr
  clear hd hr hok
  go_enter Try.func14, Try.ntmps14
  go_wp2_with (first
    | (go_at_call 15; refine (HD.out _).mono ?_; rintro e w1 ⟨rfl, hb1⟩; obtain ⟨hc1, hf1⟩ := bcell hb1)
    | (go_at_call 13; refine (HR.out _).mono ?_; rintro e w2 ⟨rfl, hb2⟩)
    | (go_at_call 21; refine (super_any 3 _).mono ?_; rintro e w3 ⟨rfl, rfl⟩)
    | (go_at_call 22; refine (key_any 4 _).mono ?_; rintro e w3 ⟨rfl, rfl⟩))
  go_ret
  exact ⟨rfl, bthen (bthen (bnew _ _) hb1) hb2⟩

end Go.Proofs.Ytdjlagjdbehafaa

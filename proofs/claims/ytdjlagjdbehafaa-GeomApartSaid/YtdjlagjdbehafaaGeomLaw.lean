/-
  Chapter 9's example, and a shape that comes in, opened. No condition. Own work.
-/
import Derived.Test.YtdjlagjdbehafaaGeom
import Derived.Test.YtdjlagjdbehafaaLawKit
import Derived.Lib.SmallJoins
namespace Go.Proofs.Ytdjlagjdbehafaa
open Go.RowKit Go.ChangeShapes Go.WideShapes Go.ChangeAt Go.Joins

set_option maxHeartbeats 400000 in
theorem geom_alive (w : World) : Calls Try.prog 14 #[] w fun e w' => e = .returned (.bool true) ∧ Below w.heap.size w w' := by
  have hok : GOk 8 10 0 := by unfold GOk; omega
  have hd := data_any 8 10 0
  have hr := room_any 8 10 0 0 3 (by rw [dataV_yes hok]; rfl)
  rw [dataV_yes hok] at hd
  have HD := Lib.hid hd
  have HR := Lib.hid hr
  clear hd hr hok
  go_enter Try.func14, Try.ntmps14
  go_wp2_with (first
    | (go_at_call 15; refine (HD.out _).mono ?_; rintro e w1 ⟨rfl, hb1⟩; obtain ⟨hc1, hf1⟩ := bcell hb1)
    | (go_at_call 13; refine (HR.out _).mono ?_; rintro e w2 ⟨rfl, hb2⟩)
    | (go_at_call 21; refine (super_any 3 _).mono ?_; rintro e w3 ⟨rfl, rfl⟩)
    | (go_at_call 22; refine (key_any 4 _).mono ?_; rintro e w3 ⟨rfl, rfl⟩))
  go_ret
  exact ⟨rfl, bthen (bthen (bnew _ _) hb1) hb2⟩

/-- A shape that comes in. -/
theorem open_geo {H : Type} {enc : TypeId × Value → H} {w : World} {base b0 : Nat} {spare : Nat → Bool} {held : Bool} {r : Reach} {v : Value} {d : DataW H} {p : List MemPlace}
    (hv : Value.okWide Try.prog w r b0 23 v) (h : DataW.Trod enc Try.prog w base spare held 23 v d p) : ∃ b l f : Int, v = GVal b l f := by
  obtain ⟨c0, c1, c2, y0, y1, y2, m, rfl, rfl, rfl, h0, h1, h2⟩ := open_agg3 Try.underlying23 (by kernel_rfl) (by kernel_rfl) hv h
  obtain ⟨b, e0, _, _⟩ := DataW.trod_int Try.underlying3 h0
  obtain ⟨l, e1, _, _⟩ := DataW.trod_int Try.underlying3 h1
  obtain ⟨f, e2, _, _⟩ := DataW.trod_int Try.underlying3 h2
  simp at e0 e1 e2
  subst e0 e1 e2
  exact ⟨b, l, f, rfl⟩

end Go.Proofs.Ytdjlagjdbehafaa

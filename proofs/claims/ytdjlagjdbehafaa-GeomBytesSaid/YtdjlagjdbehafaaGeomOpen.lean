/-
  A shape that comes in, opened. No condition. Own work.
-/
import Derived.Test.YtdjlagjdbehafaaGeom
import Derived.Test.YtdjlagjdbehafaaLawKit
import Derived.Lib.SmallJoins
namespace Go.Proofs.Ytdjlagjdbehafaa
open Go.RowKit Go.ChangeShapes Go.WideShapes Go.ChangeAt Go.Joins

/-- A shape that comes in. -/
theorem open_geo {H : Type} {enc : TypeId × Value → H} {w : World} {base b0 : Nat} {spare : Nat → Bool} {held : Bool} {r : Reach} {v : Value} {d : DataW H} {p : List MemPlace}
    (hv : Value.okWide Try.prog w r b0 23 v) (h : DataW.Trod enc Try.prog w base spare held 23 v d p) : ∃ b l f : Int, v = GVal b l f := by
  obtain ⟨c0, c1, c2, y0, y1, y2, m, rfl, rfl, rfl, h0, h1, h2⟩ := open_agg3 Try.underlying23 (by kernel_rfl) (by kernel_rfl) hv h
  obtain ⟨b, e0, _, _⟩ := DataW.trod_int Try.underlying3 h0
  obtain ⟨l, e1, _, _⟩ := DataW.trod_int Try.underlying3 h1
  obtain ⟨f, e2, _, _⟩ := DataW.trod_int Try.underlying3 h2
  simp at e0 e1 e2
  subst e0 e1 e2
  exact ⟨b, l, f, rfl⟩

end Go.Proofs.Ytdjlagjdbehafaa

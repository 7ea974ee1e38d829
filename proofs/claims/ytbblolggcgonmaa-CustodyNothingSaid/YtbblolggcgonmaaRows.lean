/-
  No cell of these rows narrows 'for every input' (looked for: loops, veiled, ifaces, maps, wideKeys, modest, calm, conditions, laid).
  DERIVED. THE GIVEN ROWS OF THIS SEAT. 9 by the template 'for every input the law returns true; each argument reads behind the call as it read before'; 0 by the template 'total and deterministic' (their statements: YtbblolggcgonmaaTotals.lean).
  GIVEN WITH THE SEED: the statements are not yours to turn. If you find one false, say at which input.
  Laid BY PROGRAM, IN A SANDBOX (cutbox-rows.mjs): the forced cells as the released guide's own fill.sh prints them over the translation a15a557afafd2240… (all of the seat's roots in one cut). By AI agents, Wed Nov 11 2026. No macro, syntax, notation, axiom, sorry.
-/
import Derived.Test.YtbblolggcgonmaaChecked
import GoSem.Claim
import GoSem.ClaimJoined
import GoSem.ClaimMapViews
import Derived.JoinedTies
import Derived.KernelRfl
namespace Go.Proofs.Ytbblolggcgonmaa
/- THE CELL 'sum', in the pinned program and in every row, IS THE sha256 OF THE DUMP (.gsa) THAT YtbblolggcgonmaaProg.lean LOADS. Nothing in Lean hashes anything: it is a label: what it is worth is what the hold of that sum in a sandbox is worth. -/
noncomputable def Try.pinned : Pinned := { name := "ytbblolggcgonmaa", sum := "a15a557afafd224058353d514cacee7cb90c69ff872dcf7a8fcfda1e0e707146", checked := Try.checked }
namespace Rows
def none {H : Type} : Left H := { results := [], args := [] }

/-- 'keepsakelaw13.SpaceCloses': WHATEVER THE INPUT: true; the input reads as it did. -/
def spaceClosesSpec : ChangeSpec := { name := "spaceCloses", fn := fun _ => fun
  | [d1, d2] => { results := [.lit (.bool true)], args := [d1, d2] }
  | _ => none }
def spaceClosesRow : OpenClaim := { program := "ytbblolggcgonmaa", sum := "a15a557afafd224058353d514cacee7cb90c69ff872dcf7a8fcfda1e0e707146", func := "keepsake/keepsakelaw13.SpaceCloses", spec := "spaceCloses", unfollowed := true, recurses := true, apart := false }
def SpaceClosesSaid : Prop := spaceClosesRow.holds Try.pinned (OpenSpec.ofChange spaceClosesSpec)

/-- ITS FALSE NEIGHBOUR: 'it returns false'. Refute it at one input. -/
def spaceClosesWrong : ChangeSpec := { name := "spaceCloses", fn := fun _ => fun
  | [d1, d2] => { results := [.lit (.bool false)], args := [d1, d2] }
  | _ => none }
def SpaceClosesWrongFalsely : Prop := spaceClosesRow.holds Try.pinned (OpenSpec.ofChange spaceClosesWrong)

/-- 'keepsakelaw13.SpacePlays': WHATEVER THE INPUT: true; the input reads as it did. -/
def spacePlaysSpec : ChangeSpec := { name := "spacePlays", fn := fun _ => fun
  | [d1, d2, d3] => { results := [.lit (.bool true)], args := [d1, d2, d3] }
  | _ => none }
def spacePlaysRow : OpenClaim := { program := "ytbblolggcgonmaa", sum := "a15a557afafd224058353d514cacee7cb90c69ff872dcf7a8fcfda1e0e707146", func := "keepsake/keepsakelaw13.SpacePlays", spec := "spacePlays", unfollowed := true, recurses := true, apart := false }
def SpacePlaysSaid : Prop := spacePlaysRow.holds Try.pinned (OpenSpec.ofChange spacePlaysSpec)

/-- ITS FALSE NEIGHBOUR: 'it returns false'. Refute it at one input. -/
def spacePlaysWrong : ChangeSpec := { name := "spacePlays", fn := fun _ => fun
  | [d1, d2, d3] => { results := [.lit (.bool false)], args := [d1, d2, d3] }
  | _ => none }
def SpacePlaysWrongFalsely : Prop := spacePlaysRow.holds Try.pinned (OpenSpec.ofChange spacePlaysWrong)

/-- 'keepsakelaw13.SpaceNil': WHATEVER THE INPUT: true; the input reads as it did. -/
def spaceNilSpec : ChangeSpec := { name := "spaceNil", fn := fun _ => fun
  | [d1, d2] => { results := [.lit (.bool true)], args := [d1, d2] }
  | _ => none }
def spaceNilRow : OpenClaim := { program := "ytbblolggcgonmaa", sum := "a15a557afafd224058353d514cacee7cb90c69ff872dcf7a8fcfda1e0e707146", func := "keepsake/keepsakelaw13.SpaceNil", spec := "spaceNil", unfollowed := true, recurses := true, apart := false }
def SpaceNilSaid : Prop := spaceNilRow.holds Try.pinned (OpenSpec.ofChange spaceNilSpec)

/-- ITS FALSE NEIGHBOUR: 'it returns false'. Refute it at one input. -/
def spaceNilWrong : ChangeSpec := { name := "spaceNil", fn := fun _ => fun
  | [d1, d2] => { results := [.lit (.bool false)], args := [d1, d2] }
  | _ => none }
def SpaceNilWrongFalsely : Prop := spaceNilRow.holds Try.pinned (OpenSpec.ofChange spaceNilWrong)

/-- 'keepsakelaw37.CustodySplits': WHATEVER THE INPUT: true; the input reads as it did. -/
def custodySplitsSpec : ChangeSpec := { name := "custodySplits", fn := fun _ => fun
  | [d1, d2, d3, d4, d5] => { results := [.lit (.bool true)], args := [d1, d2, d3, d4, d5] }
  | _ => none }
def custodySplitsRow : OpenClaim := { program := "ytbblolggcgonmaa", sum := "a15a557afafd224058353d514cacee7cb90c69ff872dcf7a8fcfda1e0e707146", func := "keepsake/keepsakelaw37.CustodySplits", spec := "custodySplits", unfollowed := true, recurses := true, apart := false }
def CustodySplitsSaid : Prop := custodySplitsRow.holds Try.pinned (OpenSpec.ofChange custodySplitsSpec)

/-- ITS FALSE NEIGHBOUR: 'it returns false'. Refute it at one input. -/
def custodySplitsWrong : ChangeSpec := { name := "custodySplits", fn := fun _ => fun
  | [d1, d2, d3, d4, d5] => { results := [.lit (.bool false)], args := [d1, d2, d3, d4, d5] }
  | _ => none }
def CustodySplitsWrongFalsely : Prop := custodySplitsRow.holds Try.pinned (OpenSpec.ofChange custodySplitsWrong)

/-- 'keepsakelaw37.CustodyJoins': WHATEVER THE INPUT: true; the input reads as it did. -/
def custodyJoinsSpec : ChangeSpec := { name := "custodyJoins", fn := fun _ => fun
  | [d] => { results := [.lit (.bool true)], args := [d] }
  | _ => none }
def custodyJoinsRow : OpenClaim := { program := "ytbblolggcgonmaa", sum := "a15a557afafd224058353d514cacee7cb90c69ff872dcf7a8fcfda1e0e707146", func := "keepsake/keepsakelaw37.CustodyJoins", spec := "custodyJoins", unfollowed := true, recurses := true, apart := false }
def CustodyJoinsSaid : Prop := custodyJoinsRow.holds Try.pinned (OpenSpec.ofChange custodyJoinsSpec)

/-- ITS FALSE NEIGHBOUR: 'it returns false'. Refute it at one input. -/
def custodyJoinsWrong : ChangeSpec := { name := "custodyJoins", fn := fun _ => fun
  | [d] => { results := [.lit (.bool false)], args := [d] }
  | _ => none }
def CustodyJoinsWrongFalsely : Prop := custodyJoinsRow.holds Try.pinned (OpenSpec.ofChange custodyJoinsWrong)

/-- 'keepsakelaw37.CustodyEnough': WHATEVER THE INPUT: true; the input reads as it did. -/
def custodyEnoughSpec : ChangeSpec := { name := "custodyEnough", fn := fun _ => fun
  | [d1, d2, d3, d4, d5] => { results := [.lit (.bool true)], args := [d1, d2, d3, d4, d5] }
  | _ => none }
def custodyEnoughRow : OpenClaim := { program := "ytbblolggcgonmaa", sum := "a15a557afafd224058353d514cacee7cb90c69ff872dcf7a8fcfda1e0e707146", func := "keepsake/keepsakelaw37.CustodyEnough", spec := "custodyEnough", unfollowed := true, recurses := true, apart := false }
def CustodyEnoughSaid : Prop := custodyEnoughRow.holds Try.pinned (OpenSpec.ofChange custodyEnoughSpec)

/-- ITS FALSE NEIGHBOUR: 'it returns false'. Refute it at one input. -/
def custodyEnoughWrong : ChangeSpec := { name := "custodyEnough", fn := fun _ => fun
  | [d1, d2, d3, d4, d5] => { results := [.lit (.bool false)], args := [d1, d2, d3, d4, d5] }
  | _ => none }
def CustodyEnoughWrongFalsely : Prop := custodyEnoughRow.holds Try.pinned (OpenSpec.ofChange custodyEnoughWrong)

/-- 'keepsakelaw37.CustodyOver': WHATEVER THE INPUT: true; the input reads as it did. -/
def custodyOverSpec : ChangeSpec := { name := "custodyOver", fn := fun _ => fun
  | [d] => { results := [.lit (.bool true)], args := [d] }
  | _ => none }
def custodyOverRow : OpenClaim := { program := "ytbblolggcgonmaa", sum := "a15a557afafd224058353d514cacee7cb90c69ff872dcf7a8fcfda1e0e707146", func := "keepsake/keepsakelaw37.CustodyOver", spec := "custodyOver", unfollowed := true, recurses := true, apart := false }
def CustodyOverSaid : Prop := custodyOverRow.holds Try.pinned (OpenSpec.ofChange custodyOverSpec)

/-- ITS FALSE NEIGHBOUR: 'it returns false'. Refute it at one input. -/
def custodyOverWrong : ChangeSpec := { name := "custodyOver", fn := fun _ => fun
  | [d] => { results := [.lit (.bool false)], args := [d] }
  | _ => none }
def CustodyOverWrongFalsely : Prop := custodyOverRow.holds Try.pinned (OpenSpec.ofChange custodyOverWrong)

/-- 'keepsakelaw37.CustodyNothing': WHATEVER THE INPUT: true; the input reads as it did. -/
def custodyNothingSpec : ChangeSpec := { name := "custodyNothing", fn := fun _ => fun
  | [d1, d2] => { results := [.lit (.bool true)], args := [d1, d2] }
  | _ => none }
def custodyNothingRow : OpenClaim := { program := "ytbblolggcgonmaa", sum := "a15a557afafd224058353d514cacee7cb90c69ff872dcf7a8fcfda1e0e707146", func := "keepsake/keepsakelaw37.CustodyNothing", spec := "custodyNothing", unfollowed := true, recurses := true, apart := false }
def CustodyNothingSaid : Prop := custodyNothingRow.holds Try.pinned (OpenSpec.ofChange custodyNothingSpec)

/-- ITS FALSE NEIGHBOUR: 'it returns false'. Refute it at one input. -/
def custodyNothingWrong : ChangeSpec := { name := "custodyNothing", fn := fun _ => fun
  | [d1, d2] => { results := [.lit (.bool false)], args := [d1, d2] }
  | _ => none }
def CustodyNothingWrongFalsely : Prop := custodyNothingRow.holds Try.pinned (OpenSpec.ofChange custodyNothingWrong)

/-- 'keepsakelaw37.CustodyOnce': WHATEVER THE INPUT: true; the input reads as it did. -/
def custodyOnceSpec : ChangeSpec := { name := "custodyOnce", fn := fun _ => fun
  | [d1, d2, d3, d4] => { results := [.lit (.bool true)], args := [d1, d2, d3, d4] }
  | _ => none }
def custodyOnceRow : OpenClaim := { program := "ytbblolggcgonmaa", sum := "a15a557afafd224058353d514cacee7cb90c69ff872dcf7a8fcfda1e0e707146", func := "keepsake/keepsakelaw37.CustodyOnce", spec := "custodyOnce", unfollowed := true, recurses := true, apart := false }
def CustodyOnceSaid : Prop := custodyOnceRow.holds Try.pinned (OpenSpec.ofChange custodyOnceSpec)

/-- ITS FALSE NEIGHBOUR: 'it returns false'. Refute it at one input. -/
def custodyOnceWrong : ChangeSpec := { name := "custodyOnce", fn := fun _ => fun
  | [d1, d2, d3, d4] => { results := [.lit (.bool false)], args := [d1, d2, d3, d4] }
  | _ => none }
def CustodyOnceWrongFalsely : Prop := custodyOnceRow.holds Try.pinned (OpenSpec.ofChange custodyOnceWrong)

/- THE SECOND FORM. 'bulk': how many values and letters a reading holds, each counted each time it is reached (what is shared counts as often as it is met; a slice's spare places count too). A statement '..UptoSaid' is the law's where the arguments, and the package variables that the reading takes, are together of bulk at most 1048576: NARROWER than '..Said'. Prove '..Said' where nothing that the law and all that it calls make is longer than what came in: it says more and counts as full. Else prove '..UptoSaid'. A law counts once. -/
mutual
def uptoBulk {H : Type} : DataW H → Nat
  | .lit (.string bytes) => bytes.length + 1
  | .lit _ => 1
  | .nil => 1
  | .ptr d => uptoBulk d + 1
  | .slice elems spare => uptoBulkAll elems + uptoBulkAll spare + 1
  | .agg parts => uptoBulkAll parts + 1
  | .iface _ d => uptoBulk d + 1
  | .map entries => uptoBulkEntries entries + 1
  | .held _ => 1
def uptoBulkAll {H : Type} : List (DataW H) → Nat
  | [] => 0
  | d :: r => uptoBulk d + uptoBulkAll r
def uptoBulkEntries {H : Type} : List (Lit × DataW H) → Nat
  | [] => 0
  | x :: r => uptoBulkEntry x + uptoBulkEntries r
def uptoBulkEntry {H : Type} : Lit × DataW H → Nat
  | (.string bytes, d) => bytes.length + uptoBulk d + 1
  | (_, d) => uptoBulk d + 1
 end
def uptoSmall : (H : Type) → List (DataW H) → Bool := fun _ ds => decide (uptoBulkAll ds ≤ 1048576)
def OpenSpec.upto (s : _root_.Go.ChangeSpec) : _root_.Go.OpenSpec := { _root_.Go.OpenSpec.ofChange s with cond := some uptoSmall }

/-- 'keepsakelaw13.SpaceCloses', WHERE WHAT IT READS IS OF BULK AT MOST 1048576: true; the input reads as it did. -/
def spaceClosesUptoRow : OpenClaim := { program := "ytbblolggcgonmaa", sum := "a15a557afafd224058353d514cacee7cb90c69ff872dcf7a8fcfda1e0e707146", func := "keepsake/keepsakelaw13.SpaceCloses", spec := "spaceCloses", unfollowed := true, recurses := true, apart := false, narrowed := true }
def SpaceClosesUptoSaid : Prop := spaceClosesUptoRow.holds Try.pinned (OpenSpec.upto spaceClosesSpec)

/-- 'keepsakelaw13.SpacePlays', WHERE WHAT IT READS IS OF BULK AT MOST 1048576: true; the input reads as it did. -/
def spacePlaysUptoRow : OpenClaim := { program := "ytbblolggcgonmaa", sum := "a15a557afafd224058353d514cacee7cb90c69ff872dcf7a8fcfda1e0e707146", func := "keepsake/keepsakelaw13.SpacePlays", spec := "spacePlays", unfollowed := true, recurses := true, apart := false, narrowed := true }
def SpacePlaysUptoSaid : Prop := spacePlaysUptoRow.holds Try.pinned (OpenSpec.upto spacePlaysSpec)

/-- 'keepsakelaw13.SpaceNil', WHERE WHAT IT READS IS OF BULK AT MOST 1048576: true; the input reads as it did. -/
def spaceNilUptoRow : OpenClaim := { program := "ytbblolggcgonmaa", sum := "a15a557afafd224058353d514cacee7cb90c69ff872dcf7a8fcfda1e0e707146", func := "keepsake/keepsakelaw13.SpaceNil", spec := "spaceNil", unfollowed := true, recurses := true, apart := false, narrowed := true }
def SpaceNilUptoSaid : Prop := spaceNilUptoRow.holds Try.pinned (OpenSpec.upto spaceNilSpec)

/-- 'keepsakelaw37.CustodySplits', WHERE WHAT IT READS IS OF BULK AT MOST 1048576: true; the input reads as it did. -/
def custodySplitsUptoRow : OpenClaim := { program := "ytbblolggcgonmaa", sum := "a15a557afafd224058353d514cacee7cb90c69ff872dcf7a8fcfda1e0e707146", func := "keepsake/keepsakelaw37.CustodySplits", spec := "custodySplits", unfollowed := true, recurses := true, apart := false, narrowed := true }
def CustodySplitsUptoSaid : Prop := custodySplitsUptoRow.holds Try.pinned (OpenSpec.upto custodySplitsSpec)

/-- 'keepsakelaw37.CustodyJoins', WHERE WHAT IT READS IS OF BULK AT MOST 1048576: true; the input reads as it did. -/
def custodyJoinsUptoRow : OpenClaim := { program := "ytbblolggcgonmaa", sum := "a15a557afafd224058353d514cacee7cb90c69ff872dcf7a8fcfda1e0e707146", func := "keepsake/keepsakelaw37.CustodyJoins", spec := "custodyJoins", unfollowed := true, recurses := true, apart := false, narrowed := true }
def CustodyJoinsUptoSaid : Prop := custodyJoinsUptoRow.holds Try.pinned (OpenSpec.upto custodyJoinsSpec)

/-- 'keepsakelaw37.CustodyEnough', WHERE WHAT IT READS IS OF BULK AT MOST 1048576: true; the input reads as it did. -/
def custodyEnoughUptoRow : OpenClaim := { program := "ytbblolggcgonmaa", sum := "a15a557afafd224058353d514cacee7cb90c69ff872dcf7a8fcfda1e0e707146", func := "keepsake/keepsakelaw37.CustodyEnough", spec := "custodyEnough", unfollowed := true, recurses := true, apart := false, narrowed := true }
def CustodyEnoughUptoSaid : Prop := custodyEnoughUptoRow.holds Try.pinned (OpenSpec.upto custodyEnoughSpec)

/-- 'keepsakelaw37.CustodyOver', WHERE WHAT IT READS IS OF BULK AT MOST 1048576: true; the input reads as it did. -/
def custodyOverUptoRow : OpenClaim := { program := "ytbblolggcgonmaa", sum := "a15a557afafd224058353d514cacee7cb90c69ff872dcf7a8fcfda1e0e707146", func := "keepsake/keepsakelaw37.CustodyOver", spec := "custodyOver", unfollowed := true, recurses := true, apart := false, narrowed := true }
def CustodyOverUptoSaid : Prop := custodyOverUptoRow.holds Try.pinned (OpenSpec.upto custodyOverSpec)

/-- 'keepsakelaw37.CustodyNothing', WHERE WHAT IT READS IS OF BULK AT MOST 1048576: true; the input reads as it did. -/
def custodyNothingUptoRow : OpenClaim := { program := "ytbblolggcgonmaa", sum := "a15a557afafd224058353d514cacee7cb90c69ff872dcf7a8fcfda1e0e707146", func := "keepsake/keepsakelaw37.CustodyNothing", spec := "custodyNothing", unfollowed := true, recurses := true, apart := false, narrowed := true }
def CustodyNothingUptoSaid : Prop := custodyNothingUptoRow.holds Try.pinned (OpenSpec.upto custodyNothingSpec)

/-- 'keepsakelaw37.CustodyOnce', WHERE WHAT IT READS IS OF BULK AT MOST 1048576: true; the input reads as it did. -/
def custodyOnceUptoRow : OpenClaim := { program := "ytbblolggcgonmaa", sum := "a15a557afafd224058353d514cacee7cb90c69ff872dcf7a8fcfda1e0e707146", func := "keepsake/keepsakelaw37.CustodyOnce", spec := "custodyOnce", unfollowed := true, recurses := true, apart := false, narrowed := true }
def CustodyOnceUptoSaid : Prop := custodyOnceUptoRow.holds Try.pinned (OpenSpec.upto custodyOnceSpec)

end Rows
end Go.Proofs.Ytbblolggcgonmaa

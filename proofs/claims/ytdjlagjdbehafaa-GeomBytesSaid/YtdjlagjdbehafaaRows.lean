/-
  No cell of these rows narrows 'for every input' (looked for: loops, veiled, ifaces, maps, wideKeys, modest, calm, conditions, laid).
  DERIVED. THE GIVEN ROWS OF THIS SEAT. 10 by the template 'for every input the law returns true; each argument reads behind the call as it read before'; 0 by the template 'total and deterministic' (their statements: YtdjlagjdbehafaaTotals.lean).
  GIVEN WITH THE SEED: the statements are not yours to turn. If you find one false, say at which input.
  Laid BY PROGRAM, IN A SANDBOX (cutbox-rows.mjs): the forced cells as the released guide's own fill.sh prints them over the translation ccc3e60277ce63fd… (all of the seat's roots in one cut). By AI agents, Wed Nov 11 2026. No macro, syntax, notation, axiom, sorry.
-/
import Derived.Test.YtdjlagjdbehafaaChecked
import GoSem.Claim
import GoSem.ClaimJoined
import GoSem.ClaimMapViews
import Derived.JoinedTies
import Derived.KernelRfl
namespace Go.Proofs.Ytdjlagjdbehafaa
/- THE CELL 'sum', in the pinned program and in every row, IS THE sha256 OF THE DUMP (.gsa) THAT YtdjlagjdbehafaaProg.lean LOADS. Nothing in Lean hashes anything: it is a label: what it is worth is what the hold of that sum in a sandbox is worth. -/
noncomputable def Try.pinned : Pinned := { name := "ytdjlagjdbehafaa", sum := "ccc3e60277ce63fd199e8c367f42aa40ccbd5f9bc0fd7cd11499a8dd81ad90ec", checked := Try.checked }
namespace Rows
def none {H : Type} : Left H := { results := [], args := [] }

/-- 'keepsakelaw09.GeomRoom': WHATEVER THE INPUT: true; the input reads as it did. -/
def geomRoomSpec : ChangeSpec := { name := "geomRoom", fn := fun _ => fun
  | [d1, d2] => { results := [.lit (.bool true)], args := [d1, d2] }
  | _ => none }
def geomRoomRow : OpenClaim := { program := "ytdjlagjdbehafaa", sum := "ccc3e60277ce63fd199e8c367f42aa40ccbd5f9bc0fd7cd11499a8dd81ad90ec", func := "keepsake/keepsakelaw09.GeomRoom", spec := "geomRoom", apart := false }
def GeomRoomSaid : Prop := geomRoomRow.holds Try.pinned (OpenSpec.ofChange geomRoomSpec)

/-- ITS FALSE NEIGHBOUR: 'it returns false'. Refute it at one input. -/
def geomRoomWrong : ChangeSpec := { name := "geomRoom", fn := fun _ => fun
  | [d1, d2] => { results := [.lit (.bool false)], args := [d1, d2] }
  | _ => none }
def GeomRoomWrongFalsely : Prop := geomRoomRow.holds Try.pinned (OpenSpec.ofChange geomRoomWrong)

/-- 'keepsakelaw09.GeomTells': WHATEVER THE INPUT: true; the input reads as it did. -/
def geomTellsSpec : ChangeSpec := { name := "geomTells", fn := fun _ => fun
  | [d1, d2, d3] => { results := [.lit (.bool true)], args := [d1, d2, d3] }
  | _ => none }
def geomTellsRow : OpenClaim := { program := "ytdjlagjdbehafaa", sum := "ccc3e60277ce63fd199e8c367f42aa40ccbd5f9bc0fd7cd11499a8dd81ad90ec", func := "keepsake/keepsakelaw09.GeomTells", spec := "geomTells", apart := false }
def GeomTellsSaid : Prop := geomTellsRow.holds Try.pinned (OpenSpec.ofChange geomTellsSpec)

/-- ITS FALSE NEIGHBOUR: 'it returns false'. Refute it at one input. -/
def geomTellsWrong : ChangeSpec := { name := "geomTells", fn := fun _ => fun
  | [d1, d2, d3] => { results := [.lit (.bool false)], args := [d1, d2, d3] }
  | _ => none }
def GeomTellsWrongFalsely : Prop := geomTellsRow.holds Try.pinned (OpenSpec.ofChange geomTellsWrong)

/-- 'keepsakelaw09.GeomApart': WHATEVER THE INPUT: true; the input reads as it did. -/
def geomApartSpec : ChangeSpec := { name := "geomApart", fn := fun _ => fun
  | [d1, d2, d3] => { results := [.lit (.bool true)], args := [d1, d2, d3] }
  | _ => none }
def geomApartRow : OpenClaim := { program := "ytdjlagjdbehafaa", sum := "ccc3e60277ce63fd199e8c367f42aa40ccbd5f9bc0fd7cd11499a8dd81ad90ec", func := "keepsake/keepsakelaw09.GeomApart", spec := "geomApart", apart := false }
def GeomApartSaid : Prop := geomApartRow.holds Try.pinned (OpenSpec.ofChange geomApartSpec)

/-- ITS FALSE NEIGHBOUR: 'it returns false'. Refute it at one input. -/
def geomApartWrong : ChangeSpec := { name := "geomApart", fn := fun _ => fun
  | [d1, d2, d3] => { results := [.lit (.bool false)], args := [d1, d2, d3] }
  | _ => none }
def GeomApartWrongFalsely : Prop := geomApartRow.holds Try.pinned (OpenSpec.ofChange geomApartWrong)

/-- 'keepsakelaw22.ClockTicks': WHATEVER THE INPUT: true; the input reads as it did. -/
def clockTicksSpec : ChangeSpec := { name := "clockTicks", fn := fun _ => fun
  | [d1, d2, d3] => { results := [.lit (.bool true)], args := [d1, d2, d3] }
  | _ => none }
def clockTicksRow : OpenClaim := { program := "ytdjlagjdbehafaa", sum := "ccc3e60277ce63fd199e8c367f42aa40ccbd5f9bc0fd7cd11499a8dd81ad90ec", func := "keepsake/keepsakelaw22.ClockTicks", spec := "clockTicks", unfollowed := true, recurses := true, apart := false }
def ClockTicksSaid : Prop := clockTicksRow.holds Try.pinned (OpenSpec.ofChange clockTicksSpec)

/-- ITS FALSE NEIGHBOUR: 'it returns false'. Refute it at one input. -/
def clockTicksWrong : ChangeSpec := { name := "clockTicks", fn := fun _ => fun
  | [d1, d2, d3] => { results := [.lit (.bool false)], args := [d1, d2, d3] }
  | _ => none }
def ClockTicksWrongFalsely : Prop := clockTicksRow.holds Try.pinned (OpenSpec.ofChange clockTicksWrong)

/-- 'keepsakelaw22.ClockNil': WHATEVER THE INPUT: true; the input reads as it did. -/
def clockNilSpec : ChangeSpec := { name := "clockNil", fn := fun _ => fun
  | [d1, d2] => { results := [.lit (.bool true)], args := [d1, d2] }
  | _ => none }
def clockNilRow : OpenClaim := { program := "ytdjlagjdbehafaa", sum := "ccc3e60277ce63fd199e8c367f42aa40ccbd5f9bc0fd7cd11499a8dd81ad90ec", func := "keepsake/keepsakelaw22.ClockNil", spec := "clockNil", unfollowed := true, recurses := true, apart := false }
def ClockNilSaid : Prop := clockNilRow.holds Try.pinned (OpenSpec.ofChange clockNilSpec)

/-- ITS FALSE NEIGHBOUR: 'it returns false'. Refute it at one input. -/
def clockNilWrong : ChangeSpec := { name := "clockNil", fn := fun _ => fun
  | [d1, d2] => { results := [.lit (.bool false)], args := [d1, d2] }
  | _ => none }
def ClockNilWrongFalsely : Prop := clockNilRow.holds Try.pinned (OpenSpec.ofChange clockNilWrong)

/-- 'keepsakelaw22.ClockClamps': WHATEVER THE INPUT: true; the input reads as it did. -/
def clockClampsSpec : ChangeSpec := { name := "clockClamps", fn := fun _ => fun
  | [d1, d2] => { results := [.lit (.bool true)], args := [d1, d2] }
  | _ => none }
def clockClampsRow : OpenClaim := { program := "ytdjlagjdbehafaa", sum := "ccc3e60277ce63fd199e8c367f42aa40ccbd5f9bc0fd7cd11499a8dd81ad90ec", func := "keepsake/keepsakelaw22.ClockClamps", spec := "clockClamps", unfollowed := true, recurses := true, apart := false }
def ClockClampsSaid : Prop := clockClampsRow.holds Try.pinned (OpenSpec.ofChange clockClampsSpec)

/-- ITS FALSE NEIGHBOUR: 'it returns false'. Refute it at one input. -/
def clockClampsWrong : ChangeSpec := { name := "clockClamps", fn := fun _ => fun
  | [d1, d2] => { results := [.lit (.bool false)], args := [d1, d2] }
  | _ => none }
def ClockClampsWrongFalsely : Prop := clockClampsRow.holds Try.pinned (OpenSpec.ofChange clockClampsWrong)

/-- 'keepsakelaw07.SameChooses': WHATEVER THE INPUT: true; the input reads as it did. -/
def sameChoosesSpec : ChangeSpec := { name := "sameChooses", fn := fun _ => fun
  | [d1, d2, d3] => { results := [.lit (.bool true)], args := [d1, d2, d3] }
  | _ => none }
def sameChoosesRow : OpenClaim := { program := "ytdjlagjdbehafaa", sum := "ccc3e60277ce63fd199e8c367f42aa40ccbd5f9bc0fd7cd11499a8dd81ad90ec", func := "keepsake/keepsakelaw07.SameChooses", spec := "sameChooses", unfollowed := true, recurses := true, apart := false }
def SameChoosesSaid : Prop := sameChoosesRow.holds Try.pinned (OpenSpec.ofChange sameChoosesSpec)

/-- ITS FALSE NEIGHBOUR: 'it returns false'. Refute it at one input. -/
def sameChoosesWrong : ChangeSpec := { name := "sameChooses", fn := fun _ => fun
  | [d1, d2, d3] => { results := [.lit (.bool false)], args := [d1, d2, d3] }
  | _ => none }
def SameChoosesWrongFalsely : Prop := sameChoosesRow.holds Try.pinned (OpenSpec.ofChange sameChoosesWrong)

/-- 'keepsakelaw07.SameThree': WHATEVER THE INPUT: true; the input reads as it did. -/
def sameThreeSpec : ChangeSpec := { name := "sameThree", fn := fun _ => fun
  | [d1, d2] => { results := [.lit (.bool true)], args := [d1, d2] }
  | _ => none }
def sameThreeRow : OpenClaim := { program := "ytdjlagjdbehafaa", sum := "ccc3e60277ce63fd199e8c367f42aa40ccbd5f9bc0fd7cd11499a8dd81ad90ec", func := "keepsake/keepsakelaw07.SameThree", spec := "sameThree", unfollowed := true, recurses := true, apart := false }
def SameThreeSaid : Prop := sameThreeRow.holds Try.pinned (OpenSpec.ofChange sameThreeSpec)

/-- ITS FALSE NEIGHBOUR: 'it returns false'. Refute it at one input. -/
def sameThreeWrong : ChangeSpec := { name := "sameThree", fn := fun _ => fun
  | [d1, d2] => { results := [.lit (.bool false)], args := [d1, d2] }
  | _ => none }
def SameThreeWrongFalsely : Prop := sameThreeRow.holds Try.pinned (OpenSpec.ofChange sameThreeWrong)

/-- 'keepsakelaw07.SameTells': WHATEVER THE INPUT: true; the input reads as it did. -/
def sameTellsSpec : ChangeSpec := { name := "sameTells", fn := fun _ => fun
  | [d1, d2] => { results := [.lit (.bool true)], args := [d1, d2] }
  | _ => none }
def sameTellsRow : OpenClaim := { program := "ytdjlagjdbehafaa", sum := "ccc3e60277ce63fd199e8c367f42aa40ccbd5f9bc0fd7cd11499a8dd81ad90ec", func := "keepsake/keepsakelaw07.SameTells", spec := "sameTells", unfollowed := true, recurses := true, apart := false }
def SameTellsSaid : Prop := sameTellsRow.holds Try.pinned (OpenSpec.ofChange sameTellsSpec)

/-- ITS FALSE NEIGHBOUR: 'it returns false'. Refute it at one input. -/
def sameTellsWrong : ChangeSpec := { name := "sameTells", fn := fun _ => fun
  | [d1, d2] => { results := [.lit (.bool false)], args := [d1, d2] }
  | _ => none }
def SameTellsWrongFalsely : Prop := sameTellsRow.holds Try.pinned (OpenSpec.ofChange sameTellsWrong)

/-- 'keepsakelaw09.GeomBytes': WHATEVER THE INPUT: true; the input reads as it did. -/
def geomBytesSpec : ChangeSpec := { name := "geomBytes", fn := fun _ => fun
  | [d1, d2] => { results := [.lit (.bool true)], args := [d1, d2] }
  | _ => none }
def geomBytesRow : OpenClaim := { program := "ytdjlagjdbehafaa", sum := "ccc3e60277ce63fd199e8c367f42aa40ccbd5f9bc0fd7cd11499a8dd81ad90ec", func := "keepsake/keepsakelaw09.GeomBytes", spec := "geomBytes", inPlace := ["internal/abi.NoEscape"], unfollowed := true, recurses := true, apart := false }
def GeomBytesSaid : Prop := geomBytesRow.holds Try.pinned (OpenSpec.ofChange geomBytesSpec)

/-- ITS FALSE NEIGHBOUR: 'it returns false'. Refute it at one input. -/
def geomBytesWrong : ChangeSpec := { name := "geomBytes", fn := fun _ => fun
  | [d1, d2] => { results := [.lit (.bool false)], args := [d1, d2] }
  | _ => none }
def GeomBytesWrongFalsely : Prop := geomBytesRow.holds Try.pinned (OpenSpec.ofChange geomBytesWrong)

/- THE SECOND FORM. 'bulk': how many values and letters a reading holds, each counted each time it is reached (what is shared counts as often as it is met; a slice's spare places count too). A statement '..UptoSaid' is the law's where the arguments, and the package variables that the reading takes, are together of bulk at most 1048576: NARROWER than '..Said'. Prove '..Said' where nothing that the law and all that it calls make is longer than what came in: it says more and counts as full. Else prove '..UptoSaid'. A law counts once. -/
mutual
def uptoBulk {H : Type} : DataW H → Nat
  | .lit (.string bytes) => bytes.length + 1
  | .lit _ => 1
  | .nil => 1
  | .ptr d => uptoBulk d + 1
  | .slice elems spare => uptoBulkAll elems + uptoBulkAll spare + 1
  | .agg parts => uptoBulkAll parts + 1
  | .iface _ d => uptoBulk d + 1
  | .map entries => uptoBulkEntries entries + 1
  | .held _ => 1
def uptoBulkAll {H : Type} : List (DataW H) → Nat
  | [] => 0
  | d :: r => uptoBulk d + uptoBulkAll r
def uptoBulkEntries {H : Type} : List (Lit × DataW H) → Nat
  | [] => 0
  | x :: r => uptoBulkEntry x + uptoBulkEntries r
def uptoBulkEntry {H : Type} : Lit × DataW H → Nat
  | (.string bytes, d) => bytes.length + uptoBulk d + 1
  | (_, d) => uptoBulk d + 1
 end
def uptoSmall : (H : Type) → List (DataW H) → Bool := fun _ ds => decide (uptoBulkAll ds ≤ 1048576)
def OpenSpec.upto (s : _root_.Go.ChangeSpec) : _root_.Go.OpenSpec := { _root_.Go.OpenSpec.ofChange s with cond := some uptoSmall }

/-- 'keepsakelaw09.GeomRoom', WHERE WHAT IT READS IS OF BULK AT MOST 1048576: true; the input reads as it did. -/
def geomRoomUptoRow : OpenClaim := { program := "ytdjlagjdbehafaa", sum := "ccc3e60277ce63fd199e8c367f42aa40ccbd5f9bc0fd7cd11499a8dd81ad90ec", func := "keepsake/keepsakelaw09.GeomRoom", spec := "geomRoom", apart := false, narrowed := true }
def GeomRoomUptoSaid : Prop := geomRoomUptoRow.holds Try.pinned (OpenSpec.upto geomRoomSpec)

/-- 'keepsakelaw09.GeomTells', WHERE WHAT IT READS IS OF BULK AT MOST 1048576: true; the input reads as it did. -/
def geomTellsUptoRow : OpenClaim := { program := "ytdjlagjdbehafaa", sum := "ccc3e60277ce63fd199e8c367f42aa40ccbd5f9bc0fd7cd11499a8dd81ad90ec", func := "keepsake/keepsakelaw09.GeomTells", spec := "geomTells", apart := false, narrowed := true }
def GeomTellsUptoSaid : Prop := geomTellsUptoRow.holds Try.pinned (OpenSpec.upto geomTellsSpec)

/-- 'keepsakelaw09.GeomApart', WHERE WHAT IT READS IS OF BULK AT MOST 1048576: true; the input reads as it did. -/
def geomApartUptoRow : OpenClaim := { program := "ytdjlagjdbehafaa", sum := "ccc3e60277ce63fd199e8c367f42aa40ccbd5f9bc0fd7cd11499a8dd81ad90ec", func := "keepsake/keepsakelaw09.GeomApart", spec := "geomApart", apart := false, narrowed := true }
def GeomApartUptoSaid : Prop := geomApartUptoRow.holds Try.pinned (OpenSpec.upto geomApartSpec)

/-- 'keepsakelaw22.ClockTicks', WHERE WHAT IT READS IS OF BULK AT MOST 1048576: true; the input reads as it did. -/
def clockTicksUptoRow : OpenClaim := { program := "ytdjlagjdbehafaa", sum := "ccc3e60277ce63fd199e8c367f42aa40ccbd5f9bc0fd7cd11499a8dd81ad90ec", func := "keepsake/keepsakelaw22.ClockTicks", spec := "clockTicks", unfollowed := true, recurses := true, apart := false, narrowed := true }
def ClockTicksUptoSaid : Prop := clockTicksUptoRow.holds Try.pinned (OpenSpec.upto clockTicksSpec)

/-- 'keepsakelaw22.ClockNil', WHERE WHAT IT READS IS OF BULK AT MOST 1048576: true; the input reads as it did. -/
def clockNilUptoRow : OpenClaim := { program := "ytdjlagjdbehafaa", sum := "ccc3e60277ce63fd199e8c367f42aa40ccbd5f9bc0fd7cd11499a8dd81ad90ec", func := "keepsake/keepsakelaw22.ClockNil", spec := "clockNil", unfollowed := true, recurses := true, apart := false, narrowed := true }
def ClockNilUptoSaid : Prop := clockNilUptoRow.holds Try.pinned (OpenSpec.upto clockNilSpec)

/-- 'keepsakelaw22.ClockClamps', WHERE WHAT IT READS IS OF BULK AT MOST 1048576: true; the input reads as it did. -/
def clockClampsUptoRow : OpenClaim := { program := "ytdjlagjdbehafaa", sum := "ccc3e60277ce63fd199e8c367f42aa40ccbd5f9bc0fd7cd11499a8dd81ad90ec", func := "keepsake/keepsakelaw22.ClockClamps", spec := "clockClamps", unfollowed := true, recurses := true, apart := false, narrowed := true }
def ClockClampsUptoSaid : Prop := clockClampsUptoRow.holds Try.pinned (OpenSpec.upto clockClampsSpec)

/-- 'keepsakelaw07.SameChooses', WHERE WHAT IT READS IS OF BULK AT MOST 1048576: true; the input reads as it did. -/
def sameChoosesUptoRow : OpenClaim := { program := "ytdjlagjdbehafaa", sum := "ccc3e60277ce63fd199e8c367f42aa40ccbd5f9bc0fd7cd11499a8dd81ad90ec", func := "keepsake/keepsakelaw07.SameChooses", spec := "sameChooses", unfollowed := true, recurses := true, apart := false, narrowed := true }
def SameChoosesUptoSaid : Prop := sameChoosesUptoRow.holds Try.pinned (OpenSpec.upto sameChoosesSpec)

/-- 'keepsakelaw07.SameThree', WHERE WHAT IT READS IS OF BULK AT MOST 1048576: true; the input reads as it did. -/
def sameThreeUptoRow : OpenClaim := { program := "ytdjlagjdbehafaa", sum := "ccc3e60277ce63fd199e8c367f42aa40ccbd5f9bc0fd7cd11499a8dd81ad90ec", func := "keepsake/keepsakelaw07.SameThree", spec := "sameThree", unfollowed := true, recurses := true, apart := false, narrowed := true }
def SameThreeUptoSaid : Prop := sameThreeUptoRow.holds Try.pinned (OpenSpec.upto sameThreeSpec)

/-- 'keepsakelaw07.SameTells', WHERE WHAT IT READS IS OF BULK AT MOST 1048576: true; the input reads as it did. -/
def sameTellsUptoRow : OpenClaim := { program := "ytdjlagjdbehafaa", sum := "ccc3e60277ce63fd199e8c367f42aa40ccbd5f9bc0fd7cd11499a8dd81ad90ec", func := "keepsake/keepsakelaw07.SameTells", spec := "sameTells", unfollowed := true, recurses := true, apart := false, narrowed := true }
def SameTellsUptoSaid : Prop := sameTellsUptoRow.holds Try.pinned (OpenSpec.upto sameTellsSpec)

/-- 'keepsakelaw09.GeomBytes', WHERE WHAT IT READS IS OF BULK AT MOST 1048576: true; the input reads as it did. -/
def geomBytesUptoRow : OpenClaim := { program := "ytdjlagjdbehafaa", sum := "ccc3e60277ce63fd199e8c367f42aa40ccbd5f9bc0fd7cd11499a8dd81ad90ec", func := "keepsake/keepsakelaw09.GeomBytes", spec := "geomBytes", inPlace := ["internal/abi.NoEscape"], unfollowed := true, recurses := true, apart := false, narrowed := true }
def GeomBytesUptoSaid : Prop := geomBytesUptoRow.holds Try.pinned (OpenSpec.upto geomBytesSpec)

end Rows
end Go.Proofs.Ytdjlagjdbehafaa

/-
  No cell of these rows narrows 'for every input' (looked for: loops, veiled, ifaces, maps, wideKeys, modest, calm, conditions, laid).
  DERIVED. THE GIVEN ROWS OF THIS SEAT. 9 by the template 'for every input the law returns true; each argument reads behind the call as it read before'; 0 by the template 'total and deterministic' (their statements: YtkbidgonjnlkmaaTotals.lean).
  GIVEN WITH THE SEED: the statements are not yours to turn. If you find one false, say at which input.
  Laid BY PROGRAM, IN A SANDBOX (cutbox-rows.mjs): the forced cells as the released guide's own fill.sh prints them over the translation dbd03a0a1e7a0809… (all of the seat's roots in one cut). By AI agents, Wed Nov 11 2026. No macro, syntax, notation, axiom, sorry.
-/
import Derived.Test.YtkbidgonjnlkmaaChecked
import GoSem.Claim
import GoSem.ClaimJoined
import GoSem.ClaimMapViews
import Derived.JoinedTies
import Derived.KernelRfl
namespace Go.Proofs.Ytkbidgonjnlkmaa
/- THE CELL 'sum', in the pinned program and in every row, IS THE sha256 OF THE DUMP (.gsa) THAT YtkbidgonjnlkmaaProg.lean LOADS. Nothing in Lean hashes anything: it is a label: what it is worth is what the hold of that sum in a sandbox is worth. -/
noncomputable def Try.pinned : Pinned := { name := "ytkbidgonjnlkmaa", sum := "dbd03a0a1e7a0809b63632fe7e309a842733f1a7eea54165878bfc8ded2a1726", checked := Try.checked }
namespace Rows
def none {H : Type} : Left H := { results := [], args := [] }

/-- 'keepsakelaw05.AesMade': WHATEVER THE INPUT: true; the input reads as it did. -/
def aesMadeSpec : ChangeSpec := { name := "aesMade", fn := fun _ => fun
  | [d1, d2] => { results := [.lit (.bool true)], args := [d1, d2] }
  | _ => none }
def aesMadeRow : OpenClaim := { program := "ytkbidgonjnlkmaa", sum := "dbd03a0a1e7a0809b63632fe7e309a842733f1a7eea54165878bfc8ded2a1726", func := "keepsake/keepsakelaw05.AesMade", spec := "aesMade", unfollowed := true, recurses := true, apart := false }
def AesMadeSaid : Prop := aesMadeRow.holds Try.pinned (OpenSpec.ofChange aesMadeSpec)

/-- ITS FALSE NEIGHBOUR: 'it returns false'. Refute it at one input. -/
def aesMadeWrong : ChangeSpec := { name := "aesMade", fn := fun _ => fun
  | [d1, d2] => { results := [.lit (.bool false)], args := [d1, d2] }
  | _ => none }
def AesMadeWrongFalsely : Prop := aesMadeRow.holds Try.pinned (OpenSpec.ofChange aesMadeWrong)

/-- 'keepsakelaw05.AesProducts': WHATEVER THE INPUT: true; the input reads as it did. -/
def aesProductsSpec : ChangeSpec := { name := "aesProducts", fn := fun _ => fun
  | [d1, d2, d3] => { results := [.lit (.bool true)], args := [d1, d2, d3] }
  | _ => none }
def aesProductsRow : OpenClaim := { program := "ytkbidgonjnlkmaa", sum := "dbd03a0a1e7a0809b63632fe7e309a842733f1a7eea54165878bfc8ded2a1726", func := "keepsake/keepsakelaw05.AesProducts", spec := "aesProducts", unfollowed := true, recurses := true, apart := false }
def AesProductsSaid : Prop := aesProductsRow.holds Try.pinned (OpenSpec.ofChange aesProductsSpec)

/-- ITS FALSE NEIGHBOUR: 'it returns false'. Refute it at one input. -/
def aesProductsWrong : ChangeSpec := { name := "aesProducts", fn := fun _ => fun
  | [d1, d2, d3] => { results := [.lit (.bool false)], args := [d1, d2, d3] }
  | _ => none }
def AesProductsWrongFalsely : Prop := aesProductsRow.holds Try.pinned (OpenSpec.ofChange aesProductsWrong)

/-- 'keepsakelaw05.AesBytes': WHATEVER THE INPUT: true; the input reads as it did. -/
def aesBytesSpec : ChangeSpec := { name := "aesBytes", fn := fun _ => fun
  | [d1, d2] => { results := [.lit (.bool true)], args := [d1, d2] }
  | _ => none }
def aesBytesRow : OpenClaim := { program := "ytkbidgonjnlkmaa", sum := "dbd03a0a1e7a0809b63632fe7e309a842733f1a7eea54165878bfc8ded2a1726", func := "keepsake/keepsakelaw05.AesBytes", spec := "aesBytes", unfollowed := true, recurses := true, apart := false }
def AesBytesSaid : Prop := aesBytesRow.holds Try.pinned (OpenSpec.ofChange aesBytesSpec)

/-- ITS FALSE NEIGHBOUR: 'it returns false'. Refute it at one input. -/
def aesBytesWrong : ChangeSpec := { name := "aesBytes", fn := fun _ => fun
  | [d1, d2] => { results := [.lit (.bool false)], args := [d1, d2] }
  | _ => none }
def AesBytesWrongFalsely : Prop := aesBytesRow.holds Try.pinned (OpenSpec.ofChange aesBytesWrong)

/-- 'keepsakelaw05.AesEncrypts': WHATEVER THE INPUT: true; the input reads as it did. -/
def aesEncryptsSpec : ChangeSpec := { name := "aesEncrypts", fn := fun _ => fun
  | [d1, d2] => { results := [.lit (.bool true)], args := [d1, d2] }
  | _ => none }
def aesEncryptsRow : OpenClaim := { program := "ytkbidgonjnlkmaa", sum := "dbd03a0a1e7a0809b63632fe7e309a842733f1a7eea54165878bfc8ded2a1726", func := "keepsake/keepsakelaw05.AesEncrypts", spec := "aesEncrypts", unfollowed := true, recurses := true, apart := false }
def AesEncryptsSaid : Prop := aesEncryptsRow.holds Try.pinned (OpenSpec.ofChange aesEncryptsSpec)

/-- ITS FALSE NEIGHBOUR: 'it returns false'. Refute it at one input. -/
def aesEncryptsWrong : ChangeSpec := { name := "aesEncrypts", fn := fun _ => fun
  | [d1, d2] => { results := [.lit (.bool false)], args := [d1, d2] }
  | _ => none }
def AesEncryptsWrongFalsely : Prop := aesEncryptsRow.holds Try.pinned (OpenSpec.ofChange aesEncryptsWrong)

/-- 'keepsakelaw05.AesBack': WHATEVER THE INPUT: true; the input reads as it did. -/
def aesBackSpec : ChangeSpec := { name := "aesBack", fn := fun _ => fun
  | [d1, d2] => { results := [.lit (.bool true)], args := [d1, d2] }
  | _ => none }
def aesBackRow : OpenClaim := { program := "ytkbidgonjnlkmaa", sum := "dbd03a0a1e7a0809b63632fe7e309a842733f1a7eea54165878bfc8ded2a1726", func := "keepsake/keepsakelaw05.AesBack", spec := "aesBack", unfollowed := true, recurses := true, apart := false }
def AesBackSaid : Prop := aesBackRow.holds Try.pinned (OpenSpec.ofChange aesBackSpec)

/-- ITS FALSE NEIGHBOUR: 'it returns false'. Refute it at one input. -/
def aesBackWrong : ChangeSpec := { name := "aesBack", fn := fun _ => fun
  | [d1, d2] => { results := [.lit (.bool false)], args := [d1, d2] }
  | _ => none }
def AesBackWrongFalsely : Prop := aesBackRow.holds Try.pinned (OpenSpec.ofChange aesBackWrong)

/-- 'keepsakelaw06.CtrOnce': WHATEVER THE INPUT: true; the input reads as it did. -/
def ctrOnceSpec : ChangeSpec := { name := "ctrOnce", fn := fun _ => fun
  | [d1, d2, d3] => { results := [.lit (.bool true)], args := [d1, d2, d3] }
  | _ => none }
def ctrOnceRow : OpenClaim := { program := "ytkbidgonjnlkmaa", sum := "dbd03a0a1e7a0809b63632fe7e309a842733f1a7eea54165878bfc8ded2a1726", func := "keepsake/keepsakelaw06.CtrOnce", spec := "ctrOnce", inPlace := ["internal/abi.NoEscape"], unfollowed := true, recurses := true, apart := false }
def CtrOnceSaid : Prop := ctrOnceRow.holds Try.pinned (OpenSpec.ofChange ctrOnceSpec)

/-- ITS FALSE NEIGHBOUR: 'it returns false'. Refute it at one input. -/
def ctrOnceWrong : ChangeSpec := { name := "ctrOnce", fn := fun _ => fun
  | [d1, d2, d3] => { results := [.lit (.bool false)], args := [d1, d2, d3] }
  | _ => none }
def CtrOnceWrongFalsely : Prop := ctrOnceRow.holds Try.pinned (OpenSpec.ofChange ctrOnceWrong)

/-- 'keepsakelaw06.CtrStreams': WHATEVER THE INPUT: true; the input reads as it did. -/
def ctrStreamsSpec : ChangeSpec := { name := "ctrStreams", fn := fun _ => fun
  | [d1, d2, d3, d4, d5] => { results := [.lit (.bool true)], args := [d1, d2, d3, d4, d5] }
  | _ => none }
def ctrStreamsRow : OpenClaim := { program := "ytkbidgonjnlkmaa", sum := "dbd03a0a1e7a0809b63632fe7e309a842733f1a7eea54165878bfc8ded2a1726", func := "keepsake/keepsakelaw06.CtrStreams", spec := "ctrStreams", inPlace := ["internal/abi.NoEscape"], unfollowed := true, recurses := true, apart := false }
def CtrStreamsSaid : Prop := ctrStreamsRow.holds Try.pinned (OpenSpec.ofChange ctrStreamsSpec)

/-- ITS FALSE NEIGHBOUR: 'it returns false'. Refute it at one input. -/
def ctrStreamsWrong : ChangeSpec := { name := "ctrStreams", fn := fun _ => fun
  | [d1, d2, d3, d4, d5] => { results := [.lit (.bool false)], args := [d1, d2, d3, d4, d5] }
  | _ => none }
def CtrStreamsWrongFalsely : Prop := ctrStreamsRow.holds Try.pinned (OpenSpec.ofChange ctrStreamsWrong)

/-- 'keepsakelaw06.CtrParts': WHATEVER THE INPUT: true; the input reads as it did. -/
def ctrPartsSpec : ChangeSpec := { name := "ctrParts", fn := fun _ => fun
  | [d1, d2, d3, d4, d5, d6] => { results := [.lit (.bool true)], args := [d1, d2, d3, d4, d5, d6] }
  | _ => none }
def ctrPartsRow : OpenClaim := { program := "ytkbidgonjnlkmaa", sum := "dbd03a0a1e7a0809b63632fe7e309a842733f1a7eea54165878bfc8ded2a1726", func := "keepsake/keepsakelaw06.CtrParts", spec := "ctrParts", inPlace := ["internal/abi.NoEscape"], unfollowed := true, recurses := true, apart := false }
def CtrPartsSaid : Prop := ctrPartsRow.holds Try.pinned (OpenSpec.ofChange ctrPartsSpec)

/-- ITS FALSE NEIGHBOUR: 'it returns false'. Refute it at one input. -/
def ctrPartsWrong : ChangeSpec := { name := "ctrParts", fn := fun _ => fun
  | [d1, d2, d3, d4, d5, d6] => { results := [.lit (.bool false)], args := [d1, d2, d3, d4, d5, d6] }
  | _ => none }
def CtrPartsWrongFalsely : Prop := ctrPartsRow.holds Try.pinned (OpenSpec.ofChange ctrPartsWrong)

/-- 'keepsakelaw06.CtrHides': WHATEVER THE INPUT: true; the input reads as it did. -/
def ctrHidesSpec : ChangeSpec := { name := "ctrHides", fn := fun _ => fun
  | [d1, d2, d3, d4] => { results := [.lit (.bool true)], args := [d1, d2, d3, d4] }
  | _ => none }
def ctrHidesRow : OpenClaim := { program := "ytkbidgonjnlkmaa", sum := "dbd03a0a1e7a0809b63632fe7e309a842733f1a7eea54165878bfc8ded2a1726", func := "keepsake/keepsakelaw06.CtrHides", spec := "ctrHides", inPlace := ["internal/abi.NoEscape"], unfollowed := true, recurses := true, apart := false }
def CtrHidesSaid : Prop := ctrHidesRow.holds Try.pinned (OpenSpec.ofChange ctrHidesSpec)

/-- ITS FALSE NEIGHBOUR: 'it returns false'. Refute it at one input. -/
def ctrHidesWrong : ChangeSpec := { name := "ctrHides", fn := fun _ => fun
  | [d1, d2, d3, d4] => { results := [.lit (.bool false)], args := [d1, d2, d3, d4] }
  | _ => none }
def CtrHidesWrongFalsely : Prop := ctrHidesRow.holds Try.pinned (OpenSpec.ofChange ctrHidesWrong)

/- THE SECOND FORM. 'bulk': how many values and letters a reading holds, each counted each time it is reached (what is shared counts as often as it is met; a slice's spare places count too). A statement '..UptoSaid' is the law's where the arguments, and the package variables that the reading takes, are together of bulk at most 1048576: NARROWER than '..Said'. Prove '..Said' where nothing that the law and all that it calls make is longer than what came in: it says more and counts as full. Else prove '..UptoSaid'. A law counts once. -/
mutual
def uptoBulk {H : Type} : DataW H → Nat
  | .lit (.string bytes) => bytes.length + 1
  | .lit _ => 1
  | .nil => 1
  | .ptr d => uptoBulk d + 1
  | .slice elems spare => uptoBulkAll elems + uptoBulkAll spare + 1
  | .agg parts => uptoBulkAll parts + 1
  | .iface _ d => uptoBulk d + 1
  | .map entries => uptoBulkEntries entries + 1
  | .held _ => 1
def uptoBulkAll {H : Type} : List (DataW H) → Nat
  | [] => 0
  | d :: r => uptoBulk d + uptoBulkAll r
def uptoBulkEntries {H : Type} : List (Lit × DataW H) → Nat
  | [] => 0
  | x :: r => uptoBulkEntry x + uptoBulkEntries r
def uptoBulkEntry {H : Type} : Lit × DataW H → Nat
  | (.string bytes, d) => bytes.length + uptoBulk d + 1
  | (_, d) => uptoBulk d + 1
 end
def uptoSmall : (H : Type) → List (DataW H) → Bool := fun _ ds => decide (uptoBulkAll ds ≤ 1048576)
def OpenSpec.upto (s : _root_.Go.ChangeSpec) : _root_.Go.OpenSpec := { _root_.Go.OpenSpec.ofChange s with cond := some uptoSmall }

/-- 'keepsakelaw05.AesMade', WHERE WHAT IT READS IS OF BULK AT MOST 1048576: true; the input reads as it did. -/
def aesMadeUptoRow : OpenClaim := { program := "ytkbidgonjnlkmaa", sum := "dbd03a0a1e7a0809b63632fe7e309a842733f1a7eea54165878bfc8ded2a1726", func := "keepsake/keepsakelaw05.AesMade", spec := "aesMade", unfollowed := true, recurses := true, apart := false, narrowed := true }
def AesMadeUptoSaid : Prop := aesMadeUptoRow.holds Try.pinned (OpenSpec.upto aesMadeSpec)

/-- 'keepsakelaw05.AesProducts', WHERE WHAT IT READS IS OF BULK AT MOST 1048576: true; the input reads as it did. -/
def aesProductsUptoRow : OpenClaim := { program := "ytkbidgonjnlkmaa", sum := "dbd03a0a1e7a0809b63632fe7e309a842733f1a7eea54165878bfc8ded2a1726", func := "keepsake/keepsakelaw05.AesProducts", spec := "aesProducts", unfollowed := true, recurses := true, apart := false, narrowed := true }
def AesProductsUptoSaid : Prop := aesProductsUptoRow.holds Try.pinned (OpenSpec.upto aesProductsSpec)

/-- 'keepsakelaw05.AesBytes', WHERE WHAT IT READS IS OF BULK AT MOST 1048576: true; the input reads as it did. -/
def aesBytesUptoRow : OpenClaim := { program := "ytkbidgonjnlkmaa", sum := "dbd03a0a1e7a0809b63632fe7e309a842733f1a7eea54165878bfc8ded2a1726", func := "keepsake/keepsakelaw05.AesBytes", spec := "aesBytes", unfollowed := true, recurses := true, apart := false, narrowed := true }
def AesBytesUptoSaid : Prop := aesBytesUptoRow.holds Try.pinned (OpenSpec.upto aesBytesSpec)

/-- 'keepsakelaw05.AesEncrypts', WHERE WHAT IT READS IS OF BULK AT MOST 1048576: true; the input reads as it did. -/
def aesEncryptsUptoRow : OpenClaim := { program := "ytkbidgonjnlkmaa", sum := "dbd03a0a1e7a0809b63632fe7e309a842733f1a7eea54165878bfc8ded2a1726", func := "keepsake/keepsakelaw05.AesEncrypts", spec := "aesEncrypts", unfollowed := true, recurses := true, apart := false, narrowed := true }
def AesEncryptsUptoSaid : Prop := aesEncryptsUptoRow.holds Try.pinned (OpenSpec.upto aesEncryptsSpec)

/-- 'keepsakelaw05.AesBack', WHERE WHAT IT READS IS OF BULK AT MOST 1048576: true; the input reads as it did. -/
def aesBackUptoRow : OpenClaim := { program := "ytkbidgonjnlkmaa", sum := "dbd03a0a1e7a0809b63632fe7e309a842733f1a7eea54165878bfc8ded2a1726", func := "keepsake/keepsakelaw05.AesBack", spec := "aesBack", unfollowed := true, recurses := true, apart := false, narrowed := true }
def AesBackUptoSaid : Prop := aesBackUptoRow.holds Try.pinned (OpenSpec.upto aesBackSpec)

/-- 'keepsakelaw06.CtrOnce', WHERE WHAT IT READS IS OF BULK AT MOST 1048576: true; the input reads as it did. -/
def ctrOnceUptoRow : OpenClaim := { program := "ytkbidgonjnlkmaa", sum := "dbd03a0a1e7a0809b63632fe7e309a842733f1a7eea54165878bfc8ded2a1726", func := "keepsake/keepsakelaw06.CtrOnce", spec := "ctrOnce", inPlace := ["internal/abi.NoEscape"], unfollowed := true, recurses := true, apart := false, narrowed := true }
def CtrOnceUptoSaid : Prop := ctrOnceUptoRow.holds Try.pinned (OpenSpec.upto ctrOnceSpec)

/-- 'keepsakelaw06.CtrStreams', WHERE WHAT IT READS IS OF BULK AT MOST 1048576: true; the input reads as it did. -/
def ctrStreamsUptoRow : OpenClaim := { program := "ytkbidgonjnlkmaa", sum := "dbd03a0a1e7a0809b63632fe7e309a842733f1a7eea54165878bfc8ded2a1726", func := "keepsake/keepsakelaw06.CtrStreams", spec := "ctrStreams", inPlace := ["internal/abi.NoEscape"], unfollowed := true, recurses := true, apart := false, narrowed := true }
def CtrStreamsUptoSaid : Prop := ctrStreamsUptoRow.holds Try.pinned (OpenSpec.upto ctrStreamsSpec)

/-- 'keepsakelaw06.CtrParts', WHERE WHAT IT READS IS OF BULK AT MOST 1048576: true; the input reads as it did. -/
def ctrPartsUptoRow : OpenClaim := { program := "ytkbidgonjnlkmaa", sum := "dbd03a0a1e7a0809b63632fe7e309a842733f1a7eea54165878bfc8ded2a1726", func := "keepsake/keepsakelaw06.CtrParts", spec := "ctrParts", inPlace := ["internal/abi.NoEscape"], unfollowed := true, recurses := true, apart := false, narrowed := true }
def CtrPartsUptoSaid : Prop := ctrPartsUptoRow.holds Try.pinned (OpenSpec.upto ctrPartsSpec)

/-- 'keepsakelaw06.CtrHides', WHERE WHAT IT READS IS OF BULK AT MOST 1048576: true; the input reads as it did. -/
def ctrHidesUptoRow : OpenClaim := { program := "ytkbidgonjnlkmaa", sum := "dbd03a0a1e7a0809b63632fe7e309a842733f1a7eea54165878bfc8ded2a1726", func := "keepsake/keepsakelaw06.CtrHides", spec := "ctrHides", inPlace := ["internal/abi.NoEscape"], unfollowed := true, recurses := true, apart := false, narrowed := true }
def CtrHidesUptoSaid : Prop := ctrHidesUptoRow.holds Try.pinned (OpenSpec.upto ctrHidesSpec)

end Rows
end Go.Proofs.Ytkbidgonjnlkmaa

/-
  Which words there are, and what follows each; the contract of line.of (printed by a program of mine). No condition. Own work.
-/
import Derived.Test.YtdpfcjhhabcheaaDoorWords
import Derived.Laws.ResultCell
namespace Go.Proofs.YtdpfcjhhabcheaaDoor
open Go Go.RowKit

/-- What follows a word: so many numbers at least, at most; a name; data; asked places. -/
structure Shp where
  least : Nat
  most : Nat
  name : Bool
  data : Bool
  asks : Bool
/-- The words. -/
def ofW (w : List UInt8) : Option Shp :=
  if w = [119, 114, 105, 116, 101] then some ⟨1, 1, false, true, false⟩ else
  if w = [114, 101, 97, 100] then some ⟨1, 1, false, false, false⟩ else
  if w = [112, 117, 114, 103, 101] then some ⟨1, 1, false, false, false⟩ else
  if w = [116, 105, 99, 107] then some ⟨1, 1, false, false, false⟩ else
  if w = [97, 114, 109] then some ⟨1, 1, false, false, false⟩ else
  if w = [118, 116, 105, 99, 107] then some ⟨1, 1, false, false, false⟩ else
  if w = [100, 101, 108, 105, 118, 101, 114] then some ⟨1, 1, false, false, false⟩ else
  if w = [108, 111, 115, 101] then some ⟨1, 1, false, false, false⟩ else
  if w = [116, 119, 105, 99, 101] then some ⟨1, 1, false, false, false⟩ else
  if w = [114, 117, 110] then some ⟨1, 1, false, false, false⟩ else
  if w = [114, 101, 97, 100, 97, 116] then some ⟨2, 2, false, false, false⟩ else
  if w = [114, 101, 116, 97, 105, 110] then some ⟨2, 2, false, false, false⟩ else
  if w = [104, 111, 108, 100] then some ⟨1, 1, true, false, false⟩ else
  if w = [118, 104, 111, 108, 100] then some ⟨1, 1, true, false, false⟩ else
  if w = [114, 101, 108, 101, 97, 115, 101] then some ⟨0, 0, true, false, false⟩ else
  if w = [118, 114, 101, 108, 101, 97, 115, 101] then some ⟨0, 0, true, false, false⟩ else
  if w = [99, 114, 97, 115, 104] then some ⟨0, 64, false, false, false⟩ else
  if w = [97, 117, 100, 105, 116] then some ⟨0, 0, false, false, true⟩ else
  if w = [115, 121, 110, 99] then some ⟨0, 0, false, false, false⟩ else
  if w = [99, 108, 111, 115, 101] then some ⟨0, 0, false, false, false⟩ else
  if w = [115, 116, 97, 116] then some ⟨0, 0, false, false, false⟩ else
  if w = [109, 111, 117, 110, 116] then some ⟨0, 0, false, false, false⟩ else
  if w = [115, 101, 110, 100] then some ⟨0, 0, false, false, false⟩ else
  if w = [114, 101, 99, 101, 105, 112, 116, 115] then some ⟨0, 0, false, false, false⟩ else
  if w = [114, 111, 117, 110, 100] then some ⟨0, 0, false, false, false⟩ else
  none
def shpV (s : Shp) : Value := .agg #[.int .i64 (s.least : Int), .int .i64 (s.most : Int), .bool s.name, .bool s.data, .bool s.asks]
def ofV (o : Option Shp) : Value := match o with
  | some s => .tuple #[shpV s, .bool true]
  | none => .tuple #[.agg #[.int .i64 0, .int .i64 0, .bool false, .bool false, .bool false], .bool false]
end Go.Proofs.YtdpfcjhhabcheaaDoor

/-
  Events, plainly: which may be. No condition. Own work.
-/
import Derived.Test.YtdpfcjhhabcheaaEqs
import Derived.Test.YtdpfcjhhabcheaaOfA
import Derived.Test.YtdpfcjhhabcheaaKinds
namespace Go.Proofs.Ytdpfcjhhabcheaa
open Go Go.RowKit

structure Ev where
  word : ByteArray
  nums : List Int
  name : ByteArray
  data : ByteArray
  asks : List (Int × Int)
def numB (n : Int) : Bool := decide (0 ≤ n) && decide (n ≤ 1099511627776)
def askB (a : Int × Int) : Bool := decide (0 ≤ a.1) && decide (a.1 ≤ 4294967295) && (decide (0 ≤ a.2) && decide (a.2 ≤ 4095))
/-- What a word's shape asks of an event, ahead of its numbers and places. -/
def headB (s : Shp) (e : Ev) : Bool :=
  decide (s.least ≤ e.nums.length) && decide (e.nums.length ≤ s.most) && (if s.name then nameL e.name.data.toList else decide (e.name.data.toList = [])) &&
  (dataB e.data.data.toList && (s.data || decide (e.data.data.toList = []))) && (if s.asks then decide (1 ≤ e.asks.length) && decide (e.asks.length ≤ 64) else decide (e.asks.length = 0))
/-- May an event be? -/
def evOk (e : Ev) : Bool := match ofW e.word.toList with
  | none => false
  | some s => headB s e && (e.nums.all numB && e.asks.all askB)
/-- The cells of asked places. -/
def askC (l : List (Int × Int)) : List Value := l.flatMap fun a => [.int .i64 a.1, .int .i64 a.2]
theorem askC_len (l : List (Int × Int)) : (askC l).length = 2 * l.length := by
  induction l with
  | nil => rfl
  | cons a l ih =>
    have : askC (a :: l) = [.int .i64 a.1, .int .i64 a.2] ++ askC l := rfl
    rw [this, List.length_append, ih]
    simp
    omega
theorem askC_get : ∀ (l : List (Int × Int)) (i : Nat) (a : Int × Int), l[i]? = some a → (askC l)[2 * i]? = some (.int .i64 a.1) ∧ (askC l)[2 * i + 1]? = some (.int .i64 a.2)
  | [], i, a, h => by simp at h
  | b :: l, 0, a, h => by
    simp at h
    subst h
    exact ⟨rfl, rfl⟩
  | b :: l, i + 1, a, h => by
    have h2 := askC_get l i a (by simpa using h)
    have e : askC (b :: l) = .int .i64 b.1 :: .int .i64 b.2 :: askC l := rfl
    rw [e, show 2 * (i + 1) = 2 * i + 1 + 1 from by omega]
    simpa using h2
end Go.Proofs.Ytdpfcjhhabcheaa

/-
  Events, plainly: which may be. No condition. Own work.
-/
import Derived.Test.YtdpfcjhhabcheaaDoorEqs
import Derived.Test.YtdpfcjhhabcheaaDoorOfA
import Derived.Test.YtdpfcjhhabcheaaDoorKinds
import Derived.Test.YtdpfcjhhabcheaaDoorRows2
namespace Go.Proofs.YtdpfcjhhabcheaaDoor
open Go Go.RowKit

structure Ev where
  word : ByteArray
  nums : List Int
  name : ByteArray
  data : ByteArray
  asks : List (Int × Int)
def numB (n : Int) : Bool := decide (0 ≤ n) && decide (n ≤ 1099511627776)
def askB (a : Int × Int) : Bool := decide (0 ≤ a.1) && decide (a.1 ≤ 4294967295) && (decide (0 ≤ a.2) && decide (a.2 ≤ 4095))
/-- What a word's shape asks of an event, ahead of its numbers and places. -/
def headB (s : Shp) (e : Ev) : Bool :=
  decide (s.least ≤ e.nums.length) && decide (e.nums.length ≤ s.most) && (if s.name then nameL e.name.data.toList else decide (e.name.data.toList = [])) &&
  (dataB e.data.data.toList && (s.data || decide (e.data.data.toList = []))) && (if s.asks then decide (1 ≤ e.asks.length) && decide (e.asks.length ≤ 64) else decide (e.asks.length = 0))
/-- May an event be? -/
def evOk (e : Ev) : Bool := match ofW e.word.toList with
  | none => false
  | some s => headB s e && (e.nums.all numB && e.asks.all askB)
/-- The cells of asked places. -/
def askC (l : List (Int × Int)) : List Value := l.flatMap fun a => [.int .i64 a.1, .int .i64 a.2]
theorem askC_len (l : List (Int × Int)) : (askC l).length = 2 * l.length := by
  induction l with
  | nil => rfl
  | cons a l ih =>
    have : askC (a :: l) = [.int .i64 a.1, .int .i64 a.2] ++ askC l := rfl
    rw [this, List.length_append, ih]
    simp
    omega
theorem askC_get : ∀ (l : List (Int × Int)) (i : Nat) (a : Int × Int), l[i]? = some a → (askC l)[2 * i]? = some (.int .i64 a.1) ∧ (askC l)[2 * i + 1]? = some (.int .i64 a.2)
  | [], i, a, h => by simp at h
  | b :: l, 0, a, h => by
    simp at h
    subst h
    exact ⟨rfl, rfl⟩
  | b :: l, i + 1, a, h => by
    have h2 := askC_get l i a (by simpa using h)
    have e : askC (b :: l) = .int .i64 b.1 :: .int .i64 b.2 :: askC l := rfl
    rw [e, show 2 * (i + 1) = 2 * i + 1 + 1 from by omega]
    simpa using h2
end Go.Proofs.YtdpfcjhhabcheaaDoor

/-
  Events in memory: an event's value, its numbers and its places at whatever address. No condition. Own work.
-/
namespace Go.Proofs.YtdpfcjhhabcheaaDoor
open Go Go.RowKit

def numCells (x : Int) : List Value := [.int .i64 x]
def askCells (a : Int × Int) : List Value := [.int .i64 a.1, .int .i64 a.2]
/-- Numbers lie at A. -/
def NumAt (w : World) (B : Nat) (A : Option Addr) (L : List Int) : Prop := RowsAt w B A L.length 1 (L.map numCells)
/-- Places lie at A. -/
def AskAt (w : World) (B : Nat) (A : Option Addr) (L : List (Int × Int)) : Prop := RowsAt w B A L.length 2 (L.map askCells)
theorem NumAt.below {w w' : World} {B : Nat} {A : Option Addr} {L : List Int} (h : NumAt w B A L) (hb : Below B w w') : NumAt w' B A L := RowsAt.below h hb
theorem AskAt.below {w w' : World} {B : Nat} {A : Option Addr} {L : List (Int × Int)} (h : AskAt w B A L) (hb : Below B w w') : AskAt w' B A L := RowsAt.below h hb
theorem RowsAt.up {w : World} {B B' : Nat} {A : Option Addr} {n k : Nat} {X : List (List Value)} (h : RowsAt w B A n k X) (hb : B ≤ B') : RowsAt w B' A n k X :=
  ⟨h.len, fun hn => by
    obtain ⟨ad, e, hl, hc⟩ := h.lies hn
    exact ⟨ad, e, by omega, hc⟩⟩
theorem NumAt.up {w : World} {B B' : Nat} {A : Option Addr} {L : List Int} (h : NumAt w B A L) (hb : B ≤ B') : NumAt w B' A L := RowsAt.up h hb
theorem AskAt.up {w : World} {B B' : Nat} {A : Option Addr} {L : List (Int × Int)} (h : AskAt w B A L) (hb : B ≤ B') : AskAt w B' A L := RowsAt.up h hb
theorem NumAt.nil (w : World) (B : Nat) : NumAt w B none [] := ⟨rfl, fun h => absurd h (by simp)⟩
theorem AskAt.nil (w : World) (B : Nat) : AskAt w B none [] := ⟨rfl, fun h => absurd h (by simp)⟩
theorem NumAt.get {w : World} {B : Nat} {A : Option Addr} {L : List Int} (h : NumAt w B A L) {j : Nat} {p : Int} (hj : L[j]? = some p) : ∃ ad, A = some ad ∧ ad.block < B ∧ w.cell? (ad.add j) = some (.int .i64 p) := by
  have hl : j < L.length := (List.getElem?_eq_some_iff.mp hj).1
  obtain ⟨ad, e, hb, hc⟩ := h.lies (by omega)
  have h0 := (hc j (numCells p) (by rw [List.getElem?_map, hj]; rfl)).2 0 (by omega)
  rw [show j * 1 + 0 = j from by omega] at h0
  exact ⟨ad, e, hb, h0⟩
theorem AskAt.get {w : World} {B : Nat} {A : Option Addr} {L : List (Int × Int)} (h : AskAt w B A L) {j : Nat} {p : Int × Int} (hj : L[j]? = some p) :
    ∃ ad, A = some ad ∧ ad.block < B ∧ w.cell? (ad.add (j * 2)) = some (.int .i64 p.1) ∧ w.cell? ⟨(ad.add (j * 2)).block, (ad.add (j * 2)).off + 1, none⟩ = some (.int .i64 p.2) := by
  have hl : j < L.length := (List.getElem?_eq_some_iff.mp hj).1
  obtain ⟨ad, e, hb, hc⟩ := h.lies (by omega)
  have hcx := (hc j (askCells p) (by rw [List.getElem?_map, hj]; rfl)).2
  have h0 := hcx 0 (by omega)
  have h1 := hcx 1 (by omega)
  rw [show j * 2 + 0 = j * 2 from by omega] at h0
  rw [← add_add'] at h1
  exact ⟨ad, e, hb, h0, h1⟩
/-- An event's value: its parts. -/
abbrev EVal (wd : ByteArray) (vn : Value) (nm dt : ByteArray) (va : Value) : Value := .agg #[.string wd, vn, .string nm, .string dt, va]
abbrev ECells (wd : ByteArray) (vn : Value) (nm dt : ByteArray) (va : Value) : Array Value := #[.string wd, vn, .string nm, .string dt, va]
/-- This value is that event, whose rows lie below block B. -/
def EvAt (w : World) (B : Nat) (e : Ev) (v : Value) : Prop := ∃ A1 c1 A2 c2, v = EVal e.word (.slice A1 e.nums.length c1) e.name e.data (.slice A2 e.asks.length c2) ∧ NumAt w B A1 e.nums ∧ AskAt w B A2 e.asks
theorem EvAt.below {w w' : World} {B : Nat} {e : Ev} {v : Value} (h : EvAt w B e v) (hb : Below B w w') : EvAt w' B e v := by
  obtain ⟨A1, c1, A2, c2, rfl, h1, h2⟩ := h
  exact ⟨A1, c1, A2, c2, rfl, h1.below hb, h2.below hb⟩
theorem EvAt.up {w : World} {B B' : Nat} {e : Ev} {v : Value} (h : EvAt w B e v) (hb : B ≤ B') : EvAt w B' e v := by
  obtain ⟨A1, c1, A2, c2, rfl, h1, h2⟩ := h
  exact ⟨A1, c1, A2, c2, rfl, h1.up hb, h2.up hb⟩
def ev0 : Ev := ⟨⟨#[]⟩, [], ⟨#[]⟩, ⟨#[]⟩, []⟩
theorem EvAt.zero (w : World) (B : Nat) : EvAt w B ev0 (EVal ⟨#[]⟩ (.slice none 0 0) ⟨#[]⟩ ⟨#[]⟩ (.slice none 0 0)) := ⟨none, 0, none, 0, rfl, .nil w B, .nil w B⟩
/-- Five cells of a block. -/
abbrev Five (b : Nat) (a0 a1 a2 a3 a4 : Value) (w' : World) : Prop := w'.cell? ⟨b, 0, none⟩ = some a0 ∧ w'.cell? ⟨b, 1, none⟩ = some a1 ∧ w'.cell? ⟨b, 2, none⟩ = some a2 ∧ w'.cell? ⟨b, 3, none⟩ = some a3 ∧ w'.cell? ⟨b, 4, none⟩ = some a4
theorem five_row {b : Nat} {a0 a1 a2 a3 a4 : Value} {T : TypeId} {x : Nat × Nat} {w : World} (h : w.heap[b]? = some (.cells #[a0, a1, a2, a3, a4] T x)) : Five b a0 a1 a2 a3 a4 w := by
  refine ⟨?_, ?_, ?_, ?_, ?_⟩ <;> (rw [cell_of_row _ _ _ _ _ _ h]; rfl)
theorem five_below {b : Nat} {a0 a1 a2 a3 a4 : Value} {w1 w2 : World} (h : Five b a0 a1 a2 a3 a4 w1) (hb : Below w1.heap.size w1 w2) (hl : b < w1.heap.size) : Five b a0 a1 a2 a3 a4 w2 := by
  have q : ∀ o v, w1.cell? ⟨b, o, none⟩ = some v → w2.cell? ⟨b, o, none⟩ = some v := fun o v h => (hb.cell (p := ⟨b, o, none⟩) hl).trans h
  exact ⟨q _ _ h.1, q _ _ h.2.1, q _ _ h.2.2.1, q _ _ h.2.2.2.1, q _ _ h.2.2.2.2⟩
end Go.Proofs.YtdpfcjhhabcheaaDoor

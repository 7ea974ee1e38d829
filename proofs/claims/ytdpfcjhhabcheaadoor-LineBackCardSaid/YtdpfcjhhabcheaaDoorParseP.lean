/-
  What line.Parse makes of a line's words, plainly. No condition. Own work.
-/
import Derived.Test.YtdpfcjhhabcheaaDoorPst
namespace Go.Proofs.YtdpfcjhhabcheaaDoor
open Go Go.RowKit

def baL (l : List UInt8) : ByteArray := ⟨l.toArray⟩
def sh0 : Shp := ⟨0, 0, false, false, false⟩
def isN (x : List UInt8) : Bool := (numO x).isSome
/-- What line.ask tells of a word. -/
def askI (x : List UInt8) : Int × Int := match findB 58 (baL x).data.toList with
  | some i => (((numI ((baL x).extract 0 i).data.toList : Nat) : Int), ((numI ((baL x).extract (i + 1) (baL x).size).data.toList : Nat) : Int))
  | none => (((numI (baL x).data.toList : Nat) : Int), ((numI [] : Nat) : Int))
def askOk (x : List UInt8) : Bool := match findB 58 (baL x).data.toList with
  | some i => (numO ((baL x).extract 0 i).data.toList).isSome && (numO ((baL x).extract (i + 1) (baL x).size).data.toList).isSome
  | none => false
theorem askV_eq (x : List UInt8) : askV ⟨x.toArray⟩ = .tuple #[.agg #[.int .i64 (askI x).1, .int .i64 (askI x).2], .bool (askOk x)] := by
  unfold askV askI askOk baL
  cases findB 58 (ByteArray.mk x.toArray).data.toList <;> rfl
/-- What is asked of a line behind its last part. -/
def pEnd (wd : ByteArray) (nums : List Int) (nm dt : ByteArray) (asks : List (Int × Int)) (is : Bool) (ws : List (List UInt8)) : Option Ev :=
  if is = true ∧ ws = [] ∧ evOk ⟨wd, nums, nm, dt, asks⟩ = true then some ⟨wd, nums, nm, dt, asks⟩ else none
def pAsks (s : Shp) (wd : ByteArray) (nums : List Int) (nm dt : ByteArray) (asks : List (Int × Int)) (is : Bool) (ws : List (List UInt8)) : Option Ev :=
  if s.asks then pEnd wd nums nm dt (asks ++ ws.map askI) (is && ws.all askOk) [] else pEnd wd nums nm dt asks is ws
def pData (s : Shp) (wd : ByteArray) (nums : List Int) (nm : ByteArray) (is : Bool) (ws : List (List UInt8)) : Option Ev :=
  if s.data then (match ws with
    | [] => pAsks s wd nums nm ⟨#[]⟩ [] false []
    | x :: r => pAsks s wd nums nm (if x = [45] then ⟨#[]⟩ else baL x) [] (is && !x.isEmpty) r)
  else pAsks s wd nums nm ⟨#[]⟩ [] is ws
def pName (s : Shp) (wd : ByteArray) (nums : List Int) (is : Bool) (ws : List (List UInt8)) : Option Ev :=
  if s.name then (match ws with
    | [] => pData s wd nums ⟨#[]⟩ false []
    | x :: r => pData s wd nums (baL x) is r)
  else pData s wd nums ⟨#[]⟩ is ws
/-- How many numbers are taken. -/
def nk (s : Shp) (n : Nat) : Nat := if s.least < s.most then n else s.least
def pNums (s : Shp) (wd : ByteArray) (is : Bool) (ws : List (List UInt8)) : Option Ev :=
  if ws.length < nk s ws.length then none
  else if (ws.take (nk s ws.length)).all isN then pName s wd ((ws.take (nk s ws.length)).map fun x => ((numI x : Nat) : Int)) is (ws.drop (nk s ws.length)) else none
def parseW (ws : List (List UInt8)) : Option Ev := match ws with
  | [] => none
  | x :: r => pNums ((ofW x).getD sh0) (baL x) (ofW x).isSome r
/-- What a parse returns. -/
def PRes (o : Option Ev) (w : World) (e : Ending) : Prop := match o with
  | none => e = .returned (.tuple #[EVal ⟨#[]⟩ (.slice none 0 0) ⟨#[]⟩ ⟨#[]⟩ (.slice none 0 0), .int .i64 3])
  | some ev => ∃ V, e = .returned (.tuple #[V, .int .i64 0]) ∧ EvAt w w.heap.size ev V
theorem num_at {w : World} {B : Nat} {v : Value} {l : List Int} (h : SlO 3 B v (nC l) w) : ∃ A c, v = .slice A l.length c ∧ NumAt w w.heap.size A l := by
  have hl : (nC l).length = l.length := by simp [nC]
  by_cases h0 : 0 < (nC l).length
  · obtain ⟨g, cap, rfl, _, _, hC⟩ := h.opened h0
    refine ⟨_, cap, by rw [hl], by simp, fun _ => ⟨⟨g, 0, none⟩, rfl, hC.1, fun i cs hi => ?_⟩⟩
    rw [List.getElem?_map] at hi
    obtain ⟨p, hp, rfl⟩ := Option.map_eq_some_iff.1 hi
    refine ⟨rfl, fun j hj => ?_⟩
    obtain rfl : j = 0 := by omega
    have ha : (⟨g, 0, none⟩ : Addr).add (i * 1 + 0) = ⟨g, i, none⟩ := by unfold Addr.add; split <;> simp_all
    rw [ha, hC.2 i (.int .i64 p) (by unfold nC; rw [List.getElem?_map, hp]; rfl)]
    rfl
  · obtain ⟨a, cap, rfl⟩ := h.none_iff
    exact ⟨a, cap, by rw [hl], by simp, fun h => by omega⟩
theorem aC_at : ∀ (l : List (Int × Int)) (i : Nat) (p : Int × Int), l[i]? = some p → (aC l)[i * 2]? = some (.int .i64 p.1) ∧ (aC l)[i * 2 + 1]? = some (.int .i64 p.2)
  | [], i, a, h => by simp at h
  | b :: l, 0, a, h => by
    simp at h
    subst h
    exact ⟨rfl, rfl⟩
  | b :: l, i + 1, a, h => by
    have h2 := aC_at l i a (by simpa using h)
    have e : aC (b :: l) = .int .i64 b.1 :: .int .i64 b.2 :: aC l := rfl
    rw [e, show (i + 1) * 2 = i * 2 + 1 + 1 from by omega]
    simpa using h2
theorem ask_at {w : World} {B : Nat} {v : Value} {l : List (Int × Int)} (h : AO B v l w) : ∃ A c, v = .slice A l.length c ∧ AskAt w w.heap.size A l := by
  rcases h.2 with ⟨rfl, hn⟩ | ⟨g, cap, cur, rfl, hb, hg, hnc, _, hcs, htake⟩
  · exact ⟨none, 0, by rw [hn], by simp, fun h => by omega⟩
  · refine ⟨_, cap, rfl, by simp, fun _ => ⟨⟨g, 0, none⟩, rfl, lt_of_block hg, fun i cs hi => ?_⟩⟩
    rw [List.getElem?_map] at hi
    obtain ⟨p, hp, rfl⟩ := Option.map_eq_some_iff.1 hi
    have hil : i < l.length := (List.getElem?_eq_some_iff.1 hp).1
    have key : ∀ k c, (aC l)[k]? = some c → w.cell? ((⟨g, 0, none⟩ : Addr).add k) = some c := fun k c hk => by
      have ha : (⟨g, 0, none⟩ : Addr).add k = ⟨g, k, none⟩ := by unfold Addr.add; split <;> simp_all
      have hkl : k < (aC l).length := (List.getElem?_eq_some_iff.1 hk).1
      rw [aC_len] at hkl
      rw [ha, cell_of_row w g k cur _ _ hg]
      rw [← htake, List.getElem?_take, if_pos hkl] at hk
      simpa using hk
    obtain ⟨k1, k2⟩ := aC_at l i p hp
    refine ⟨rfl, fun j hj => ?_⟩
    rcases (show j = 0 ∨ j = 1 by omega) with rfl | rfl
    · exact key _ _ k1
    · exact key _ _ k2
/-- At most one of a name, data, places follows a word. -/
theorem of_one {l : List UInt8} {s : Shp} (h : ofW l = some s) : (s.name = true ∧ s.data = false ∧ s.asks = false) ∨ (s.name = false ∧ s.data = true ∧ s.asks = false) ∨ (s.name = false ∧ s.data = false ∧ s.asks = true) ∨ (s.name = false ∧ s.data = false ∧ s.asks = false) := by
  have key : (ofW l).all (fun s => (!s.name && !s.data) || (!s.name && !s.asks) || (!s.data && !s.asks)) = true := by
    have ite_all : ∀ (c : Prop) [Decidable c] (a : Shp) (o : Option Shp) (p : Shp → Bool), p a = true → o.all p = true → (if c then some a else o).all p = true := fun c _ a o p h1 h2 => by
      by_cases hc : c
      · rw [if_pos hc]; exact h1
      · rw [if_neg hc]; exact h2
    unfold ofW
    repeat (refine ite_all _ _ _ _ (by rfl) ?_)
    rfl
  rw [h] at key
  obtain ⟨a, b, c, d, e⟩ := s
  cases c <;> cases d <;> cases e <;> simp at key ⊢
end Go.Proofs.YtdpfcjhhabcheaaDoor

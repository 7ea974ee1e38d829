/-
  Words in memory, from any place on; the contract of line.Parse's closure (the next word). No condition. Own work.
-/
import Derived.Test.YtdpfcjhhabcheaaEvAt
import Derived.Test.YtdpfcjhhabcheaaWords
namespace Go.Proofs.Ytdpfcjhhabcheaa
open Go Go.RowKit

/-- These words lie at v, below block K. -/
def WAt (v : Value) (ws : List (List UInt8)) (K : Nat) (w : World) : Prop := ∃ a cap, v = .slice a ws.length cap ∧ ws.length ≤ cap ∧ cap ≤ maxLen ∧
  (0 < ws.length → ∃ g o, a = some ⟨g, o, none⟩ ∧ g < K ∧ ∀ i c, (bas ws)[i]? = some c → w.cell? ⟨g, o + i, none⟩ = some c)
theorem WAt.same {v : Value} {ws : List (List UInt8)} {K : Nat} {w w' : World} (h : WAt v ws K w) (hs : ∀ k, k < K → w'.heap[k]? = w.heap[k]?) : WAt v ws K w' := by
  obtain ⟨a, cap, rfl, hn, hm, hc⟩ := h
  refine ⟨a, cap, rfl, hn, hm, fun h0 => ?_⟩
  obtain ⟨g, o, rfl, hg, hx⟩ := hc h0
  exact ⟨g, o, rfl, hg, fun i c hi => by rw [← hx i c hi]; exact World.cell?_of_block (w := w) (a := ⟨g, o + i, none⟩) (hs g hg)⟩
theorem WAt.up {v : Value} {ws : List (List UInt8)} {K K' : Nat} {w : World} (h : WAt v ws K w) (hk : K ≤ K') : WAt v ws K' w := by
  obtain ⟨a, cap, rfl, hn, hm, hc⟩ := h
  refine ⟨a, cap, rfl, hn, hm, fun h0 => ?_⟩
  obtain ⟨g, o, rfl, hg, hx⟩ := hc h0
  exact ⟨g, o, rfl, by omega, hx⟩
/-- A block of one row, whole. -/
abbrev Blk (w : World) (b : Nat) (cs : Array Value) (T : TypeId) : Prop := w.heap[b]? = some (.cells cs T (0, 0))
set_option maxRecDepth 100000 in
set_option maxHeartbeats 1600000 in
theorem take_off (L I : Nat) (b : Bool) (w : World) (hi : Blk w I #[.bool b] 4) :
    Calls Try.prog 12 #[.bool false, .pointer (some ⟨L, 0, none⟩), .pointer (some ⟨I, 0, none⟩)] w fun x w' => x = .returned (.string ⟨#[]⟩) ∧ w.setCell ⟨I, 0, none⟩ (.bool b) = w' := by
  have c0 : w.cell? ⟨I, 0, none⟩ = some (.bool b) := by rw [cell_of_row _ _ _ _ _ _ hi]; rfl
  have f0 := frozen_of_row w I 0 _ _ hi
  clear hi
  cases b
  all_goals
    go_enter Try.func12, Try.ntmps12
    go_wp2_with fail
    go_ret
    exact ⟨rfl, rfl⟩
set_option maxRecDepth 100000 in
set_option maxHeartbeats 1600000 in
theorem take_none (L I : Nat) (b : Bool) (v : Value) (K : Nat) (w : World) (hi : Blk w I #[.bool b] 4) (hl : Blk w L #[v] 35) (hv : WAt v [] K w) :
    Calls Try.prog 12 #[.bool true, .pointer (some ⟨L, 0, none⟩), .pointer (some ⟨I, 0, none⟩)] w fun x w' => x = .returned (.string ⟨#[]⟩) ∧ w.setCell ⟨I, 0, none⟩ (.bool false) = w' := by
  obtain ⟨a, cap, rfl, -⟩ := hv
  have c0 : w.cell? ⟨I, 0, none⟩ = some (.bool b) := by rw [cell_of_row _ _ _ _ _ _ hi]; rfl
  have c1 : w.cell? ⟨L, 0, none⟩ = some (.slice a ([] : List (List UInt8)).length cap) := by rw [cell_of_row _ _ _ _ _ _ hl]; rfl
  have f0 := frozen_of_row w I 0 _ _ hi
  rw [List.length_nil] at c1
  clear hi hl
  cases b
  all_goals
    go_enter Try.func12, Try.ntmps12
    go_wp2_with fail
    go_ret
    exact ⟨rfl, rfl⟩
set_option maxRecDepth 100000 in
set_option maxHeartbeats 1600000 in
theorem take_pop (L I : Nat) (v : Value) (K : Nat) (x : List UInt8) (ws : List (List UInt8)) (w : World) (hl : Blk w L #[v] 35) (hv : WAt v (x :: ws) K w) :
    Calls Try.prog 12 #[.bool true, .pointer (some ⟨L, 0, none⟩), .pointer (some ⟨I, 0, none⟩)] w fun e w' => e = .returned (.string ⟨x.toArray⟩) ∧ ∃ v', WAt v' ws K w ∧ w.setCell ⟨L, 0, none⟩ v' = w' := by
  obtain ⟨a, cap, rfl, hn, hm, hc⟩ := hv
  obtain ⟨g, o, rfl, hg, hx⟩ := hc (by simp)
  have c2 : w.cell? ⟨g, o, none⟩ = some (.string ⟨x.toArray⟩) := hx 0 _ rfl
  have c1 : w.cell? ⟨L, 0, none⟩ = some (.slice (some ⟨g, o, none⟩) (x :: ws).length cap) := by rw [cell_of_row _ _ _ _ _ _ hl]; rfl
  have f1 := frozen_of_row w L 0 _ _ hl
  obtain ⟨n, hnn⟩ : ∃ n, n = ws.length := ⟨_, rfl⟩
  rw [List.length_cons] at c1 hn
  rw [← hnn] at c1 hn
  have n1 : ¬ ((n : Int) + 1) = 0 := by omega
  have n2 : ((((n : Int) + 1) == 0) = false) := by simpa using n1
  have HN := Lib.hid hnn
  have HX := Lib.hid hx
  have HC : Hid (n + 1 ≤ cap) := Lib.hid hn
  have HM := Lib.hid hm
  clear hl hc hx hnn hn hm
  go_enter Try.func12, Try.ntmps12
  go_wp2_with fail
  all_goals go_ret
  all_goals refine ⟨rfl, _, ?_, rfl⟩
  all_goals
    have e1 := HN.out
    have e2 := HC.out
    have e3 := HM.out
    have e4 := HX.out
    clear n1 n2
  · exact ⟨_, _, by rw [e1], by omega, by omega, fun h0 => by omega⟩
  · exact ⟨_, _, by rw [e1], by omega, by omega, fun _ => ⟨g, o + 1, rfl, hg, fun i c hi => by rw [show o + 1 + i = o + (i + 1) from by omega]; exact e4 (i + 1) c hi⟩⟩
end Go.Proofs.Ytdpfcjhhabcheaa

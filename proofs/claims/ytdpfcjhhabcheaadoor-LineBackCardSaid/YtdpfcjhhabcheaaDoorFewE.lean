/-
  The contract of the reference's Few; what Show, Shown, Right, Check, join answer at any event of few parts. No condition. Own work.
-/
import Derived.Test.YtdpfcjhhabcheaaDoorShowY
import Derived.Test.YtdpfcjhhabcheaaDoorRShown
import Derived.Test.YtdpfcjhhabcheaaDoorShowQ
import Derived.Test.YtdpfcjhhabcheaaDoorRRightL
import Derived.Test.YtdpfcjhhabcheaaDoorSameL
import Derived.Test.YtdpfcjhhabcheaaDoorLawE
namespace Go.Proofs.YtdpfcjhhabcheaaDoor
open Go Go.RowKit

/-- Has an event texts and rows of so few parts? -/
def fewE (e : Ev) : Bool := decide (e.word.size ≤ 1000 ∧ e.nums.length ≤ 200 ∧ e.name.size ≤ 1000 ∧ e.data.size ≤ 1000 ∧ e.asks.length ≤ 200)
set_option maxRecDepth 100000 in
set_option maxHeartbeats 1600000 in
theorem few_any (e : Ev) (v : Value) (w : World) (hv : EvAt w w.heap.size e v) : Calls Tryd.prog 20 #[v] w fun x w' => x = .returned (.bool (fewE e)) ∧ Below w.heap.size w w' := by
  obtain ⟨A1, c1, A2, c2, rfl, -, -⟩ := hv
  obtain ⟨wd, nums, nm, dt, asks⟩ := e
  dsimp only
  obtain ⟨F, hF⟩ : ∃ F, F = fewE ⟨wd, nums, nm, dt, asks⟩ := ⟨_, rfl⟩
  rw [← hF]
  unfold fewE at hF
  dsimp only at hF
  generalize nums.length = n1 at *
  generalize asks.length = n2 at *
  by_cases h1 : (wd.size : Int) ≤ 1000
  · by_cases h2 : (n1 : Int) ≤ 200
    · by_cases h3 : (nm.size : Int) ≤ 1000
      · by_cases h4 : (dt.size : Int) ≤ 1000
        · by_cases h5 : (n2 : Int) ≤ 200
          · obtain rfl : F = true := by rw [hF]; exact decide_eq_true (by omega)
            clear hF
            go_enter Tryd.func20, Tryd.ntmps20
            go_wp2_with fail
            go_ret
            exact ⟨rfl, bnew _ _⟩
          · obtain rfl : F = false := by rw [hF]; exact decide_eq_false (by omega)
            clear hF
            go_enter Tryd.func20, Tryd.ntmps20
            go_wp2_with fail
            go_ret
            exact ⟨rfl, bnew _ _⟩
        · obtain rfl : F = false := by rw [hF]; exact decide_eq_false (by omega)
          clear hF
          go_enter Tryd.func20, Tryd.ntmps20
          go_wp2_with fail
          go_ret
          exact ⟨rfl, bnew _ _⟩
      · obtain rfl : F = false := by rw [hF]; exact decide_eq_false (by omega)
        clear hF
        go_enter Tryd.func20, Tryd.ntmps20
        go_wp2_with fail
        go_ret
        exact ⟨rfl, bnew _ _⟩
    · obtain rfl : F = false := by rw [hF]; exact decide_eq_false (by omega)
      clear hF
      go_enter Tryd.func20, Tryd.ntmps20
      go_wp2_with fail
      go_ret
      exact ⟨rfl, bnew _ _⟩
  · obtain rfl : F = false := by rw [hF]; exact decide_eq_false (by omega)
    clear hF
    go_enter Tryd.func20, Tryd.ntmps20
    go_wp2_with fail
    go_ret
    exact ⟨rfl, bnew _ _⟩
theorem few_sizes {e : Ev} (h : fewE e = true) : e.word.size ≤ 1000 ∧ e.nums.length ≤ 200 ∧ e.name.size ≤ 1000 ∧ e.data.size ≤ 1000 ∧ e.asks.length ≤ 200 := of_decide_eq_true h
/-- An event's line. -/
def lineS (e : Ev) : ByteArray := joinS ((showW e).map baL)
theorem line_list (e : Ev) : (lineS e).data.toList = Lib.join (showW e) [32] := by
  show Lib.join (((showW e).map baL).map (·.data.toList)) [32] = _
  rw [List.map_map]
  congr 1
  exact List.map_id'' (fun _ => rfl) _
theorem line_size (e : Ev) (h : evOk e = true) : (lineS e).size ≤ 6000 := by
  obtain ⟨s, ho⟩ := ok_parts e h
  have h1 := joinS_size ((showW e).map baL) 40 (words_small e s ho)
  have h2 := words_count e s ho
  have h3 : ((showW e).map baL).length * (40 + 1) ≤ 130 * 41 := Nat.mul_le_mul h2 (Nat.le_refl _)
  unfold lineS
  omega
/-- line.Show at an event that may be. -/
theorem show_ok (e : Ev) (v : Value) (h : evOk e = true) (w : World) (ht : Tab w) (hv : EvAt w w.heap.size e v) :
    Calls Tryd.prog 22 #[v] w fun x w' => x = .returned (.tuple #[.string (lineS e), .int .i64 0]) ∧ Below w.heap.size w w' := by
  obtain ⟨s, ho⟩ := ok_parts e h
  have := ho.name
  exact show_yes e v s _ ho.nums ho.asks (by omega) h ho.nb ho.ab ho.za ho.of rfl (fun x hx => by have := words_small e s ho x hx; omega) (by have := words_count e s ho; omega) w ht hv
/-- The reference's Shown at an event that may be. -/
theorem shown_ok (e : Ev) (v : Value) (h : evOk e = true) (w : World) (hv : EvAt w w.heap.size e v) :
    Calls Tryd.prog 26 #[v] w fun x w' => ∃ v', x = .returned v' ∧ SlO 9 w.heap.size v' (((showW e).map baL).map Value.string) w' ∧ Below w.heap.size w w' := by
  obtain ⟨s, ho⟩ := ok_parts e h
  exact rshown_any e v s _ ho.nums ho.asks ho.nb ho.ab ho.za ho.of rfl w hv
/-- The law's join of an event's words. -/
theorem rjoin_ok (e : Ev) (h : evOk e = true) {B : Nat} {v : Value} (w : World) (hO : SlO 9 B v (((showW e).map baL).map Value.string) w) :
    Calls Tryd.prog 25 #[v] w fun x w' => x = .returned (.string (lineS e)) ∧ Below w.heap.size w w' := by
  obtain ⟨s, ho⟩ := ok_parts e h
  exact rjoin_any _ (fun x hx => by have := words_small e s ho x hx; omega) (by have := words_count e s ho; omega) (by rw [showB_eq ho.of]; simp) w hO
end Go.Proofs.YtdpfcjhhabcheaaDoor

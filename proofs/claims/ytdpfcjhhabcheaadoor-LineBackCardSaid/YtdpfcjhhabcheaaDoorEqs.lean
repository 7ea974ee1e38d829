/-
  The contracts of the reference's Texts and Ints at rows that are the same. No condition. Own work.
-/
import Derived.Test.YtdpfcjhhabcheaaDoorRData
namespace Go.Proofs.YtdpfcjhhabcheaaDoor
open Go Go.RowKit

/-- A slice that reads as these cells. -/
def Rd (v : Value) (L : List Value) (w : World) : Prop := ∃ a cap, v = .slice a L.length cap ∧ (0 < L.length → ∃ g, a = some ⟨g, 0, none⟩ ∧ SlC g L w)
theorem SlO.rd {T : TypeId} {B : Nat} {v : Value} {L : List Value} {w : World} (h : SlO T B v L w) : Rd v L w := by
  by_cases h0 : 0 < L.length
  · obtain ⟨g, cap, rfl, _, _, hC⟩ := h.opened h0
    exact ⟨_, cap, rfl, fun _ => ⟨g, rfl, hC⟩⟩
  · obtain ⟨a, cap, rfl⟩ := h.none_iff
    exact ⟨a, cap, rfl, fun h => absurd h h0⟩
theorem Rd.below {v : Value} {L : List Value} {w w' : World} (h : Rd v L w) (hb : Below w.heap.size w w') : Rd v L w' := by
  obtain ⟨a, cap, rfl, hr⟩ := h
  exact ⟨a, cap, rfl, fun h0 => by
    obtain ⟨g, rfl, hC⟩ := hr h0
    exact ⟨g, rfl, hC.below hb⟩⟩
set_option maxRecDepth 100000 in
set_option maxHeartbeats 3200000 in
theorem texts_yes (v1 v2 : Value) (xs : List ByteArray) (hl : xs.length ≤ 100000) (w : World) (h1 : Rd v1 (xs.map Value.string) w) (h2 : Rd v2 (xs.map Value.string) w) :
    Calls Tryd.prog 29 #[v1, v2] w fun e w' => e = .returned (.bool true) ∧ Below w.heap.size w w' := by
  obtain ⟨a1, cap1, rfl, r1⟩ := h1
  obtain ⟨a2, cap2, rfl, r2⟩ := h2
  rw [List.length_map] at r1 r2 ⊢
  obtain ⟨n, hn⟩ : ∃ n, n = xs.length := ⟨_, rfl⟩
  rw [← hn] at r1 r2 hl ⊢
  have HN := Lib.hid hn
  have R1 := Lib.hid r1
  have R2 := Lib.hid r2
  have hl' : (n : Int) ≤ 100000 := by omega
  clear hn r1 r2
  go_enter Tryd.func29, Tryd.ntmps29
  go_wp2_with fail
  go_loopw [5] (fun c wr => ∃ i : Nat, i ≤ n ∧ c = .int .i64 (i : Int) ∧ Below w.heap.size w wr) (fun c _ => n - (intOf c).toNat)
  case atStart => exact ⟨0, by omega, rfl, Below.refl _ _⟩
  case round =>
    obtain ⟨i, hi, rfl, hbw⟩ := hrel
    by_cases hik : i < n
    · have hii : (i : Int) < (n : Int) := by omega
      obtain ⟨g1, rfl, hc1⟩ := R1.out (by omega)
      obtain ⟨g2, rfl, hc2⟩ := R2.out (by omega)
      obtain ⟨x, hx⟩ : ∃ x, xs[i]? = some x := ⟨xs[i]'(by rw [← HN.out]; exact hik), List.getElem?_eq_getElem _⟩
      have c1 := (hbw.cell (p := ⟨g1, i, none⟩) hc1.1).trans (hc1.2 i (Value.string x) (by rw [List.getElem?_map, hx]; rfl))
      have c2 := (hbw.cell (p := ⟨g2, i, none⟩) hc2.1).trans (hc2.2 i (Value.string x) (by rw [List.getElem?_map, hx]; rfl))
      have HB := Lib.hid hbw
      clear hbw hc1 hc2 hx R1 R2
      go_wp2_with fail
      refine wp_region_txt (fun w' => w'.cell? ⟨g1, i, none⟩ = some (Value.string x) ∧ w'.cell? ⟨g2, i, none⟩ = some (Value.string x) ∧ Below w.heap.size w w') (by kernel_rfl) (by kernel_rfl) ⟨c1, c2, HB.out.drew⟩ ?_
      repeat (first
        | (refine text_skip (by rfl) ?_; simp only [Act.put, List.setIfInBounds_toArray, List.set_cons_zero, List.set_cons_succ])
        | (refine text_pure (v := ?_) (by rfl) (fun wx hS => ?_) ?_; rotate_left; (go_simp; with_reducible exact rfl); simp only [Act.put, List.setIfInBounds_toArray, List.set_cons_zero, List.set_cons_succ]))
      refine text_nil (fun wx hS => ?_)
      have HB2 := Lib.hid hS.2.2
      clear hS c1 c2
      go_wp2_with fail
      exact ⟨⟨i + 1, by omega, by go_num, HB2.out⟩, by simp [intOf]; omega⟩
    · have hi2 : i = n := by omega
      subst hi2
      go_wp2_with fail
      go_ret
      exact ⟨rfl, hbw⟩
set_option maxRecDepth 100000 in
set_option maxHeartbeats 3200000 in
theorem ints_yes (v1 v2 : Value) (xs : List Int) (hl : xs.length ≤ 100000) (w : World) (h1 : Rd v1 (xs.map (Value.int .i64)) w) (h2 : Rd v2 (xs.map (Value.int .i64)) w) :
    Calls Tryd.prog 54 #[v1, v2] w fun e w' => e = .returned (.bool true) ∧ Below w.heap.size w w' := by
  obtain ⟨a1, cap1, rfl, r1⟩ := h1
  obtain ⟨a2, cap2, rfl, r2⟩ := h2
  rw [List.length_map] at r1 r2 ⊢
  obtain ⟨n, hn⟩ : ∃ n, n = xs.length := ⟨_, rfl⟩
  rw [← hn] at r1 r2 hl ⊢
  have HN := Lib.hid hn
  have R1 := Lib.hid r1
  have R2 := Lib.hid r2
  have hl' : (n : Int) ≤ 100000 := by omega
  clear hn r1 r2
  go_enter Tryd.func54, Tryd.ntmps54
  go_wp2_with fail
  go_loopw [5] (fun c wr => ∃ i : Nat, i ≤ n ∧ c = .int .i64 (i : Int) ∧ Below w.heap.size w wr) (fun c _ => n - (intOf c).toNat)
  case atStart => exact ⟨0, by omega, rfl, Below.refl _ _⟩
  case round =>
    obtain ⟨i, hi, rfl, hbw⟩ := hrel
    by_cases hik : i < n
    · have hii : (i : Int) < (n : Int) := by omega
      obtain ⟨g1, rfl, hc1⟩ := R1.out (by omega)
      obtain ⟨g2, rfl, hc2⟩ := R2.out (by omega)
      obtain ⟨x, hx⟩ : ∃ x, xs[i]? = some x := ⟨xs[i]'(by rw [← HN.out]; exact hik), List.getElem?_eq_getElem _⟩
      have c1 := (hbw.cell (p := ⟨g1, i, none⟩) hc1.1).trans (hc1.2 i (Value.int .i64 x) (by rw [List.getElem?_map, hx]; rfl))
      have c2 := (hbw.cell (p := ⟨g2, i, none⟩) hc2.1).trans (hc2.2 i (Value.int .i64 x) (by rw [List.getElem?_map, hx]; rfl))
      have HB := Lib.hid hbw
      clear hbw hc1 hc2 hx R1 R2
      go_wp2_with fail
      refine wp_region_txt (fun w' => w'.cell? ⟨g1, i, none⟩ = some (Value.int .i64 x) ∧ w'.cell? ⟨g2, i, none⟩ = some (Value.int .i64 x) ∧ Below w.heap.size w w') (by kernel_rfl) (by kernel_rfl) ⟨c1, c2, HB.out.drew⟩ ?_
      repeat (first
        | (refine text_skip (by rfl) ?_; simp only [Act.put, List.setIfInBounds_toArray, List.set_cons_zero, List.set_cons_succ])
        | (refine text_pure (v := ?_) (by rfl) (fun wx hS => ?_) ?_; rotate_left; (go_simp; with_reducible exact rfl); simp only [Act.put, List.setIfInBounds_toArray, List.set_cons_zero, List.set_cons_succ]))
      refine text_nil (fun wx hS => ?_)
      have HB2 := Lib.hid hS.2.2
      clear hS c1 c2
      go_wp2_with fail
      exact ⟨⟨i + 1, by omega, by go_num, HB2.out⟩, by simp [intOf]; omega⟩
    · have hi2 : i = n := by omega
      subst hi2
      go_wp2_with fail
      go_ret
      exact ⟨rfl, hbw⟩
end Go.Proofs.YtdpfcjhhabcheaaDoor

/-
  The contract of custody.weight. No condition. Own work.
-/
import Derived.Test.YtbblolggcgonmaaMay
import Derived.Test.YtbblolggcgonmaaInter
namespace Go.Proofs.Ytbblolggcgonmaa
open Go.RowKit

/-- A world of which some cells are known. -/
abbrev Cells1 (a : Addr) (u : Value) (W w' : World) : Prop := w'.cell? a = some u ∧ W = w'
abbrev Cells2 (a b : Addr) (u v : Value) (W w' : World) : Prop := w'.cell? a = some u ∧ w'.cell? b = some v ∧ W = w'
abbrev Cells3 (a b c : Addr) (u v x : Value) (W w' : World) : Prop := w'.cell? a = some u ∧ w'.cell? b = some v ∧ w'.cell? c = some x ∧ W = w'
theorem bxor (a b : UInt8) : bits .xor .u8 ((a.toNat : Nat) : Int) ((b.toNat : Nat) : Int) = (((a ^^^ b).toNat : Nat) : Int) := by
  rw [u8_xor_nat a.toNat b.toNat a.toNat_lt b.toNat_lt, UInt8.toNat_xor]
/-- The places that are still to be counted. -/
def left (X : List UInt8) (i j : Nat) : List UInt8 := if j ≤ i then (X.drop j).eraseIdx (i - j) else X.drop j
theorem left_zero (X : List UInt8) (i : Nat) : left X i 0 = X.eraseIdx i := by simp [left]
theorem left_end (X : List UInt8) (i j : Nat) (h : X.length ≤ j) : left X i j = [] := by
  unfold left
  rw [List.drop_of_length_le h]
  split <;> simp
theorem left_same {X : List UInt8} {j : Nat} {x : UInt8} (h : X[j]? = some x) : left X j j = left X j (j + 1) := by
  obtain ⟨hl, e⟩ := List.getElem?_eq_some_iff.mp h
  unfold left
  rw [if_pos (Nat.le_refl _), if_neg (by omega), Nat.sub_self, List.drop_eq_getElem_cons hl]
  rfl
theorem left_next {X : List UInt8} {i j : Nat} {x : UInt8} (h : X[j]? = some x) (hne : j ≠ i) : left X i j = x :: left X i (j + 1) := by
  obtain ⟨hl, e⟩ := List.getElem?_eq_some_iff.mp h
  unfold left
  rw [List.drop_eq_getElem_cons hl, e]
  by_cases hji : j ≤ i
  · rw [if_pos hji, if_pos (by omega), show i - j = (i - (j + 1)) + 1 from by omega]
    rfl
  · rw [if_neg hji, if_neg (by omega)]

set_option maxRecDepth 100000 in
set_option maxHeartbeats 3200000 in
theorem weight_any (L : List Sh) (A : Option Addr) (cap : Nat) (i : Nat) (t : UInt8) (w : World) (hA : ShAt w w.heap.size A L) (hlen : L.length ≤ 1099511627776) (hi : i < L.length) :
    Calls Try.prog 49 #[.slice A L.length cap, .int .i64 (i : Int), bv t] w fun e w' => e = .returned (bv (wg ((L.map (·.1)).getD i 0) t ((L.map (·.1)).eraseIdx i) 1)) ∧ Below w.heap.size w w' := by
  obtain ⟨pi, hpi⟩ : ∃ p, L[i]? = some p := ⟨L[i], List.getElem?_eq_getElem _⟩
  obtain ⟨xi, di⟩ := pi
  have hxi : (L.map (·.1)).getD i 0 = xi := by rw [List.getD_eq_getElem?_getD, List.getElem?_map, hpi]; rfl
  rw [hxi]
  obtain ⟨R, hR⟩ : ∃ R, R = wg xi t ((L.map (·.1)).eraseIdx i) 1 := ⟨_, rfl⟩
  rw [← hR]
  rw [← left_zero] at hR
  obtain ⟨len, hl⟩ : ∃ n, n = L.length := ⟨_, rfl⟩
  rw [← hl] at hlen hi ⊢
  have HL := Lib.hid hl
  have HA := Lib.hid hA
  have HR := Lib.hid hR
  have HPI := Lib.hid hpi
  clear hl hA hR hpi hxi
  go_enter Try.func49, Try.ntmps49
  go_wp2_with fail
  go_loopw [7, 12] (fun o c wr => ∃ (j : Nat) (v : UInt8), j ≤ len ∧ c = .int .i64 j ∧ o = bv v ∧ R = wg xi t (left (L.map (·.1)) i j) v ∧ Below w.heap.size w wr) (fun _ c _ => len - (intOf c).toNat)
  case atStart => exact ⟨0, 1, Nat.zero_le _, rfl, rfl, HR.out, Below.refl _ _⟩
  case round =>
    obtain ⟨j, v, hj, rfl, rfl, hv, hbw⟩ := hrel
    have HV := Lib.hid hv
    clear hv
    by_cases hlt : j < len
    · obtain ⟨p, hp⟩ : ∃ p, L[j]? = some p := ⟨L[j]'(by rw [← HL.out]; exact hlt), List.getElem?_eq_getElem _⟩
      obtain ⟨ad, rfl, hadl, c0, c1⟩ := (HA.out.below hbw).get hp
      obtain ⟨ad', had, hadl', d0, d1⟩ := (HA.out.below hbw).get HPI.out
      cases had
      obtain ⟨x, d⟩ := p
      have HX : Hid ((L.map (·.1))[j]? = some x) := Lib.hid (by rw [List.getElem?_map, hp]; rfl)
      simp only at c0 c1 d0 d1
      clear hp
      by_cases hji : j = i
      · subst hji
        go_wp2_with fail
        go_roundw
        case rel => exact ⟨j + 1, v, by omega, by go_num, rfl, by rw [HV.out, left_same HX.out], hbw.alloc hbw.size _⟩
        case measure => simp [intOf]; omega
      · have hne : ((j : Int) != (i : Int)) = true := by simp; omega
        obtain ⟨W1, hW1⟩ : ∃ W1, W1 = wr.alloc (.cells #[.int .u8 ((x.toNat : Nat) : Int), .string d] 62) := ⟨_, rfl⟩
        have k0 : W1.drew.cell? ⟨wr.heap.size, 0, none⟩ = some (.int .u8 ((x.toNat : Nat) : Int)) := by rw [hW1]; simp [go_sem]
        have k2 : W1.drew.cell? (ad.add (i * 2)) = some (.int .u8 ((xi.toNat : Nat) : Int)) := by rw [hW1]; exact ((bnew wr _).cell (p := ad.add (i * 2)) (by rw [block_add']; have := hbw.size; omega)).trans d0
        have HW1 := Lib.hid hW1
        have HJI := Lib.hid hji
        clear hW1 d0 d1 hji
        obtain ⟨y1, hy1⟩ : ∃ y, y = x ^^^ t := ⟨_, rfl⟩
        obtain ⟨y2, hy2⟩ : ∃ y, y = x ^^^ xi := ⟨_, rfl⟩
        have b1 := bxor x t
        have b2 := bxor x xi
        rw [← hy1] at b1
        rw [← hy2] at b2
        have HY1 := Lib.hid hy1
        have HY2 := Lib.hid hy2
        clear hy1 hy2
        go_wp2_with fail
        rw [← HW1.out]
        refine wp_region_txt (Cells2 ⟨wr.heap.size, 0, none⟩ (ad.add (i * 2)) (.int .u8 ((x.toNat : Nat) : Int)) (.int .u8 ((xi.toNat : Nat) : Int)) W1.drew) (by kernel_rfl) (by kernel_rfl) ⟨k0, k2, rfl⟩ ?_
        repeat (first
          | (refine text_skip (by rfl) ?_; simp only [Act.put, List.setIfInBounds_toArray, List.set_cons_zero, List.set_cons_succ])
          | (refine text_pure (v := ?_) (by rfl) (fun wx hS => ?_) ?_; rotate_left; (go_simp; with_reducible exact rfl); simp only [Act.put, List.setIfInBounds_toArray, List.set_cons_zero, List.set_cons_succ])
          | (refine text_call (v := ?_) (f := ?_) (args := ?_) (by rfl) (fun wx hS => ?_) (fun wx hS => ?_) ?_; rotate_left 3; (go_simp; constructor <;> with_reducible rfl)
             (first
               | with_reducible exact meetsEq (over_any y2) wx hS
               | with_reducible exact meetsEq (mul_any y1 (ov y2)) wx hS
               | with_reducible exact meetsEq (mul_any v (gm y1 (ov y2))) wx hS)
             simp only [Act.put, List.setIfInBounds_toArray, List.set_cons_zero, List.set_cons_succ]))
        refine text_nil (fun wx hS => ?_)
        obtain ⟨_, _, rfl⟩ := hS
        go_wp2_with fail
        go_roundw
        case rel => exact ⟨j + 1, gm v (gm y1 (ov y2)), by omega, by go_num, rfl, by rw [HV.out, left_next HX.out HJI.out, wg, HY1.out, HY2.out], by rw [HW1.out]; exact (hbw.alloc hbw.size _).drew⟩
        case measure => simp [intOf]; omega
    · have hjl : j = len := by omega
      have hlf : left (L.map (·.1)) i j = [] := left_end _ _ _ (by rw [List.length_map, ← HL.out]; omega)
      have hv := HV.out
      rw [hlf, wg] at hv
      subst hv
      clear hlf
      go_wp2_with fail
      go_ret
      exact ⟨rfl, hbw⟩
end Go.Proofs.Ytbblolggcgonmaa

/-
  The contract of the reference's Pack for numbers that fit. No condition. Own work.
-/
import Derived.Test.YtdpfcjhhabcheaaDoorTxt
namespace Go.Proofs.YtdpfcjhhabcheaaDoor
open Go.RowKit

/-- Numbers' bytes, one behind the other. -/
def packB : List (Nat × Nat) → List UInt8
  | [] => []
  | (k, n) :: L => be n k ++ packB L
theorem packB_snoc (L : List (Nat × Nat)) (p : Nat × Nat) : packB (L ++ [p]) = packB L ++ be p.2 p.1 := by
  induction L with
  | nil => simp [packB]
  | cons q L ih => obtain ⟨k, n⟩ := q; simp [packB, ih]
theorem packB_len (L : List (Nat × Nat)) : (packB L).length = (L.map (·.1)).sum := by
  induction L with
  | nil => rfl
  | cons q L ih => obtain ⟨k, n⟩ := q; simp [packB, ih, be_len]
abbrev KS2 (w0 : World) (b1 o1 : Nat) (v1 : Value) (b2 o2 : Nat) (v2 : Value) (w' : World) : Prop :=
  w'.cell? ⟨b1, o1, none⟩ = some v1 ∧ w'.cell? ⟨b2, o2, none⟩ = some v2 ∧ b1 < w'.heap.size ∧ b2 < w'.heap.size ∧ Below w0.heap.size w0 w'
theorem ks2 {w0 : World} {b1 o1 : Nat} {v1 : Value} {b2 o2 : Nat} {v2 : Value} : Keeps (KS2 w0 b1 o1 v1 b2 o2 v2) := fun _ _ h hb =>
  ⟨(hb.cell (p := ⟨b1, o1, none⟩) h.2.2.1).trans h.1, (hb.cell (p := ⟨b2, o2, none⟩) h.2.2.2.1).trans h.2.1, Nat.lt_of_lt_of_le h.2.2.1 hb.size, Nat.lt_of_lt_of_le h.2.2.2.1 hb.size, bthen h.2.2.2.2 hb⟩
set_option maxRecDepth 100000 in
set_option maxHeartbeats 3200000 in
theorem rpack_yes (L : List (Nat × Nat)) (gw gn cw cn : Nat) (hw : ∀ p ∈ L, 1 ≤ p.1 ∧ p.1 ≤ 8 ∧ p.2 ≤ 9223372036854775807 ∧ p.2 < 2 ^ (8 * p.1)) (hlen : L.length ≤ 100) (w : World) (hgw : gw < w.heap.size) (hgn : gn < w.heap.size)
    (cW : ∀ j p, L[j]? = some p → w.cell? ⟨gw, j, none⟩ = some (.int .i64 (p.1 : Int))) (cN : ∀ j p, L[j]? = some p → w.cell? ⟨gn, j, none⟩ = some (.int .i64 (p.2 : Int))) :
    Calls Tryd.prog 35 #[.slice (some ⟨gw, 0, none⟩) L.length cw, .slice (some ⟨gn, 0, none⟩) L.length cn] w fun e w' => e = .returned (.tuple #[.string ⟨(packB L).toArray⟩, .int .i64 0]) ∧ Below w.heap.size w w' := by
  obtain ⟨len, hl⟩ : ∃ n, n = L.length := ⟨_, rfl⟩
  rw [← hl] at hlen ⊢
  obtain ⟨R, hR⟩ : ∃ R, R = packB L := ⟨_, rfl⟩
  rw [← hR]
  have HW := Lib.hid hw
  have HL := Lib.hid hl
  have HR := Lib.hid hR
  have CW := Lib.hid cW
  have CN := Lib.hid cN
  clear hw hl hR cW cN
  go_enter Tryd.func35, Tryd.ntmps35
  go_wp2_with fail
  go_loopw [6, 7] (fun o c wr => ∃ (i : Nat) (s : ByteArray), i ≤ len ∧ c = .int .i64 (i : Int) ∧ o = .string s ∧ s = ⟨(packB (L.take i)).toArray⟩ ∧ s.size ≤ 8 * i ∧ Below w.heap.size w wr) (fun _ c _ => len - (intOf c).toNat)
  case atStart => exact ⟨0, ⟨#[]⟩, by omega, rfl, rfl, rfl, by simp [ByteArray.size], Below.refl _ _⟩
  case round =>
    obtain ⟨i, s, hi, rfl, rfl, hs, hsl, hbw⟩ := hrel
    by_cases hik : i < len
    · obtain ⟨p, hp⟩ : ∃ p, L[i]? = some p := ⟨L[i]'(by rw [← HL.out]; exact hik), List.getElem?_eq_getElem _⟩
      obtain ⟨hp1, hp8, hpn, hfit⟩ := HW.out p (List.mem_of_getElem? hp)
      have c0 := CW.out i p hp
      have c1 := CN.out i p hp
      rw [← hbw.cell (p := ⟨gw, i, none⟩) hgw] at c0
      rw [← hbw.cell (p := ⟨gn, i, none⟩) hgn] at c1
      obtain ⟨k, n⟩ := p
      simp only at hp1 hp8 hpn c0 c1 hfit
      have ht : packB (L.take (i + 1)) = packB (L.take i) ++ be n k := by
        rw [List.take_add_one, hp]
        exact packB_snoc _ _
      have hbl : (⟨(be n k).toArray⟩ : ByteArray).size = k := by simp [ByteArray.size, be_len]
      have hP : ∀ w, Calls Tryd.prog 58 #[.int .i64 (n : Int), .int .i64 (k : Int)] w fun e w' => e = .returned (.tuple #[.string ⟨(be n k).toArray⟩, .int .i64 0]) ∧ Below w.heap.size w w' := fun w => by
        have h := rput_nat n k hpn hp1 hp8 w
        rw [rputR, if_pos hfit] at h
        exact h
      have hT : s ++ (⟨(be n k).toArray⟩ : ByteArray) = ⟨(packB (L.take (i + 1))).toArray⟩ := by rw [ht, hs, str_app]
      obtain ⟨V, hV⟩ : ∃ V : ByteArray, V = ⟨(be n k).toArray⟩ := ⟨_, rfl⟩
      rw [← hV] at hP hbl hT
      have hadd : ∀ W, (Op.stringOp .add s V).run Tryd.prog W = .ok (.string (s ++ V)) W := fun W => run_string_add_sum W _ _ (by omega)
      have hii : (i : Int) < (len : Int) := by omega
      have hz1 : gw < wr.heap.size := Nat.lt_of_lt_of_le hgw hbw.size
      have hz2 : gn < wr.heap.size := Nat.lt_of_lt_of_le hgn hbw.size
      have HP := Lib.hid hP
      have HT := Lib.hid hT
      have HBW := Lib.hid hbw
      have HBL := Lib.hid hbl
      have HS := Lib.hid hs
      have hsz : (s ++ V).size = s.size + V.size := by simp
      have HSZ := Lib.hid hsz
      clear hP hT hbw hbl hV ht hp hs hsz
      obtain ⟨X, hX⟩ : ∃ X : ByteArray, X = s ++ V := ⟨_, rfl⟩
      rw [← hX] at HT HSZ hadd
      clear hX
      go_wp2_with fail
      refine wp_region_txt (KS2 w gn i (.int .i64 (n : Int)) gw i (.int .i64 (k : Int))) (by kernel_rfl) (by kernel_rfl) ⟨c1, c0, hz2, hz1, HBW.out.drew⟩ ?_
      have HK : Hid (Keeps (KS2 w gn i (.int .i64 (n : Int)) gw i (.int .i64 (k : Int)))) := Lib.hid ks2
      repeat (first
        | (refine text_skip (by rfl) ?_; simp only [Act.put, List.setIfInBounds_toArray, List.set_cons_zero, List.set_cons_succ])
        | (refine text_pure (v := ?_) (by rfl) (fun wx hS => ?_) ?_; rotate_left; (go_simp; with_reducible exact rfl); simp only [Act.put, List.setIfInBounds_toArray, List.set_cons_zero, List.set_cons_succ])
        | (refine text_call (v := ?_) (f := ?_) (args := ?_) (by rfl) (fun wx hS => ?_) (fun wx hS => ?_) ?_; rotate_left 3; (go_simp; constructor <;> with_reducible rfl)
           (first
             | with_reducible exact meets HK.out HP.out wx hS)
           simp only [Act.put, List.setIfInBounds_toArray, List.set_cons_zero, List.set_cons_succ]))
      refine text_nil (fun wx hS => ?_)
      obtain ⟨_, _, _, _, hB⟩ := hS
      go_wp2_with fail
      exact ⟨⟨i + 1, X, by omega, by go_num, rfl, HT.out, by have := HBL.out; have := HSZ.out; omega, hB⟩, by simp [intOf]; omega⟩
    · have hi2 : i = len := by omega
      subst hi2
      have hsR : s = ⟨R.toArray⟩ := by rw [hs, HR.out, List.take_of_length_le (by rw [← HL.out]; exact Nat.le_refl _)]
      have HB := Lib.hid hbw
      have HSR := Lib.hid hsR
      clear hbw hs hsR
      go_wp2_with fail
      go_ret2
      exact ⟨by rw [HSR.out]; rfl, HB.out⟩
end Go.Proofs.YtdpfcjhhabcheaaDoor

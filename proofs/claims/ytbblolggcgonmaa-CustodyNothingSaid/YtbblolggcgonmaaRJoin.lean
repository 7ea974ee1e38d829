/-
  The contract of the reference's Join (chapter 37). No condition. Own work.
-/
import Derived.Test.YtbblolggcgonmaaRMay
namespace Go.Proofs.Ytbblolggcgonmaa
open Go.RowKit

theorem wi_byte (a : UInt8) : IntKind.i64.wrap ((a.toNat : Nat) : Int) = ((a.toNat : Nat) : Int) := by
  have := a.toNat_lt
  rw [IntKind.wrap_i64]
  omega
theorem wg_gm (xi t : UInt8) (xs : List UInt8) (a b : UInt8) : wg xi t xs (gm a b) = gm (wg xi t xs a) b := by
  induction xs generalizing a with
  | nil => rfl
  | cons x xs ih =>
    rw [wg, wg, ← ih]
    congr 1
    rw [gm_assoc, gm_comm b, ← gm_assoc]
theorem wg_lin (xi t : UInt8) (xs : List UInt8) (a : UInt8) : wg xi t xs a = gm (wg xi t xs 1) a := by
  rw [← wg_gm, one_gm]

set_option maxRecDepth 100000 in
set_option maxHeartbeats 6400000 in
theorem rjoin_any (L : List Sh) (A : Option Addr) (cap n : Nat) (w : World) (hA : ShAt w w.heap.size A L) (hlen : L.length ≤ 255) (hne : 0 < L.length) (hn : ∀ p ∈ L, p.2.size = n) (hn64 : n ≤ 64) :
    Calls Try.prog 33 #[.slice A L.length cap] w fun e w' => e = .returned (.string ⟨(valueL L 0 n).toArray⟩) ∧ Below w.heap.size w w' := by
  obtain ⟨R, hR⟩ : ∃ R, R = valueL L 0 n := ⟨_, rfl⟩
  rw [← hR]
  obtain ⟨p0, hp0⟩ : ∃ p, L[0]? = some p := ⟨L[0], List.getElem?_eq_getElem _⟩
  have hd0 := hn p0 (List.mem_of_getElem? hp0)
  obtain ⟨ad, rfl, hadl, d0, d1⟩ := hA.get0 hp0
  obtain ⟨x0, dd⟩ := p0
  simp only at d0 d1 hd0
  have hRi : ∀ b, b < n → R[b]? = some (part L 0 L.length b) := fun b hb => by rw [hR, valueL_eq, partL_get _ _ _ _ _ hb]
  have hRl : R.length = n := by rw [hR]; simp [valueL]
  obtain ⟨len, hl⟩ : ∃ n, n = L.length := ⟨_, rfl⟩
  rw [← hl] at hlen hne hRi ⊢
  have HL := Lib.hid hl
  have HA := Lib.hid hA
  have HRI := Lib.hid hRi
  have HN := Lib.hid hn
  clear hl hA hR hn hRi d0 hp0
  have hne' : (0 : Int) < (len : Int) := by omega
  go_enter Try.func33, Try.ntmps33
  go_wp2_with fail
  go_loopw [3, 4] (fun o c wr => ∃ b : Nat, b ≤ n ∧ c = .int .i64 b ∧ o = .string ⟨(R.take b).toArray⟩ ∧ Below w.heap.size w wr) (fun _ c _ => n - (intOf c).toNat)
  case atStart => exact ⟨0, Nat.zero_le _, rfl, rfl, Below.refl _ _⟩
  case round =>
    obtain ⟨b, hb, rfl, rfl, hbw⟩ := hrel
    have k1 := (hbw.cell (p := ⟨ad.block, ad.off + 1, none⟩) hadl).trans d1
    by_cases hbn : b < n
    · have hbi : (b : Int) < (n : Int) := by omega
      obtain ⟨wo, hwo⟩ : ∃ wo, wo = wr := ⟨_, rfl⟩
      rw [← hwo] at hbw k1 ⊢
      clear hwo
      go_wp2_with fail
      go_loopw [5, 6] (fun o c wi => ∃ i : Nat, i ≤ len ∧ c = .int .i64 i ∧ o = .int .i64 (((part L 0 i b).toNat : Nat) : Int) ∧ Below w.heap.size w wi) (fun _ c _ => len - (intOf c).toNat)
      case atStart => exact ⟨0, Nat.zero_le _, rfl, rfl, hbw⟩
      case round =>
        clear hbw k1
        obtain ⟨i, hi, rfl, rfl, hbv⟩ := hrel
        by_cases hil : i < len
        · obtain ⟨p, hp⟩ : ∃ p, L[i]? = some p := ⟨L[i]'(by rw [← HL.out]; exact hil), List.getElem?_eq_getElem _⟩
          have hds := HN.out p (List.mem_of_getElem? hp)
          obtain ⟨ad', had, hadl', c0, c1⟩ := (HA.out.below hbv).get hp
          cases had
          obtain ⟨xi, d⟩ := p
          simp only at c0 c1 hds
          have hbd : b < d.size := by omega
          have hili : (i : Int) < (len : Int) := by omega
          have hpart : part L 0 (i + 1) b = part L 0 i b ^^^ wg xi 0 ((places L).eraseIdx i) d[b] := by
            rw [part_succ, wg_lin _ _ _ d[b]]
            have e : (col L b).getD i 0 = d[b] := by
              unfold col
              rw [List.getD_eq_getElem?_getD, List.getElem?_map, hp]
              show d.data.toList.getD b 0 = _
              rw [List.getD_eq_getElem?_getD, List.getElem?_eq_getElem (by simpa using hbd)]; rfl
            have e2 : (places L).getD i 0 = xi := by unfold places; rw [List.getD_eq_getElem?_getD, List.getElem?_map, hp]; rfl
            rw [e, e2]
          have hwb := w64_byte d[b]
          obtain ⟨y, hy⟩ : ∃ y, y = d[b] := ⟨_, rfl⟩
          rw [← hy] at hpart hwb
          obtain ⟨s, hs⟩ : ∃ s, s = part L 0 i b := ⟨_, rfl⟩
          obtain ⟨z, hz⟩ : ∃ z, z = wg xi 0 ((places L).eraseIdx i) y := ⟨_, rfl⟩
          rw [← hs, ← hz] at hpart
          rw [← left_zero] at hz
          rw [← hs]
          have hwb' : wrap64 ((d[b].toNat : Nat) : Int) = ((y.toNat : Nat) : Int) := by rw [← hy]; exact hwb
          have HZ := Lib.hid hz
          have HPT := Lib.hid hpart
          have HP := Lib.hid hp
          obtain ⟨wu, hwu⟩ : ∃ wu, wu = wr := ⟨_, rfl⟩
          rw [← hwu] at hbv c0 c1 ⊢
          clear hwu hwb hs hz hpart hp hy
          go_wp2_with fail
          go_loopw [7, 8] (fun o c wi => ∃ (k : Nat) (v : UInt8), k ≤ len ∧ c = .int .i64 k ∧ o = .int .i64 ((v.toNat : Nat) : Int) ∧ z = wg xi 0 (left (places L) i k) v ∧ Below w.heap.size w wi) (fun _ c _ => len - (intOf c).toNat)
          case atStart => exact ⟨0, y, Nat.zero_le _, rfl, by rw [hwb'], HZ.out, hbv⟩
          case round =>
            clear hbv c0 c1
            obtain ⟨k, v, hk, rfl, rfl, hv, hbk⟩ := hrel
            have HV := Lib.hid hv
            clear hv
            by_cases hkl : k < len
            · obtain ⟨q, hq⟩ : ∃ p, L[k]? = some p := ⟨L[k]'(by rw [← HL.out]; omega), List.getElem?_eq_getElem _⟩
              obtain ⟨ad', had, hadl', b0, b1⟩ := (HA.out.below hbk).get hq
              cases had
              obtain ⟨ad', had, hadl', c0, c1⟩ := (HA.out.below hbk).get HP.out
              cases had
              obtain ⟨x, dx⟩ := q
              simp only at b0 b1 c0 c1
              have hkli : (k : Int) < (len : Int) := by omega
              have HX : Hid ((places L)[k]? = some x) := Lib.hid (by unfold places; rw [List.getElem?_map, hq]; rfl)
              clear hq
              by_cases hki : k = i
              · subst hki
                go_wp2_with fail
                go_roundw
                case rel => exact ⟨k + 1, v, by omega, by go_num, rfl, by rw [HV.out, left_same HX.out], hbk⟩
                case measure => simp [intOf]; omega
              · have hkib : ((k : Int) != (i : Int)) = true := by simp; omega
                have HKI := Lib.hid hki
                obtain ⟨y2, hy2⟩ : ∃ y, y = x ^^^ xi := ⟨_, rfl⟩
                have hxo := bxor64 x xi
                rw [← hy2] at hxo
                have hw1 := w64_byte x
                have hw2 := w64_byte xi
                have hw3 := wi_byte x
                have hw4 := wi_byte xi
                have HY2 := Lib.hid hy2
                clear hki hy2
                go_wp2_with fail
                refine wp_region_txt (Cells2 (ad.add (k * 2)) (ad.add (i * 2)) (.int .u8 ((x.toNat : Nat) : Int)) (.int .u8 ((xi.toNat : Nat) : Int)) wr.drew) (by kernel_rfl) (by kernel_rfl) ⟨b0, c0, rfl⟩ ?_
                repeat (first
                  | (refine text_skip (by rfl) ?_; simp only [Act.put, List.setIfInBounds_toArray, List.set_cons_zero, List.set_cons_succ])
                  | (refine text_pure (v := ?_) (by rfl) (fun wx hS => ?_) ?_; rotate_left; (go_simp; with_reducible exact rfl); simp only [Act.put, List.setIfInBounds_toArray, List.set_cons_zero, List.set_cons_succ])
                  | (refine text_call (v := ?_) (f := ?_) (args := ?_) (by rfl) (fun wx hS => ?_) (fun wx hS => ?_) ?_; rotate_left 3; (go_simp; constructor <;> with_reducible rfl)
                     (first
                       | with_reducible exact meetsEq (rover_u8 y2) wx hS
                       | with_reducible exact meetsEq (rmul_u8 x (ov y2)) wx hS
                       | with_reducible exact meetsEq (rmul_u8 v (gm x (ov y2))) wx hS)
                     simp only [Act.put, List.setIfInBounds_toArray, List.set_cons_zero, List.set_cons_succ]))
                refine text_nil (fun wx hS => ?_)
                obtain ⟨_, _, rfl⟩ := hS
                go_wp2_with fail
                go_roundw
                case rel => exact ⟨k + 1, gm v (gm x (ov y2)), by omega, by go_num, rfl, by rw [HV.out, left_next HX.out HKI.out, wg, UInt8.xor_zero, HY2.out], hbk.drew⟩
                case measure => simp [intOf]; omega
            · have hkl' : k = len := by omega
              have hlf : left (places L) i k = [] := left_end _ _ _ (by unfold places; rw [List.length_map, ← HL.out]; omega)
              have hv := HV.out
              rw [hlf, wg] at hv
              subst hv
              have hxo := bxor64 s z
              rw [← HPT.out] at hxo
              obtain ⟨s2, hs2⟩ : ∃ s, s = part L 0 (i + 1) b := ⟨_, rfl⟩
              rw [← hs2] at hxo
              have HS2 := Lib.hid hs2
              clear hlf hs2
              go_wp2_with fail
              go_roundw
              case rel => exact ⟨i + 1, by omega, by go_num, by rw [HS2.out], hbk⟩
              case measure => simp [intOf]; omega
        · have hil' : i = len := by omega
          have hri := HRI.out b hbn
          obtain ⟨v, hv⟩ : ∃ v, v = part L 0 i b := ⟨_, rfl⟩
          rw [← hil', ← hv] at hri
          rw [← hv]
          have HRX := Lib.hid hri
          clear hri hv
          have hone := one_str v
          go_wp2_with fail
          go_roundw
          case rel =>
            refine ⟨b + 1, by omega, by go_num, ?_, hbv.alloc hbv.size _⟩
            rw [str_snoc, take_snoc' HRX.out]
          case measure => simp [intOf]; omega
    · have hbn' : b = n := by omega
      have hRt : R.take b = R := List.take_of_length_le (by omega)
      rw [hRt]
      go_wp2_with fail
      go_ret
      exact ⟨rfl, hbw⟩
end Go.Proofs.Ytbblolggcgonmaa

/-
  The contracts of octet.Put where the number does not fit, and of octet.Pack. No condition. Own work.
-/
import Derived.Test.YtdpfcjhhabcheaaDoorOct1
import Derived.Test.YtdpfcjhhabcheaaDoorStrB
namespace Go.Proofs.YtdpfcjhhabcheaaDoor
open Go.RowKit

set_option maxHeartbeats 1600000 in
theorem put_bad (n : Int) (k : Nat) (hk1 : 1 ≤ k) (hk8 : k ≤ 8) (hn : n ≤ 9223372036854775807) (h : ¬ (0 ≤ n ∧ n < 2 ^ (8 * k))) (w : World) :
    Calls Tryd.prog 55 #[.int .i64 n, .int .i64 (k : Int)] w fun e w' => e = .returned (.tuple #[.string ⟨#[]⟩, .int .i64 2]) ∧ w = w' := by
  have h1 : ¬ (k : Int) < 1 := by omega
  have h2 : ¬ (8 : Int) < (k : Int) := by omega
  by_cases h0 : n < 0
  · go_enter Tryd.func55, Tryd.ntmps55
    go_wp2_with fail
    go_ret2
    exact ⟨rfl, rfl⟩
  · have hk : k < 8 := by
      rcases Nat.lt_or_ge k 8 with hk | hk
      · exact hk
      · obtain rfl : k = 8 := by omega
        exact absurd ⟨by omega, Int.lt_of_le_of_lt hn (by decide)⟩ h
    have h8 : (k : Int) < 8 := by omega
    have hs : (0 : Int) < n / 2 ^ (8 * k) := by
      have hp : (0 : Int) < 2 ^ (8 * k) := Int.pow_pos (by omega)
      have : (2 : Int) ^ (8 * k) ≤ n := by omega
      exact Int.lt_of_lt_of_le (by omega : (0 : Int) < 1) ((Int.le_ediv_iff_mul_le hp).2 (by omega))
    go_enter Tryd.func55, Tryd.ntmps55
    go_wp2_with fail
    go_ret2
    exact ⟨rfl, rfl⟩

/-- The bytes of numbers, each in its width; none: one does not fit. -/
def packO : List (Nat × Int) → Option (List UInt8)
  | [] => some []
  | (k, n) :: L => if 0 ≤ n ∧ n < 2 ^ (8 * k) then (packO L).map (be n.toNat k ++ ·) else none
def packR (L : List (Nat × Int)) : Value := match packO L with
  | some l => .tuple #[.string ⟨l.toArray⟩, .int .i64 0]
  | none => .tuple #[.string ⟨#[]⟩, .int .i64 2]

set_option maxHeartbeats 1600000 in
theorem pack_any (L : List (Nat × Int)) (gw gn cw cn : Nat) (hw : ∀ p ∈ L, 1 ≤ p.1 ∧ p.1 ≤ 8 ∧ p.2 ≤ 9223372036854775807) (hlen : L.length ≤ 1000) (w : World) (hgw : gw < w.heap.size) (hgn : gn < w.heap.size)
    (cW : ∀ j p, L[j]? = some p → w.cell? ⟨gw, j, none⟩ = some (.int .i64 (p.1 : Int))) (cN : ∀ j p, L[j]? = some p → w.cell? ⟨gn, j, none⟩ = some (.int .i64 p.2)) :
    Calls Tryd.prog 31 #[.slice (some ⟨gw, 0, none⟩) L.length cw, .slice (some ⟨gn, 0, none⟩) L.length cn] w fun e w' => e = .returned (packR L) ∧ Below w.heap.size w w' := by
  obtain ⟨len, hl⟩ : ∃ n, n = L.length := ⟨_, rfl⟩
  obtain ⟨R, hR⟩ : ∃ R, R = packR L := ⟨_, rfl⟩
  rw [← hR]
  rw [← hl] at hlen ⊢
  have HW := Lib.hid hw
  have HL := Lib.hid hl
  have HR := Lib.hid hR
  have CW := Lib.hid cW
  have CN := Lib.hid cN
  clear hw hl hR cW cN
  go_enter Tryd.func31, Tryd.ntmps31
  go_wp2_with fail
  go_loopw [18] (fun c wr => ∃ (i : Nat) (bs : List UInt8), i ≤ len ∧ c = .int .i64 (i : Int) ∧ Bld w.heap.size w.heap.size bs wr ∧ Below w.heap.size w wr ∧ bs.length ≤ 8 * i ∧ packO L = (packO (L.drop i)).map (bs ++ ·)) (fun c _ => len - (intOf c).toNat)
  case atStart => exact ⟨0, [], by omega, rfl, Bld.new w, bnew _ _, by simp, by simp⟩
  case round =>
    obtain ⟨i, bs, hi, rfl, hB, hbw, hbl, hq⟩ := hrel
    by_cases hik : i < len
    · obtain ⟨p, hp⟩ : ∃ p, L[i]? = some p := ⟨L[i]'(by rw [← HL.out]; exact hik), List.getElem?_eq_getElem _⟩
      obtain ⟨hp1, hp8, hpn⟩ := HW.out p (List.mem_of_getElem? hp)
      have c0 := CW.out i p hp
      have c1 := CN.out i p hp
      rw [← hbw.cell (p := ⟨gw, i, none⟩) hgw] at c0
      rw [← hbw.cell (p := ⟨gn, i, none⟩) hgn] at c1
      obtain ⟨k, n⟩ := p
      simp only at hp1 hp8 hpn c0 c1
      have hd : L.drop i = (k, n) :: L.drop (i + 1) := by
        rw [List.drop_eq_getElem_cons (by rw [← HL.out]; exact hik)]
        congr 1
        exact Option.some.inj ((List.getElem?_eq_getElem _).symm.trans hp)
      rw [hd] at hq
      have hii : (i : Int) < (len : Int) := by omega
      have HQ := Lib.hid hq
      have HB := Lib.hid hB
      have HBW := Lib.hid hbw
      clear hq hB hbw hd hp
      by_cases hok : 0 ≤ n ∧ n < 2 ^ (8 * k)
      · obtain ⟨m, rfl⟩ : ∃ m : Nat, n = (m : Int) := ⟨n.toNat, by omega⟩
        have hm : m < 2 ^ (8 * k) := by
          have e : ((2 ^ (8 * k) : Nat) : Int) = 2 ^ (8 * k) := by simp
          have := hok.2
          rw [← e] at this
          omega
        have HQ2 : Hid (packO L = (packO (L.drop (i + 1))).map ((bs ++ be m k) ++ ·)) := Lib.hid (by
          rw [HQ.out, packO, if_pos hok, Option.map_map]
          congr 1
          funext x
          simp)
        have HP := Lib.hid (put_any m k (by omega) hp1 hp8 hm)
        have hbe := be_len m k
        obtain ⟨V, hV⟩ : ∃ V, V = be m k := ⟨_, rfl⟩
        rw [← hV] at HP HQ2 hbe
        clear hok hm HQ hV
        go_wp2_with fail
        refine (HP.out _).mono ?_
        rintro e w1 ⟨rfl, hb1⟩
        have HB1 := Lib.hid (HB.out.below hb1)
        go_wp2_with fail
        refine (bwrite_any _ _ bs ⟨V.toArray⟩ w1 HB1.out (by simp [hbe, ByteArray.size]; omega) (by have := hb1.size; have := HBW.out.size; omega)).mono ?_
        rintro e w2 ⟨rfl, hB2, hb2, _⟩
        have HB2 := Lib.hid hB2
        clear hB2 c0 c1
        go_wp2_with fail
        refine ⟨⟨i + 1, bs ++ V, by omega, by go_num, HB2.out, (bthen HBW.out hb1).trans hb2, by rw [List.length_append, hbe]; omega, HQ2.out⟩, by simp [intOf]; omega⟩
      · have HP := Lib.hid (put_bad n k hp1 hp8 hpn hok)
        have hRn : R = .tuple #[.string ⟨#[]⟩, .int .i64 2] := by
          rw [HR.out, packR, HQ.out, packO, if_neg hok]; rfl
        have HRN := Lib.hid hRn
        clear hok hRn HQ
        go_wp2_with fail
        refine (HP.out _).mono ?_
        rintro e w1 ⟨rfl, rfl⟩
        go_wp2_with fail
        go_ret2
        exact ⟨by rw [HRN.out]; rfl, HBW.out⟩
    · have hi2 : i = len := by omega
      subst hi2
      have hRn : R = .tuple #[.string ⟨bs.toArray⟩, .int .i64 0] := by
        rw [HR.out, packR, hq, List.drop_of_length_le (by rw [← HL.out]; exact Nat.le_refl _)]
        simp [packO]
      have HRN := Lib.hid hRn
      have HB := Lib.hid hB
      have HBW := Lib.hid hbw
      clear hq hB hbw hRn
      go_wp2_with fail
      refine (bstring_any _ _ bs wr HB.out HBW.out.size).mono ?_
      rintro e w1 ⟨rfl, hb1⟩
      go_wp2_with fail
      go_ret2
      exact ⟨by rw [HRN.out]; rfl, HBW.out.trans hb1⟩
/-- .. of two slices that were just built. -/
theorem pack_built (L : List (Nat × Int)) (hw : ∀ p ∈ L, 1 ≤ p.1 ∧ p.1 ≤ 8 ∧ p.2 ≤ 9223372036854775807) (hlen : L.length ≤ 1000) (w : World) :
    Calls Tryd.prog 31 #[.slice (some ⟨w.heap.size, 0, none⟩) L.length L.length, .slice (some ⟨w.heap.size + 1, 0, none⟩) L.length L.length]
      ((w.alloc (.cells (L.map fun p => Value.int .i64 (p.1 : Int)).toArray 3)).alloc (.cells (L.map fun p => Value.int .i64 p.2).toArray 3))
      fun e w' => e = .returned (packR L) ∧ Below w.heap.size w w' := by
  have b1 := bnew w (.cells (L.map fun p => Value.int .i64 (p.1 : Int)).toArray 3)
  have b2 := b1.alloc b1.size (.cells (L.map fun p => Value.int .i64 p.2).toArray 3)
  refine (pack_any L w.heap.size (w.heap.size + 1) _ _ hw hlen _ (by simp; omega) (by simp) (fun j p hp => ?_) (fun j p hp => ?_)).mono ?_
  · have h := bnew (w.alloc (.cells (L.map fun p => Value.int .i64 (p.1 : Int)).toArray 3)) (.cells (L.map fun p => Value.int .i64 p.2).toArray 3)
    rw [h.cell (p := ⟨w.heap.size, j, none⟩) (by simp), cell_of_row _ w.heap.size j _ _ (0, 0) (heap_alloc_new w _)]
    simp [hp]
  · have h := heap_alloc_new (w.alloc (.cells (L.map fun p => Value.int .i64 (p.1 : Int)).toArray 3)) (.cells (L.map fun p => Value.int .i64 p.2).toArray 3)
    rw [show (w.alloc (.cells (L.map fun p => Value.int .i64 (p.1 : Int)).toArray 3)).heap.size = w.heap.size + 1 from by simp] at h
    rw [cell_of_row _ (w.heap.size + 1) j _ _ (0, 0) h]
    simp [hp]
  · rintro e w' ⟨rfl, hb⟩
    exact ⟨rfl, bthen b2 hb⟩
end Go.Proofs.YtdpfcjhhabcheaaDoor

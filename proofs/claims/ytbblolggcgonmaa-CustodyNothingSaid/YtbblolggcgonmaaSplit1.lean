/-
  The contract of custody.Split$1: the value of a byte's polynomial. No condition. Own work.
-/
import Derived.Test.YtbblolggcgonmaaRefMul
namespace Go.Proofs.Ytbblolggcgonmaa
open Go.RowKit

/-- The coefficients of byte i's polynomial, of a secret, some noise and k. -/
def colP (s n : List UInt8) (size k i : Nat) : List UInt8 := (List.range k).map fun j => if j = 0 then s.getD i 0 else n.getD ((j - 1) * size + i) 0
theorem colP_length (s n : List UInt8) (size k i : Nat) : (colP s n size k i).length = k := by simp [colP]
theorem colP_get (s n : List UInt8) (size k i j : Nat) (h : j < k) : (colP s n size k i)[j]? = some (if j = 0 then s.getD i 0 else n.getD ((j - 1) * size + i) 0) := by
  simp [colP, List.getElem?_map, List.getElem?_range h]
theorem pe_drop {p : List UInt8} {j : Nat} {c : UInt8} (h : p[j]? = some c) (x : UInt8) : pe (p.drop j) x = c ^^^ gm x (pe (p.drop (j + 1)) x) := by
  obtain ⟨hl, he⟩ := List.getElem?_eq_some_iff.mp h
  rw [List.drop_eq_getElem_cons hl, he]
  rfl

set_option maxHeartbeats 800000 in
theorem split1_any (s n : ByteArray) (k i : Nat) (x : UInt8) (hk : 1 ≤ k) (hk2 : k ≤ 255) (hi : i < s.size) (hs : s.size ≤ 64) (hn : n.size = (k - 1) * s.size) (a b c d : Nat) (w : World)
    (ha : w.cell? ⟨a, 0, none⟩ = some (.int .i64 (k : Int))) (hb : w.cell? ⟨b, 0, none⟩ = some (.string n)) (hc : w.cell? ⟨c, 0, none⟩ = some (.int .i64 (s.size : Int))) (hd : w.cell? ⟨d, 0, none⟩ = some (.string s)) :
    Calls Try.prog 42 #[.int .i64 (i : Int), bv x, .pointer (some ⟨a, 0, none⟩), .pointer (some ⟨b, 0, none⟩), .pointer (some ⟨c, 0, none⟩), .pointer (some ⟨d, 0, none⟩)] w fun e w' => e = .returned (bv (pe (colP s.data.toList n.data.toList s.size k i) x)) ∧ w = w' := by
  obtain ⟨P, hP⟩ : ∃ P, P = colP s.data.toList n.data.toList s.size k i := ⟨_, rfl⟩
  rw [← hP]
  have HP := Lib.hid hP
  clear hP
  have HN := Lib.hid hn
  go_enter Try.func42, Try.ntmps42
  go_wp2_with fail
  go_loop [9, 10] (fun o c => ∃ (j : Nat) (v : UInt8), j + 1 ≤ k ∧ c = .int .i64 (j : Int) ∧ o = bv v ∧ v = gm x (pe (P.drop (j + 1)) x)) (fun _ c => (intOf c).toNat)
  case atStart => exact ⟨k - 1, 0, by omega, by rw [show ((k - 1 : Nat) : Int) = (k : Int) - 1 from by omega], rfl, by
    rw [show k - 1 + 1 = k from by omega, HP.out, List.drop_of_length_le (by rw [colP_length]; exact Nat.le_refl _)]
    exact (gm_zero x).symm⟩
  case round =>
    obtain ⟨j, v, hj, rfl, rfl, hv⟩ := hrel
    have hg := colP_get s.data.toList n.data.toList s.size k i j (by omega)
    rw [← HP.out] at hg
    have hpd := pe_drop hg x
    by_cases hj0 : j = 0
    · subst hj0
      rw [if_pos rfl, List.drop_zero, ← hv] at hpd
      have hsi : s.data.toList.getD i 0 = s[i] := by rw [List.getD_eq_getElem?_getD, List.getElem?_eq_getElem (by simpa using hi)]; rfl
      rw [hsi] at hpd
      have hx := u8_xor_nat v.toNat (s[i]).toNat v.toNat_lt (s[i]).toNat_lt
      have HX := Lib.hid hx
      have HD := Lib.hid hpd
      clear hx hpd hv hg hsi hn
      go_wp2_with fail
      go_ret
      refine ⟨?_, rfl⟩
      show Ending.returned (.int .u8 (bits .xor .u8 ((v.toNat : Nat) : Int) ((s[i].toNat : Nat) : Int))) = Ending.returned (bv (pe P x))
      rw [HX.out, HD.out, bv, UInt8.toNat_xor, Nat.xor_comm]
    · obtain ⟨j, rfl⟩ : ∃ y, j = y + 1 := ⟨j - 1, by omega⟩
      rw [if_neg hj0, Nat.add_sub_cancel] at hpd
      have hlq : j * s.size + i < n.size := by
        have : (j + 1) * s.size ≤ (k - 1) * s.size := Nat.mul_le_mul_right _ (by omega)
        rw [Nat.add_mul, Nat.one_mul] at this
        omega
      have hls : n.size ≤ 255 * 64 := by
        rw [hn]
        exact Nat.mul_le_mul (by omega) hs
      obtain ⟨q, hq⟩ : ∃ q, q = j * s.size := ⟨_, rfl⟩
      have hqi : (j : Int) * (s.size : Int) = (q : Int) := by rw [hq]; simp
      rw [← hq] at hlq hpd
      have hnq : n.data.toList.getD (q + i) 0 = n[q + i] := by rw [List.getD_eq_getElem?_getD, List.getElem?_eq_getElem (by simpa using hlq)]; rfl
      rw [hnq] at hpd
      have hx := u8_xor_nat v.toNat (n[q + i]).toNat v.toNat_lt (n[q + i]).toNat_lt
      have HX := Lib.hid hx
      have HV := Lib.hid hv
      have HD := Lib.hid hpd
      have HM := fun w => Lib.hid (mul_any (v ^^^ n[q + i]) x w)
      clear hx hv hpd hg hnq hn hq
      go_wp2_with fail
      rw [HX.out, ← UInt8.toNat_xor]
      refine (HM _).out.mono ?_; rintro e w' ⟨rfl, rfl⟩
      go_wp2_with fail
      exact ⟨⟨j, gm (v ^^^ n[q + i]) x, by omega, by go_num, rfl, by rw [HD.out, gm_comm, UInt8.xor_comm, HV.out]⟩, by simp [intOf]⟩
end Go.Proofs.Ytbblolggcgonmaa

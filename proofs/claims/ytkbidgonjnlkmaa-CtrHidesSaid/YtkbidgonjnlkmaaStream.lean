/-
  The contract of ctr.Stream: bytes against which data are held. No condition. Own work.
-/
import Derived.Test.YtkbidgonjnlkmaaCtrOnce
namespace Go.Proofs.Ytkbidgonjnlkmaa
open Go.RowKit

/-- The block of number j. -/
def blk (K : List UInt8) (e s j : Nat) : List UInt8 := encV K (cntB e s j)
theorem blk_len (K : List UInt8) (e s j : Nat) : (blk K e s j).length = 16 := encV_len _ _
/-- c blocks from number f on. -/
def strm (K : List UInt8) (e s f : Nat) : Nat → List UInt8
  | 0 => []
  | c + 1 => strm K e s f c ++ blk K e s (f + c)
theorem strm_len (K : List UInt8) (e s f c : Nat) : (strm K e s f c).length = 16 * c := by
  induction c with
  | zero => rfl
  | succ c ih => rw [strm, List.length_append, ih, blk_len]; omega
/-- The byte at place p. -/
def byteAt (K : List UInt8) (e s p : Nat) : UInt8 := (blk K e s (p / 16)).getD (p % 16) 0
theorem strm_get (K : List UInt8) (e s f c j : Nat) (h : j < 16 * c) : (strm K e s f c)[j]? = some (byteAt K e s (16 * f + j)) := by
  induction c with
  | zero => omega
  | succ c ih =>
    rw [strm, List.getElem?_append, strm_len]
    by_cases hj : j < 16 * c
    · rw [if_pos hj]; exact ih hj
    · rw [if_neg hj]
      unfold byteAt
      rw [show (16 * f + j) / 16 = f + c from by omega, show (16 * f + j) % 16 = j - 16 * c from by omega]
      exact getD_some (by rw [blk_len]; omega)
/-- n bytes from place p on. -/
def stV (K : List UInt8) (e s p n : Nat) : List UInt8 := (List.range n).map fun k => byteAt K e s (p + k)
theorem stV_len (K : List UInt8) (e s p n : Nat) : (stV K e s p n).length = n := by simp [stV]
theorem stV_cut (K : List UInt8) (e s p n c : Nat) (h : p % 16 + n ≤ 16 * c) : ((strm K e s (p / 16) c).drop (p % 16)).take n = stV K e s p n := by
  apply List.ext_getElem?
  intro j
  rw [List.getElem?_take, List.getElem?_drop]
  unfold stV
  rw [List.getElem?_map]
  by_cases hj : j < n
  · rw [if_pos hj, strm_get _ _ _ _ _ _ (by omega), List.getElem?_range hj, Option.map_some]
    congr 2
    omega
  · rw [if_neg hj, List.getElem?_eq_none (by simp; omega)]; rfl

set_option maxRecDepth 100000 in
set_option maxHeartbeats 3200000 in
theorem stream_good (key : ByteArray) (e s p n : Nat) (hk : key.size = 16) (he : e < 4294967296) (hs : s < 4294967296) (hp : p + n ≤ 65536) (w : World) :
    Calls Try.prog 30 #[.string key, .int .i64 (e : Int), .int .i64 (s : Int), .int .i64 (p : Int), .int .i64 (n : Int)] w fun r w' => r = .returned (.tuple #[.string ⟨(stV key.data.toList e s p n).toArray⟩, .int .i64 0]) ∧ Below w.heap.size w w' := by
  have hkl : key.data.toList.length = 16 := by simp [hk]
  obtain ⟨K, hK⟩ : ∃ K, K = key.data.toList := ⟨_, rfl⟩
  have HN := Lib.hid (fun w => new_any key hk w)
  have hEl := exL_len key.data.toList hkl 40
  rw [← hK] at HN hEl ⊢
  have HCN : Hid (∀ (j : Nat) w, j ≤ 5000 → Calls Try.prog 27 #[.int .i64 (e : Int), .int .i64 (s : Int), .int .i64 (j : Int)] w fun r w' => r = .returned (.tuple #[.string ⟨(cntB e s j).toArray⟩, .int .i64 0]) ∧ Below w.heap.size w w') :=
    Lib.hid fun j w hj => by rw [← cnt_good e s j he hs (by omega)]; exact count_any _ _ _ (by omega) (by omega) (by omega) w
  have HCE : Hid (∀ (k j : Nat) w, Ciph w k (exL K 40) boxT → Calls Try.prog 14 #[.pointer (some ⟨k, 0, none⟩), .string ⟨(cntB e s j).toArray⟩] w fun r w' => r = .returned (.tuple #[.string ⟨(blk K e s j).toArray⟩, .int .i64 0]) ∧ Below w.heap.size w w') :=
    Lib.hid fun k j w hc => cenc_any k _ _ hEl boxT_len ⟨(cntB e s j).toArray⟩ (by simp [ByteArray.size, cntB_len]) w hc
  have h1 : ¬ (key.size : Int) ≠ 16 := by omega
  have h2 : ¬ (p : Int) < 0 := by omega
  have h3 : ¬ (n : Int) < 0 := by omega
  have h4 : ¬ (65536 : Int) < (p : Int) := by omega
  have h5 : ¬ (65536 : Int) - (p : Int) < (n : Int) := by omega
  have h6 : ((key.size : Int) != 16) = false := by simp; omega
  obtain ⟨f, hf⟩ : ∃ f : Nat, (p : Int) / 16 = (f : Int) := ⟨p / 16, by omega⟩
  obtain ⟨c, hc⟩ : ∃ c : Nat, ((p : Int) + (n : Int) + 16 - 1) / 16 - (f : Int) = (c : Int) := ⟨(p + n + 15) / 16 - p / 16, by omega⟩
  obtain ⟨r, hr⟩ : ∃ r : Nat, (p : Int) % 16 = (r : Int) := ⟨p % 16, by omega⟩
  have hf' : p / 16 = f := by omega
  have hr' : p % 16 = r := by omega
  have hc' : r + n ≤ 16 * c := by omega
  have hcl : c ≤ 4097 := by omega
  have hfl : f ≤ 4096 := by omega
  clear hK hkl hEl
  go_enter Try.func30, Try.ntmps30
  go_wp2_with fail
  refine (HCN.out f _ (by omega)).mono ?_
  rintro e1 w1 ⟨rfl, hb1⟩
  have HB1 := Lib.hid ((Bld.new w).below hb1)
  have HW1 := Lib.hid (bthen (bnew w (.cells #[.pointer none, .slice none 0 0] 77)) hb1)
  clear hb1
  go_wp2_with fail
  refine (HN.out w1).mono ?_
  rintro e2 w2 ⟨k, rfl, hk2, hC2, hb2⟩
  have hkb : k ≠ w.heap.size := by have := HB1.out.lt; omega
  have HC2 := Lib.hid hC2
  have HB2 := Lib.hid (HB1.out.below hb2)
  have HW2 := Lib.hid (bthen HW1.out hb2)
  clear hC2 hb2 HB1 HW1
  go_wp2_with fail
  go_loopw [70] (fun x wr => ∃ i : Nat, i ≤ c ∧ x = .int .i64 (i : Int) ∧ Bld w.heap.size w.heap.size (strm K e s f i) wr ∧ Below w.heap.size w wr ∧ Ciph wr k (exL K 40) boxT) (fun x _ => c - (intOf x).toNat)
  case atStart => exact ⟨0, by omega, rfl, HB2.out, HW2.out, HC2.out⟩
  case round =>
    obtain ⟨i, hi, rfl, hB, hbw, hC⟩ := hrel
    by_cases hic : i < c
    · have hii : (i : Int) < (c : Int) := by omega
      have HCI : Hid (∀ w, Calls Try.prog 27 #[.int .i64 (e : Int), .int .i64 (s : Int), .int .i64 ((f : Int) + (i : Int))] w fun r w' => r = .returned (.tuple #[.string ⟨(cntB e s (f + i)).toArray⟩, .int .i64 0]) ∧ Below w.heap.size w w') := Lib.hid fun w => by
        have := HCN.out (f + i) w (by omega)
        rwa [Int.natCast_add] at this
      have HB := Lib.hid hB
      have HBW := Lib.hid hbw
      have HC := Lib.hid hC
      clear hB hbw hC
      go_wp2_with fail
      refine (HCI.out _).mono ?_
      rintro e3 w3 ⟨rfl, hb3⟩
      have HB3 := Lib.hid (HB.out.below hb3)
      have HW3 := Lib.hid (bthen HBW.out hb3)
      have HC3 := Lib.hid (HC.out.below hb3 HC.out.lt)
      clear hb3
      go_wp2_with fail
      refine (HCE.out k (f + i) _ HC3.out).mono ?_
      rintro e4 w4 ⟨rfl, hb4⟩
      have HB4 := Lib.hid (HB3.out.below hb4)
      have HW4 := Lib.hid (bthen HW3.out hb4)
      have HC4 := Lib.hid (HC3.out.below hb4 HC3.out.lt)
      clear hb4
      go_wp2_with fail
      refine (bwrite_any _ _ _ _ w4 HB4.out (by simp [ByteArray.size, strm_len, blk_len]; omega) HW4.out.size).mono ?_
      rintro e5 w5 ⟨rfl, hB5, hb5, hk5⟩
      have HB5 := Lib.hid hB5
      clear hB5
      go_wp2_with fail
      exact ⟨⟨i + 1, by omega, by go_num, HB5.out, HW4.out.trans hb5, hk5 k _ HC4.out (fun h => hkb (Option.some.inj h)) (fun cs fz h => by injection h with _ h2 _; revert h2; decide)⟩, by simp [intOf]; omega⟩
    · have hi2 : i = c := by omega
      subst hi2
      have HB := Lib.hid hB
      have HBW := Lib.hid hbw
      clear hB hbw hC
      go_wp2_with fail
      refine (bstring_any _ _ _ wr HB.out HBW.out.size).mono ?_
      rintro e6 w6 ⟨rfl, hb6⟩
      have hx : (⟨(strm K e s f i).toArray⟩ : ByteArray).extract r (r + n) = ⟨(stV K e s p n).toArray⟩ := by
        rw [← stV_cut K e s p n i (by omega), hf', hr']
        apply ByteArray.ext
        simp only [ByteArray.data_extract, List.extract_toArray, List.extract_eq_take_drop, Nat.add_sub_cancel_left]
      have hU : (⟨(strm K e s f i).toArray⟩ : ByteArray).size = 16 * i := by simp [ByteArray.size, strm_len]
      generalize (⟨(strm K e s f i).toArray⟩ : ByteArray) = U at *
      have j1 : (r : Int) + (n : Int) ≤ (U.size : Int) := by omega
      have j2 : (r : Int) ≤ (r : Int) + (n : Int) := by omega
      have HX := Lib.hid hx
      clear hx
      by_cases hn : n = 0
      · subst hn
        go_wp2_with fail
        go_ret2
        exact ⟨rfl, HBW.out.trans hb6⟩
      · have hn' : ¬ (n : Int) = 0 := by omega
        have hn2 : ((n : Int) == 0) = false := by simp; omega
        go_wp2_with fail
        go_ret2
        exact ⟨by rw [← HX.out]; rfl, HBW.out.trans hb6⟩

set_option maxRecDepth 100000 in
set_option maxHeartbeats 3200000 in
theorem stream_bad (key : ByteArray) (e s p n : Int) (he : e ≤ 9223372036854775807) (hs : s ≤ 9223372036854775807) (hp : p ≤ 9223372036854775807) (h : ¬ (key.size = 16 ∧ inW e ∧ inW s ∧ 0 ≤ p ∧ 0 ≤ n ∧ p ≤ 65536 ∧ n ≤ 65536 - p)) (w : World) :
    Calls Try.prog 30 #[.string key, .int .i64 e, .int .i64 s, .int .i64 p, .int .i64 n] w fun r w' => r = .returned (.tuple #[.string ⟨#[]⟩, .int .i64 2]) ∧ Below w.heap.size w w' := by
  by_cases hk : key.size = 16
  · have h6 : ((key.size : Int) != 16) = false := by simp; omega
    by_cases h1 : p < 0
    · go_enter Try.func30, Try.ntmps30
      go_wp2_with fail
      go_ret2
      exact ⟨rfl, Below.refl _ _⟩
    · by_cases h2 : n < 0
      · go_enter Try.func30, Try.ntmps30
        go_wp2_with fail
        go_ret2
        exact ⟨rfl, Below.refl _ _⟩
      · by_cases h3 : 65536 < p
        · go_enter Try.func30, Try.ntmps30
          go_wp2_with fail
          go_ret2
          exact ⟨rfl, Below.refl _ _⟩
        · by_cases h4 : 65536 - p < n
          · go_enter Try.func30, Try.ntmps30
            go_wp2_with fail
            go_ret2
            exact ⟨rfl, Below.refl _ _⟩
          · have HC := Lib.hid (count_any e s (p / 16) he hs (by omega))
            rw [cnt_bad e s (p / 16) (fun hh => h ⟨hk, hh.1, hh.2.1, by omega, by omega, by omega, by omega⟩)] at HC
            clear h
            go_enter Try.func30, Try.ntmps30
            go_wp2_with fail
            refine (HC.out _).mono ?_
            rintro e1 w1 ⟨rfl, hb1⟩
            go_wp2_with fail
            go_ret2
            exact ⟨rfl, bthen (bnew w _) hb1⟩
  · have h6 : ((key.size : Int) != 16) = true := by simp; omega
    go_enter Try.func30, Try.ntmps30
    go_wp2_with fail
    go_ret2
    exact ⟨rfl, Below.refl _ _⟩
end Go.Proofs.Ytkbidgonjnlkmaa

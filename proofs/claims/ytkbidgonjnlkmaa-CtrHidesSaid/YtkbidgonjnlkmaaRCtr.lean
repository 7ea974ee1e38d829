/-
  The contracts of the reference's Count and Stream (chapter 06). No condition. Own work.
-/
import Derived.Test.YtkbidgonjnlkmaaRPut
import Derived.Test.YtkbidgonjnlkmaaStream
import Derived.Test.YtkbidgonjnlkmaaREnc
namespace Go.Proofs.Ytkbidgonjnlkmaa
open Go.RowKit

set_option maxHeartbeats 1600000 in
theorem rcount_good (e s i : Nat) (he : e < 4294967296) (hs : s < 4294967296) (hi : i < 4294967296) (w : World) :
    Calls Try.prog 29 #[.int .i64 (e : Int), .int .i64 (s : Int), .int .i64 (i : Int)] w fun r w' => r = .returned (.tuple #[.string ⟨(cntB e s i).toArray⟩, .bool true]) ∧ Below w.heap.size w w' := by
  have P : ∀ m : Nat, m < 4294967296 → ∀ w, Calls Try.prog 49 #[.int .i64 (m : Int), .int .i64 4] w fun e w' => e = .returned (.tuple #[.string ⟨(be m 4).toArray⟩, .int .i64 0]) ∧ Below w.heap.size w w' := fun m hm w => by
    have h := rput_nat m 4 (by omega) (by omega) (by omega) w
    rw [rputR, if_pos (by omega)] at h
    exact h
  have P1 := Lib.hid (P e he)
  have P2 := Lib.hid (P s hs)
  have P3 := Lib.hid (P i hi)
  have q1 := str_app [117, 0, 0, 0] (be e 4)
  have q2 := str_app ([117, 0, 0, 0] ++ be e 4) (be s 4)
  have q3 := str_app ([117, 0, 0, 0] ++ be e 4 ++ be s 4) (be i 4)
  have q4 : [117, 0, 0, 0] ++ be e 4 ++ be s 4 ++ be i 4 = cntB e s i := by
    have : be 117 1 = [117] := rfl
    have h0 : be 0 3 = [0, 0, 0] := rfl
    unfold cntB
    rw [this, h0]
    simp
  rw [q4] at q3
  have l0 : (⟨[117, 0, 0, 0].toArray⟩ : ByteArray).size = 4 := rfl
  have l1 : (⟨(be e 4).toArray⟩ : ByteArray).size = 4 := by simp [ByteArray.size, be_len]
  have l2 : (⟨(be s 4).toArray⟩ : ByteArray).size = 4 := by simp [ByteArray.size, be_len]
  have l3 : (⟨(be i 4).toArray⟩ : ByteArray).size = 4 := by simp [ByteArray.size, be_len]
  have l4 : (⟨([117, 0, 0, 0] ++ be e 4).toArray⟩ : ByteArray).size = 8 := by simp [ByteArray.size, be_len]
  have l5 : (⟨([117, 0, 0, 0] ++ be e 4 ++ be s 4).toArray⟩ : ByteArray).size = 12 := by simp [ByteArray.size, be_len]
  have o1 : ∀ W : World, (convert 69 9 (.slice (some ⟨W.heap.size, 0, none⟩) 4 4)).run Try.prog (W.alloc (.cells #[.int .u8 117, .int .u8 0, .int .u8 0, .int .u8 0] 5)) = .ok (.string ⟨[117, 0, 0, 0].toArray⟩) (W.alloc (.cells #[.int .u8 117, .int .u8 0, .int .u8 0, .int .u8 0] 5)) := fun W =>
    (Arr.new W 5 [117, 0, 0, 0]).str (P := Try.prog) 4 4 rfl 69 5 9 Try.underlying69 Try.underlying5 Try.underlying9
  obtain ⟨R, hR⟩ : ∃ R : ByteArray, R = ⟨(cntB e s i).toArray⟩ := ⟨_, rfl⟩
  rw [← hR] at q3 ⊢
  clear hR q4
  generalize (⟨([117, 0, 0, 0] ++ be e 4).toArray⟩ : ByteArray) = D1 at *
  generalize (⟨([117, 0, 0, 0] ++ be e 4 ++ be s 4).toArray⟩ : ByteArray) = D2 at *
  generalize (⟨(be e 4).toArray⟩ : ByteArray) = A at *
  generalize (⟨(be s 4).toArray⟩ : ByteArray) = B at *
  generalize (⟨(be i 4).toArray⟩ : ByteArray) = C at *
  generalize (⟨[117, 0, 0, 0].toArray⟩ : ByteArray) = D0 at *
  go_enter Try.func29, Try.ntmps29
  go_wp2_with fail
  refine (P1.out w).mono ?_
  rintro e1 w1 ⟨rfl, hb1⟩
  go_wp2_with fail
  refine (P2.out w1).mono ?_
  rintro e2 w2 ⟨rfl, hb2⟩
  have b2 := bthen hb1 hb2
  go_wp2_with fail
  refine (P3.out w2).mono ?_
  rintro e3 w3 ⟨rfl, hb3⟩
  have b3 := bthen b2 hb3
  clear hb1 hb2 hb3 b2
  go_wp2_with fail
  go_ret2
  exact ⟨rfl, b3.alloc b3.size _⟩
theorem rcount_bad (e s i : Int) (he : e ≤ 9223372036854775807) (hs : s ≤ 9223372036854775807) (hi : i ≤ 9223372036854775807) (h : ¬ (inW e ∧ inW s ∧ inW i)) (w : World) :
    Calls Try.prog 29 #[.int .i64 e, .int .i64 s, .int .i64 i] w fun r w' => r = .returned (.tuple #[.string ⟨#[]⟩, .bool false]) ∧ Below w.heap.size w w' := by
  have P : ∀ n : Int, n ≤ 9223372036854775807 → ∃ (V : ByteArray) (f : Int), Hid (∀ w, Calls Try.prog 49 #[.int .i64 n, .int .i64 4] w fun e w' => e = .returned (.tuple #[.string V, .int .i64 f]) ∧ Below w.heap.size w w') ∧ ((inW n ∧ f = 0) ∨ (¬ inW n ∧ f = 2)) := fun n hn => by
    rcases rput4 n hn with ⟨m, rfl, hm, hp⟩ | ⟨hb, hp⟩
    · exact ⟨_, 0, Lib.hid hp, .inl ⟨⟨by omega, by omega⟩, rfl⟩⟩
    · exact ⟨_, 2, Lib.hid hp, .inr ⟨hb, rfl⟩⟩
  obtain ⟨V1, f1, P1, c1⟩ := P e he
  obtain ⟨V2, f2, P2, c2⟩ := P s hs
  obtain ⟨V3, f3, P3, c3⟩ := P i hi
  have hf : (0 : Int) < f1 + f2 + f3 ∧ f1 ≤ 2 ∧ f2 ≤ 2 ∧ f3 ≤ 2 ∧ 0 ≤ f1 ∧ 0 ≤ f2 ∧ 0 ≤ f3 := by
    rcases c1 with ⟨k1, rfl⟩ | ⟨k1, rfl⟩ <;> rcases c2 with ⟨k2, rfl⟩ | ⟨k2, rfl⟩ <;> rcases c3 with ⟨k3, rfl⟩ | ⟨k3, rfl⟩ <;> first | omega | exact absurd ⟨k1, k2, k3⟩ h
  obtain ⟨hf0, hf1, hf2, hf3, g1, g2, g3⟩ := hf
  have hne : ((f1 + f2 + f3) != 0) = true := by simp; omega
  have hne2 : ¬ f1 + f2 + f3 = 0 := by omega
  clear c1 c2 c3 h P
  go_enter Try.func29, Try.ntmps29
  go_wp2_with fail
  refine (P1.out w).mono ?_
  rintro e1 w1 ⟨rfl, hb1⟩
  go_wp2_with fail
  refine (P2.out w1).mono ?_
  rintro e2 w2 ⟨rfl, hb2⟩
  have b2 := bthen hb1 hb2
  go_wp2_with fail
  refine (P3.out w2).mono ?_
  rintro e3 w3 ⟨rfl, hb3⟩
  have b3 := bthen b2 hb3
  clear hb1 hb2 hb3 b2
  go_wp2_with fail
  go_ret2
  exact ⟨rfl, b3⟩

theorem stV_snoc (K : List UInt8) (e s p k : Nat) : stV K e s p (k + 1) = stV K e s p k ++ [byteAt K e s (p + k)] := by
  unfold stV
  rw [List.range_succ, List.map_append]
  rfl
theorem blk_cut (K : List UInt8) (e s j r : Nat) (hr : r < 16) : (⟨(blk K e s j).toArray⟩ : ByteArray).extract r (r + 1) = ⟨#[(blk K e s j).getD r 0]⟩ := by
  apply ByteArray.ext
  simp only [ByteArray.data_extract, List.extract_toArray, List.extract_eq_take_drop, Nat.add_sub_cancel_left]
  have hl : r < (blk K e s j).length := by rw [blk_len]; exact hr
  have h := getD_some (X := blk K e s j) (i := r) hl
  rw [List.getElem?_eq_getElem hl] at h
  rw [← Option.some.inj h, List.drop_eq_getElem_cons hl]
  rfl

set_option maxRecDepth 100000 in
set_option maxHeartbeats 6400000 in
theorem rstream_good (key : ByteArray) (e s p n : Nat) (hk : key.size = 16) (he : e < 4294967296) (hs : s < 4294967296) (hp : p + n ≤ 65536) (w : World) :
    Calls Try.prog 31 #[.string key, .int .i64 (e : Int), .int .i64 (s : Int), .int .i64 (p : Int), .int .i64 (n : Int)] w fun r w' => r = .returned (.tuple #[.string ⟨(stV key.data.toList e s p n).toArray⟩, .bool true]) ∧ Below w.heap.size w w' := by
  obtain ⟨K, hK⟩ : ∃ K, K = key.data.toList := ⟨_, rfl⟩
  have HCN : Hid (∀ (j : Nat) w, j ≤ 5000 → Calls Try.prog 29 #[.int .i64 (e : Int), .int .i64 (s : Int), .int .i64 (j : Int)] w fun r w' => r = .returned (.tuple #[.string ⟨(cntB e s j).toArray⟩, .bool true]) ∧ Below w.heap.size w w') :=
    Lib.hid fun j w hj => rcount_good e s j he hs (by omega) w
  have HC0 : Hid (∀ w, Calls Try.prog 29 #[.int .i64 (e : Int), .int .i64 (s : Int), .int .i64 0] w fun r w' => r = .returned (.tuple #[.string ⟨(cntB e s 0).toArray⟩, .bool true]) ∧ Below w.heap.size w w') :=
    Lib.hid fun w => HCN.out 0 w (by omega)
  have HCE : Hid (∀ (j : Nat) w, Calls Try.prog 25 #[.string key, .string ⟨(cntB e s j).toArray⟩] w fun r w' => r = .returned (.string ⟨(blk K e s j).toArray⟩) ∧ Below w.heap.size w w') :=
    Lib.hid fun j w => by rw [hK]; exact rencrypt_any key ⟨(cntB e s j).toArray⟩ hk (by simp [ByteArray.size, cntB_len]) w
  rw [← hK]
  have h1 : ((key.size : Int) != 16) = false := by simp; omega
  have h2 : ¬ (p : Int) < 0 := by omega
  have h3 : ¬ (n : Int) < 0 := by omega
  have h4 : ¬ (65536 : Int) < (p : Int) := by omega
  have h5 : ¬ (65536 : Int) < (n : Int) := by omega
  have h6 : ¬ (65536 : Int) < (p : Int) + (n : Int) := by omega
  clear hK
  go_enter Try.func31, Try.ntmps31
  go_wp2_with fail
  refine (HC0.out w).mono ?_
  rintro e1 w1 ⟨rfl, hb1⟩
  go_wp2_with fail
  go_loopw [14, 15, 16, 17] (fun o ta bl c wr => ∃ (k : Nat) (z at_ : Int) (b : ByteArray), k ≤ n ∧ z = (p : Int) + (k : Int) ∧ c = .int .i64 z ∧ o = .string ⟨(stV K e s p k).toArray⟩ ∧ ta = .int .i64 at_ ∧ bl = .string b ∧
    (at_ = -1 ∨ ∃ j : Nat, at_ = (j : Int) ∧ b = ⟨(blk K e s j).toArray⟩) ∧ Below w.heap.size w wr) (fun _ _ _ c _ => (p : Int).toNat + n - (intOf c).toNat)
  case atStart => exact ⟨0, (p : Int), -1, ⟨#[]⟩, by omega, by omega, rfl, rfl, rfl, rfl, .inl rfl, hb1⟩
  case round =>
    clear hb1
    obtain ⟨k, z, at_, b, hkn, hz, rfl, rfl, rfl, rfl, hat, hbw⟩ := hrel
    by_cases hlt : k < n
    · have hzl : z < (p : Int) + (n : Int) := by omega
      have hz0 : 0 ≤ z := by omega
      have hz9 : z ≤ 65536 := by omega
      obtain ⟨j, hj⟩ : ∃ j : Nat, z / 16 = (j : Int) := ⟨(p + k) / 16, by omega⟩
      obtain ⟨r, hr⟩ : ∃ r : Nat, z % 16 = (r : Int) := ⟨(p + k) % 16, by omega⟩
      have hj2 : z.tdiv 16 = (j : Int) := by rw [Int.tdiv_eq_ediv_of_nonneg hz0]; exact hj
      have hr2 : z.tmod 16 = (r : Int) := by rw [Int.tmod_eq_emod_of_nonneg hz0]; exact hr
      have hr16 : r < 16 := by omega
      have hjl : j ≤ 4096 := by omega
      have hjn : (p + k) / 16 = j := by omega
      have hrn : (p + k) % 16 = r := by omega
      obtain ⟨c, hc⟩ : ∃ c, c = (blk K e s j).getD r 0 := ⟨_, rfl⟩
      have hsn : stV K e s p (k + 1) = stV K e s p k ++ [c] := by rw [stV_snoc, byteAt, hjn, hrn, hc]
      have hcut := blk_cut K e s j r hr16
      rw [← hc] at hcut
      have hs := str_snoc (stV K e s p k) c
      rw [← hsn] at hs
      have hUs : (⟨(blk K e s j).toArray⟩ : ByteArray).size = 16 := by simp [ByteArray.size, blk_len]
      have hAs : (⟨(stV K e s p k).toArray⟩ : ByteArray).size = k := by simp [ByteArray.size, stV_len]
      have h1s : (⟨#[c]⟩ : ByteArray).size = 1 := rfl
      have i1 : (r : Int) + 1 ≤ 16 := by omega
      have HE1 := Lib.hid (fun w => HCE.out j w)
      have HJ : Hid (∀ w, Calls Try.prog 29 #[.int .i64 (e : Int), .int .i64 (s : Int), .int .i64 (j : Int)] w fun r w' => r = .returned (.tuple #[.string ⟨(cntB e s j).toArray⟩, .bool true]) ∧ Below w.heap.size w w') := Lib.hid fun w => HCN.out j w (by omega)
      obtain ⟨U, hU⟩ : ∃ U : ByteArray, U = ⟨(blk K e s j).toArray⟩ := ⟨_, rfl⟩
      obtain ⟨A', hA'⟩ : ∃ A' : ByteArray, A' = ⟨(stV K e s p (k + 1)).toArray⟩ := ⟨_, rfl⟩
      rw [← hU] at hcut hUs HE1
      rw [← hA'] at hs
      have HZ := Lib.hid hz
      have HA' := Lib.hid hA'
      have HU := Lib.hid hU
      have HB := Lib.hid hbw
      generalize (⟨(cntB e s j).toArray⟩ : ByteArray) = CB at *
      generalize (⟨(stV K e s p k).toArray⟩ : ByteArray) = A at *
      generalize (⟨#[c]⟩ : ByteArray) = C at *
      clear hsn hc hjn hrn hA' hbw hz
      by_cases hja : (j : Int) = at_
      · have hbU : b = U := by
          rcases hat with rfl | ⟨j', h1', h2'⟩
          · omega
          · rw [h2', HU.out, show j' = j from by omega]
        subst hbU
        subst hja
        clear hat hU
        go_wp2_with fail
        refine ⟨⟨k + 1, z + 1, (j : Int), b, by omega, by have := HZ.out; omega, rfl, by rw [HA'.out], rfl, rfl, .inr ⟨j, rfl, HU.out⟩, HB.out⟩, by have := HZ.out; simp [intOf]; omega⟩
      · have hne : ((j : Int) != at_) = true := by simpa using hja
        clear hat hU
        go_wp2_with fail
        refine (HJ.out wr).mono ?_
        rintro e2 w2 ⟨rfl, hb2⟩
        go_wp2_with fail
        refine (HE1.out w2).mono ?_
        rintro e3 w3 ⟨rfl, hb3⟩
        have HB3 := Lib.hid (bthen (bthen HB.out hb2) hb3)
        clear hb2 hb3
        go_wp2_with fail
        refine ⟨⟨k + 1, z + 1, (j : Int), U, by omega, by have := HZ.out; omega, rfl, by rw [HA'.out], rfl, rfl, .inr ⟨j, rfl, HU.out⟩, HB3.out⟩, by have := HZ.out; simp [intOf]; omega⟩
    · have hi2 : k = n := by omega
      subst hi2
      have hzl : ¬ z < (p : Int) + (k : Int) := by omega
      clear hat
      go_wp2_with fail
      go_ret2
      exact ⟨rfl, hbw⟩
set_option maxRecDepth 100000 in
set_option maxHeartbeats 3200000 in
theorem rstream_bad (key : ByteArray) (e s p n : Int) (he : e ≤ 9223372036854775807) (hs : s ≤ 9223372036854775807) (h : ¬ (key.size = 16 ∧ inW e ∧ inW s ∧ 0 ≤ p ∧ 0 ≤ n ∧ p ≤ 65536 ∧ n ≤ 65536 - p)) (w : World) :
    Calls Try.prog 31 #[.string key, .int .i64 e, .int .i64 s, .int .i64 p, .int .i64 n] w fun r w' => r = .returned (.tuple #[.string ⟨#[]⟩, .bool false]) ∧ Below w.heap.size w w' := by
  by_cases hk : key.size = 16
  · have h6 : ((key.size : Int) != 16) = false := by simp; omega
    by_cases h1 : p < 0
    · go_enter Try.func31, Try.ntmps31
      go_wp2_with fail
      go_ret2
      exact ⟨rfl, Below.refl _ _⟩
    · by_cases h2 : n < 0
      · go_enter Try.func31, Try.ntmps31
        go_wp2_with fail
        go_ret2
        exact ⟨rfl, Below.refl _ _⟩
      · by_cases h3 : 65536 < p
        · go_enter Try.func31, Try.ntmps31
          go_wp2_with fail
          go_ret2
          exact ⟨rfl, Below.refl _ _⟩
        · by_cases h4 : 65536 < n
          · go_enter Try.func31, Try.ntmps31
            go_wp2_with fail
            go_ret2
            exact ⟨rfl, Below.refl _ _⟩
          · by_cases h5 : 65536 < p + n
            · go_enter Try.func31, Try.ntmps31
              go_wp2_with fail
              go_ret2
              exact ⟨rfl, Below.refl _ _⟩
            · have HC := Lib.hid (rcount_bad e s 0 he hs (by omega) (fun hh => h ⟨hk, hh.1, hh.2.1, by omega, by omega, by omega, by omega⟩))
              clear h
              go_enter Try.func31, Try.ntmps31
              go_wp2_with fail
              refine (HC.out w).mono ?_
              rintro e1 w1 ⟨rfl, hb1⟩
              go_wp2_with fail
              go_ret2
              exact ⟨rfl, hb1⟩
  · have h6 : ((key.size : Int) != 16) = true := by simp; omega
    go_enter Try.func31, Try.ntmps31
    go_wp2_with fail
    go_ret2
    exact ⟨rfl, Below.refl _ _⟩
end Go.Proofs.Ytkbidgonjnlkmaa

/-
  The contract of aes.Decrypt. No condition. Own work.
-/
import Derived.Test.YtkbidgonjnlkmaaBacks
import Derived.Test.YtkbidgonjnlkmaaExp2
namespace Go.Proofs.Ytkbidgonjnlkmaa
open Go.RowKit

def decM (n : Nat) (Y : List UInt8) : List UInt8 := if n < 10 then mixV [14, 11, 13, 9] Y else Y
/-- The block behind n rounds back. -/
def decR (W T X : List UInt8) : Nat → List UInt8
  | 0 => X
  | n + 1 => (turnV true (decM (10 - n) (addV (decR W T X n) W (10 - n)))).map (bxf T)
theorem decM_len (n : Nat) (Y : List UInt8) (h : Y.length = 16) : (decM n Y).length = 16 := by unfold decM; split; exact mixV_len _ _; exact h
theorem decR_len (W T X : List UInt8) (hX : X.length = 16) (n : Nat) : (decR W T X n).length = 16 := by
  cases n with
  | zero => exact hX
  | succ n => rw [decR, List.length_map, turnV_len]
def DS (w : World) (gs gt g : Nat) (W T Y : List UInt8) (wr : World) : Prop :=
  Arr wr g 63 Y ∧ Arr wr gs 28 W ∧ Arr wr gt 29 T ∧ Below w.heap.size w wr
theorem DS.step {w : World} {gs gt g : Nat} {W T Y Y' : List UInt8} {wr w' : World} (h : DS w gs gt g W T Y wr) (hs : gs ≠ g) (ht : gt ≠ g) (hw : w.heap.size ≤ g) (hg : wr.grownBy w' (some g)) (hA : Arr w' g 63 Y') : DS w gs gt g W T Y' w' := by
  obtain ⟨_, h2, h3, h4⟩ := h
  refine ⟨hA, h2.grown hg (by simpa using hs), h3.grown hg (by simpa using ht), ⟨hg.os.trans h4.os, hg.tape.trans h4.tape, hg.output.trans h4.output, Nat.le_trans h4.size hg.size, fun j hj => ?_⟩⟩
  rw [hg.block j (Nat.lt_of_lt_of_le hj h4.size) (by simp; omega)]; exact h4.block j hj
/-- The block decrypted, plainly. -/
def decV (K X : List UInt8) : List UInt8 := addV (decR (exL K 40) backT X 10) (exL K 40) 0

set_option maxRecDepth 20000 in
set_option maxHeartbeats 6400000 in
theorem decrypt_any (key s : ByteArray) (hk : key.size = 16) (hs : s.size = 16) (w : World) :
    Calls Try.prog 26 #[.string key, .string s] w fun e w' => e = .returned (.tuple #[.string ⟨(decV key.data.toList s.data.toList).toArray⟩, .int .i64 0]) ∧ Below w.heap.size w w' := by
  have hkl : key.data.toList.length = 16 := by simp [hk]
  have hsl : s.data.toList.length = 16 := by simp [hs]
  unfold decV
  obtain ⟨X, hX⟩ : ∃ X, X = s.data.toList := ⟨_, rfl⟩
  have HOF : Hid (∀ w, Calls Try.prog 36 #[.string s] w fun e w' => e = .returned (.agg (bvs X)) ∧ Below w.heap.size w w') := Lib.hid (fun w => by rw [hX]; exact of_any s hs w)
  rw [← hX] at hsl ⊢
  have HEX := Lib.hid (fun w => expand_any key hk w)
  have hWl := exL_len _ hkl 40
  obtain ⟨W, hW⟩ : ∃ W, W = exL key.data.toList 40 := ⟨_, rfl⟩
  rw [← hW] at HEX hWl ⊢
  have HBK := Lib.hid backs_any
  have hTl := backT_len
  obtain ⟨T, hT⟩ : ∃ T, T = backT := ⟨_, rfl⟩
  rw [← hT] at HBK hTl ⊢
  clear hX hW hT
  have hWl' : W.length = 176 := hWl
  obtain ⟨hzv, hzs⟩ := zero_of_info zero_sched
  obtain ⟨hbv, hbs⟩ := zero_of_info zero_info
  obtain ⟨Z, hZ⟩ : ∃ Z, Z = List.replicate 176 (0 : UInt8) := ⟨_, rfl⟩
  have hZl : Z.length = 176 := by rw [hZ]; exact List.length_replicate
  rw [← hZ] at hzv
  obtain ⟨Y, hY⟩ : ∃ Y, Y = List.replicate 256 (0 : UInt8) := ⟨_, rfl⟩
  have hYl : Y.length = 256 := by rw [hY]; exact List.length_replicate
  rw [← hY] at hbv
  have HZS : Hid ((Try.prog.info? 28).map (·.size) = some W.length) := Lib.hid (by rw [hWl']; exact hzs)
  have HBS : Hid ((Try.prog.info? 29).map (·.size) = some T.length) := Lib.hid (by rw [hTl]; exact hbs)
  have hst : (Try.prog.info? 63).map (·.size) = some X.length := by rw [hsl]; kernel_rfl
  have HSZ := Lib.hid hst
  clear hZ hY hzs hbs hst hWl
  go_enter Try.func26, Try.ntmps26
  go_wp2_with fail
  refine (HEX.out _).mono ?_
  rintro e w1 ⟨rfl, hb1⟩
  go_wp2_with fail
  refine (HBK.out _).mono ?_
  rintro e w2 ⟨rfl, hb2⟩
  have b2 := bthen2 hb1 hb2 hb1.size
  clear hb1 hb2
  have A0 := (Arr.new w2 28 Z).alloc (.cells (bvs Y) 29)
  have A1 := Arr.new2 w2 (.cells (bvs Z) 28) 29 Y
  have b3 : Below w.heap.size w ((w2.alloc (.cells (bvs Z) 28)).alloc (.cells (bvs Y) 29)) := (b2.alloc b2.size _).alloc (by have := b2.size; simp; omega) _
  have s3 : ((w2.alloc (.cells (bvs Z) 28)).alloc (.cells (bvs Y) 29)).heap.size = w2.heap.size + 2 := by simp
  have hlo := b2.size
  have HA0 := Lib.hid A0
  obtain ⟨V0, hV0⟩ : ∃ V, V = (w2.alloc (.cells (bvs Z) 28)).alloc (.cells (bvs Y) 29) := ⟨_, rfl⟩
  rw [← hV0] at A0 A1 b3 s3
  obtain ⟨V1, hV1⟩ : ∃ V, V = V0.setRow w2.heap.size (bvs W) := ⟨_, rfl⟩
  have H1 : Hid (((w2.alloc (.cells (bvs Z) 28)).alloc (.cells (bvs Y) 29)).setRow w2.heap.size (bvs W) = V1) := Lib.hid (by rw [hV1, hV0])
  have c0 : Arr V1 w2.heap.size 28 W := by rw [hV1]; exact A0.setRow
  have c1 : Arr V1 (w2.heap.size + 1) 29 Y := by rw [hV1]; exact (heap_setRow_other _ _ _ _ (by omega)).trans A1
  have b4 : Below w.heap.size w V1 := by rw [hV1]; exact below_setRow b3 hlo _
  have s4 : V1.heap.size = w2.heap.size + 2 := by rw [hV1, size_setRow, s3]
  obtain ⟨V2, hV2⟩ : ∃ V, V = V1.setRow (w2.heap.size + 1) (bvs T) := ⟨_, rfl⟩
  have H2 : Hid (V1.setRow (w2.heap.size + 1) (bvs T) = V2) := Lib.hid hV2.symm
  have d0 : Arr V2 w2.heap.size 28 W := by rw [hV2]; exact (heap_setRow_other _ _ _ _ (by omega)).trans c0
  have d1 : Arr V2 (w2.heap.size + 1) 29 T := by rw [hV2]; exact c1.setRow
  have b5 : Below w.heap.size w V2 := by rw [hV2]; exact below_setRow b4 (by omega) _
  have s5 : V2.heap.size = w2.heap.size + 2 := by rw [hV2, size_setRow, s4]
  have C1 := Lib.hid c1
  have D0 := Lib.hid d0
  have D1 := Lib.hid d1
  have B5 := Lib.hid b5
  clear A0 A1 b3 s3 hV0 hV1 hV2 c0 c1 b4 s4 d0 d1 b5
  go_wp2_with (first
    | (refine wpList_store_arr rfl 28 _ _ rfl w2.heap.size 28 Z W rfl rfl HA0.out (by rw [hZl, hWl']) HZS.out ?_; rw [H1.out])
    | (refine wpList_store_arr rfl 29 _ _ rfl (w2.heap.size + 1) 29 Y T rfl rfl C1.out (by rw [hYl, hTl]) HBS.out ?_; rw [H2.out]))
  refine (HOF.out V2).mono ?_
  rintro e w4 ⟨rfl, hb4⟩
  have e0 := D0.out.below hb4 (by omega)
  have e1 := D1.out.below hb4 (by omega)
  have b6 := bthen2 B5.out hb4 B5.out.size
  have s6 := hb4.size
  obtain ⟨W1, hW1⟩ : ∃ W, W = w4.alloc (.cells (bvs X) 63) := ⟨_, rfl⟩
  have HSR : Hid ((w4.alloc (Obj.cells #[Value.int IntKind.u8 0, Value.int IntKind.u8 0, Value.int IntKind.u8 0, Value.int IntKind.u8 0, Value.int IntKind.u8 0, Value.int IntKind.u8 0, Value.int IntKind.u8 0, Value.int IntKind.u8 0, Value.int IntKind.u8 0, Value.int IntKind.u8 0, Value.int IntKind.u8 0, Value.int IntKind.u8 0, Value.int IntKind.u8 0, Value.int IntKind.u8 0, Value.int IntKind.u8 0, Value.int IntKind.u8 0] 63)).setRow w4.heap.size (bvs X) = W1) := Lib.hid (by rw [hW1]; exact World.setRow_alloc_new w4 (bvs (List.replicate 16 0)) (bvs X) 63)
  have K1 : DS w w2.heap.size (w2.heap.size + 1) w4.heap.size W T X W1 := by
    rw [hW1]
    exact ⟨Arr.new _ _ _, e0.alloc _, e1.alloc _, b6.alloc (by omega) _⟩
  have gl : w2.heap.size + 1 < w4.heap.size := by omega
  have gw : w.heap.size ≤ w4.heap.size := by omega
  clear hW1 e0 e1 b6 hb4 D0 D1 B5 C1 HA0 H1 H2 s5 s6 hzv hbv
  have KK := Lib.hid K1
  clear K1
  go_wp2_with (first
    | (refine wpList_store_arr rfl 63 _ _ rfl w4.heap.size 63 (List.replicate 16 0) X rfl rfl (Arr.new w4 63 (List.replicate 16 0)) (by rw [hsl]; rfl) HSZ.out ?_; rw [HSR.out]))
  clear HSR HOF HEX HBK
  go_loopw [9] (fun c wr => ∃ m : Nat, m ≤ 10 ∧ c = .int .i64 (m : Int) ∧ DS w w2.heap.size (w2.heap.size + 1) w4.heap.size W T (decR W T X (10 - m)) wr) (fun c _ => (intOf c).toNat)
  case atStart => exact ⟨10, by omega, rfl, KK.out⟩
  case round =>
    clear KK
    obtain ⟨m, hm10, rfl, K⟩ := hrel
    have K0 := Lib.hid K
    clear K
    by_cases hm : 0 < m
    · have hmi : (0 : Int) < (m : Int) := by omega
      obtain ⟨n, hn⟩ : ∃ n, m = n + 1 := ⟨m - 1, by omega⟩
      obtain ⟨P, hP⟩ : ∃ P, P = decR W T X (10 - m) := ⟨_, rfl⟩
      have hPl : P.length = 16 := by rw [hP]; exact decR_len _ _ _ hsl _
      have hE : decR W T X (10 - n) = (turnV true (decM m (addV P W m))).map (bxf T) := by
        rw [show 10 - n = (10 - m) + 1 from by omega, decR, ← hP, show 10 - (10 - m) = m from by omega]
      rw [← hP] at K0
      have HE := Lib.hid hE
      have HN := Lib.hid hn
      clear hE hn hP
      go_wp2_with (refine wpList_load_arr rfl 28 _ rfl w2.heap.size 28 W 44 26 rfl K0.out.2.1 Try.underlying28 HZS.out ?_)
      refine (add_any w4.heap.size P W m hPl hWl' hm10 wr K0.out.1).mono ?_
      rintro e w5 ⟨rfl, hg5, hA5⟩
      have K5 := Lib.hid (K0.out.step (by omega) (by omega) gw hg5 hA5)
      clear hg5 hA5
      obtain ⟨Q, hQ⟩ : ∃ Q, Q = addV P W m := ⟨_, rfl⟩
      have hQl : Q.length = 16 := by rw [hQ, addV_len]
      rw [← hQ] at K5 HE
      clear hQ
      by_cases h10 : m < 10
      · have h10i : (m : Int) < 10 := by omega
        have hEM : decM m Q = mixV [14, 11, 13, 9] Q := by unfold decM; rw [if_pos h10]
        go_wp2_with fail
        refine (mix_any w4.heap.size [14, 11, 13, 9] Q hQl rfl w5 K5.out.1).mono ?_
        rintro e w6 ⟨rfl, hg6, hA6⟩
        rw [← hEM] at hA6
        have K6 := Lib.hid (K5.out.step (by omega) (by omega) gw hg6 hA6)
        clear hg6 hA6 hEM
        go_wp2_with fail
        refine (turn_any w4.heap.size (decM m Q) true (decM_len m Q hQl) w6 K6.out.1).mono ?_
        rintro e w7 ⟨rfl, hg7, hA7⟩
        have K7 := Lib.hid (K6.out.step (by omega) (by omega) gw hg7 hA7)
        clear hg7 hA7
        go_wp2_with fail
        refine (each_any w4.heap.size (turnV true (decM m Q)) 47 (.pointer (some ⟨w2.heap.size + 1, 0, none⟩)) (bxf T) (turnV_len _ _) w7 K7.out.1 dec1_fid (fun w' hg' b => dec1_any (w2.heap.size + 1) T hTl w' (K7.out.2.2.1.grown hg' (by simp; omega)) b)).mono ?_
        rintro e w8 ⟨rfl, hg8, hA8⟩
        rw [← HE.out] at hA8
        have K8 := Lib.hid (K7.out.step (by omega) (by omega) gw hg8 hA8)
        clear hg8 hA8
        go_wp2_with fail
        go_roundw
        case rel => exact ⟨n, by have := HN.out; omega, by have := HN.out; subst this; go_num, K8.out⟩
        case measure => have := HN.out; simp [intOf]; omega
      · have h10i : ¬ (m : Int) < 10 := by omega
        have hEM : decM m Q = Q := by unfold decM; rw [if_neg h10]
        have K6 := K5
        rw [← hEM] at K6
        clear hEM
        obtain ⟨w6, hw6⟩ : ∃ w6, w6 = w5 := ⟨_, rfl⟩
        rw [← hw6] at K6 ⊢
        clear hw6
        go_wp2_with fail
        refine (turn_any w4.heap.size (decM m Q) true (decM_len m Q hQl) w6 K6.out.1).mono ?_
        rintro e w7 ⟨rfl, hg7, hA7⟩
        have K7 := Lib.hid (K6.out.step (by omega) (by omega) gw hg7 hA7)
        clear hg7 hA7
        go_wp2_with fail
        refine (each_any w4.heap.size (turnV true (decM m Q)) 47 (.pointer (some ⟨w2.heap.size + 1, 0, none⟩)) (bxf T) (turnV_len _ _) w7 K7.out.1 dec1_fid (fun w' hg' b => dec1_any (w2.heap.size + 1) T hTl w' (K7.out.2.2.1.grown hg' (by simp; omega)) b)).mono ?_
        rintro e w8 ⟨rfl, hg8, hA8⟩
        rw [← HE.out] at hA8
        have K8 := Lib.hid (K7.out.step (by omega) (by omega) gw hg8 hA8)
        clear hg8 hA8
        go_wp2_with fail
        go_roundw
        case rel => exact ⟨n, by have := HN.out; omega, by have := HN.out; subst this; go_num, K8.out⟩
        case measure => have := HN.out; simp [intOf]; omega
    · have hm0 : m = 0 := by omega
      subst hm0
      have hPl : (decR W T X 10).length = 16 := decR_len _ _ _ hsl _
      have K0 : Hid (DS w w2.heap.size (w2.heap.size + 1) w4.heap.size W T (decR W T X 10) wr) := K0
      obtain ⟨P, hP⟩ : ∃ P, P = decR W T X 10 := ⟨_, rfl⟩
      rw [← hP] at hPl K0
      have HP := Lib.hid hP
      clear hP
      go_wp2_with (refine wpList_load_arr rfl 28 _ rfl w2.heap.size 28 W 44 26 rfl K0.out.2.1 Try.underlying28 HZS.out ?_)
      refine (add_any w4.heap.size P W 0 hPl hWl' (by omega) wr K0.out.1).mono ?_
      rintro e w5 ⟨rfl, hg5, hA5⟩
      have K5 := K0.out.step (by omega) (by omega) gw hg5 hA5
      have hstr := K5.1.str 16 16 (by rw [addV_len]) 69 5 9 Try.underlying69 Try.underlying5 Try.underlying9
      have hbf := K5.2.2.2
      clear hg5 hA5 K5
      go_wp2_with fail
      go_ret2
      exact ⟨by rw [← HP.out]; rfl, hbf⟩
theorem decrypt_bad (key s : ByteArray) (h : key.size ≠ 16 ∨ s.size ≠ 16) (w : World) :
    Calls Try.prog 26 #[.string key, .string s] w fun e w' => e = .returned (.tuple #[.string ⟨#[]⟩, .int .i64 2]) ∧ w = w' := by
  by_cases hk : key.size = 16
  · have h1 : (key.size : Int) = 16 := by omega
    have h2 : ¬ (s.size : Int) = 16 := by omega
    have h3 : ((s.size : Int) != 16) = true := by simp only [bne_iff_ne, ne_eq]; exact h2
    go_enter Try.func26, Try.ntmps26
    go_wp2_with fail
    go_ret2
    exact ⟨rfl, rfl⟩
  · have h2 : ¬ (key.size : Int) = 16 := by omega
    have h3 : ((key.size : Int) != 16) = true := by simp only [bne_iff_ne, ne_eq]; exact h2
    go_enter Try.func26, Try.ntmps26
    go_wp2_with fail
    go_ret2
    exact ⟨rfl, rfl⟩
end Go.Proofs.Ytkbidgonjnlkmaa

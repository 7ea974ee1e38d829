/-
  The contract of AES's expand. No condition. Own work.
-/
import Derived.Test.YtkbidgonjnlkmaaExp1
namespace Go.Proofs.Ytkbidgonjnlkmaa
open Go.RowKit

theorem zero_sched : (Try.prog.info? 28).map (fun i => (i.zero, i.size)) = some (some (.agg (bvs (List.replicate 176 0))), 176) := by kernel_rfl

abbrev Cells8 (a b c d e f g h : Addr) (u v x y p q r s : Value) (W w' : World) : Prop :=
  w'.cell? a = some u ∧ w'.cell? b = some v ∧ w'.cell? c = some x ∧ w'.cell? d = some y ∧ w'.cell? e = some p ∧ w'.cell? f = some q ∧ w'.cell? g = some r ∧ w'.cell? h = some s ∧ W = w'

set_option maxRecDepth 40000 in
set_option maxHeartbeats 12800000 in
theorem expand_any (s : ByteArray) (hs : s.size = 16) (w : World) :
    Calls Try.prog 34 #[.string s] w fun e w' => e = .returned (.agg (bvs (exL s.data.toList 40))) ∧ Below w.heap.size w w' := by
  have hsl : s.data.toList.length = 16 := by simp [hs]
  obtain ⟨hzv, hzs⟩ := zero_of_info zero_sched
  obtain ⟨hbv, _⟩ := zero_of_info zero_info
  obtain ⟨Y, hY⟩ : ∃ Y, Y = List.replicate 256 (0 : UInt8) := ⟨_, rfl⟩
  have hYl : Y.length = 256 := by rw [hY]; exact List.length_replicate
  rw [← hY] at hbv
  obtain ⟨Z, hZ⟩ : ∃ Z, Z = List.replicate 176 (0 : UInt8) := ⟨_, rfl⟩
  have hZl : Z.length = 176 := by rw [hZ]; exact List.length_replicate
  rw [← hZ] at hzv
  obtain ⟨E, hE⟩ : ∃ E, E = exL s.data.toList 40 := ⟨_, rfl⟩
  have hEl : E.length = 176 := by rw [hE, exL_len _ hsl]
  have P0 := Lib.hid (exL_key s.data.toList hsl)
  have P1 := Lib.hid (exL_word s.data.toList hsl)
  rw [← hE] at P0 P1 ⊢
  have HZS := Lib.hid hzs
  have hb4 : (Try.prog.info? 26).map (·.size) = some 4 := by kernel_rfl
  have HB4 := Lib.hid hb4
  have hbt : (Try.prog.info? 29).map (·.size) = some boxT.length := by rw [boxT_len]; kernel_rfl
  have HBT := Lib.hid hbt
  have hbl := boxT_len
  obtain ⟨BT, hBT⟩ : ∃ B, B = boxT := ⟨_, rfl⟩
  have HBX : Hid (∀ w, Calls Try.prog 35 #[] w fun e w' => e = .returned (.agg (bvs BT)) ∧ Below w.heap.size w w') := Lib.hid (by rw [hBT]; exact boxes_any)
  rw [← hBT] at hbl
  clear hZ hY hE hzs hb4 hbt
  rw [← hBT] at HBT
  have HBTe := Lib.hid hBT
  clear hBT
  go_enter Try.func34, Try.ntmps34
  have A0 := (Arr.new w 28 Z).alloc (.cells (bvs Z) 28)
  have A1 := Arr.new2 w (.cells (bvs Z) 28) 28 Z
  have B0 : Below w.heap.size w ((w.alloc (.cells (bvs Z) 28)).alloc (.cells (bvs Z) 28)) := (bnew _ _).alloc (by simp) _
  have HA0 := Lib.hid A0
  have HA1 := Lib.hid A1
  have HB0 := Lib.hid B0
  clear A0 A1 B0
  go_wp2_with (first
    | (go_at_call 35; (with_reducible refine (HBX.out _).mono ?_); rintro e w1 ⟨rfl, hb1⟩)
    | (refine wpList_store_arr rfl 29 _ _ rfl w1.heap.size 29 Y BT rfl rfl (Arr.new w1 _ _) (by rw [hYl, hbl]) HBT.out ?_; rw [World.setRow_alloc_new]))
  have hsz1 : w.heap.size + 2 ≤ w1.heap.size := by have := hb1.size; simp at this; omega
  clear hzv hbv
  have A0 : Arr w1 w.heap.size 28 Z := HA0.out.below hb1 (by simp; omega)
  have A1 : Arr w1 (w.heap.size + 1) 28 Z := HA1.out.below hb1 (by simp)
  have B1 : Below w.heap.size w w1 := ⟨hb1.os.trans HB0.out.os, hb1.tape.trans HB0.out.tape, hb1.output.trans HB0.out.output, by omega, fun k hk => (hb1.block k (by simp; omega)).trans (HB0.out.block k hk)⟩
  clear HA0 HA1 HB0 hb1 HBX
  go_loopw [5, 10] (fun p c wr => ∃ i : Nat, i ≤ 44 ∧ c = .int .i64 i ∧ p = bv (exP (i - 4)) ∧ Arr wr (w.heap.size + 1) 28 (mixL E Z (4 * i)) ∧ Arr wr w.heap.size 28 Z ∧ Arr wr w1.heap.size 29 BT ∧ Below w.heap.size w wr) (fun _ c _ => 44 - (intOf c).toNat)
  case atStart => exact ⟨0, by omega, rfl, rfl, by rw [mixL_zero]; exact A1.alloc _, A0.alloc _, Arr.new _ _ _, B1.alloc (by omega) _⟩
  case round =>
    clear A0 A1 B1
    obtain ⟨i, hi, rfl, rfl, hx, hz, hbt, hbw⟩ := hrel
    obtain ⟨wo, hwo⟩ : ∃ wo, wo = wr := ⟨_, rfl⟩
    rw [← hwo] at hx hz hbt hbw ⊢
    clear hwo
    have hZI := Lib.hid hz
    have hBTI := Lib.hid hbt
    have hBW := Lib.hid hbw
    have hX := Lib.hid hx
    clear hx hz hbt hbw
    by_cases hlt : i < 44
    · have hil : (i : Int) < 44 := by omega
      by_cases h4 : i < 4
      · have hi4 : (i : Int) < 4 := by omega
        have hi0 : (0 : Int) ≤ (i : Int) := by omega
        have wr1 : IntKind.i64.wrap (4 * (i : Int)) = 4 * (i : Int) := by rw [IntKind.wrap_i64]; omega
        have s0 : (0 : Int) ≤ 4 * (i : Int) := by omega
        have s1 : 4 * (i : Int) ≤ 16 := by omega
        go_wp2_with fail
        refine wp_region_tailN2 7 (fun w' => wo.drew = w') (by kernel_rfl) (by kernel_rfl) (by kernel_rfl) rfl ?_
        simp only [List.take_succ_cons, List.take_zero, List.drop_succ_cons, List.drop_zero]
        repeat (first
          | (refine text_skip (by rfl) ?_; simp only [Act.put, List.setIfInBounds_toArray, List.set_cons_zero, List.set_cons_succ])
          | (refine text_pure (v := ?_) (by rfl) (fun wx hS => ?_) ?_; rotate_left; (go_simp; with_reducible exact rfl); simp only [Act.put, List.setIfInBounds_toArray, List.set_cons_zero, List.set_cons_succ]))
        refine text_nil (fun wx hS => ?_)
        subst hS
        have hex : (s.extract (4 * (i : Int)).toNat 16).data.toList = s.data.toList.drop (4 * i) := by
          rw [ByteArray.data_extract, Array.toList_extract, List.extract_eq_take_drop, show (4 * (i : Int)).toNat = 4 * i from by omega, List.take_of_length_le (by rw [List.length_drop]; omega)]
        have hcp := mixL_copy E Z ((s.extract (4 * (i : Int)).toNat 16).data.toList) (4 * i) (by omega) (by omega) (fun j hj => by
          rw [hex, List.getElem?_drop, P0.out _ (by omega)])
        have HCP := Lib.hid hcp
        clear hcp
        have hX2 : Arr wo.drew (w.heap.size + 1) 28 (mixL E Z (4 * i)) := hX.out
        refine wpList_copy_arr rfl _ _ 69 9 rfl 5 Try.underlying69 (by kernel_rfl) (w.heap.size + 1) (4 * i) 4 4 4 _ 28 (mixL E Z (4 * i)) (by show Value.slice (some ⟨_, _, _⟩) _ _ = _; rw [Nat.mul_comm 4 i]) rfl hX2 (by rw [ByteArray.size_extract]; omega) (by rw [mixL_len _ _ _ (by omega)]; omega) ?_
        rw [HCP.out]
        have hX3 := Lib.hid (hX2.setRow (S := mixL E Z (4 * i + 4)))
        have hZ3 : Hid (Arr (wo.drew.setRow (w.heap.size + 1) (bvs (mixL E Z (4 * i + 4)))) w.heap.size 28 Z) := Lib.hid ((heap_setRow_other _ _ _ _ (by omega)).trans hZI.out)
        have hB3 : Hid (Arr (wo.drew.setRow (w.heap.size + 1) (bvs (mixL E Z (4 * i + 4)))) w1.heap.size 29 BT) := Lib.hid ((heap_setRow_other _ _ _ _ (by omega)).trans hBTI.out)
        have hW3 : Hid (Below w.heap.size w (wo.drew.setRow (w.heap.size + 1) (bvs (mixL E Z (4 * i + 4))))) := Lib.hid (below_setRow hBW.out.drew (by omega) _)
        clear hX2
        go_wp2_with fail
        refine ⟨⟨i + 1, by omega, by go_num, ?_, hX3.out, hZ3.out, hB3.out, hW3.out⟩, by simp [intOf]; omega⟩
        rw [show i - 4 = 0 from by omega, show i + 1 - 4 = 0 from by omega]
      · obtain ⟨n, hn⟩ : ∃ n, i = 4 + n := ⟨i - 4, by omega⟩
        obtain ⟨m, hm⟩ : ∃ m, m = 3 + n := ⟨_, rfl⟩
        have hi4 : ¬ (i : Int) < 4 := by omega
        have hi0 : (0 : Int) ≤ (i : Int) := by omega
        have w1' : (i : Int) - 1 = (m : Int) := by omega
        have hm0 : (0 : Int) ≤ (m : Int) := by omega
        have hm44 : (m : Int) < 44 := by omega
        have hrg := hX.out.range (m * 4) (tB E n) (fun j c hc => by
          have hj : j < 4 := by have := (List.getElem?_eq_some_iff.1 hc).1; rw [tB_len] at this; exact this
          rw [mixL_get _ _ _ _ (by omega), if_pos (by omega), ← hc, tB_get _ _ _ hj, show m * 4 + j = 4 * n + 12 + j from by omega]
          exact getD_some (by omega))
        have hrg2 : Hid (wo.rangeAt (w.heap.size + 1) (m * 4) ((tB E n).map bv)) := Lib.hid hrg
        have HN := Lib.hid hn
        have HM := Lib.hid hm
        have hin : i - 4 = n := by omega
        rw [hin]
        obtain ⟨T, hT⟩ : ∃ T, T = tB E n := ⟨_, rfl⟩
        have hTl : T.length = 4 := by rw [hT, tB_len]
        rw [← hT] at hrg2
        have HT4 : Hid ((Try.prog.info? 26).map (·.size) = some T.length) := Lib.hid (by rw [hTl]; exact HB4.out)
        have HT4' : Hid ((Try.prog.info? 26).map (·.size) = some (T.map bv).length) := Lib.hid (by rw [List.length_map, hTl]; exact HB4.out)
        have HT := Lib.hid hT
        obtain ⟨W2, hW2⟩ : ∃ W, W = wo.alloc (.cells (bvs T) 26) := ⟨_, rfl⟩
        have HSR : Hid ((wo.alloc (Obj.cells #[Value.int IntKind.u8 0, Value.int IntKind.u8 0, Value.int IntKind.u8 0, Value.int IntKind.u8 0] 26)).setRow wo.heap.size (bvs T) = W2) := Lib.hid (by rw [hW2]; exact World.setRow_alloc_new wo (bvs (List.replicate 4 0)) (bvs T) 26)
        have t2 : Arr W2 wo.heap.size 26 T := by rw [hW2]; exact Arr.new _ _ _
        have x2 : Arr W2 (w.heap.size + 1) 28 (mixL E Z (4 * i)) := by rw [hW2]; exact hX.out.alloc _
        have z2 : Arr W2 w.heap.size 28 Z := by rw [hW2]; exact hZI.out.alloc _
        have b2 : Arr W2 w1.heap.size 29 BT := by rw [hW2]; exact hBTI.out.alloc _
        have B2 : Below w.heap.size w W2 := by rw [hW2]; exact hBW.out.alloc (by have := hZI.out.lt; omega) _
        have gtx : w.heap.size + 1 < wo.heap.size := hX.out.lt
        have gtb : w1.heap.size < wo.heap.size := hBTI.out.lt
        obtain ⟨pw, hpw⟩ : ∃ pw, pw = exP n := ⟨_, rfl⟩
        rw [← hpw]
        have HPW := Lib.hid hpw
        have TT := Lib.hid t2
        have XX := Lib.hid x2
        have ZZ := Lib.hid z2
        have BB := Lib.hid b2
        have BW2 := Lib.hid B2
        by_cases hr0 : i % 4 = 0
        · have e2 : (i : Int).tmod 4 = 0 := by rw [Int.tmod_eq_emod_of_nonneg (by omega)]; omega
          have hpw2 : exP (i + 1 - 4) = gm pw 2 := by rw [show i + 1 - 4 = n + 1 from by omega, exP, if_pos (by omega), hpw]
          have HPW2 := Lib.hid hpw2
          obtain ⟨a0, ha0⟩ : ∃ a, a = T.getD 0 0 := ⟨_, rfl⟩
          obtain ⟨a1, ha1⟩ : ∃ a, a = T.getD 1 0 := ⟨_, rfl⟩
          obtain ⟨a2, ha2⟩ : ∃ a, a = T.getD 2 0 := ⟨_, rfl⟩
          obtain ⟨a3, ha3⟩ : ∃ a, a = T.getD 3 0 := ⟨_, rfl⟩
          obtain ⟨d0, hd0⟩ : ∃ a, a = BT.getD a0.toNat 0 := ⟨_, rfl⟩
          obtain ⟨d1, hd1⟩ : ∃ a, a = BT.getD a1.toNat 0 := ⟨_, rfl⟩
          obtain ⟨d2, hd2⟩ : ∃ a, a = BT.getD a2.toNat 0 := ⟨_, rfl⟩
          obtain ⟨d3, hd3⟩ : ∃ a, a = BT.getD a3.toNat 0 := ⟨_, rfl⟩
          have a0l : ((a0.toNat : Nat) : Int) < 256 := by have := a0.toNat_lt; omega
          have a1l : ((a1.toNat : Nat) : Int) < 256 := by have := a1.toNat_lt; omega
          have a2l : ((a2.toNat : Nat) : Int) < 256 := by have := a2.toNat_lt; omega
          have a3l : ((a3.toNat : Nat) : Int) < 256 := by have := a3.toNat_lt; omega
          have k0 := t2.cell (i := 0) (c := a0) (by rw [ha0]; exact getD_some (by omega))
          have k1 := t2.cell (i := 1) (c := a1) (by rw [ha1]; exact getD_some (by omega))
          have k2 := t2.cell (i := 2) (c := a2) (by rw [ha2]; exact getD_some (by omega))
          have k3 := t2.cell (i := 3) (c := a3) (by rw [ha3]; exact getD_some (by omega))
          have l0 := b2.cell (i := a0.toNat) (c := d0) (by rw [hd0]; exact getD_some (by omega))
          have l1 := b2.cell (i := a1.toNat) (c := d1) (by rw [hd1]; exact getD_some (by omega))
          have l2 := b2.cell (i := a2.toNat) (c := d2) (by rw [hd2]; exact getD_some (by omega))
          have l3 := b2.cell (i := a3.toNat) (c := d3) (by rw [hd3]; exact getD_some (by omega))
          obtain ⟨d1p, hd1p⟩ : ∃ d, d = d1 ^^^ pw := ⟨_, rfl⟩
          have hxo := axor d1 pw
          rw [← hd1p] at hxo
          obtain ⟨U, hU⟩ : ∃ U, U = [d1p, d2, d3, d0] := ⟨_, rfl⟩
          have hUl : U.length = 4 := by rw [hU]; rfl
          have HUW : Hid (U = tW (4 + n) (exP n) T) := Lib.hid (by
            unfold tW
            rw [if_pos (by omega), hU, hd1p, hd0, hd1, hd2, hd3, ha0, ha1, ha2, ha3, HBTe.out, hpw])
          have HUV : Hid (Value.agg (bvs U) = .agg #[.int .u8 ((d1p.toNat : Nat) : Int), .int .u8 ((d2.toNat : Nat) : Int), .int .u8 ((d3.toNat : Nat) : Int), .int .u8 ((d0.toNat : Nat) : Int)]) := Lib.hid (by rw [hU]; rfl)
          have HTU : Hid ((Try.prog.info? 26).map (·.size) = some U.length) := Lib.hid (by rw [hUl]; exact HB4.out)
          have hM : ∀ w, Calls Try.prog 16 #[bv pw, .int .u8 2] w fun e w' => e = .returned (bv (gm pw 2)) ∧ w = w' := fun w => mul_any pw 2 w
          have HM2 := Lib.hid hM
          have W3 : ∀ W3, W3 = W2.drew.setRow wo.heap.size (bvs U) → Arr W3 wo.heap.size 26 U ∧ Arr W3 (w.heap.size + 1) 28 (mixL E Z (4 * i)) ∧ Arr W3 w.heap.size 28 Z ∧ Arr W3 w1.heap.size 29 BT ∧ Below w.heap.size w W3 := fun W3 h => by
            subst h
            exact ⟨t2.drew.setRow, (heap_setRow_other _ _ _ _ (by omega)).trans x2, (heap_setRow_other _ _ _ _ (by omega)).trans z2, (heap_setRow_other _ _ _ _ (by omega)).trans b2, below_setRow B2.drew (by omega) _⟩
          have HW3 := Lib.hid W3
          clear hrg hn hm hin hT ha0 ha1 ha2 ha3 hd0 hd1 hd2 hd3 hd1p hU hpw2 hpw hM t2 x2 z2 b2 B2 W3 hW2 hr0
          go_wp2_with (first
            | (refine wpList_load_mid rfl 26 _ rfl (w.heap.size + 1) (m * 4) rfl (T.map bv) _ hrg2.out Try.underlying26 rfl HT4'.out ?_)
            | (refine wpList_store_arr rfl 26 _ _ rfl wo.heap.size 26 (List.replicate 4 0) T rfl rfl (Arr.new wo 26 (List.replicate 4 0)) (by rw [hTl]; rfl) HT4.out ?_; rw [HSR.out]))
          refine wp_region_tailN2 19 (Cells8 ⟨wo.heap.size, 0, none⟩ ⟨wo.heap.size, 1, none⟩ ⟨wo.heap.size, 2, none⟩ ⟨wo.heap.size, 3, none⟩ ⟨w1.heap.size, a0.toNat, none⟩ ⟨w1.heap.size, a1.toNat, none⟩ ⟨w1.heap.size, a2.toNat, none⟩ ⟨w1.heap.size, a3.toNat, none⟩ (bv a0) (bv a1) (bv a2) (bv a3) (bv d0) (bv d1) (bv d2) (bv d3) W2.drew) (by kernel_rfl) (by kernel_rfl) (by kernel_rfl) ⟨k0, k1, k2, k3, l0, l1, l2, l3, rfl⟩ ?_
          simp only [List.take_succ_cons, List.take_zero, List.drop_succ_cons, List.drop_zero]
          repeat (first
            | (refine text_skip (by rfl) ?_; simp only [Act.put, List.setIfInBounds_toArray, List.set_cons_zero, List.set_cons_succ])
            | (refine text_pure (v := ?_) (by rfl) (fun wx hS => ?_) ?_; rotate_left; (go_simp; with_reducible exact rfl); simp only [Act.put, List.setIfInBounds_toArray, List.set_cons_zero, List.set_cons_succ]))
          refine text_nil (fun wx hS => ?_)
          obtain ⟨_, _, _, _, _, _, _, _, rfl⟩ := hS
          refine wpList_store_arr rfl 26 _ _ rfl wo.heap.size 26 T U rfl HUV.out.symm TT.out.drew (by omega) HTU.out ?_
          go_wp2_with (first
            | (go_at_call 16; (with_reducible refine (HM2.out _).mono ?_); rintro e wm ⟨rfl, rfl⟩))
          obtain ⟨f1, f2, f3, f4, f5⟩ := HW3.out _ rfl
          go_loopw [51] (fun c wi => ∃ r : Nat, r ≤ 4 ∧ c = .int .i64 r ∧ Arr wi (w.heap.size + 1) 28 (mixL E Z (4 * i + r)) ∧ Arr wi wo.heap.size 26 U ∧ Arr wi w.heap.size 28 Z ∧ Arr wi w1.heap.size 29 BT ∧ Below w.heap.size w wi) (fun c _ => 4 - (intOf c).toNat)
          case atStart => exact ⟨0, by omega, rfl, f2, f1, f3, f4, f5⟩
          case round =>
            obtain ⟨r, hr, rfl, ix, iu, iz, ib, iw⟩ := hrel
            by_cases hlt4 : r < 4
            · have hrl : (r : Int) < 4 := by omega
              have hr0 : (0 : Int) ≤ (r : Int) := by omega
              obtain ⟨q, hq⟩ : ∃ q, q = n := ⟨_, rfl⟩
              have hn := HN.out
              have q1 : IntKind.i64.wrap ((i : Int) - 4) = (q : Int) := by rw [IntKind.wrap_i64]; omega
              have q0 : (0 : Int) ≤ (q : Int) := by omega
              have q4 : (q : Int) < 44 := by omega
              obtain ⟨a, ha⟩ : ∃ a, a = E.getD (4 * n + r) 0 := ⟨_, rfl⟩
              obtain ⟨b, hb⟩ : ∃ b, b = U.getD r 0 := ⟨_, rfl⟩
              obtain ⟨c, hc⟩ : ∃ c, c = a ^^^ b := ⟨_, rfl⟩
              have hxo := axor a b
              rw [← hc] at hxo
              have hec : E[4 * i + r]? = some c := by
                rw [show 4 * i + r = 16 + 4 * n + r from by omega, P1.out n r (by omega) hlt4, hc, ha, hb, HUW.out, HT.out]
              have c0 := ix.cell (i := q * 4 + r) (c := a) (by
                rw [mixL_get _ _ _ _ (by omega), if_pos (by omega), ha, show q * 4 + r = 4 * n + r from by omega]
                exact getD_some (by omega))
              have c1 := iu.cell (i := r) (c := b) (by rw [hb]; exact getD_some (by omega))
              obtain ⟨v, hv⟩ : ∃ v, (mixL E Z (4 * i + r))[i * 4 + r]? = some v := ⟨_, getD_some (by rw [mixL_len _ _ _ (by omega)]; omega)⟩
              have c2 := ix.cell hv
              have hfz := ix.frozen (i * 4 + r)
              have fin : ∀ W', W' = wr.setCell ⟨w.heap.size + 1, i * 4 + r, none⟩ (bv c) → Arr W' (w.heap.size + 1) 28 (mixL E Z (4 * i + (r + 1))) ∧ Arr W' wo.heap.size 26 U ∧ Arr W' w.heap.size 28 Z ∧ Arr W' w1.heap.size 29 BT ∧ Below w.heap.size w W' := fun W' h => by
                subst h
                have h := ix.set (i * 4 + r) c
                rw [show i * 4 + r = 4 * i + r from by omega, mixL_set (by omega) hec] at h
                exact ⟨by rw [show i * 4 + r = 4 * i + r from by omega]; exact h, iu.other _ (by simp; omega), iz.other _ (by simp), ib.other _ (by simp; omega), iw.setCell (by simp) _⟩
              have HFin := Lib.hid fin
              clear ix iu iz ib iw hv fin ha hb hc hec hq hn
              go_wp2_with fail
              refine wp_region_tailN2 14 (Cells3 ⟨w.heap.size + 1, q * 4 + r, none⟩ ⟨wo.heap.size, r, none⟩ ⟨w.heap.size + 1, i * 4 + r, none⟩ (bv a) (bv b) (bv v) wr.drew) (by kernel_rfl) (by kernel_rfl) (by kernel_rfl) ⟨c0, c1, c2, rfl⟩ ?_
              simp only [List.take_succ_cons, List.take_zero, List.drop_succ_cons, List.drop_zero]
              repeat (first
                | (refine text_skip (by rfl) ?_; simp only [Act.put, List.setIfInBounds_toArray, List.set_cons_zero, List.set_cons_succ])
                | (refine text_pure (v := ?_) (by rfl) (fun wx hS => ?_) ?_; rotate_left; (go_simp; with_reducible exact rfl); simp only [Act.put, List.setIfInBounds_toArray, List.set_cons_zero, List.set_cons_succ]))
              refine text_nil (fun wx hS => ?_)
              obtain ⟨_, _, _, rfl⟩ := hS
              go_wp2_with fail
              obtain ⟨f1, f2, f3, f4, f5⟩ := HFin.out _ rfl
              go_roundw
              case rel => exact ⟨r + 1, by omega, by go_num, f1.drew, f2.drew, f3.drew, f4.drew, f5.drew⟩
              case measure => simp [intOf]; omega
            · have hr4 : r = 4 := by omega
              subst hr4
              have IX := Lib.hid ix
              have IZ := Lib.hid iz
              have IB := Lib.hid ib
              have IW := Lib.hid iw
              clear ix iu iz ib iw
              go_wp2_with fail
              go_roundw
              case rel => exact ⟨i + 1, by omega, by go_num, by rw [HPW2.out], IX.out, IZ.out, IB.out, IW.out⟩
              case measure => simp [intOf]; omega
        · obtain ⟨r4, hr4⟩ : ∃ r, r = i % 4 := ⟨_, rfl⟩
          have e2 : (i : Int).tmod 4 = (r4 : Int) := by rw [Int.tmod_eq_emod_of_nonneg (by omega)]; omega
          have hne : ¬ (r4 : Int) = 0 := by omega
          have hpw2 : exP (i + 1 - 4) = pw := by rw [show i + 1 - 4 = n + 1 from by omega, exP, if_neg (by omega), hpw]
          have HPW2 := Lib.hid hpw2
          obtain ⟨U, hU⟩ : ∃ U, U = T := ⟨_, rfl⟩
          have hUl : U.length = 4 := by rw [hU]; exact hTl
          have HUW : Hid (U = tW (4 + n) (exP n) T) := Lib.hid (by unfold tW; rw [if_neg (by omega), hU])
          rw [← hU] at TT
          clear hrg hn hm hin hT hU hpw2 hpw t2 x2 z2 b2 B2 hW2 hr0 hr4
          go_wp2_with (first
            | (refine wpList_load_mid rfl 26 _ rfl (w.heap.size + 1) (m * 4) rfl (T.map bv) _ hrg2.out Try.underlying26 rfl HT4'.out ?_)
            | (refine wpList_store_arr rfl 26 _ _ rfl wo.heap.size 26 (List.replicate 4 0) T rfl rfl (Arr.new wo 26 (List.replicate 4 0)) (by rw [hTl]; rfl) HT4.out ?_; rw [HSR.out]))
          go_loopw [51] (fun c wi => ∃ r : Nat, r ≤ 4 ∧ c = .int .i64 r ∧ Arr wi (w.heap.size + 1) 28 (mixL E Z (4 * i + r)) ∧ Arr wi wo.heap.size 26 U ∧ Arr wi w.heap.size 28 Z ∧ Arr wi w1.heap.size 29 BT ∧ Below w.heap.size w wi) (fun c _ => 4 - (intOf c).toNat)
          case atStart => exact ⟨0, by omega, rfl, XX.out, TT.out, ZZ.out, BB.out, BW2.out⟩
          case round =>
            obtain ⟨r, hr, rfl, ix, iu, iz, ib, iw⟩ := hrel
            by_cases hlt4 : r < 4
            · have hrl : (r : Int) < 4 := by omega
              have hr0 : (0 : Int) ≤ (r : Int) := by omega
              obtain ⟨q, hq⟩ : ∃ q, q = n := ⟨_, rfl⟩
              have hn := HN.out
              have q1 : IntKind.i64.wrap ((i : Int) - 4) = (q : Int) := by rw [IntKind.wrap_i64]; omega
              have q0 : (0 : Int) ≤ (q : Int) := by omega
              have q4 : (q : Int) < 44 := by omega
              obtain ⟨a, ha⟩ : ∃ a, a = E.getD (4 * n + r) 0 := ⟨_, rfl⟩
              obtain ⟨b, hb⟩ : ∃ b, b = U.getD r 0 := ⟨_, rfl⟩
              obtain ⟨c, hc⟩ : ∃ c, c = a ^^^ b := ⟨_, rfl⟩
              have hxo := axor a b
              rw [← hc] at hxo
              have hec : E[4 * i + r]? = some c := by
                rw [show 4 * i + r = 16 + 4 * n + r from by omega, P1.out n r (by omega) hlt4, hc, ha, hb, HUW.out, HT.out]
              have c0 := ix.cell (i := q * 4 + r) (c := a) (by
                rw [mixL_get _ _ _ _ (by omega), if_pos (by omega), ha, show q * 4 + r = 4 * n + r from by omega]
                exact getD_some (by omega))
              have c1 := iu.cell (i := r) (c := b) (by rw [hb]; exact getD_some (by omega))
              obtain ⟨v, hv⟩ : ∃ v, (mixL E Z (4 * i + r))[i * 4 + r]? = some v := ⟨_, getD_some (by rw [mixL_len _ _ _ (by omega)]; omega)⟩
              have c2 := ix.cell hv
              have hfz := ix.frozen (i * 4 + r)
              have fin : ∀ W', W' = wr.setCell ⟨w.heap.size + 1, i * 4 + r, none⟩ (bv c) → Arr W' (w.heap.size + 1) 28 (mixL E Z (4 * i + (r + 1))) ∧ Arr W' wo.heap.size 26 U ∧ Arr W' w.heap.size 28 Z ∧ Arr W' w1.heap.size 29 BT ∧ Below w.heap.size w W' := fun W' h => by
                subst h
                have h := ix.set (i * 4 + r) c
                rw [show i * 4 + r = 4 * i + r from by omega, mixL_set (by omega) hec] at h
                exact ⟨by rw [show i * 4 + r = 4 * i + r from by omega]; exact h, iu.other _ (by simp; omega), iz.other _ (by simp), ib.other _ (by simp; omega), iw.setCell (by simp) _⟩
              have HFin := Lib.hid fin
              clear ix iu iz ib iw hv fin ha hb hc hec hq hn
              go_wp2_with fail
              refine wp_region_tailN2 14 (Cells3 ⟨w.heap.size + 1, q * 4 + r, none⟩ ⟨wo.heap.size, r, none⟩ ⟨w.heap.size + 1, i * 4 + r, none⟩ (bv a) (bv b) (bv v) wr.drew) (by kernel_rfl) (by kernel_rfl) (by kernel_rfl) ⟨c0, c1, c2, rfl⟩ ?_
              simp only [List.take_succ_cons, List.take_zero, List.drop_succ_cons, List.drop_zero]
              repeat (first
                | (refine text_skip (by rfl) ?_; simp only [Act.put, List.setIfInBounds_toArray, List.set_cons_zero, List.set_cons_succ])
                | (refine text_pure (v := ?_) (by rfl) (fun wx hS => ?_) ?_; rotate_left; (go_simp; with_reducible exact rfl); simp only [Act.put, List.setIfInBounds_toArray, List.set_cons_zero, List.set_cons_succ]))
              refine text_nil (fun wx hS => ?_)
              obtain ⟨_, _, _, rfl⟩ := hS
              go_wp2_with fail
              obtain ⟨f1, f2, f3, f4, f5⟩ := HFin.out _ rfl
              go_roundw
              case rel => exact ⟨r + 1, by omega, by go_num, f1.drew, f2.drew, f3.drew, f4.drew, f5.drew⟩
              case measure => simp [intOf]; omega
            · have hr4 : r = 4 := by omega
              subst hr4
              have IX := Lib.hid ix
              have IZ := Lib.hid iz
              have IB := Lib.hid ib
              have IW := Lib.hid iw
              clear ix iu iz ib iw
              go_wp2_with fail
              go_roundw
              case rel => exact ⟨i + 1, by omega, by go_num, by rw [HPW2.out], IX.out, IZ.out, IB.out, IW.out⟩
              case measure => simp [intOf]; omega
    · have hi44 : i = 44 := by omega
      subst hi44
      have hX1 := hX.out
      rw [mixL_end _ _ _ (by omega) (by omega)] at hX1
      have hX2 := Lib.hid hX1
      have hZ3 : Hid (Arr (wo.setRow w.heap.size (bvs E)) w.heap.size 28 E) := Lib.hid (hZI.out.setRow)
      have hW3 := Lib.hid (below_setRow hBW.out (Nat.le_refl _) (bvs E))
      have HZE : Hid ((Try.prog.info? 28).map (·.size) = some E.length) := Lib.hid (by rw [hEl]; exact HZS.out)
      clear hX1
      go_wp2_with (first
        | (refine wpList_load_arr rfl 28 _ rfl (w.heap.size + 1) 28 E 44 26 rfl hX2.out Try.underlying28 HZE.out ?_)
        | (refine wpList_store_arr rfl 28 _ _ rfl w.heap.size 28 Z E rfl rfl hZI.out (by omega) HZE.out ?_))
      refine bodyPost_ret (v := .agg (bvs E)) (results_cell_row Try.results34 _ _ w.heap.size 28 (bvs E) (0, 0) _ rfl hZ3.out Try.underlying28 rfl (by rw [bvs_size]; exact HZE.out)) rfl ⟨rfl, hW3.out⟩
end Go.Proofs.Ytkbidgonjnlkmaa

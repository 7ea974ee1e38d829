/-
  AesMade returns true for every pair of texts. No condition.
-/
import Derived.Test.YtkbidgonjnlkmaaAliveA
namespace Go.Proofs.Ytkbidgonjnlkmaa
open Go.RowKit Go.ChangeShapes Go.WideShapes Go.ChangeAt

set_option maxRecDepth 20000 in
theorem zero_ciph : (Try.prog.info? 31).map (fun i => (i.zero, i.size)) = some (some (.agg (Value.bool false :: (List.replicate 432 (0 : UInt8)).map bv).toArray), 433) := by kernel_rfl

set_option maxRecDepth 20000 in
set_option maxHeartbeats 3200000 in
theorem made_law (key s : ByteArray) (w : World) : Calls Try.prog 3 #[.string key, .string s] w fun e w' => e = .returned (.bool true) ∧ Below w.heap.size w w' := by
  obtain ⟨hzv, _⟩ := zero_of_info zero_ciph
  obtain ⟨Z, hZ⟩ : ∃ Z, Z = (Value.bool false :: (List.replicate 432 (0 : UInt8)).map bv).toArray := ⟨_, rfl⟩
  have hZ0 : Z[0]? = some (.bool false) := by rw [hZ]; rfl
  rw [← hZ] at hzv
  clear hZ
  by_cases hk : key.size = 16
  · have HN := Lib.hid (fun w => new_any key hk w)
    have hkl : key.data.toList.length = 16 := by simp [hk]
    obtain ⟨E, hE⟩ : ∃ E, E = exL key.data.toList 40 := ⟨_, rfl⟩
    have hEl : E.length = 176 := by rw [hE, exL_len _ hkl]
    rw [← hE] at HN
    by_cases hs : s.size = 16
    · have HE := Lib.hid (fun w => encrypt_any key s hk hs w)
      have HC := Lib.hid (fun k w hc => cenc_any k E boxT hEl boxT_len s hs w hc)
      unfold encV at HE
      rw [← hE] at HE
      generalize (⟨(encR E boxT s.data.toList 10).toArray⟩ : ByteArray) = V at *
      clear hE
      go_enter Try.func3, Try.ntmps3
      go_wp2_with fail
      refine (HN.out _).mono ?_
      rintro e w1 ⟨k, rfl, hk1, hc1, hb1⟩
      have hc2 : Hid ((w1.alloc (.cells Z 31)).cell? ⟨w1.heap.size, 0, none⟩ = some (.bool false)) := Lib.hid (by rw [cell_of_row _ w1.heap.size 0 _ _ (0, 0) (heap_alloc_new w1 _)]; exact hZ0)
      have hkl1 := hc1.lt
      have HC2 : Hid (Ciph (w1.alloc (.cells Z 31)) k E boxT) := Lib.hid (hc1.below (bnew _ _) hkl1)
      have hb0 : Below w1.heap.size w1 (w1.alloc (.cells Z 31)) := bnew _ _
      have hsz0 : (w1.alloc (.cells Z 31)).heap.size = w1.heap.size + 1 := by simp
      obtain ⟨W2, hW2⟩ : ∃ W, W = w1.alloc (.cells Z 31) := ⟨_, rfl⟩
      have HW2 := Lib.hid hW2
      clear hc1
      go_upto_region 3 with (fail)
      rw [← HW2.out] at hc2 hb0 hsz0 HC2 ⊢
      clear hW2 HW2 hzv
      go_wp2_with fail
      refine (HE.out _).mono ?_
      rintro e w3 ⟨rfl, hb3⟩
      have HC3 := Lib.hid (HC2.out.below hb3 (by omega))
      go_wp2_with fail
      refine (HC.out k w3 HC3.out).mono ?_
      rintro e w4 ⟨rfl, hb4⟩
      have hc4 : w4.cell? ⟨w1.heap.size, 0, none⟩ = some (.bool false) := by
        rw [← hc2.out]
        simp only [World.cell?]
        rw [hb4.block _ (by have := hb3.size; omega), hb3.block _ (by omega)]
      have HC4 := Lib.hid hc4
      clear hc4
      go_wp2_with fail
      refine (cenc_none w1.heap.size s w4 (by have := hb3.size; have := hb4.size; omega) HC4.out).mono ?_
      rintro e w5 ⟨rfl, hb5⟩
      go_wp2_with (go_at_call 15; (with_reducible refine (aes_alive _).mono ?_); rintro e w6 ⟨rfl, hb6⟩)
      go_ret
      refine ⟨rfl, ?_⟩
      have t2 := bthen2 hb1 hb0 hb1.size
      have t3 := bthen2 t2 hb3 t2.size
      have t4 := bthen2 t3 hb4 t3.size
      have t5 := bthen2 t4 hb5 t4.size
      exact bthen2 t5 hb6 t5.size
    · have HE := Lib.hid (fun w => encrypt_bad key s (.inr hs) w)
      have HC := Lib.hid (fun k w hc => cenc_bad k E boxT s hs w hc)
      clear hE
      go_enter Try.func3, Try.ntmps3
      go_wp2_with fail
      refine (HN.out _).mono ?_
      rintro e w1 ⟨k, rfl, hk1, hc1, hb1⟩
      have hc2 : Hid ((w1.alloc (.cells Z 31)).cell? ⟨w1.heap.size, 0, none⟩ = some (.bool false)) := Lib.hid (by rw [cell_of_row _ w1.heap.size 0 _ _ (0, 0) (heap_alloc_new w1 _)]; exact hZ0)
      have hkl1 := hc1.lt
      have HC2 : Hid (Ciph (w1.alloc (.cells Z 31)) k E boxT) := Lib.hid (hc1.below (bnew _ _) hkl1)
      have hb0 : Below w1.heap.size w1 (w1.alloc (.cells Z 31)) := bnew _ _
      have hsz0 : (w1.alloc (.cells Z 31)).heap.size = w1.heap.size + 1 := by simp
      obtain ⟨W2, hW2⟩ : ∃ W, W = w1.alloc (.cells Z 31) := ⟨_, rfl⟩
      have HW2 := Lib.hid hW2
      clear hc1
      go_upto_region 3 with (fail)
      rw [← HW2.out] at hc2 hb0 hsz0 HC2 ⊢
      clear hW2 HW2 hzv
      go_wp2_with fail
      refine (HE.out _).mono ?_
      rintro e w3 ⟨rfl, hb3⟩
      have HC3 := Lib.hid (HC2.out.below hb3 (by omega))
      go_wp2_with fail
      refine (HC.out k w3 HC3.out).mono ?_
      rintro e w4 ⟨rfl, hb4⟩
      have hc4 : w4.cell? ⟨w1.heap.size, 0, none⟩ = some (.bool false) := by
        rw [← hc2.out]
        simp only [World.cell?]
        rw [hb4.block _ (by have := hb3.size; omega), hb3.block _ (by omega)]
      have HC4 := Lib.hid hc4
      clear hc4
      go_wp2_with fail
      refine (cenc_none w1.heap.size s w4 (by have := hb3.size; have := hb4.size; omega) HC4.out).mono ?_
      rintro e w5 ⟨rfl, hb5⟩
      go_wp2_with (go_at_call 15; (with_reducible refine (aes_alive _).mono ?_); rintro e w6 ⟨rfl, hb6⟩)
      go_ret
      refine ⟨rfl, ?_⟩
      have t2 := bthen2 hb1 hb0 hb1.size
      have t3 := bthen2 t2 hb3 t2.size
      have t4 := bthen2 t3 hb4 t3.size
      have t5 := bthen2 t4 hb5 t4.size
      exact bthen2 t5 hb6 t5.size
  · have HN := Lib.hid (fun w => new_bad key hk w)
    have HE := Lib.hid (fun w => encrypt_bad key s (.inl hk) w)
    have hk' : ¬ (key.size : Int) = 16 := by omega
    have hk2 : ((key.size : Int) != 16) = true := by simp only [bne_iff_ne, ne_eq]; exact hk'
    go_enter Try.func3, Try.ntmps3
    go_wp2_with fail
    refine (HN.out _).mono ?_
    rintro e w1 ⟨rfl, rfl⟩
    have hc2 : Hid ((w.alloc (.cells Z 31)).cell? ⟨w.heap.size, 0, none⟩ = some (.bool false)) := Lib.hid (by rw [cell_of_row _ w.heap.size 0 _ _ (0, 0) (heap_alloc_new w _)]; exact hZ0)
    have hb0 : Below w.heap.size w (w.alloc (.cells Z 31)) := bnew _ _
    have hsz0 : (w.alloc (.cells Z 31)).heap.size = w.heap.size + 1 := by simp
    obtain ⟨W2, hW2⟩ : ∃ W, W = w.alloc (.cells Z 31) := ⟨_, rfl⟩
    go_upto_region 3 with (fail)
    rw [← hW2] at hc2 hb0 hsz0 ⊢
    clear hW2 hzv
    go_wp2_with fail
    refine (HE.out _).mono ?_
    rintro e w3 ⟨rfl, hb3⟩
    go_wp2_with fail
    refine (cenc_nil s _).mono ?_
    rintro e w4 ⟨rfl, hb4⟩
    have hc4 : w4.cell? ⟨w.heap.size, 0, none⟩ = some (.bool false) := by
      rw [← hc2.out]
      simp only [World.cell?]
      rw [hb4.block _ (by have := hb3.size; omega), hb3.block _ (by omega)]
    have HC4 := Lib.hid hc4
    clear hc4
    go_wp2_with fail
    refine (cenc_none w.heap.size s w4 (by have := hb3.size; have := hb4.size; omega) HC4.out).mono ?_
    rintro e w5 ⟨rfl, hb5⟩
    go_wp2_with (go_at_call 15; (with_reducible refine (aes_alive _).mono ?_); rintro e w6 ⟨rfl, hb6⟩)
    go_ret
    refine ⟨rfl, ?_⟩
    have t3 := bthen2 hb0 hb3 hb0.size
    have t4 := bthen2 t3 hb4 t3.size
    have t5 := bthen2 t4 hb5 t4.size
    exact bthen2 t5 hb6 t5.size

set_option maxRecDepth 100000 in
theorem aesMade_lifted (os : Os) (started : os.Started) (H : Type) (enc : TypeId × Value → H) :
    ReturnsInHanded {} Try.checked os 3 .any (Rows.aesMadeSpec.pre6 enc Try.prog Try.f3 [] false) (Rows.aesMadeSpec.post enc Try.prog Try.f3 false true false false) := by
  refine LawKit.lifted (C := Try.checked) (tb := 4) own started (by kernel_rfl) Try.func3
    (ChangeSpec.witness6 (enc := enc) (C := Try.checked) false ⟨#[], #[.string ⟨#[]⟩, .string ⟨#[]⟩], []⟩ 8 (by kernel_rfl) (by kernel_rfl) (by kernel_rfl) (by kernel_rfl))
    laidOut (by kernel_rfl) rfl (fun ds h => by match ds, h with | [_, _], _ => rfl) rfl Try.underlying4 ?_
  intro W base args ds ps hval0 hA0 hlt hsz
  have hval : ∀ (j : Nat) t v, Try.f3.params[j]? = some t → args[j]? = some v → Value.okWide Try.prog W .any base t v := hval0
  have hA : DataW.TrodAll enc Try.prog W 0 (fun _ => true) true Try.f3.params.toList args.toList ds ps := hA0
  rw [Try.params3] at hA hval
  clear hval0 hA0
  obtain ⟨v0, vs0, d0, ds0, p0, q0, hargs, rfl, rfl, t0, r0⟩ := trodAll_cons hA
  obtain ⟨v1, vs1, d1, ds1, p1, q1, rfl, rfl, rfl, t1, r1⟩ := trodAll_cons r0
  obtain ⟨rfl, rfl, rfl⟩ := trodAll_nil r1
  obtain rfl : args = #[v0, v1] := by cases args; simp_all
  obtain ⟨key, rfl, -, -, w_key⟩ := Go.ChangeMaps.open_string Try.underlying9 (hval 0 _ v0 rfl rfl) t0
  obtain ⟨s, rfl, -, -, w_s⟩ := Go.ChangeMaps.open_string Try.underlying9 (hval 1 _ v1 rfl rfl) t1
  exact made_law key s W

theorem aesMade_holds : Rows.AesMadeSaid :=
  OpenClaim.holds_of_wide 3 Try.f3 rfl rfl rfl rfl rfl rfl rfl ⟨rfl, rfl, rfl, rfl, rfl⟩ rfl rfl rfl rfl rfl (by kernel_rfl) Try.func3 (by kernel_rfl)
    (of_decide_eq_true (by kernel_rfl)) (by unfold Func.isWrapper; first | (rw [if_pos (by decide +kernel)]; kernel_rfl) | (rw [if_neg (by decide +kernel)]; exact ⟨rfl, rfl⟩))
    (fun os started H enc _ => aesMade_lifted os started H enc)
#print axioms aesMade_holds

end Go.Proofs.Ytkbidgonjnlkmaa

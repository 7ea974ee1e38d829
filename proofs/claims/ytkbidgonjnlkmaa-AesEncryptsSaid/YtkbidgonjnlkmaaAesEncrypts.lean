/-
  AesEncrypts returns true for every pair of texts. No condition.
-/
import Derived.Test.YtkbidgonjnlkmaaExpand
import Derived.Test.YtkbidgonjnlkmaaAliveA
namespace Go.Proofs.Ytkbidgonjnlkmaa
open Go.RowKit Go.ChangeShapes Go.WideShapes Go.ChangeAt

set_option maxRecDepth 100000 in
set_option maxHeartbeats 3200000 in
theorem encs_good (key s : ByteArray) (hk : key.size = 16) (w : World) : Calls Try.prog 6 #[.string key, .string s] w fun e w' => e = .returned (.bool true) ∧ Below w.heap.size w w' := by
  have hkl : key.data.toList.length = 16 := by simp [hk]
  have h1 : ((key.size : Int) != 16) = false := by simp; omega
  have H1 := Lib.hid (fun w => aexpand_any key hk w)
  obtain ⟨L, hL⟩ : ∃ L, L = exL key.data.toList 40 := ⟨_, rfl⟩
  have hLl : L.length = 176 := by rw [hL]; exact exL_len _ hkl 40
  obtain ⟨BX, hBX⟩ : ∃ BX, BX = boxT := ⟨_, rfl⟩
  have HRE : Hid (∀ (gb cb : Nat) w, IC gb BX w → Calls Try.prog 24 #[.string key, .slice (some ⟨gb, 0, none⟩) 256 cb] w fun e w' => (∃ v, e = .returned v ∧ ISl w.heap.size v L w') ∧ Below w.heap.size w w') := Lib.hid fun gb cb w hb => by rw [hL]; exact rexpand_any key hk gb cb w (by rw [← hBX]; exact hb)
  have HR : Hid (∀ w, Calls Try.prog 20 #[] w fun e w' => e = .returned (.slice (some ⟨w.heap.size, 0, none⟩) 256 256) ∧ w.alloc (.cells (BX.map iv).toArray 3) = w') := Lib.hid fun w => by rw [hBX]; exact rboxes_any w
  rw [← hL] at H1
  obtain ⟨V, f, H2, hVf⟩ : ∃ (V : ByteArray) (f : Int), Hid (∀ w, Calls Try.prog 13 #[.string key, .string s] w fun e w' => e = .returned (.tuple #[.string V, .int .i64 f]) ∧ Below w.heap.size w w') ∧
      ((s.size = 16 ∧ f = 0 ∧ ∀ w, Calls Try.prog 25 #[.string key, .string s] w fun e w' => e = .returned (.string V) ∧ Below w.heap.size w w') ∨ (s.size ≠ 16 ∧ f = 2 ∧ V = ⟨#[]⟩)) := by
    by_cases hs : s.size = 16
    · exact ⟨_, 0, Lib.hid fun w => encrypt_any key s hk hs w, .inl ⟨hs, rfl, fun w => rencrypt_any key s hk hs w⟩⟩
    · exact ⟨_, 2, Lib.hid fun w => encrypt_bad key s (.inr hs) w, .inr ⟨hs, rfl, rfl⟩⟩
  clear hL hBX
  have HVF := Lib.hid hVf
  clear hVf
  go_enter Try.func6, Try.ntmps6
  go_wp2_with fail
  refine (H1.out w).mono ?_
  rintro e1 w1 ⟨rfl, hb1⟩
  go_wp2_with fail
  refine (H2.out w1).mono ?_
  rintro e2 w2 ⟨rfl, hb2⟩
  have b2 := bthen hb1 hb2
  clear hb1 hb2
  go_wp2_with fail
  refine (HR.out w2).mono ?_
  rintro e3 w3 ⟨rfl, hw3⟩
  have hIC1 : IC w2.heap.size BX w3 := by rw [← hw3]; exact IC.lit w2 BX
  have b3 : Below w.heap.size w w3 := by rw [← hw3]; exact b2.alloc b2.size _
  obtain ⟨gb, hgb⟩ : ∃ gb, gb = w2.heap.size := ⟨_, rfl⟩
  rw [← hgb] at hIC1 ⊢
  have HIC1 := Lib.hid hIC1
  clear hw3 hIC1 hgb b2
  go_wp2_with fail
  refine (HRE.out gb 256 w3 HIC1.out).mono ?_
  rintro e4 w4 ⟨⟨v, rfl, hv⟩, hb4⟩
  obtain ⟨gl, cl, rfl, _, hICl⟩ := hv.opened (by omega)
  have b4 := bthen b3 hb4
  have HTX := Lib.hid (rtext_any L gl cl w4 (by omega) hICl)
  rw [hLl] at HTX ⊢
  clear hv hb4 b3 hICl
  go_wp2_with fail
  refine HTX.out.mono ?_
  rintro e5 w5 ⟨rfl, hb5⟩
  have b5 := bthen b4 hb5
  have hne : ((⟨L.toArray⟩ : ByteArray).toList != (⟨L.toArray⟩ : ByteArray).toList) = false := by simp
  have heq : ((⟨L.toArray⟩ : ByteArray).toList == (⟨L.toArray⟩ : ByteArray).toList) = true := by simp
  clear hb5 b4 HTX
  rcases HVF.out with ⟨hs, rfl, hR⟩ | ⟨hs, rfl, rfl⟩
  · have h2 : ((s.size : Int) != 16) = false := by simp; omega
    have HRR := Lib.hid hR
    have hvv : (V.toList == V.toList) = true := by simp
    clear hR HVF
    go_wp2_with fail
    refine (HRR.out w5).mono ?_
    rintro e6 w6 ⟨rfl, hb6⟩
    have b6 := bthen b5 hb6
    go_wp2_with (go_at_call 15; (with_reducible refine (aes_alive _).mono ?_); rintro e7 w7 ⟨rfl, hb7⟩)
    go_ret
    exact ⟨rfl, bthen b6 hb7⟩
  · have h2 : ((s.size : Int) != 16) = true := by simp; omega
    clear HVF
    go_wp2_with (go_at_call 15; (with_reducible refine (aes_alive _).mono ?_); rintro e7 w7 ⟨rfl, hb7⟩)
    go_ret
    exact ⟨rfl, bthen b5 hb7⟩
set_option maxRecDepth 100000 in
theorem encs_bad (key s : ByteArray) (hk : key.size ≠ 16) (w : World) : Calls Try.prog 6 #[.string key, .string s] w fun e w' => e = .returned (.bool true) ∧ Below w.heap.size w w' := by
  have h1 : ((key.size : Int) != 16) = true := by simp; omega
  have H1 := Lib.hid (fun w => aexpand_bad key hk w)
  have H2 := Lib.hid (fun w => encrypt_bad key s (.inl hk) w)
  go_enter Try.func6, Try.ntmps6
  go_wp2_with fail
  refine (H1.out w).mono ?_
  rintro e1 w1 ⟨rfl, rfl⟩
  go_wp2_with fail
  refine (H2.out w).mono ?_
  rintro e2 w2 ⟨rfl, hb2⟩
  go_wp2_with (go_at_call 15; (with_reducible refine (aes_alive _).mono ?_); rintro e7 w7 ⟨rfl, hb7⟩)
  go_ret
  exact ⟨rfl, bthen hb2 hb7⟩
theorem encs_law (key s : ByteArray) (w : World) : Calls Try.prog 6 #[.string key, .string s] w fun e w' => e = .returned (.bool true) ∧ Below w.heap.size w w' := by
  by_cases hk : key.size = 16
  · exact encs_good key s hk w
  · exact encs_bad key s hk w

set_option maxRecDepth 100000 in
theorem aesEncrypts_lifted (os : Os) (started : os.Started) (H : Type) (enc : TypeId × Value → H) :
    ReturnsInHanded {} Try.checked os 6 .any (Rows.aesEncryptsSpec.pre6 enc Try.prog Try.f6 [] false) (Rows.aesEncryptsSpec.post enc Try.prog Try.f6 false true false false) := by
  refine LawKit.lifted (C := Try.checked) (tb := 4) own started (by kernel_rfl) Try.func6
    (ChangeSpec.witness6 (enc := enc) (C := Try.checked) false ⟨#[], #[.string ⟨#[]⟩, .string ⟨#[]⟩], []⟩ 8 (by kernel_rfl) (by kernel_rfl) (by kernel_rfl) (by kernel_rfl))
    laidOut (by kernel_rfl) rfl (fun ds h => by match ds, h with | [_, _], _ => rfl) rfl Try.underlying4 ?_
  intro W base args ds ps hval0 hA0 hlt hsz
  have hval : ∀ (j : Nat) t v, Try.f6.params[j]? = some t → args[j]? = some v → Value.okWide Try.prog W .any base t v := hval0
  have hA : DataW.TrodAll enc Try.prog W 0 (fun _ => true) true Try.f6.params.toList args.toList ds ps := hA0
  rw [Try.params6] at hA hval
  clear hval0 hA0
  obtain ⟨v0, vs0, d0, ds0, p0, q0, hargs, rfl, rfl, t0, r0⟩ := trodAll_cons hA
  obtain ⟨v1, vs1, d1, ds1, p1, q1, rfl, rfl, rfl, t1, r1⟩ := trodAll_cons r0
  obtain ⟨rfl, rfl, rfl⟩ := trodAll_nil r1
  obtain rfl : args = #[v0, v1] := by cases args; simp_all
  obtain ⟨key, rfl, -, -, w_key⟩ := Go.ChangeMaps.open_string Try.underlying9 (hval 0 _ v0 rfl rfl) t0
  obtain ⟨s, rfl, -, -, w_s⟩ := Go.ChangeMaps.open_string Try.underlying9 (hval 1 _ v1 rfl rfl) t1
  exact encs_law key s W

theorem aesEncrypts_holds : Rows.AesEncryptsSaid :=
  OpenClaim.holds_of_wide 6 Try.f6 rfl rfl rfl rfl rfl rfl rfl ⟨rfl, rfl, rfl, rfl, rfl⟩ rfl rfl rfl rfl rfl (by kernel_rfl) Try.func6 (by kernel_rfl)
    (of_decide_eq_true (by kernel_rfl)) (by unfold Func.isWrapper; first | (rw [if_pos (by decide +kernel)]; kernel_rfl) | (rw [if_neg (by decide +kernel)]; exact ⟨rfl, rfl⟩))
    (fun os started H enc _ => aesEncrypts_lifted os started H enc)
#print axioms aesEncrypts_holds

end Go.Proofs.Ytkbidgonjnlkmaa

/-
  AesBack returns true for every pair of texts. No condition.
-/
import Derived.Test.YtkbidgonjnlkmaaInv
namespace Go.Proofs.Ytkbidgonjnlkmaa
open Go.RowKit Go.ChangeShapes Go.WideShapes Go.ChangeAt

theorem back_good (key s : ByteArray) (hk : key.size = 16) (hs : s.size = 16) (w : World) : Calls Try.prog 7 #[.string key, .string s] w fun e w' => e = .returned (.bool true) ∧ Below w.heap.size w w' := by
  have hsl : s.data.toList.length = 16 := by simp [hs]
  obtain ⟨V, hV⟩ : ∃ V : ByteArray, V = ⟨(encV key.data.toList s.data.toList).toArray⟩ := ⟨_, rfl⟩
  obtain ⟨U, hU⟩ : ∃ U : ByteArray, U = ⟨(decV key.data.toList s.data.toList).toArray⟩ := ⟨_, rfl⟩
  have hVs : V.size = 16 := by rw [hV]; exact encV_len _ _
  have hUs : U.size = 16 := by rw [hU]; exact decV_len _ _
  have hse : (⟨s.data.toList.toArray⟩ : ByteArray) = s := by cases s; rfl
  have HE1 : Hid (∀ w, Calls Try.prog 13 #[.string key, .string s] w fun e w' => e = .returned (.tuple #[.string V, .int .i64 0]) ∧ Below w.heap.size w w') := Lib.hid fun w => by rw [hV]; exact encrypt_any key s hk hs w
  have HD1 : Hid (∀ w, Calls Try.prog 26 #[.string key, .string s] w fun e w' => e = .returned (.tuple #[.string U, .int .i64 0]) ∧ Below w.heap.size w w') := Lib.hid fun w => by rw [hU]; exact decrypt_any key s hk hs w
  have HD2 : Hid (∀ w, Calls Try.prog 26 #[.string key, .string V] w fun e w' => e = .returned (.tuple #[.string s, .int .i64 0]) ∧ Below w.heap.size w w') := Lib.hid fun w => by
    have h := decrypt_any key V hk hVs w
    rw [show V.data.toList = encV key.data.toList s.data.toList from by rw [hV], dec_enc _ _ hsl, hse] at h
    exact h
  have HE2 : Hid (∀ w, Calls Try.prog 13 #[.string key, .string U] w fun e w' => e = .returned (.tuple #[.string s, .int .i64 0]) ∧ Below w.heap.size w w') := Lib.hid fun w => by
    have h := encrypt_any key U hk hUs w
    rw [show U.data.toList = decV key.data.toList s.data.toList from by rw [hU], enc_dec _ _ hsl, hse] at h
    exact h
  clear hV hU hse hsl
  go_enter Try.func7, Try.ntmps7
  go_wp2_with fail
  refine (HE1.out _).mono ?_
  rintro e w1 ⟨rfl, hb1⟩
  go_wp2_with fail
  refine (HD1.out _).mono ?_
  rintro e w2 ⟨rfl, hb2⟩
  go_wp2_with fail
  refine (HD2.out _).mono ?_
  rintro e w3 ⟨rfl, hb3⟩
  go_wp2_with fail
  refine (HE2.out _).mono ?_
  rintro e w4 ⟨rfl, hb4⟩
  have t2 := bthen2 hb1 hb2 hb1.size
  have t3 := bthen2 t2 hb3 t2.size
  have t4 := bthen2 t3 hb4 t3.size
  clear hb1 hb2 hb3 hb4 t2 t3
  go_wp2_with (go_at_call 15; (with_reducible refine (aes_alive _).mono ?_); rintro e w5 ⟨rfl, hb5⟩)
  go_ret
  exact ⟨rfl, bthen2 t4 hb5 t4.size⟩
theorem back_bad (key s : ByteArray) (h : key.size ≠ 16 ∨ s.size ≠ 16) (w : World) : Calls Try.prog 7 #[.string key, .string s] w fun e w' => e = .returned (.bool true) ∧ Below w.heap.size w w' := by
  have HE := Lib.hid fun w => encrypt_bad key s h w
  have HD := Lib.hid fun w => decrypt_bad key s h w
  by_cases hk : key.size = 16
  · have h1 : (key.size : Int) = 16 := by omega
    have h2 : ¬ (s.size : Int) = 16 := by omega
    have h3 : ((s.size : Int) != 16) = true := by simp only [bne_iff_ne, ne_eq]; exact h2
    go_enter Try.func7, Try.ntmps7
    go_wp2_with fail
    refine (HE.out _).mono ?_
    rintro e w1 ⟨rfl, hb1⟩
    go_wp2_with fail
    refine (HD.out _).mono ?_
    rintro e w2 ⟨rfl, rfl⟩
    go_wp2_with (go_at_call 15; (with_reducible refine (aes_alive _).mono ?_); rintro e w5 ⟨rfl, hb5⟩)
    go_ret
    exact ⟨rfl, bthen2 hb1 hb5 hb1.size⟩
  · have h2 : ¬ (key.size : Int) = 16 := by omega
    have h3 : ((key.size : Int) != 16) = true := by simp only [bne_iff_ne, ne_eq]; exact h2
    go_enter Try.func7, Try.ntmps7
    go_wp2_with fail
    refine (HE.out _).mono ?_
    rintro e w1 ⟨rfl, hb1⟩
    go_wp2_with fail
    refine (HD.out _).mono ?_
    rintro e w2 ⟨rfl, rfl⟩
    go_wp2_with (go_at_call 15; (with_reducible refine (aes_alive _).mono ?_); rintro e w5 ⟨rfl, hb5⟩)
    go_ret
    exact ⟨rfl, bthen2 hb1 hb5 hb1.size⟩
theorem back_law (key s : ByteArray) (w : World) : Calls Try.prog 7 #[.string key, .string s] w fun e w' => e = .returned (.bool true) ∧ Below w.heap.size w w' := by
  by_cases hk : key.size = 16
  · by_cases hs : s.size = 16
    · exact back_good key s hk hs w
    · exact back_bad key s (.inr hs) w
  · exact back_bad key s (.inl hk) w

set_option maxRecDepth 100000 in
theorem aesBack_lifted (os : Os) (started : os.Started) (H : Type) (enc : TypeId × Value → H) :
    ReturnsInHanded {} Try.checked os 7 .any (Rows.aesBackSpec.pre6 enc Try.prog Try.f7 [] false) (Rows.aesBackSpec.post enc Try.prog Try.f7 false true false false) := by
  refine LawKit.lifted (C := Try.checked) (tb := 4) own started (by kernel_rfl) Try.func7
    (ChangeSpec.witness6 (enc := enc) (C := Try.checked) false ⟨#[], #[.string ⟨#[]⟩, .string ⟨#[]⟩], []⟩ 8 (by kernel_rfl) (by kernel_rfl) (by kernel_rfl) (by kernel_rfl))
    laidOut (by kernel_rfl) rfl (fun ds h => by match ds, h with | [_, _], _ => rfl) rfl Try.underlying4 ?_
  intro W base args ds ps hval0 hA0 hlt hsz
  have hval : ∀ (j : Nat) t v, Try.f7.params[j]? = some t → args[j]? = some v → Value.okWide Try.prog W .any base t v := hval0
  have hA : DataW.TrodAll enc Try.prog W 0 (fun _ => true) true Try.f7.params.toList args.toList ds ps := hA0
  rw [Try.params7] at hA hval
  clear hval0 hA0
  obtain ⟨v0, vs0, d0, ds0, p0, q0, hargs, rfl, rfl, t0, r0⟩ := trodAll_cons hA
  obtain ⟨v1, vs1, d1, ds1, p1, q1, rfl, rfl, rfl, t1, r1⟩ := trodAll_cons r0
  obtain ⟨rfl, rfl, rfl⟩ := trodAll_nil r1
  obtain rfl : args = #[v0, v1] := by cases args; simp_all
  obtain ⟨key, rfl, -, -, w_key⟩ := Go.ChangeMaps.open_string Try.underlying9 (hval 0 _ v0 rfl rfl) t0
  obtain ⟨s, rfl, -, -, w_s⟩ := Go.ChangeMaps.open_string Try.underlying9 (hval 1 _ v1 rfl rfl) t1
  exact back_law key s W

theorem aesBack_holds : Rows.AesBackSaid :=
  OpenClaim.holds_of_wide 7 Try.f7 rfl rfl rfl rfl rfl rfl rfl ⟨rfl, rfl, rfl, rfl, rfl⟩ rfl rfl rfl rfl rfl (by kernel_rfl) Try.func7 (by kernel_rfl)
    (of_decide_eq_true (by kernel_rfl)) (by unfold Func.isWrapper; first | (rw [if_pos (by decide +kernel)]; kernel_rfl) | (rw [if_neg (by decide +kernel)]; exact ⟨rfl, rfl⟩))
    (fun os started H enc _ => aesBack_lifted os started H enc)
#print axioms aesBack_holds

end Go.Proofs.Ytkbidgonjnlkmaa

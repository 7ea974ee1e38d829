/-
  CtrHides returns true for every key, every two numbers and every text. No condition.
-/
import Derived.Test.YtkbidgonjnlkmaaXor
import Derived.Test.YtkbidgonjnlkmaaCtrStreams
namespace Go.Proofs.Ytkbidgonjnlkmaa
open Go.RowKit Go.ChangeShapes Go.WideShapes Go.ChangeAt

set_option maxRecDepth 100000 in
set_option maxHeartbeats 3200000 in
theorem hides_long (key s : ByteArray) (e p : Int) (hs : 100 < s.size) (w : World) :
    Calls Try.prog 11 #[.string key, .int .i64 e, .int .i64 p, .string s] w fun r w' => r = .returned (.bool true) ∧ Below w.heap.size w w' := by
  have h1 : (100 : Int) < (s.size : Int) := by omega
  go_enter Try.func11, Try.ntmps11
  go_wp2_with (go_at_call 28; (with_reducible refine (ctr_alive _).mono ?_); rintro e5 w5 ⟨rfl, hb5⟩)
  go_ret
  exact ⟨rfl, hb5⟩
set_option maxRecDepth 100000 in
set_option maxHeartbeats 3200000 in
theorem hides_law (key s : ByteArray) (e p : Int) (he : e ≤ 9223372036854775807) (hp : p ≤ 9223372036854775807) (w : World) :
    Calls Try.prog 11 #[.string key, .int .i64 e, .int .i64 p, .string s] w fun r w' => r = .returned (.bool true) ∧ Below w.heap.size w w' := by
  by_cases hs : 100 < s.size
  · exact hides_long key s e p hs w
  · have h1 : ¬ (100 : Int) < (s.size : Int) := by omega
    by_cases h : key.size = 16 ∧ inW e ∧ inW p
    · obtain ⟨hk, g1, g2⟩ := h
      unfold inW at g1 g2
      obtain ⟨e, rfl⟩ : ∃ k : Nat, e = (k : Int) := ⟨e.toNat, by omega⟩
      obtain ⟨p, rfl⟩ : ∃ k : Nat, p = (k : Int) := ⟨p.toNat, by omega⟩
      obtain ⟨t, ht⟩ : ∃ t : ByteArray, t = ⟨(stV key.data.toList e p 0 s.size).toArray⟩ := ⟨_, rfl⟩
      have hts : t.size = s.size := by rw [ht]; show (stV _ _ _ _ _).toArray.size = _; rw [List.size_toArray, stV_len]
      have HS : Hid (∀ w, Calls Try.prog 30 #[.string key, .int .i64 (e : Int), .int .i64 (p : Int), .int .i64 0, .int .i64 (s.size : Int)] w fun r w' => r = .returned (.tuple #[.string t, .int .i64 0]) ∧ Below w.heap.size w w') :=
        Lib.hid fun w => by rw [ht]; exact stream_good key e p 0 s.size hk (by omega) (by omega) (by omega) w
      have HR : Hid (∀ w, Calls Try.prog 31 #[.string key, .int .i64 (e : Int), .int .i64 (p : Int), .int .i64 0, .int .i64 (s.size : Int)] w fun r w' => r = .returned (.tuple #[.string t, .bool true]) ∧ Below w.heap.size w w') :=
        Lib.hid fun w => by rw [ht]; exact rstream_good key e p 0 s.size hk (by omega) (by omega) (by omega) w
      have X1 := Lib.hid (fun w => xor_ok key s t e p (by omega) hts HS w)
      have X2 := Lib.hid (fun w => rxor_ok key s t e p (by omega) hts HR w)
      obtain ⟨a, ha⟩ : ∃ a : ByteArray, a = ⟨(xorL s.data.toList t.data.toList).toArray⟩ := ⟨_, rfl⟩
      have has : a.size = s.size := by rw [ha]; show (xorL _ _).toArray.size = _; rw [List.size_toArray, xorL_len, Array.length_toList]; rfl
      rw [← ha] at X1 X2
      have hback : (⟨(xorL a.data.toList t.data.toList).toArray⟩ : ByteArray) = s := by
        rw [show a.data.toList = xorL s.data.toList t.data.toList from by rw [ha], xorL_back]
      have X3 : Hid (∀ w, Calls Try.prog 32 #[.string key, .int .i64 (e : Int), .int .i64 (p : Int), .string a] w fun r w' => r = .returned (.tuple #[.string s, .int .i64 0]) ∧ Below w.heap.size w w') := Lib.hid fun w => by
        have h := xor_ok key a t e p (by omega) (by omega) (by rw [has]; exact HS) w
        rw [hback] at h
        exact h
      have v1 : (a.toList != a.toList) = false := by simp
      have v2 : (s.toList == s.toList) = true := by simp
      have v3 : ((a.size : Int) == (s.size : Int)) = true := by simp [has]
      have v4 : (a.size : Int) = (s.size : Int) := by omega
      clear HS HR ht hts ha has hback
      go_enter Try.func11, Try.ntmps11
      go_wp2_with fail
      refine (X1.out w).mono ?_
      rintro e1 w1 ⟨rfl, hb1⟩
      go_wp2_with fail
      refine (X2.out w1).mono ?_
      rintro e2 w2 ⟨rfl, hb2⟩
      have b2 := bthen hb1 hb2
      go_wp2_with fail
      refine (X3.out w2).mono ?_
      rintro e3 w3 ⟨rfl, hb3⟩
      have b3 := bthen b2 hb3
      clear hb1 hb2 hb3 b2
      go_wp2_with (go_at_call 28; (with_reducible refine (ctr_alive _).mono ?_); rintro e5 w5 ⟨rfl, hb5⟩)
      go_ret
      exact ⟨rfl, bthen b3 hb5⟩
    · have HS : Hid (∀ w, Calls Try.prog 30 #[.string key, .int .i64 e, .int .i64 p, .int .i64 0, .int .i64 (s.size : Int)] w fun r w' => r = .returned (.tuple #[.string ⟨#[]⟩, .int .i64 2]) ∧ Below w.heap.size w w') :=
        Lib.hid fun w => stream_bad key e p 0 s.size he hp (by omega) (fun hh => h ⟨hh.1, hh.2.1, hh.2.2.1⟩) w
      have HR : Hid (∀ w, Calls Try.prog 31 #[.string key, .int .i64 e, .int .i64 p, .int .i64 0, .int .i64 (s.size : Int)] w fun r w' => r = .returned (.tuple #[.string ⟨#[]⟩, .bool false]) ∧ Below w.heap.size w w') :=
        Lib.hid fun w => rstream_bad key e p 0 s.size he hp (fun hh => h ⟨hh.1, hh.2.1, hh.2.2.1⟩) w
      have X1 := Lib.hid (fun w => xor_no key s e p (by omega) HS w)
      have X2 := Lib.hid (fun w => rxor_no key s e p (by omega) HR w)
      clear HS HR h
      go_enter Try.func11, Try.ntmps11
      go_wp2_with fail
      refine (X1.out w).mono ?_
      rintro e1 w1 ⟨rfl, hb1⟩
      go_wp2_with fail
      refine (X2.out w1).mono ?_
      rintro e2 w2 ⟨rfl, hb2⟩
      have b2 := bthen hb1 hb2
      go_wp2_with (go_at_call 28; (with_reducible refine (ctr_alive _).mono ?_); rintro e5 w5 ⟨rfl, hb5⟩)
      go_ret
      exact ⟨rfl, bthen b2 hb5⟩

set_option maxRecDepth 100000 in
theorem ctrHides_lifted (os : Os) (started : os.Started) (H : Type) (enc : TypeId × Value → H) :
    ReturnsInHanded {} Try.checked os 11 .any (Rows.ctrHidesSpec.pre6 enc Try.prog Try.f11 [] false) (Rows.ctrHidesSpec.post enc Try.prog Try.f11 false true false false) := by
  refine LawKit.lifted (C := Try.checked) (tb := 4) own started (by kernel_rfl) Try.func11
    (ChangeSpec.witness6 (enc := enc) (C := Try.checked) false ⟨#[], #[.string ⟨#[]⟩, .int .i64 0, .int .i64 0, .string ⟨#[]⟩], []⟩ 8 (by kernel_rfl) (by kernel_rfl) (by kernel_rfl) (by kernel_rfl))
    laidOut (by kernel_rfl) rfl (fun ds h => by match ds, h with | [_, _, _, _], _ => rfl) rfl Try.underlying4 ?_
  intro W base args ds ps hval0 hA0 hlt hsz
  have hval : ∀ (j : Nat) t v, Try.f11.params[j]? = some t → args[j]? = some v → Value.okWide Try.prog W .any base t v := hval0
  have hA : DataW.TrodAll enc Try.prog W 0 (fun _ => true) true Try.f11.params.toList args.toList ds ps := hA0
  rw [Try.params11] at hA hval
  clear hval0 hA0
  obtain ⟨v0, vs0, d0, ds0, p0, q0, hargs, rfl, rfl, t0, r0⟩ := trodAll_cons hA
  obtain ⟨v1, vs1, d1, ds1, p1, q1, rfl, rfl, rfl, t1, r1⟩ := trodAll_cons r0
  obtain ⟨v2, vs2, d2, ds2, p2, q2, rfl, rfl, rfl, t2, r2⟩ := trodAll_cons r1
  obtain ⟨v3, vs3, d3, ds3, p3, q3, rfl, rfl, rfl, t3, r3⟩ := trodAll_cons r2
  obtain ⟨rfl, rfl, rfl⟩ := trodAll_nil r3
  obtain rfl : args = #[v0, v1, v2, v3] := by cases args; simp_all
  obtain ⟨key, rfl, -, -, w_key⟩ := Go.ChangeMaps.open_string Try.underlying9 (hval 0 _ v0 rfl rfl) t0
  obtain ⟨a, rfl, -, -, w_a⟩ := open_int Try.underlying3 (hval 1 _ v1 rfl rfl) t1
  obtain ⟨b, rfl, -, -, w_b⟩ := open_int Try.underlying3 (hval 2 _ v2 rfl rfl) t2
  obtain ⟨s, rfl, -, -, w_s⟩ := Go.ChangeMaps.open_string Try.underlying9 (hval 3 _ v3 rfl rfl) t3
  exact hides_law key s a b (int_bd w_a).2 (int_bd w_b).2 W

theorem ctrHides_holds : Rows.CtrHidesSaid :=
  OpenClaim.holds_of_wide 11 Try.f11 rfl rfl rfl rfl rfl rfl rfl ⟨rfl, rfl, rfl, rfl, rfl⟩ rfl rfl rfl rfl rfl (by kernel_rfl) Try.func11 (by kernel_rfl)
    (of_decide_eq_true (by kernel_rfl)) (by unfold Func.isWrapper; first | (rw [if_pos (by decide +kernel)]; kernel_rfl) | (rw [if_neg (by decide +kernel)]; exact ⟨rfl, rfl⟩))
    (fun os started H enc _ => ctrHides_lifted os started H enc)
#print axioms ctrHides_holds

end Go.Proofs.Ytkbidgonjnlkmaa

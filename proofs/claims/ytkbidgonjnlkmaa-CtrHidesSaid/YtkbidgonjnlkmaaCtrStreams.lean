/-
  CtrStreams returns true for every key and every numbers. No condition.
-/
import Derived.Test.YtkbidgonjnlkmaaRCtr
namespace Go.Proofs.Ytkbidgonjnlkmaa
open Go.RowKit Go.ChangeShapes Go.WideShapes Go.ChangeAt

/-- What the call and the reference return, told together: the same text; 0 and true, or 2 and false. -/
def Both (f g : FuncId) (args : Array Value) : Prop := ∃ (V : ByteArray) (q : Bool), (∀ w, Calls Try.prog f args w fun r w' => r = .returned (.tuple #[.string V, .int .i64 (if q then 0 else 2)]) ∧ Below w.heap.size w w') ∧
  ∀ w, Calls Try.prog g args w fun r w' => r = .returned (.tuple #[.string V, .bool q]) ∧ Below w.heap.size w w'
theorem both_count (e s i : Int) (he : e ≤ 9223372036854775807) (hs : s ≤ 9223372036854775807) (hi : i ≤ 9223372036854775807) : Both 27 29 #[.int .i64 e, .int .i64 s, .int .i64 i] := by
  by_cases h : inW e ∧ inW s ∧ inW i
  · obtain ⟨h1, h2, h3⟩ := h
    unfold inW at h1 h2 h3
    obtain ⟨e, rfl⟩ : ∃ k : Nat, e = (k : Int) := ⟨e.toNat, by omega⟩
    obtain ⟨s, rfl⟩ : ∃ k : Nat, s = (k : Int) := ⟨s.toNat, by omega⟩
    obtain ⟨i, rfl⟩ : ∃ k : Nat, i = (k : Int) := ⟨i.toNat, by omega⟩
    refine ⟨_, true, fun w => ?_, fun w => rcount_good e s i (by omega) (by omega) (by omega) w⟩
    have h := count_any (e : Int) s i he hs hi w
    rw [cnt_good e s i (by omega) (by omega) (by omega)] at h
    exact h
  · refine ⟨_, false, fun w => ?_, fun w => rcount_bad e s i he hs hi h w⟩
    have h2 := count_any e s i he hs hi w
    rw [cnt_bad e s i h] at h2
    exact h2
theorem both_stream (key : ByteArray) (e s p n : Int) (he : e ≤ 9223372036854775807) (hs : s ≤ 9223372036854775807) (hp : p ≤ 9223372036854775807) : Both 30 31 #[.string key, .int .i64 e, .int .i64 s, .int .i64 p, .int .i64 n] := by
  by_cases h : key.size = 16 ∧ inW e ∧ inW s ∧ 0 ≤ p ∧ 0 ≤ n ∧ p ≤ 65536 ∧ n ≤ 65536 - p
  · obtain ⟨hk, h1, h2, h3, h4, h5, h6⟩ := h
    unfold inW at h1 h2
    obtain ⟨e, rfl⟩ : ∃ k : Nat, e = (k : Int) := ⟨e.toNat, by omega⟩
    obtain ⟨s, rfl⟩ : ∃ k : Nat, s = (k : Int) := ⟨s.toNat, by omega⟩
    obtain ⟨p, rfl⟩ : ∃ k : Nat, p = (k : Int) := ⟨p.toNat, by omega⟩
    obtain ⟨n, rfl⟩ : ∃ k : Nat, n = (k : Int) := ⟨n.toNat, by omega⟩
    exact ⟨_, true, fun w => stream_good key e s p n hk (by omega) (by omega) (by omega) w, fun w => rstream_good key e s p n hk (by omega) (by omega) (by omega) w⟩
  · exact ⟨_, false, fun w => stream_bad key e s p n he hs hp h w, fun w => rstream_bad key e s p n he hs h w⟩

set_option maxRecDepth 100000 in
set_option maxHeartbeats 3200000 in
theorem streams_law (key : ByteArray) (e s p n : Int) (he : e ≤ 9223372036854775807) (hs : s ≤ 9223372036854775807) (hp : p ≤ 9223372036854775807) (hn : n ≤ 9223372036854775807) (w : World) :
    Calls Try.prog 9 #[.string key, .int .i64 e, .int .i64 s, .int .i64 p, .int .i64 n] w fun r w' => r = .returned (.bool true) ∧ Below w.heap.size w w' := by
  obtain ⟨V, q, c1, c2⟩ := both_count e s n he hs hn
  obtain ⟨U, q', s1, s2⟩ := both_stream key e s p n he hs hp
  have C1 := Lib.hid c1
  have C2 := Lib.hid c2
  have S1 := Lib.hid s1
  have S2 := Lib.hid s2
  have v1 : (V.toList == V.toList) = true := beq_self_eq_true _
  have v2 : (U.toList == U.toList) = true := beq_self_eq_true _
  clear c1 c2 s1 s2
  by_cases hg : 80 < n ∧ n ≤ 65536
  · have g1 := hg.1
    have g2 := hg.2
    go_enter Try.func9, Try.ntmps9
    go_wp2_with (go_at_call 28; (with_reducible refine (ctr_alive _).mono ?_); rintro e5 w5 ⟨rfl, hb5⟩)
    go_ret
    exact ⟨rfl, hb5⟩
  · by_cases g1 : 80 < n
    · have g2 : ¬ n ≤ 65536 := fun h => hg ⟨g1, h⟩
      cases q <;> cases q' <;>
      · simp only [Bool.false_eq_true, if_false, if_true] at C1 S1
        go_enter Try.func9, Try.ntmps9
        go_wp2_with fail
        refine (C1.out w).mono ?_
        rintro e1 w1 ⟨rfl, hb1⟩
        go_wp2_with fail
        refine (C2.out w1).mono ?_
        rintro e2 w2 ⟨rfl, hb2⟩
        have b2 := bthen hb1 hb2
        go_wp2_with fail
        refine (S1.out w2).mono ?_
        rintro e3 w3 ⟨rfl, hb3⟩
        have b3 := bthen b2 hb3
        go_wp2_with fail
        refine (S2.out w3).mono ?_
        rintro e4 w4 ⟨rfl, hb4⟩
        have b4 := bthen b3 hb4
        clear hb1 hb2 hb3 hb4 b2 b3
        go_wp2_with (go_at_call 28; (with_reducible refine (ctr_alive _).mono ?_); rintro e5 w5 ⟨rfl, hb5⟩)
        go_ret
        exact ⟨rfl, bthen b4 hb5⟩
    · cases q <;> cases q' <;>
      · simp only [Bool.false_eq_true, if_false, if_true] at C1 S1
        go_enter Try.func9, Try.ntmps9
        go_wp2_with fail
        refine (C1.out w).mono ?_
        rintro e1 w1 ⟨rfl, hb1⟩
        go_wp2_with fail
        refine (C2.out w1).mono ?_
        rintro e2 w2 ⟨rfl, hb2⟩
        have b2 := bthen hb1 hb2
        go_wp2_with fail
        refine (S1.out w2).mono ?_
        rintro e3 w3 ⟨rfl, hb3⟩
        have b3 := bthen b2 hb3
        go_wp2_with fail
        refine (S2.out w3).mono ?_
        rintro e4 w4 ⟨rfl, hb4⟩
        have b4 := bthen b3 hb4
        clear hb1 hb2 hb3 hb4 b2 b3
        go_wp2_with (go_at_call 28; (with_reducible refine (ctr_alive _).mono ?_); rintro e5 w5 ⟨rfl, hb5⟩)
        go_ret
        exact ⟨rfl, bthen b4 hb5⟩

set_option maxRecDepth 100000 in
theorem ctrStreams_lifted (os : Os) (started : os.Started) (H : Type) (enc : TypeId × Value → H) :
    ReturnsInHanded {} Try.checked os 9 .any (Rows.ctrStreamsSpec.pre6 enc Try.prog Try.f9 [] false) (Rows.ctrStreamsSpec.post enc Try.prog Try.f9 false true false false) := by
  refine LawKit.lifted (C := Try.checked) (tb := 4) own started (by kernel_rfl) Try.func9
    (ChangeSpec.witness6 (enc := enc) (C := Try.checked) false ⟨#[], #[.string ⟨#[]⟩, .int .i64 0, .int .i64 0, .int .i64 0, .int .i64 0], []⟩ 8 (by kernel_rfl) (by kernel_rfl) (by kernel_rfl) (by kernel_rfl))
    laidOut (by kernel_rfl) rfl (fun ds h => by match ds, h with | [_, _, _, _, _], _ => rfl) rfl Try.underlying4 ?_
  intro W base args ds ps hval0 hA0 hlt hsz
  have hval : ∀ (j : Nat) t v, Try.f9.params[j]? = some t → args[j]? = some v → Value.okWide Try.prog W .any base t v := hval0
  have hA : DataW.TrodAll enc Try.prog W 0 (fun _ => true) true Try.f9.params.toList args.toList ds ps := hA0
  rw [Try.params9] at hA hval
  clear hval0 hA0
  obtain ⟨v0, vs0, d0, ds0, p0, q0, hargs, rfl, rfl, t0, r0⟩ := trodAll_cons hA
  obtain ⟨v1, vs1, d1, ds1, p1, q1, rfl, rfl, rfl, t1, r1⟩ := trodAll_cons r0
  obtain ⟨v2, vs2, d2, ds2, p2, q2, rfl, rfl, rfl, t2, r2⟩ := trodAll_cons r1
  obtain ⟨v3, vs3, d3, ds3, p3, q3, rfl, rfl, rfl, t3, r3⟩ := trodAll_cons r2
  obtain ⟨v4, vs4, d4, ds4, p4, q4, rfl, rfl, rfl, t4, r4⟩ := trodAll_cons r3
  obtain ⟨rfl, rfl, rfl⟩ := trodAll_nil r4
  obtain rfl : args = #[v0, v1, v2, v3, v4] := by cases args; simp_all
  obtain ⟨key, rfl, -, -, w_key⟩ := Go.ChangeMaps.open_string Try.underlying9 (hval 0 _ v0 rfl rfl) t0
  obtain ⟨a, rfl, -, -, w_a⟩ := open_int Try.underlying3 (hval 1 _ v1 rfl rfl) t1
  obtain ⟨b, rfl, -, -, w_b⟩ := open_int Try.underlying3 (hval 2 _ v2 rfl rfl) t2
  obtain ⟨c, rfl, -, -, w_c⟩ := open_int Try.underlying3 (hval 3 _ v3 rfl rfl) t3
  obtain ⟨d, rfl, -, -, w_d⟩ := open_int Try.underlying3 (hval 4 _ v4 rfl rfl) t4
  exact streams_law key a b c d (int_bd w_a).2 (int_bd w_b).2 (int_bd w_c).2 (int_bd w_d).2 W

theorem ctrStreams_holds : Rows.CtrStreamsSaid :=
  OpenClaim.holds_of_wide 9 Try.f9 rfl rfl rfl rfl rfl rfl rfl ⟨rfl, rfl, rfl, rfl, rfl⟩ rfl rfl rfl rfl rfl (by kernel_rfl) Try.func9 (by kernel_rfl)
    (of_decide_eq_true (by kernel_rfl)) (by unfold Func.isWrapper; first | (rw [if_pos (by decide +kernel)]; kernel_rfl) | (rw [if_neg (by decide +kernel)]; exact ⟨rfl, rfl⟩))
    (fun os started H enc _ => ctrStreams_lifted os started H enc)
#print axioms ctrStreams_holds

end Go.Proofs.Ytkbidgonjnlkmaa

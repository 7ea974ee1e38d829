/-
  CtrParts returns true for every key and every numbers. No condition.
-/
import Derived.Test.YtkbidgonjnlkmaaStream
namespace Go.Proofs.Ytkbidgonjnlkmaa
open Go.RowKit Go.ChangeShapes Go.WideShapes Go.ChangeAt

theorem stV_app (K : List UInt8) (e s p n m : Nat) : stV K e s p n ++ stV K e s (p + n) m = stV K e s p (n + m) := by
  unfold stV
  rw [List.range_add, List.map_append, List.map_map]
  refine congrArg (List.map (fun k => byteAt K e s (p + k)) (List.range n) ++ ·) ?_
  apply List.map_congr_left
  intro k _
  simp [Nat.add_assoc]

set_option maxRecDepth 100000 in
set_option maxHeartbeats 3200000 in
theorem parts_run (key : ByteArray) (e s : Int) (p n m : Nat) (hp : p ≤ 1000) (hn : n ≤ 1000) (hm : m ≤ 1000) (A B C : ByteArray) (f : Int) (hA : A.size ≤ 1000) (hB : B.size ≤ 1000)
    (hABC : (A ++ B).toList = C.toList) (hC : f = 0 → C.size = n + m)
    (H1 : Hid (∀ w, Calls Try.prog 30 #[.string key, .int .i64 e, .int .i64 s, .int .i64 (p : Int), .int .i64 (n : Int)] w fun r w' => r = .returned (.tuple #[.string A, .int .i64 f]) ∧ Below w.heap.size w w'))
    (H2 : Hid (∀ w, Calls Try.prog 30 #[.string key, .int .i64 e, .int .i64 s, .int .i64 ((p : Int) + (n : Int)), .int .i64 (m : Int)] w fun r w' => r = .returned (.tuple #[.string B, .int .i64 f]) ∧ Below w.heap.size w w'))
    (H3 : Hid (∀ w, Calls Try.prog 30 #[.string key, .int .i64 e, .int .i64 s, .int .i64 (p : Int), .int .i64 ((n : Int) + (m : Int))] w fun r w' => r = .returned (.tuple #[.string C, .int .i64 f]) ∧ Below w.heap.size w w')) (w : World) :
    Calls Try.prog 10 #[.string key, .int .i64 e, .int .i64 s, .int .i64 (p : Int), .int .i64 (n : Int), .int .i64 (m : Int)] w fun r w' => r = .returned (.bool true) ∧ Below w.heap.size w w' := by
  have g1 : ¬ (p : Int) < 0 := by omega
  have g2 : ¬ (n : Int) < 0 := by omega
  have g3 : ¬ (m : Int) < 0 := by omega
  have g4 : ¬ (1000 : Int) < (p : Int) := by omega
  have g5 : ¬ (1000 : Int) < (n : Int) := by omega
  have g6 : ¬ (1000 : Int) < (m : Int) := by omega
  have hst : ((A ++ B).toList == C.toList) = true := by rw [hABC]; exact beq_self_eq_true _
  go_enter Try.func10, Try.ntmps10
  go_wp2_with fail
  refine (H1.out _).mono ?_
  rintro e1 w1 ⟨rfl, hb1⟩
  go_wp2_with fail
  refine (H2.out _).mono ?_
  rintro e2 w2 ⟨rfl, hb2⟩
  have b2 := bthen hb1 hb2
  go_wp2_with fail
  refine (H3.out _).mono ?_
  rintro e3 w3 ⟨rfl, hb3⟩
  have b3 := bthen b2 hb3
  clear hABC hb1 hb2 hb3 b2
  by_cases hf : f = 0
  · subst hf
    have hcs := hC rfl
    have hc2 : ((C.size : Int) == (n : Int) + (m : Int)) = true := by simp; omega
    have hc3 : (C.size : Int) = (n : Int) + (m : Int) := by omega
    go_wp2_with (go_at_call 28; (with_reducible refine (ctr_alive _).mono ?_); rintro e5 w5 ⟨rfl, hb5⟩)
    go_ret
    exact ⟨rfl, bthen b3 hb5⟩
  · have hf2 : (f == 0) = false := by simp [hf]
    go_wp2_with (go_at_call 28; (with_reducible refine (ctr_alive _).mono ?_); rintro e5 w5 ⟨rfl, hb5⟩)
    go_ret
    exact ⟨rfl, bthen b3 hb5⟩
set_option maxRecDepth 100000 in
set_option maxHeartbeats 3200000 in
theorem parts_skip (key : ByteArray) (e s p n m : Int) (h : p < 0 ∨ n < 0 ∨ m < 0 ∨ 1000 < p ∨ 1000 < n ∨ 1000 < m) (w : World) :
    Calls Try.prog 10 #[.string key, .int .i64 e, .int .i64 s, .int .i64 p, .int .i64 n, .int .i64 m] w fun r w' => r = .returned (.bool true) ∧ Below w.heap.size w w' := by
  by_cases g1 : p < 0
  · go_enter Try.func10, Try.ntmps10
    go_wp2_with (go_at_call 28; (with_reducible refine (ctr_alive _).mono ?_); rintro e5 w5 ⟨rfl, hb5⟩)
    go_ret
    exact ⟨rfl, hb5⟩
  · by_cases g2 : n < 0
    · go_enter Try.func10, Try.ntmps10
      go_wp2_with (go_at_call 28; (with_reducible refine (ctr_alive _).mono ?_); rintro e5 w5 ⟨rfl, hb5⟩)
      go_ret
      exact ⟨rfl, hb5⟩
    · by_cases g3 : m < 0
      · go_enter Try.func10, Try.ntmps10
        go_wp2_with (go_at_call 28; (with_reducible refine (ctr_alive _).mono ?_); rintro e5 w5 ⟨rfl, hb5⟩)
        go_ret
        exact ⟨rfl, hb5⟩
      · by_cases g4 : 1000 < p
        · go_enter Try.func10, Try.ntmps10
          go_wp2_with (go_at_call 28; (with_reducible refine (ctr_alive _).mono ?_); rintro e5 w5 ⟨rfl, hb5⟩)
          go_ret
          exact ⟨rfl, hb5⟩
        · by_cases g5 : 1000 < n
          · go_enter Try.func10, Try.ntmps10
            go_wp2_with (go_at_call 28; (with_reducible refine (ctr_alive _).mono ?_); rintro e5 w5 ⟨rfl, hb5⟩)
            go_ret
            exact ⟨rfl, hb5⟩
          · have g6 : 1000 < m := by omega
            clear h
            go_enter Try.func10, Try.ntmps10
            go_wp2_with (go_at_call 28; (with_reducible refine (ctr_alive _).mono ?_); rintro e5 w5 ⟨rfl, hb5⟩)
            go_ret
            exact ⟨rfl, hb5⟩
theorem parts_law (key : ByteArray) (e s p n m : Int) (he : e ≤ 9223372036854775807) (hs : s ≤ 9223372036854775807) (w : World) :
    Calls Try.prog 10 #[.string key, .int .i64 e, .int .i64 s, .int .i64 p, .int .i64 n, .int .i64 m] w fun r w' => r = .returned (.bool true) ∧ Below w.heap.size w w' := by
  by_cases h : p < 0 ∨ n < 0 ∨ m < 0 ∨ 1000 < p ∨ 1000 < n ∨ 1000 < m
  · exact parts_skip key e s p n m h w
  · obtain ⟨p, rfl⟩ : ∃ k : Nat, p = (k : Int) := ⟨p.toNat, by omega⟩
    obtain ⟨n, rfl⟩ : ∃ k : Nat, n = (k : Int) := ⟨n.toNat, by omega⟩
    obtain ⟨m, rfl⟩ : ∃ k : Nat, m = (k : Int) := ⟨m.toNat, by omega⟩
    by_cases hg : key.size = 16 ∧ inW e ∧ inW s
    · obtain ⟨hk, hie, his⟩ := hg
      unfold inW at hie his
      obtain ⟨e, rfl⟩ : ∃ k : Nat, e = (k : Int) := ⟨e.toNat, by omega⟩
      obtain ⟨s, rfl⟩ : ∃ k : Nat, s = (k : Int) := ⟨s.toNat, by omega⟩
      refine parts_run key e s p n m (by omega) (by omega) (by omega) _ _ _ 0 ?_ ?_ ?_ ?_ (Lib.hid fun w => stream_good key e s p n hk (by omega) (by omega) (by omega) w)
        (Lib.hid fun w => by have := stream_good key e s (p + n) m hk (by omega) (by omega) (by omega) w; rwa [Int.natCast_add] at this)
        (Lib.hid fun w => by have := stream_good key e s p (n + m) hk (by omega) (by omega) (by omega) w; rwa [Int.natCast_add] at this) w
      · simp [ByteArray.size, stV_len]; omega
      · simp [ByteArray.size, stV_len]; omega
      · rw [ByteArray.toList_eq, ByteArray.toList_eq]
        simp [stV_app]
      · intro _; simp [ByteArray.size, stV_len]
    · refine parts_run key e s p n m (by omega) (by omega) (by omega) ⟨#[]⟩ ⟨#[]⟩ ⟨#[]⟩ 2 (by decide) (by decide) (by rw [ByteArray.toList_eq, ByteArray.toList_eq]; rfl) (fun h => by cases h)
        (Lib.hid fun w => stream_bad key e s p n he hs (by omega) (fun h => hg ⟨h.1, h.2.1, h.2.2.1⟩) w)
        (Lib.hid fun w => stream_bad key e s _ _ he hs (by omega) (fun h => hg ⟨h.1, h.2.1, h.2.2.1⟩) w)
        (Lib.hid fun w => stream_bad key e s _ _ he hs (by omega) (fun h => hg ⟨h.1, h.2.1, h.2.2.1⟩) w) w

set_option maxRecDepth 100000 in
theorem ctrParts_lifted (os : Os) (started : os.Started) (H : Type) (enc : TypeId × Value → H) :
    ReturnsInHanded {} Try.checked os 10 .any (Rows.ctrPartsSpec.pre6 enc Try.prog Try.f10 [] false) (Rows.ctrPartsSpec.post enc Try.prog Try.f10 false true false false) := by
  refine LawKit.lifted (C := Try.checked) (tb := 4) own started (by kernel_rfl) Try.func10
    (ChangeSpec.witness6 (enc := enc) (C := Try.checked) false ⟨#[], #[.string ⟨#[]⟩, .int .i64 0, .int .i64 0, .int .i64 0, .int .i64 0, .int .i64 0], []⟩ 8 (by kernel_rfl) (by kernel_rfl) (by kernel_rfl) (by kernel_rfl))
    laidOut (by kernel_rfl) rfl (fun ds h => by match ds, h with | [_, _, _, _, _, _], _ => rfl) rfl Try.underlying4 ?_
  intro W base args ds ps hval0 hA0 hlt hsz
  have hval : ∀ (j : Nat) t v, Try.f10.params[j]? = some t → args[j]? = some v → Value.okWide Try.prog W .any base t v := hval0
  have hA : DataW.TrodAll enc Try.prog W 0 (fun _ => true) true Try.f10.params.toList args.toList ds ps := hA0
  rw [Try.params10] at hA hval
  clear hval0 hA0
  obtain ⟨v0, vs0, d0, ds0, p0, q0, hargs, rfl, rfl, t0, r0⟩ := trodAll_cons hA
  obtain ⟨v1, vs1, d1, ds1, p1, q1, rfl, rfl, rfl, t1, r1⟩ := trodAll_cons r0
  obtain ⟨v2, vs2, d2, ds2, p2, q2, rfl, rfl, rfl, t2, r2⟩ := trodAll_cons r1
  obtain ⟨v3, vs3, d3, ds3, p3, q3, rfl, rfl, rfl, t3, r3⟩ := trodAll_cons r2
  obtain ⟨v4, vs4, d4, ds4, p4, q4, rfl, rfl, rfl, t4, r4⟩ := trodAll_cons r3
  obtain ⟨v5, vs5, d5, ds5, p5, q5, rfl, rfl, rfl, t5, r5⟩ := trodAll_cons r4
  obtain ⟨rfl, rfl, rfl⟩ := trodAll_nil r5
  obtain rfl : args = #[v0, v1, v2, v3, v4, v5] := by cases args; simp_all
  obtain ⟨key, rfl, -, -, w_key⟩ := Go.ChangeMaps.open_string Try.underlying9 (hval 0 _ v0 rfl rfl) t0
  obtain ⟨a, rfl, -, -, w_a⟩ := open_int Try.underlying3 (hval 1 _ v1 rfl rfl) t1
  obtain ⟨b, rfl, -, -, w_b⟩ := open_int Try.underlying3 (hval 2 _ v2 rfl rfl) t2
  obtain ⟨c, rfl, -, -, w_c⟩ := open_int Try.underlying3 (hval 3 _ v3 rfl rfl) t3
  obtain ⟨d, rfl, -, -, w_d⟩ := open_int Try.underlying3 (hval 4 _ v4 rfl rfl) t4
  obtain ⟨g, rfl, -, -, w_g⟩ := open_int Try.underlying3 (hval 5 _ v5 rfl rfl) t5
  exact parts_law key a b c d g (int_bd w_a).2 (int_bd w_b).2 W

theorem ctrParts_holds : Rows.CtrPartsSaid :=
  OpenClaim.holds_of_wide 10 Try.f10 rfl rfl rfl rfl rfl rfl rfl ⟨rfl, rfl, rfl, rfl, rfl⟩ rfl rfl rfl rfl rfl (by kernel_rfl) Try.func10 (by kernel_rfl)
    (of_decide_eq_true (by kernel_rfl)) (by unfold Func.isWrapper; first | (rw [if_pos (by decide +kernel)]; kernel_rfl) | (rw [if_neg (by decide +kernel)]; exact ⟨rfl, rfl⟩))
    (fun os started H enc _ => ctrParts_lifted os started H enc)
#print axioms ctrParts_holds

end Go.Proofs.Ytkbidgonjnlkmaa

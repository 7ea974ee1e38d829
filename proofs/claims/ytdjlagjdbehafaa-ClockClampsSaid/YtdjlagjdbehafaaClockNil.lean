/-
  ClockNil and ClockClamps return true for every input, and leave their arguments as they were. No condition.
-/
import Derived.Test.YtdjlagjdbehafaaClock
import Derived.Test.YtdjlagjdbehafaaLawKit
namespace Go.Proofs.Ytdjlagjdbehafaa
open Go.RowKit Go.ChangeShapes Go.WideShapes Go.ChangeAt

set_option maxHeartbeats 800000 in
theorem clock_nil (t : Int) (there : Bool) (w : World) : Calls Try.prog 7 #[.int .i64 t, .bool there] w fun e w' => e = .returned (.bool true) ∧ Below w.heap.size w w' := by
  cases there
  · go_enter Try.func7, Try.ntmps7
    go_wp2_with (first
      | (go_at_call 25; refine (tick_nil _ _).mono ?_; rintro e w' ⟨rfl, rfl⟩)
      | (go_at_call 26; refine (now_nil _).mono ?_; rintro e w' ⟨rfl, rfl⟩)
      | (go_at_call 27; refine (past_nil _ _).mono ?_; rintro e w' ⟨rfl, rfl⟩)
      | (go_at_call 23; refine (clock_alive _).mono ?_; rintro e w1 ⟨rfl, hb⟩))
    go_ret
    exact ⟨rfl, hb⟩
  · have H := Lib.hid (ClkAt.new w false 0)
    go_enter Try.func7, Try.ntmps7
    go_wp2_with (first
      | (go_at_call 25; refine (tick_unmade _ _ _ _ H.out).mono ?_; rintro e w' ⟨rfl, rfl⟩)
      | (go_at_call 26; refine (now_at _ _ _ _ H.out).mono ?_; rintro e w' ⟨rfl, rfl⟩)
      | (go_at_call 27; refine (past_at _ _ _ _ _ H.out).mono ?_; rintro e w' ⟨rfl, rfl⟩)
      | (go_at_call 23; refine (clock_alive _).mono ?_; rintro e w1 ⟨rfl, hb⟩))
    go_ret
    exact ⟨rfl, bthen (bnew _ _) hb⟩

set_option maxRecDepth 100000 in
theorem clockNil_lifted (os : Os) (started : os.Started) (H : Type) (enc : TypeId × Value → H) :
    ReturnsInHanded {} Try.checked os 7 .any (Rows.clockNilSpec.pre6 enc Try.prog Try.f7 [] false) (Rows.clockNilSpec.post enc Try.prog Try.f7 false true false false) := by
  refine LawKit.lifted (C := Try.checked) (tb := 4) own started (by kernel_rfl) Try.func7
    (ChangeSpec.witness6 (enc := enc) (C := Try.checked) false ⟨#[], #[.int .i64 0, .bool false], []⟩ 8 (by kernel_rfl) (by kernel_rfl) (by kernel_rfl) (by kernel_rfl))
    laidOut (by kernel_rfl) rfl (fun ds h => by match ds, h with | [_, _], _ => rfl) rfl Try.underlying4 ?_
  intro W base args ds ps hval0 hA0 hlt hsz
  have hval : ∀ (j : Nat) t v, Try.f7.params[j]? = some t → args[j]? = some v → Value.okWide Try.prog W .any base t v := hval0
  have hA : DataW.TrodAll enc Try.prog W 0 (fun _ => true) true Try.f7.params.toList args.toList ds ps := hA0
  rw [Try.params7] at hA hval
  clear hval0 hA0
  obtain ⟨v0, vs0, d0, ds0, p0, q0, hargs, rfl, rfl, t0, r0⟩ := trodAll_cons hA
  obtain ⟨v1, vs1, d1, ds1, p1, q1, rfl, rfl, rfl, t1, r1⟩ := trodAll_cons r0
  obtain ⟨rfl, rfl, rfl⟩ := trodAll_nil r1
  obtain rfl : args = #[v0, v1] := by cases args; simp_all
  obtain ⟨t, rfl, -, -, w_t⟩ := open_int Try.underlying3 (hval 0 _ v0 rfl rfl) t0
  obtain ⟨there, rfl, -, -⟩ := open_bool Try.underlying4 (hval 1 _ v1 rfl rfl) t1
  exact clock_nil t there W

theorem clockNil_holds : Rows.ClockNilSaid :=
  OpenClaim.holds_of_wide 7 Try.f7 rfl rfl rfl rfl rfl rfl rfl ⟨rfl, rfl, rfl, rfl, rfl⟩ rfl rfl rfl rfl rfl (by kernel_rfl) Try.func7 (by kernel_rfl)
    (of_decide_eq_true (by kernel_rfl)) (by unfold Func.isWrapper; first | (rw [if_pos (by decide +kernel)]; kernel_rfl) | (rw [if_neg (by decide +kernel)]; exact ⟨rfl, rfl⟩))
    (fun os started H enc _ => clockNil_lifted os started H enc)
#print axioms clockNil_holds

set_option maxHeartbeats 800000 in
theorem clock_clamps (a b : Int) (w : World) : Calls Try.prog 8 #[.int .i64 a, .int .i64 b] w fun e w' => e = .returned (.bool true) ∧ Below w.heap.size w w' := by
  obtain ⟨m, hm⟩ : ∃ m, m = min (max (max a b) 0) 1099511627776 := ⟨_, rfl⟩
  have hc := clamp_any a b
  rw [← hm] at hc
  have HC := Lib.hid hc
  have h2 : (b ≤ a ∧ a < 0 ∧ m = 0) ∨ (b ≤ a ∧ 0 ≤ a ∧ 1099511627776 < a ∧ m = 1099511627776) ∨ (b ≤ a ∧ 0 ≤ a ∧ a ≤ 1099511627776 ∧ m = a) ∨
      (a < b ∧ b < 0 ∧ m = 0) ∨ (a < b ∧ 0 ≤ b ∧ 1099511627776 < b ∧ m = 1099511627776) ∨ (a < b ∧ 0 ≤ b ∧ b ≤ 1099511627776 ∧ m = b) := by omega
  clear hc hm
  rcases h2 with ⟨h1, h2, rfl⟩ | ⟨h1, h2, h3, rfl⟩ | ⟨h1, h2, h3, rfl⟩ | ⟨h1, h2, rfl⟩ | ⟨h1, h2, h3, rfl⟩ | ⟨h1, h2, h3, rfl⟩
  all_goals
    go_enter Try.func8, Try.ntmps8
    go_wp2_with (first
      | (go_at_call 28; refine (HC.out _).mono ?_; rintro e w' ⟨rfl, rfl⟩)
      | (go_at_call 23; refine (clock_alive _).mono ?_; rintro e w1 ⟨rfl, hb⟩))
    go_ret
    exact ⟨ret_bool (by simp), hb⟩

set_option maxRecDepth 100000 in
theorem clockClamps_lifted (os : Os) (started : os.Started) (H : Type) (enc : TypeId × Value → H) :
    ReturnsInHanded {} Try.checked os 8 .any (Rows.clockClampsSpec.pre6 enc Try.prog Try.f8 [] false) (Rows.clockClampsSpec.post enc Try.prog Try.f8 false true false false) := by
  refine LawKit.lifted (C := Try.checked) (tb := 4) own started (by kernel_rfl) Try.func8
    (ChangeSpec.witness6 (enc := enc) (C := Try.checked) false ⟨#[], #[.int .i64 0, .int .i64 0], []⟩ 8 (by kernel_rfl) (by kernel_rfl) (by kernel_rfl) (by kernel_rfl))
    laidOut (by kernel_rfl) rfl (fun ds h => by match ds, h with | [_, _], _ => rfl) rfl Try.underlying4 ?_
  intro W base args ds ps hval0 hA0 hlt hsz
  have hval : ∀ (j : Nat) t v, Try.f8.params[j]? = some t → args[j]? = some v → Value.okWide Try.prog W .any base t v := hval0
  have hA : DataW.TrodAll enc Try.prog W 0 (fun _ => true) true Try.f8.params.toList args.toList ds ps := hA0
  rw [Try.params8] at hA hval
  clear hval0 hA0
  obtain ⟨v0, vs0, d0, ds0, p0, q0, hargs, rfl, rfl, t0, r0⟩ := trodAll_cons hA
  obtain ⟨v1, vs1, d1, ds1, p1, q1, rfl, rfl, rfl, t1, r1⟩ := trodAll_cons r0
  obtain ⟨rfl, rfl, rfl⟩ := trodAll_nil r1
  obtain rfl : args = #[v0, v1] := by cases args; simp_all
  obtain ⟨a, rfl, -, -, w_a⟩ := open_int Try.underlying3 (hval 0 _ v0 rfl rfl) t0
  obtain ⟨b, rfl, -, -, w_b⟩ := open_int Try.underlying3 (hval 1 _ v1 rfl rfl) t1
  exact clock_clamps a b W

theorem clockClamps_holds : Rows.ClockClampsSaid :=
  OpenClaim.holds_of_wide 8 Try.f8 rfl rfl rfl rfl rfl rfl rfl ⟨rfl, rfl, rfl, rfl, rfl⟩ rfl rfl rfl rfl rfl (by kernel_rfl) Try.func8 (by kernel_rfl)
    (of_decide_eq_true (by kernel_rfl)) (by unfold Func.isWrapper; first | (rw [if_pos (by decide +kernel)]; kernel_rfl) | (rw [if_neg (by decide +kernel)]; exact ⟨rfl, rfl⟩))
    (fun os started H enc _ => clockClamps_lifted os started H enc)
#print axioms clockClamps_holds

end Go.Proofs.Ytdjlagjdbehafaa

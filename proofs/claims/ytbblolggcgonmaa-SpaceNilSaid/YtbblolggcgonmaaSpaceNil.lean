/-
  SpaceNil returns true for every number, whether there is a space or not, and leaves its arguments as they were. No condition.
-/
import Derived.Test.YtbblolggcgonmaaSpace
import Derived.Test.YtbblolggcgonmaaLawKit
namespace Go.Proofs.Ytbblolggcgonmaa
open Go.RowKit Go.ChangeShapes Go.WideShapes Go.ChangeAt

set_option maxHeartbeats 800000 in
theorem space_nil (n : Int) (there : Bool) (w : World) : Calls Try.prog 5 #[.int .i64 n, .bool there] w fun e w' => e = .returned (.bool true) ∧ Below w.heap.size w w' := by
  cases there
  · have H : Hid (NoSpc w (.pointer none)) := Lib.hid (.inl rfl)
    go_enter Try.func5, Try.ntmps5
    go_wp2_with (first
      | (go_at_call 16; refine (stake_none _ _ H.out).mono ?_; rintro e w' ⟨rfl, rfl⟩)
      | (go_at_call 15; refine (sclose_none _ _ H.out).mono ?_; rintro e w' ⟨rfl, rfl⟩)
      | (go_at_call 21; refine (sback_none _ _ _ H.out).mono ?_; rintro e w' ⟨rfl, rfl⟩)
      | (go_at_call 18; refine (sused_none _ _ H.out).mono ?_; rintro e w' ⟨rfl, rfl⟩)
      | (go_at_call 22; refine (sroom_none _ _ H.out).mono ?_; rintro e w' ⟨rfl, rfl⟩)
      | (go_at_call 14; refine (sopen_none _ _ H.out).mono ?_; rintro e w1 ⟨rfl, hb1⟩)
      | (go_at_call 13; refine (space_alive _).mono ?_; rintro e w2 ⟨rfl, hb2⟩))
    go_ret
    exact ⟨ret_bool (by simp), bthen hb1 hb2⟩
  · have H : Hid (NoSpc (w.alloc (.cells #[.int .i64 0, .int .i64 0, .int .i64 0, .int .i64 0, .bool false] 43)) (.pointer (some ⟨w.heap.size, 0, none⟩))) := Lib.hid (.inr ⟨_, 0, 0, 0, 0, rfl, SpcAt.new _ _ _ _ _ _⟩)
    go_enter Try.func5, Try.ntmps5
    go_wp2_with (first
      | (go_at_call 16; refine (stake_none _ _ H.out).mono ?_; rintro e w' ⟨rfl, rfl⟩)
      | (go_at_call 15; refine (sclose_none _ _ H.out).mono ?_; rintro e w' ⟨rfl, rfl⟩)
      | (go_at_call 21; refine (sback_none _ _ _ H.out).mono ?_; rintro e w' ⟨rfl, rfl⟩)
      | (go_at_call 18; refine (sused_none _ _ H.out).mono ?_; rintro e w' ⟨rfl, rfl⟩)
      | (go_at_call 22; refine (sroom_none _ _ H.out).mono ?_; rintro e w' ⟨rfl, rfl⟩)
      | (go_at_call 14; refine (sopen_none _ _ H.out).mono ?_; rintro e w1 ⟨rfl, hb1⟩)
      | (go_at_call 13; refine (space_alive _).mono ?_; rintro e w2 ⟨rfl, hb2⟩))
    go_ret
    exact ⟨ret_bool (by simp), bthen (bthen (bnew _ _) hb1) hb2⟩

set_option maxRecDepth 100000 in
theorem spaceNil_lifted (os : Os) (started : os.Started) (H : Type) (enc : TypeId × Value → H) :
    ReturnsInHanded {} Try.checked os 5 .any (Rows.spaceNilSpec.pre6 enc Try.prog Try.f5 [] false) (Rows.spaceNilSpec.post enc Try.prog Try.f5 false true false false) := by
  refine LawKit.lifted (C := Try.checked) (tb := 4) own started (by kernel_rfl) Try.func5
    (ChangeSpec.witness6 (enc := enc) (C := Try.checked) false ⟨#[], #[.int .i64 0, .bool false], []⟩ 8 (by kernel_rfl) (by kernel_rfl) (by kernel_rfl) (by kernel_rfl))
    laidOut (by kernel_rfl) rfl (fun ds h => by match ds, h with | [_, _], _ => rfl) rfl Try.underlying4 ?_
  intro W base args ds ps hval0 hA0 hlt hsz
  have hval : ∀ (j : Nat) t v, Try.f5.params[j]? = some t → args[j]? = some v → Value.okWide Try.prog W .any base t v := hval0
  have hA : DataW.TrodAll enc Try.prog W 0 (fun _ => true) true Try.f5.params.toList args.toList ds ps := hA0
  rw [Try.params5] at hA hval
  clear hval0 hA0
  obtain ⟨v0, vs0, d0, ds0, p0, q0, hargs, rfl, rfl, t0, r0⟩ := trodAll_cons hA
  obtain ⟨v1, vs1, d1, ds1, p1, q1, rfl, rfl, rfl, t1, r1⟩ := trodAll_cons r0
  obtain ⟨rfl, rfl, rfl⟩ := trodAll_nil r1
  obtain rfl : args = #[v0, v1] := by cases args; simp_all
  obtain ⟨n, rfl, -, -, w_n⟩ := open_int Try.underlying3 (hval 0 _ v0 rfl rfl) t0
  obtain ⟨there, rfl, -, -⟩ := open_bool Try.underlying4 (hval 1 _ v1 rfl rfl) t1
  exact space_nil n there W

theorem spaceNil_holds : Rows.SpaceNilSaid :=
  OpenClaim.holds_of_wide 5 Try.f5 rfl rfl rfl rfl rfl rfl rfl ⟨rfl, rfl, rfl, rfl, rfl⟩ rfl rfl rfl rfl rfl (by kernel_rfl) Try.func5 (by kernel_rfl)
    (of_decide_eq_true (by kernel_rfl)) (by unfold Func.isWrapper; first | (rw [if_pos (by decide +kernel)]; kernel_rfl) | (rw [if_neg (by decide +kernel)]; exact ⟨rfl, rfl⟩))
    (fun os started H enc _ => spaceNil_lifted os started H enc)
#print axioms spaceNil_holds

end Go.Proofs.Ytbblolggcgonmaa

/-
  CustodyOver returns true for every byte, and leaves its argument as it was. No condition.
-/
import Derived.Test.YtbblolggcgonmaaAliveC
namespace Go.Proofs.Ytbblolggcgonmaa
open Go.RowKit Go.ChangeShapes Go.WideShapes Go.ChangeAt

theorem byte_of {a : Int} (h : 0 ≤ a ∧ a ≤ 255) : ∃ x : UInt8, a = ((x.toNat : Nat) : Int) := ⟨UInt8.ofNat a.toNat, by rw [UInt8.toNat_ofNat']; omega⟩

theorem over_zero (w : World) : Calls Try.prog 9 #[.int .u8 0] w fun e w' => e = .returned (.bool true) ∧ Below w.heap.size w w' := by
  have ho : ∀ w, Calls Try.prog 28 #[.int .u8 0] w fun e w' => e = .returned (.int .u8 0) ∧ w = w' := fun w => by
    have := over_any 0 w
    rw [ov_zero] at this
    exact this
  have HO := Lib.hid ho
  clear ho
  go_enter Try.func9, Try.ntmps9
  go_wp2_with (first
    | (go_at_call 28; (with_reducible refine (HO.out _).mono ?_); rintro e w1 ⟨rfl, rfl⟩)
    | (go_at_call 23; (with_reducible refine (custody_alive _).mono ?_); rintro e w5 ⟨rfl, hb5⟩))
  go_ret
  exact ⟨rfl, hb5⟩

theorem over_law (a : UInt8) (ha : a ≠ 0) (w : World) : Calls Try.prog 9 #[bv a] w fun e w' => e = .returned (.bool true) ∧ Below w.heap.size w w' := by
  have h1 := fun w => over_any a w
  have h2 := fun w => over_any (ov a) w
  have hm := fun w => mul_any a (ov a) w
  rw [ov_ov] at h2
  rw [gm_ov ha] at hm
  have hm' : ∀ w, Calls Try.prog 34 #[bv a, bv (ov a)] w fun e w' => e = .returned (.int .u8 1) ∧ w = w' := hm
  have hb : ((a.toNat : Int) == 0) = false := by
    simp only [beq_eq_false_iff_ne, ne_eq]
    intro e
    exact ha (UInt8.toNat_inj.mp (by simpa using e))
  generalize ov a = b at *
  have H1 := Lib.hid h1
  have H2 := Lib.hid h2
  have HM := Lib.hid hm'
  clear h1 h2 hm hm' ha
  go_enter Try.func9, Try.ntmps9
  go_wp2_with (first
    | (go_at_call 28; first
        | ((with_reducible refine (H1.out _).mono ?_); rintro e w1 ⟨rfl, rfl⟩)
        | ((with_reducible refine (H2.out _).mono ?_); rintro e w1 ⟨rfl, rfl⟩))
    | (go_at_call 34; (with_reducible refine (HM.out _).mono ?_); rintro e w1 ⟨rfl, rfl⟩)
    | (go_at_call 23; (with_reducible refine (custody_alive _).mono ?_); rintro e w5 ⟨rfl, hb5⟩))
  go_ret
  exact ⟨rfl, hb5⟩

theorem over_law_any (a : Int) (h : 0 ≤ a ∧ a ≤ 255) (w : World) : Calls Try.prog 9 #[.int .u8 a] w fun e w' => e = .returned (.bool true) ∧ Below w.heap.size w w' := by
  obtain ⟨x, rfl⟩ := byte_of h
  by_cases hx : x = 0
  · subst hx
    exact over_zero w
  · exact over_law x hx w

set_option maxRecDepth 100000 in
theorem custodyOver_lifted (os : Os) (started : os.Started) (H : Type) (enc : TypeId × Value → H) :
    ReturnsInHanded {} Try.checked os 9 .any (Rows.custodyOverSpec.pre6 enc Try.prog Try.f9 [] false) (Rows.custodyOverSpec.post enc Try.prog Try.f9 false true false false) := by
  refine LawKit.lifted (C := Try.checked) (tb := 4) own started (by kernel_rfl) Try.func9
    (ChangeSpec.witness6 (enc := enc) (C := Try.checked) false ⟨#[], #[.int .u8 0], []⟩ 8 (by kernel_rfl) (by kernel_rfl) (by kernel_rfl) (by kernel_rfl))
    laidOut (by kernel_rfl) rfl (fun ds h => by match ds, h with | [_], _ => rfl) rfl Try.underlying4 ?_
  intro W base args ds ps hval0 hA0 hlt hsz
  have hval : ∀ (j : Nat) t v, Try.f9.params[j]? = some t → args[j]? = some v → Value.okWide Try.prog W .any base t v := hval0
  have hA : DataW.TrodAll enc Try.prog W 0 (fun _ => true) true Try.f9.params.toList args.toList ds ps := hA0
  rw [Try.params9] at hA hval
  clear hval0 hA0
  obtain ⟨v0, vs0, d0, ds0, p0, q0, hargs, rfl, rfl, t0, r0⟩ := trodAll_cons hA
  obtain ⟨rfl, rfl, rfl⟩ := trodAll_nil r0
  obtain rfl : args = #[v0] := by cases args; simp_all
  obtain ⟨a, rfl, -, -, w_a⟩ := open_int Try.underlying5 (hval 0 _ v0 rfl rfl) t0
  exact over_law_any a (byte_bd w_a) W

theorem custodyOver_holds : Rows.CustodyOverSaid :=
  OpenClaim.holds_of_wide 9 Try.f9 rfl rfl rfl rfl rfl rfl rfl ⟨rfl, rfl, rfl, rfl, rfl⟩ rfl rfl rfl rfl rfl (by kernel_rfl) Try.func9 (by kernel_rfl)
    (of_decide_eq_true (by kernel_rfl)) (by unfold Func.isWrapper; first | (rw [if_pos (by decide +kernel)]; kernel_rfl) | (rw [if_neg (by decide +kernel)]; exact ⟨rfl, rfl⟩))
    (fun os started H enc _ => custodyOver_lifted os started H enc)
#print axioms custodyOver_holds

end Go.Proofs.Ytbblolggcgonmaa

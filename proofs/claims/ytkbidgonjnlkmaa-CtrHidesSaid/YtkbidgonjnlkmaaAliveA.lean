/-
  The contract of the example of chapter 05. No condition. Own work.
-/
import Derived.Test.YtkbidgonjnlkmaaEnc2
import Derived.Test.YtkbidgonjnlkmaaLawKit
namespace Go.Proofs.Ytkbidgonjnlkmaa
open Go.RowKit

set_option maxRecDepth 100000 in
theorem alive_enc : encV [0, 1, 2, 3, 4, 5, 6, 7, 8, 9, 10, 11, 12, 13, 14, 15] [0, 17, 34, 51, 68, 85, 102, 119, 136, 153, 170, 187, 204, 221, 238, 255] = [105, 196, 224, 216, 106, 123, 4, 48, 216, 205, 183, 128, 112, 180, 197, 90] := by decide +kernel
theorem aes_alive (w : World) : Calls Try.prog 15 #[] w fun e w' => e = .returned (.bool true) ∧ Below w.heap.size w w' := by
  have he : ∀ w, Calls Try.prog 13 #[.string ⟨#[0, 1, 2, 3, 4, 5, 6, 7, 8, 9, 10, 11, 12, 13, 14, 15]⟩, .string ⟨#[0, 17, 34, 51, 68, 85, 102, 119, 136, 153, 170, 187, 204, 221, 238, 255]⟩] w fun e w' => e = .returned (.tuple #[.string ⟨#[105, 196, 224, 216, 106, 123, 4, 48, 216, 205, 183, 128, 112, 180, 197, 90]⟩, .int .i64 0]) ∧ Below w.heap.size w w' := fun w => by
    have h := encrypt_any ⟨#[0, 1, 2, 3, 4, 5, 6, 7, 8, 9, 10, 11, 12, 13, 14, 15]⟩ ⟨#[0, 17, 34, 51, 68, 85, 102, 119, 136, 153, 170, 187, 204, 221, 238, 255]⟩ rfl rfl w
    rw [alive_enc] at h
    exact h
  have HE := Lib.hid he
  clear he
  go_enter Try.func15, Try.ntmps15
  go_wp2_with (first
    | (go_at_call 13; (with_reducible refine (HE.out _).mono ?_); rintro e w1 ⟨rfl, hb1⟩))
  go_ret
  exact ⟨rfl, hb1⟩
end Go.Proofs.Ytkbidgonjnlkmaa

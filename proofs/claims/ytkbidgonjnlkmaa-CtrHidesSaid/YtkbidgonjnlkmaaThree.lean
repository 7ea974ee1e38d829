/-
  An array of three ints that comes in; two of them held against each other. No condition. Own work.
-/
import Derived.Test.YtkbidgonjnlkmaaCount
import Derived.WideKeyArr2
namespace Go.Proofs.Ytkbidgonjnlkmaa
open Go Go.RowKit Go.ChangeShapes Go.WideShapes Go.WideMaps

def V3 (a b c : Int) : Value := .agg #[.int .i64 a, .int .i64 b, .int .i64 c]
theorem three_key : ArrKey Try.prog 48 3 3 := ⟨Try.underlying48, by kernel_rfl, by kernel_rfl, by kernel_rfl⟩
theorem open_three {H : Type} {enc : TypeId × Value → H} {w : World} {base b0 : Nat} {spare : Nat → Bool} {held : Bool} {r : Reach} {v : Value} {d : DataW H} {p : List MemPlace}
    (hv : Value.okWide Try.prog w r b0 48 v) (h : DataW.Trod enc Try.prog w base spare held 48 v d p) : ∃ a b c : Int, v = V3 a b c ∧ (Lit.int .i64 a).wf = true ∧ (Lit.int .i64 b).wf = true ∧ (Lit.int .i64 c).wf = true := by
  obtain ⟨xs, rfl, hn⟩ := WideMaps.okWide_arr three_key hv
  obtain ⟨fuel, hf⟩ := h
  cases fuel with
  | zero => simp [DataW.trod] at hf
  | succ m =>
    rw [DataW.trod_step] at hf
    unfold DataW.trodStep at hf
    simp only [three_key.hu, Value.cells] at hf
    rw [if_pos (by rw [three_key.size]; simpa using hn)] at hf
    simp only [Option.map_eq_some_iff] at hf
    obtain ⟨ys, hy, _⟩ := hf
    rw [show List.range 3 = [0, 1, 2] from rfl, List.mapM_cons] at hy
    simp only [bind, Option.bind_eq_some_iff, pure, Option.some.injEq] at hy
    obtain ⟨y0, h0, ys1, hy, rfl⟩ := hy
    rw [List.mapM_cons] at hy
    simp only [bind, Option.bind_eq_some_iff, pure, Option.some.injEq] at hy
    obtain ⟨y1, h1, ys2, hy, rfl⟩ := hy
    rw [List.mapM_cons] at hy
    simp only [bind, Option.bind_eq_some_iff, pure, Option.some.injEq] at hy
    obtain ⟨y2, h2, ys3, hy, rfl⟩ := hy
    obtain ⟨a, e0, _, wa⟩ := DataW.trod_int Try.underlying3 h0
    obtain ⟨b, e1, _, wb⟩ := DataW.trod_int Try.underlying3 h1
    obtain ⟨c, e2, _, wc⟩ := DataW.trod_int Try.underlying3 h2
    refine ⟨a, b, c, ?_, wa, wb, wc⟩
    obtain ⟨L⟩ := xs
    rw [three_key.one] at e0 e1 e2
    match L, hn with
    | [x, y, z], _ =>
      simp at e0 e1 e2
      rw [e0, e1, e2]
      rfl
theorem eq_three (a b c x y z : Int) (w : World) : (Op.equalIn 10000 48 (V3 a b c) (V3 x y z)).run Try.prog w = .ok (decide (a = x ∧ b = y ∧ c = z)) w := by
  obtain ⟨i, hi⟩ : ∃ i, Try.prog.info? 3 = some i := by
    cases h : Try.prog.info? 3 with
    | some i => exact ⟨i, rfl⟩
    | none =>
      have : (Try.prog.info? 3).isSome = true := by kernel_rfl
      rw [h] at this
      cases this
  unfold V3
  rw [show (10000 : Nat) = 9999 + 1 from rfl, run_equalIn_array w 9999 _ _ three_key.hu hi, three_key.one, show List.range 3 = [0, 1, 2] from rfl]
  have hp : ∀ (xs : Array Value) (v : Value) (j : Nat) (w : World), xs[j]? = some v → (part 3 xs j).run Try.prog w = .ok v w := by
    intro xs v j w h
    unfold part
    rw [Sem.run_bind, Try.isAgg3]
    simp [h]
  have he : ∀ (m n : Int) (w : World), (Op.equalIn 9999 3 (.int .i64 m) (.int .i64 n)).run Try.prog w = .ok (m == n) w := fun m n w => run_equalIn_int w 9998 _ .i64 .i64 m n Try.underlying3
  have pa0 := fun w => hp #[.int .i64 a, .int .i64 b, .int .i64 c] (.int .i64 a) 0 w rfl
  have pa1 := fun w => hp #[.int .i64 a, .int .i64 b, .int .i64 c] (.int .i64 b) 1 w rfl
  have pa2 := fun w => hp #[.int .i64 a, .int .i64 b, .int .i64 c] (.int .i64 c) 2 w rfl
  have px0 := fun w => hp #[.int .i64 x, .int .i64 y, .int .i64 z] (.int .i64 x) 0 w rfl
  have px1 := fun w => hp #[.int .i64 x, .int .i64 y, .int .i64 z] (.int .i64 y) 1 w rfl
  have px2 := fun w => hp #[.int .i64 x, .int .i64 y, .int .i64 z] (.int .i64 z) 2 w rfl
  simp only [Op.eqItems, Nat.mul_one, Sem.run_bind, Sem.run_ite, Sem.run_pure, pa0, pa1, pa2, px0, px1, px2, Result.andThen_ok, he]
  by_cases h1 : a = x
  · by_cases h2 : b = y
    · by_cases h3 : c = z
      · simp [h1, h2, h3]
      · simp [h1, h2, h3]
    · simp [h1, h2]
  · simp [h1]
end Go.Proofs.Ytkbidgonjnlkmaa

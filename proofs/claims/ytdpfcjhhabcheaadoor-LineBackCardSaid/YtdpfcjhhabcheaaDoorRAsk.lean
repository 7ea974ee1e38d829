/-
  The contract of the reference's ask. No condition. Own work.
-/
import Derived.Test.YtdpfcjhhabcheaaDoorAsk
namespace Go.Proofs.YtdpfcjhhabcheaaDoor
open Go Go.RowKit

theorem find_of {c : UInt8} : ∀ {l : List UInt8} {i : Nat}, l[i]? = some c → (∀ (j : Nat) (d : UInt8), j < i → l[j]? = some d → d ≠ c) → findB c l = some i
  | [], i, h, _ => by simp at h
  | b :: l, 0, h, _ => by
    simp at h
    unfold findB
    rw [if_pos h]
  | b :: l, i + 1, h, ha => by
    have hb := ha 0 b (by omega) rfl
    unfold findB
    rw [if_neg hb, find_of (by simpa using h) (fun j d hj hd => ha (j + 1) d (by omega) (by simpa using hd))]
    rfl
theorem find_no {c : UInt8} {l : List UInt8} (ha : ∀ (j : Nat) (d : UInt8), l[j]? = some d → d ≠ c) : findB c l = none := by
  cases h : findB c l with
  | none => rfl
  | some i => exact absurd rfl (ha i c (find_lt h).2.1)
theorem results_cell1 {fn : Func} {p : Tmp} {ty : TypeId} (h : fn.results = #[.cell p ty]) (tmps : Array Value) (P : Program) (w : World) :
    (results fn tmps).run P w = ((asAddr (tmps.getD p undef)).run P w).andThen fun a w₁ => (loadVar ty a).run P w₁ := by
  simp only [results, h]
  simp [Sem.run_bind, Result.andThen]
/-- What the reference's ask tells: an epoch below 0: none. -/
def raskP (s : ByteArray) : Int × Int := match findB 58 s.data.toList with
  | some i => if 0 ≤ numR (s.extract 0 i).data.toList ∧ 0 ≤ numR (s.extract (i + 1) s.size).data.toList then (numR (s.extract 0 i).data.toList, numR (s.extract (i + 1) s.size).data.toList) else (-1, 0)
  | none => (-1, 0)
end Go.Proofs.YtdpfcjhhabcheaaDoor

/-
  Small laws on strings (where the seat has no octet.Put, which brings them). No condition. Own work.
-/
import Derived.Test.YtdpfcjhhabcheaaDoorArr0
import Derived.Test.YtdpfcjhhabcheaaDoorLawKit
import Derived.Test.YtdpfcjhhabcheaaDoorBytes
namespace Go.Proofs.YtdpfcjhhabcheaaDoor
open Go.RowKit

theorem str_app (A B : List UInt8) : (⟨A.toArray⟩ : ByteArray) ++ ⟨B.toArray⟩ = ⟨(A ++ B).toArray⟩ := by
  apply ByteArray.ext
  simp [ByteArray.data_append]
theorem str_snoc (A : List UInt8) (v : UInt8) : (⟨A.toArray⟩ : ByteArray) ++ ⟨#[v]⟩ = ⟨(A ++ [v]).toArray⟩ := str_app A [v]
/-- 'string([]byte{byte(n)})'. -/
theorem one_str (v : UInt8) (W : World) : (convert 93 9 (.slice (some ⟨W.heap.size, 0, none⟩) 1 1)).run Tryd.prog (W.alloc (.cells #[bv v] 5)) = .ok (.string ⟨#[v]⟩) (W.alloc (.cells #[bv v] 5)) := by
  have hA := Arr.new W 5 [v]
  exact hA.str (P := Tryd.prog) 1 1 rfl 93 5 9 Tryd.underlying93 Tryd.underlying5 Tryd.underlying9
theorem str_idx (s : ByteArray) (i : Nat) (c : UInt8) (h : s.data.toList[i]? = some c) : ∀ W, (Instr.index 9 (.string s) (.int .i64 (i : Int))).run Tryd.prog W = .ok (.int .u8 ((c.toNat : Nat) : Int)) W := by
  intro W
  have hi : i < s.size := by
    have := (List.getElem?_eq_some_iff.mp h).1
    simpa using this
  have hx : s[i] = c := by
    have h2 : s.data[i]? = some c := by simpa using h
    obtain ⟨h3, h4⟩ := Array.getElem?_eq_some_iff.mp h2
    exact h4
  simp [go_sem, hi, hx]
theorem ext_list (s : ByteArray) (i j : Nat) : (s.extract i j).data.toList = (s.data.toList.take j).drop i := by
  simp only [ByteArray.data_extract, Array.toList_extract, List.extract_eq_take_drop, List.drop_take]
theorem str_tl (s : ByteArray) : s.toList = s.data.toList := ByteArray.toList_eq s
end Go.Proofs.YtdpfcjhhabcheaaDoor

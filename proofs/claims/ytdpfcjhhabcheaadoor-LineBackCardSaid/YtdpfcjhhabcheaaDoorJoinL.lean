/-
  strings.Join and slices.Clone of a slice that the call owns. No condition. Own work.
-/
import Derived.Test.YtdpfcjhhabcheaaDoorSl
import Derived.Test.YtdpfcjhhabcheaaDoorShelfE
namespace Go.Proofs.YtdpfcjhhabcheaaDoor
open Go Go.RowKit

abbrev sBlank : ByteArray := ⟨#[32]⟩

/-- Texts, with a blank between each two. -/
def joinS (xs : List ByteArray) : ByteArray := ⟨(Lib.join (xs.map (·.data.toList)) [32]).toArray⟩
theorem joinTail_len (r : List ByteArray) (m : Nat) (h : ∀ x ∈ r, x.size ≤ m) : (Lib.joinTail [32] (r.map (·.data.toList))).length ≤ r.length * (m + 1) := by
  induction r with
  | nil => simp [Lib.joinTail]
  | cons x r ih =>
    have h1 := ih fun y hy => h y (by simp [hy])
    have h2 := h x (by simp)
    unfold Lib.joinTail at h1 ⊢
    simp only [List.map_cons, List.flatten_cons, List.length_append, List.length_cons, List.length_nil, Nat.succ_mul, Array.length_toList, ByteArray.size_data] at h1 ⊢
    omega
theorem join_len (r : List ByteArray) (m : Nat) (h : ∀ x ∈ r, x.size ≤ m) : (Lib.join (r.map (·.data.toList)) [32]).length ≤ r.length * (m + 1) := by
  cases r with
  | nil => simp [Lib.join_nil]
  | cons x r =>
    have h1 := joinTail_len r m fun y hy => h y (by simp [hy])
    have h2 := h x (by simp)
    rw [List.map_cons, Lib.join_cons, List.length_append, Array.length_toList, ByteArray.size_data, List.length_cons, Nat.succ_mul]
    omega
/-- strings.Join of a slice that the call owns, with a blank. -/
theorem join_any {B : Nat} {v : Value} (xs : List ByteArray) (m : Nat) (hm : ∀ x ∈ xs, x.size ≤ m) (hl : xs.length ≤ 1000) (hmb : m ≤ 1000000) (h0 : 0 < xs.length) (w : World) (h : SlO 9 B v (xs.map Value.string) w) :
    Calls Tryd.prog 40 #[v, .string sBlank] w fun e w' => e = .returned (.string (joinS xs)) ∧ Below w.heap.size w w' := by
  obtain ⟨g, cap, rfl, hc, _, hC⟩ := h.opened (by simpa using h0)
  have hj := join_len xs m hm
  have hb : xs.length * (m + 1) ≤ 1000 * 1000001 := Nat.mul_le_mul hl (by omega)
  simp only [List.length_map] at hc ⊢
  exact Tryd.strings_Join g 0 cap xs sBlank w (fun j x hx => by
    have := hC.2 j (.string x) (by rw [List.getElem?_map, hx]; rfl)
    rwa [Nat.zero_add]) hC.1 (by omega) hc (by
      show (Lib.join (xs.map (·.data.toList)) [32]).length ≤ _
      omega)
/-- slices.Clone of a slice of texts that the call owns. -/
theorem clone_any {B : Nat} {v : Value} (xs : List ByteArray) (hl : xs.length ≤ 1000) (h0 : 0 < xs.length) (w : World) (h : SlO 9 B v (xs.map Value.string) w) :
    Calls Tryd.prog 47 #[v] w fun e w' => ∃ v', e = .returned v' ∧ SlO 9 w.heap.size v' (xs.map Value.string) w' ∧ Below w.heap.size w w' := by
  obtain ⟨g, cap, rfl, hc, _, hC⟩ := h.opened (by simpa using h0)
  simp only [List.length_map] at hc ⊢
  refine (Tryd.slices_Clone_string g 0 xs.length cap xs w (Nat.le_refl _) (by omega) (fun j hj => ?_)).mono ?_
  · rw [Nat.zero_add]
    have e : xs[j]? = some (xs.getD j ByteArray.empty) := by rw [List.getD_eq_getElem?_getD, List.getElem?_eq_getElem hj]; rfl
    exact hC.2 j _ (by rw [List.getElem?_map, e]; rfl)
  · rintro e w' ⟨v', rfl, h1, -, h3⟩
    refine ⟨v', rfl, ?_, h3⟩
    unfold SlO
    rw [List.take_of_length_le (Nat.le_refl _)] at h1
    rw [List.length_map]
    exact h1
end Go.Proofs.YtdpfcjhhabcheaaDoor

/-
  An event that may be, plainly: its parts, how long its words are. No condition. Own work.
-/
import Derived.Test.YtdpfcjhhabcheaaDoorShowP4
import Derived.Test.YtdpfcjhhabcheaaDoorShowB
namespace Go.Proofs.YtdpfcjhhabcheaaDoor
open Go Go.RowKit

/-- What is known of an event that may be. -/
structure OkE (e : Ev) (s : Shp) : Prop where
  of : ofW e.word.data.toList = some s
  nums : e.nums.length ≤ 64
  asks : e.asks.length ≤ 64
  nb : ∀ (j : Nat) (p : Int), e.nums[j]? = some p → 0 ≤ p ∧ p ≤ 1099511627776
  ab : ∀ (j : Nat) (p : Int × Int), e.asks[j]? = some p → (0 ≤ p.1 ∧ p.1 ≤ 4294967295) ∧ 0 ≤ p.2 ∧ p.2 ≤ 4095
  za : s.asks = false → e.asks = []
  name : e.name.size ≤ 16
  data : e.data.size ≤ 40
theorem ok_parts (e : Ev) (h : evOk e = true) : ∃ s, OkE e s := by
  unfold evOk at h
  cases ho : ofW e.word.toList with
  | none => rw [ho] at h; cases h
  | some s =>
    rw [ho] at h
    dsimp only at h
    obtain ⟨-, hm⟩ := of_bounds ho
    rw [str_tl] at ho
    rw [Bool.and_eq_true, Bool.and_eq_true] at h
    obtain ⟨h1, h2, h3⟩ := h
    unfold headB at h1
    simp only [Bool.and_eq_true, decide_eq_true_eq] at h1
    obtain ⟨⟨⟨⟨g1, g2⟩, g3⟩, g4, g5⟩, g6⟩ := h1
    refine ⟨s, ho, by omega, ?_, fun j p hp => ?_, fun j p hp => ?_, fun hs => ?_, ?_, ?_⟩
    · split at g6
      · simp at g6; omega
      · simp at g6; rw [g6]; simp
    · have := List.all_eq_true.1 h2 p (List.mem_of_getElem? hp)
      unfold numB at this
      simpa using this
    · have := List.all_eq_true.1 h3 p (List.mem_of_getElem? hp)
      unfold askB at this
      simpa using this
    · rw [hs] at g6
      simpa using g6
    · split at g3
      · unfold nameL at g3
        simp only [Bool.and_eq_true, decide_eq_true_eq] at g3
        rw [sz_list]
        exact g3.1.2
      · have : e.name.data.toList = [] := by simpa using g3
        rw [sz_list, this]
        simp
    · unfold dataB at g4
      simp only [Bool.and_eq_true, decide_eq_true_eq] at g4
      rw [sz_list]
      exact g4.1
theorem words_small (e : Ev) (s : Shp) (h : OkE e s) : ∀ x ∈ (showW e).map baL, x.size ≤ 40 := by
  rw [showB_eq h.of]
  intro x hx
  rcases List.mem_append.1 hx with hx | hx
  · rcases List.mem_cons.1 hx with rfl | hx
    · rw [sz_list]; have := (of_good h.of).2; omega
    · obtain ⟨n, hn, rfl⟩ := List.mem_map.1 hx
      obtain ⟨j, hj⟩ := List.mem_iff_getElem?.1 hn
      have := h.nb j n hj
      have := decS_len n.toNat (by omega)
      omega
  · rcases List.mem_append.1 hx with hx | hx
    · obtain ⟨y, hy, rfl⟩ := List.mem_map.1 hx
      unfold midW at hy
      have h1 := h.name
      have h2 := h.data
      rw [sz_list] at h1 h2
      have e3 : (baL y).size = y.length := by rw [sz_list]; rfl
      rw [e3]
      split at hy
      · rw [List.mem_singleton] at hy; subst hy; omega
      · split at hy
        · rw [List.mem_singleton] at hy
          split at hy
          · subst hy; decide
          · subst hy; omega
        · cases hy
    · obtain ⟨a, ha, rfl⟩ := List.mem_map.1 hx
      obtain ⟨j, hj⟩ := List.mem_iff_getElem?.1 ha
      obtain ⟨⟨a1, a2⟩, a3, a4⟩ := h.ab j a hj
      have d1 := decS_len a.1.toNat (by omega)
      have d2 := decS_len a.2.toNat (by omega)
      have e1 : (askT a).size = (Lib.decDigits a.1.toNat).length + 1 + (Lib.decDigits a.2.toNat).length := by
        rw [sz_list]
        show (askW a).length = _
        unfold askW
        simp
        omega
      have e2 : ∀ n, (decS n).size = (Lib.decDigits n).length := fun n => by rw [sz_list]; rfl
      rw [e2] at d1 d2
      omega
theorem words_count (e : Ev) (s : Shp) (h : OkE e s) : ((showW e).map baL).length ≤ 130 := by
  rw [showB_eq h.of]
  have h1 := h.nums
  have h2 := h.asks
  have h3 : (midW s e).length ≤ 1 := by
    unfold midW
    split
    · simp
    · split <;> simp
  simp only [List.length_append, List.length_cons, List.length_map]
  omega
end Go.Proofs.YtdpfcjhhabcheaaDoor

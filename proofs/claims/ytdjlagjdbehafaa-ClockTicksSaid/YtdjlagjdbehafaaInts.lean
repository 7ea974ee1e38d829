/-
  A slice of ints that comes in: what its cells hold. No condition. Own work.
-/
import Derived.Test.YtdjlagjdbehafaaLawKit
import Derived.Test.YtdjlagjdbehafaaBase
namespace Go.Proofs.Ytdjlagjdbehafaa
open Go.RowKit Go.ChangeShapes Go.WideShapes Go.ChangeAt

/-- A slice of n ints lies at A (below block B) and holds zs. -/
structure IntsAt (w : World) (B : Nat) (A : Option Addr) (n : Nat) (zs : List Int) : Prop where
  len : zs.length = n
  wf : ∀ z ∈ zs, -9223372036854775808 ≤ z ∧ z ≤ 9223372036854775807
  lies : 0 < n → ∃ ad, A = some ad ∧ ad.block < B ∧ ∀ j, j < n → w.cell? (ad.add j) = some (.int .i64 (zs.getD j 0))

theorem block_add (a : Addr) (j : Nat) : (a.add j).block = a.block := by unfold Addr.add; split <;> rfl
theorem IntsAt.below {w w' : World} {B : Nat} {A : Option Addr} {n : Nat} {zs : List Int} (h : IntsAt w B A n zs) (hb : Below B w w') : IntsAt w' B A n zs :=
  ⟨h.len, h.wf, fun hn => by
    obtain ⟨ad, e, hl, hc⟩ := h.lies hn
    exact ⟨ad, e, hl, fun j hj => (hb.cell (by rw [block_add]; exact hl)).trans (hc j hj)⟩⟩

/-- A []int among the arguments. -/
theorem open_intsAt {H : Type} {enc : TypeId × Value → H} {W : World} {base : Nat} {v : Value} {d : DataW H} {ps : List MemPlace} (hval : Value.okWide Try.prog W .any base 35 v)
    (hd : DataW.Trod enc Try.prog W 0 (fun _ => true) true 35 v d ps) (hlt : ∀ p ∈ ps, p.block < W.heap.size) :
    ∃ (A : Option Addr) (n c : Nat) (zs : List Int), v = .slice A n c ∧ n ≤ c ∧ c ≤ maxLen ∧ IntsAt W W.heap.size A n zs := by
  obtain ⟨a0, len, cap, rfl⟩ := okWide_slice Try.underlying35 hval
  obtain ⟨fuel, hf⟩ := hd
  rcases open_ints Try.underlying35 Try.underlying3 (by kernel_rfl) hf with ⟨hcs, hx⟩ | ⟨a, len', cap', zs, hcs, _, hl, hm, hz, hx, hcell, hwz⟩
  · simp [Value.cells] at hcs
    obtain ⟨rfl, rfl, rfl⟩ := hcs
    exact ⟨none, 0, 0, [], rfl, Nat.le_refl _, Nat.zero_le _, ⟨rfl, (fun z hz => by cases hz), fun h => absurd h (by omega)⟩⟩
  · simp [Value.cells] at hcs
    obtain ⟨rfl, rfl, rfl⟩ := hcs
    simp only [if_true] at hz
    simp only [Prod.mk.injEq] at hx
    obtain ⟨_, rfl⟩ := hx
    refine ⟨some a, len, cap, zs.take len, rfl, hl, hm, by simp; omega, fun z hz' => int_bd (hwz z (List.mem_of_mem_take hz')), fun hn => ⟨a, rfl, ?_, fun j hj => ?_⟩⟩
    · have h0 := hcell 0 (by omega)
      rcases Nat.lt_or_ge a.block W.heap.size with h | h
      · exact h
      · have : W.heap[(a.add 0).block]? = none := by rw [block_add]; exact Array.getElem?_eq_none h
        simp [World.cell?, this] at h0
    · rw [hcell j (by omega)]
      congr 2
      rw [List.getD_eq_getElem?_getD, List.getD_eq_getElem?_getD, List.getElem?_take, if_pos hj]

end Go.Proofs.Ytdjlagjdbehafaa

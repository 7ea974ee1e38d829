/-
  The contracts of record.widths; record's bytes, plainly. No condition. Own work.
-/
import Derived.Test.YtdpfcjhhabcheaaDoorRCheck
import Derived.Test.YtdpfcjhhabcheaaDoorRPack
import Derived.Test.YtdpfcjhhabcheaaDoorTwo
namespace Go.Proofs.YtdpfcjhhabcheaaDoor
open Go.RowKit

abbrev WC : Array Value := #[.int .i64 1, .int .i64 4, .int .i64 8, .int .i64 4, .int .i64 4, .int .i64 8]
set_option maxRecDepth 100000 in
theorem rwidths_any (w : World) : Calls Tryd.prog 32 #[] w fun e w' => e = .returned (.slice (some ⟨w.heap.size, 0, none⟩) 6 6) ∧ w.alloc (.cells WC 3) = w' := by
  go_enter Tryd.func32, Tryd.ntmps32
  go_wp2_with fail
  go_ret
  exact ⟨rfl, rfl⟩
/-- A record's numbers, with their widths. -/
def rnL (k e t c g u : Nat) : List (Nat × Nat) := [(1, k), (4, e), (8, t), (4, c), (4, g), (8, u)]
def FitsR (k e t c g u : Nat) : Prop := k < 2 ^ 8 ∧ e < 2 ^ 32 ∧ t < 2 ^ 63 ∧ c < 2 ^ 32 ∧ g < 2 ^ 32 ∧ u < 2 ^ 63
theorem rok_fits {k e t c g u : Nat} {r n : ByteArray} (h : ROk k e t c g u r n) : FitsR k e t c g u := by
  unfold ROk tgOk unOk at h
  unfold FitsR
  omega
theorem rnL_fit {k e t c g u : Nat} (h : FitsR k e t c g u) : ∀ p ∈ rnL k e t c g u, 1 ≤ p.1 ∧ p.1 ≤ 8 ∧ p.2 ≤ 9223372036854775807 ∧ p.2 < 2 ^ (8 * p.1) := by
  unfold FitsR at h
  intro p hp
  simp only [rnL, List.mem_cons, List.not_mem_nil, or_false] at hp
  rcases hp with rfl | rfl | rfl | rfl | rfl | rfl <;> simp <;> omega
theorem rok_nat {k e t c g u : Int} {r n : ByteArray} (h : ROk k e t c g u r n) : 0 ≤ k ∧ 0 ≤ e ∧ 0 ≤ t ∧ 0 ≤ c ∧ 0 ≤ g ∧ 0 ≤ u := by
  unfold ROk tgOk unOk at h
  omega
theorem packO_fit : ∀ L : List (Nat × Nat), (∀ p ∈ L, 1 ≤ p.1 ∧ p.1 ≤ 8 ∧ p.2 ≤ 9223372036854775807 ∧ p.2 < 2 ^ (8 * p.1)) → packO (L.map fun p => (p.1, (p.2 : Int))) = some (packB L)
  | [], _ => rfl
  | (k, n) :: L, h => by
    have h1 := (h (k, n) (by simp)).2.2.2
    have ih := packO_fit L fun p hp => h p (by simp [hp])
    have h2 : (0 : Int) ≤ (n : Int) ∧ (n : Int) < 2 ^ (8 * k) := by
      have e : ((2 ^ (8 * k) : Nat) : Int) = 2 ^ (8 * k) := by simp
      rw [← e]
      simp only at h1
      omega
    rw [List.map_cons, packO, if_pos h2, ih]
    rfl
/-- A record's bytes. -/
def recB (k e t c g u : Nat) (r n : List UInt8) : List UInt8 := packB (rnL k e t c g u) ++ txB r ++ txB n
abbrev NC (k e t c g u : Nat) : Array Value := #[.int .i64 (k : Int), .int .i64 (e : Int), .int .i64 (t : Int), .int .i64 (c : Int), .int .i64 (g : Int), .int .i64 (u : Int)]
theorem wc_cells (k e t c g u : Nat) {w : World} {g1 : Nat} {T : TypeId} (h : w.heap[g1]? = some (.cells WC T (0, 0))) : ∀ j p, (rnL k e t c g u)[j]? = some p → w.cell? ⟨g1, j, none⟩ = some (.int .i64 (p.1 : Int)) := fun j p hp => by
  refine (cell_of_row _ g1 j _ _ (0, 0) h).trans ?_
  match j with
  | 0 => simp [rnL] at hp; subst hp; rfl
  | 1 => simp [rnL] at hp; subst hp; rfl
  | 2 => simp [rnL] at hp; subst hp; rfl
  | 3 => simp [rnL] at hp; subst hp; rfl
  | 4 => simp [rnL] at hp; subst hp; rfl
  | 5 => simp [rnL] at hp; subst hp; rfl
  | j + 6 => simp [rnL] at hp
theorem nc_cells (k e t c g u : Nat) {w : World} {g1 : Nat} {T : TypeId} (h : w.heap[g1]? = some (.cells (NC k e t c g u) T (0, 0))) : ∀ j p, (rnL k e t c g u)[j]? = some p → w.cell? ⟨g1, j, none⟩ = some (.int .i64 (p.2 : Int)) := fun j p hp => by
  refine (cell_of_row _ g1 j _ _ (0, 0) h).trans ?_
  match j with
  | 0 => simp [rnL] at hp; subst hp; rfl
  | 1 => simp [rnL] at hp; subst hp; rfl
  | 2 => simp [rnL] at hp; subst hp; rfl
  | 3 => simp [rnL] at hp; subst hp; rfl
  | 4 => simp [rnL] at hp; subst hp; rfl
  | 5 => simp [rnL] at hp; subst hp; rfl
  | j + 6 => simp [rnL] at hp
/-- octet.Pack, of two rows just built. -/
theorem pack6 (k e t c g u : Nat) (h : FitsR k e t c g u) (gw gn : Nat) (w : World) {T1 T2 : TypeId} (h1 : w.heap[gw]? = some (.cells WC T1 (0, 0))) (h2 : w.heap[gn]? = some (.cells (NC k e t c g u) T2 (0, 0))) :
    Calls Tryd.prog 31 #[.slice (some ⟨gw, 0, none⟩) 6 6, .slice (some ⟨gn, 0, none⟩) 6 6] w fun x w' => x = .returned (.tuple #[.string ⟨(packB (rnL k e t c g u)).toArray⟩, .int .i64 0]) ∧ Below w.heap.size w w' := by
  have hf := rnL_fit h
  have hp := pack_any ((rnL k e t c g u).map fun p => (p.1, (p.2 : Int))) gw gn 6 6 (fun p hp => by
      obtain ⟨q, hq, rfl⟩ := List.mem_map.1 hp
      obtain ⟨a1, a2, a3, _⟩ := hf q hq
      exact ⟨a1, a2, by simp only; omega⟩) (by simp [rnL]) w (lt_of_block h1) (lt_of_block h2)
    (fun j p hp => by
      rw [List.getElem?_map] at hp
      obtain ⟨q, hq, rfl⟩ := Option.map_eq_some_iff.1 hp
      exact wc_cells k e t c g u h1 j q hq)
    (fun j p hp => by
      rw [List.getElem?_map] at hp
      obtain ⟨q, hq, rfl⟩ := Option.map_eq_some_iff.1 hp
      exact nc_cells k e t c g u h2 j q hq)
  rw [packR, packO_fit _ hf] at hp
  exact hp
theorem rpack6 (k e t c g u : Nat) (h : FitsR k e t c g u) (gw gn : Nat) (w : World) {T1 T2 : TypeId} (h1 : w.heap[gw]? = some (.cells WC T1 (0, 0))) (h2 : w.heap[gn]? = some (.cells (NC k e t c g u) T2 (0, 0))) :
    Calls Tryd.prog 35 #[.slice (some ⟨gw, 0, none⟩) 6 6, .slice (some ⟨gn, 0, none⟩) 6 6] w fun x w' => x = .returned (.tuple #[.string ⟨(packB (rnL k e t c g u)).toArray⟩, .int .i64 0]) ∧ Below w.heap.size w w' :=
  rpack_yes (rnL k e t c g u) gw gn 6 6 (rnL_fit h) (by simp [rnL]) w (lt_of_block h1) (lt_of_block h2) (wc_cells k e t c g u h1) (nc_cells k e t c g u h2)
end Go.Proofs.YtdpfcjhhabcheaaDoor

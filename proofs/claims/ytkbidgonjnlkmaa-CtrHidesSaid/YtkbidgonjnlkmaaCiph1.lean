/-
  A cipher in memory; the closures of AES. No condition. Own work.
-/
import Derived.Test.YtkbidgonjnlkmaaExp2
namespace Go.Proofs.Ytkbidgonjnlkmaa
open Go.RowKit

/-- Block k is a made cipher of the words W and the table T. -/
def Ciph (w : World) (k : Nat) (W T : List UInt8) : Prop := w.heap[k]? = some (.cells (.bool true :: (W.map bv ++ T.map bv)).toArray 31 (0, 0))
section
variable {w w' : World} {k : Nat} {W T : List UInt8}
theorem Ciph.lt (h : Ciph w k W T) : k < w.heap.size := lt_of_block h
theorem Ciph.grown {r : Option Nat} (h : Ciph w k W T) (hg : w.grownBy w' r) (hne : some k ≠ r) : Ciph w' k W T := (hg.block k h.lt hne).trans h
theorem Ciph.below {B : Nat} (h : Ciph w k W T) (hb : Below B w w') (hk : k < B) : Ciph w' k W T := (hb.block k hk).trans h
theorem Ciph.made (h : Ciph w k W T) : w.cell? ⟨k, 0, none⟩ = some (.bool true) := by
  rw [cell_of_row w k 0 _ _ (0, 0) h]; rfl
theorem Ciph.words (h : Ciph w k W T) : w.rangeAt k 1 (W.map bv) := by
  intro j v hv
  rw [cell_of_row w k (1 + j) _ _ (0, 0) h, List.getElem?_toArray, show 1 + j = j + 1 from by omega, List.getElem?_cons_succ, List.getElem?_append_left (List.getElem?_eq_some_iff.1 hv).1]
  exact hv
theorem Ciph.box (h : Ciph w k W T) (hW : W.length = 176) {i : Nat} {c : UInt8} (hc : T[i]? = some c) : w.cell? ⟨k, 177 + i, none⟩ = some (bv c) := by
  rw [cell_of_row w k (177 + i) _ _ (0, 0) h, List.getElem?_toArray, show 177 + i = 176 + i + 1 from by omega, List.getElem?_cons_succ, List.getElem?_append_right (by rw [List.length_map]; omega), List.length_map, hW,
    show 176 + i - 176 = i from by omega, List.getElem?_map, hc]
  rfl
end

theorem enc1_any (b0 k : Nat) (W T : List UInt8) (hW : W.length = 176) (hT : T.length = 256) (w : World) (hp : w.cell? ⟨b0, 0, none⟩ = some (.pointer (some ⟨k, 0, none⟩))) (hc : Ciph w k W T) (b : UInt8) :
    Calls Try.prog 39 #[bv b, .pointer (some ⟨b0, 0, none⟩)] w fun e w' => e = .returned (bv (T.getD b.toNat 0)) ∧ w = w' := by
  have hbl : ((b.toNat : Nat) : Int) < 256 := by have := b.toNat_lt; omega
  obtain ⟨c, hcc⟩ : ∃ c, c = T.getD b.toNat 0 := ⟨_, rfl⟩
  have hx := hc.box hW (i := b.toNat) (c := c) (by rw [hcc]; exact getD_some (by have := b.toNat_lt; omega))
  have hmade := hc.made
  rw [← hcc]
  clear hc hcc
  go_enter Try.func39, Try.ntmps39
  go_wp2_with fail
  go_ret
  exact ⟨rfl, rfl⟩
theorem enc1_fid (args : Array Value) (W : World) : (callFunc 39 args).run Try.prog W = .ok (.enter 39 args) W := by
  rfl
theorem dec1_any (g : Nat) (T : List UInt8) (hT : T.length = 256) (w : World) (hA : Arr w g 29 T) (b : UInt8) :
    Calls Try.prog 47 #[bv b, .pointer (some ⟨g, 0, none⟩)] w fun e w' => e = .returned (bv (T.getD b.toNat 0)) ∧ w = w' := by
  have hbl : ((b.toNat : Nat) : Int) < 256 := by have := b.toNat_lt; omega
  obtain ⟨c, hcc⟩ : ∃ c, c = T.getD b.toNat 0 := ⟨_, rfl⟩
  have hx := hA.cell (i := b.toNat) (c := c) (by rw [hcc]; exact getD_some (by have := b.toNat_lt; omega))
  rw [← hcc]
  clear hA hcc
  go_enter Try.func47, Try.ntmps47
  go_wp2_with fail
  go_ret
  exact ⟨rfl, rfl⟩
theorem dec1_fid (args : Array Value) (W : World) : (callFunc 47 args).run Try.prog W = .ok (.enter 47 args) W := by
  rfl
end Go.Proofs.Ytkbidgonjnlkmaa

/-
  The bytes of an expanded key, plainly. No condition. Own work.
-/
import Derived.Test.YtkbidgonjnlkmaaCopy
namespace Go.Proofs.Ytkbidgonjnlkmaa
open Go.RowKit

theorem Arr.range {w : World} {g : Nat} {T : TypeId} {R : List UInt8} (h : Arr w g T R) (o : Nat) (S : List UInt8) (hs : ∀ j c, S[j]? = some c → R[o + j]? = some c) : w.rangeAt g o (S.map bv) := by
  intro j v hv
  rw [List.getElem?_map] at hv
  cases hc : S[j]? with
  | none => rw [hc] at hv; cases hv
  | some c =>
    rw [hc] at hv
    cases hv
    exact h.cell (hs j c hc)

/-- The word that is added to word i - 4. -/
def tW (i : Nat) (pw : UInt8) (t : List UInt8) : List UInt8 :=
  if i % 4 = 0 then [boxT.getD (t.getD 1 0).toNat 0 ^^^ pw, boxT.getD (t.getD 2 0).toNat 0, boxT.getD (t.getD 3 0).toNat 0, boxT.getD (t.getD 0 0).toNat 0] else t
def exP : Nat → UInt8
  | 0 => 1
  | n + 1 => if (4 + n) % 4 = 0 then gm (exP n) 2 else exP n
def tB (L : List UInt8) (n : Nat) : List UInt8 := (List.range 4).map fun r => L.getD (4 * n + 12 + r) 0
def exL (K : List UInt8) : Nat → List UInt8
  | 0 => K
  | n + 1 => exL K n ++ (List.range 4).map fun r => (exL K n).getD (4 * n + r) 0 ^^^ (tW (4 + n) (exP n) (tB (exL K n) n)).getD r 0
theorem exL_len (K : List UInt8) (hK : K.length = 16) (n : Nat) : (exL K n).length = 16 + 4 * n := by
  induction n with
  | zero => exact hK
  | succ n ih => rw [exL, List.length_append, ih, List.length_map, List.length_range]; omega
theorem exL_pre (K : List UInt8) (hK : K.length = 16) (n m j : Nat) (h : j < 16 + 4 * n) : (exL K (n + m))[j]? = (exL K n)[j]? := by
  induction m with
  | zero => rfl
  | succ m ih => rw [show n + (m + 1) = (n + m) + 1 from rfl, exL, List.getElem?_append_left (by rw [exL_len K hK]; omega), ih]
theorem exL_key (K : List UInt8) (hK : K.length = 16) (b : Nat) (hb : b < 16) : (exL K 40)[b]? = K[b]? := exL_pre K hK 0 40 b (by omega)
theorem exL_word (K : List UInt8) (hK : K.length = 16) (n r : Nat) (hn : n < 40) (hr : r < 4) :
    (exL K 40)[16 + 4 * n + r]? = some ((exL K 40).getD (4 * n + r) 0 ^^^ (tW (4 + n) (exP n) (tB (exL K 40) n)).getD r 0) := by
  have e : ∀ j, j < 16 + 4 * n → (exL K 40).getD j 0 = (exL K n).getD j 0 := fun j hj => by
    rw [List.getD_eq_getElem?_getD, List.getD_eq_getElem?_getD, show 40 = n + (40 - n) from by omega, exL_pre K hK n _ j hj]
  have et : tB (exL K 40) n = tB (exL K n) n := by
    unfold tB
    refine List.map_congr_left fun r hr => e _ ?_
    have := List.mem_range.1 hr
    omega
  rw [e _ (by omega), et, show (exL K 40)[16 + 4 * n + r]? = (exL K (n + 1))[16 + 4 * n + r]? from by
    rw [show 40 = (n + 1) + (39 - n) from by omega]; exact exL_pre K hK (n + 1) _ _ (by omega)]
  rw [exL, List.getElem?_append_right (by rw [exL_len K hK]; omega), exL_len K hK, show 16 + 4 * n + r - (16 + 4 * n) = r from by omega]
  exact range_get _ 4 r hr
theorem tB_len (L : List UInt8) (n : Nat) : (tB L n).length = 4 := by simp [tB]
theorem tB_get (L : List UInt8) (n r : Nat) (hr : r < 4) : (tB L n)[r]? = some (L.getD (4 * n + 12 + r) 0) := range_get _ 4 r hr
theorem tW_len (i : Nat) (pw : UInt8) (t : List UInt8) (h : t.length = 4) : (tW i pw t).length = 4 := by
  unfold tW
  split
  · rfl
  · exact h
/-- A copy into a row half written. -/
theorem mixL_copy (A B S : List UInt8) (o : Nat) (hl : A.length = B.length) (ho : o + 4 ≤ A.length) (hs : ∀ j, j < 4 → S[j]? = A[o + j]?) :
    (mixL A B o).take o ++ S.take 4 ++ (mixL A B o).drop (o + 4) = mixL A B (o + 4) := by
  have hs4 : (S.take 4).length = 4 := by
    have : S[3]? = some (A[o + 3]'(by omega)) := (hs 3 (by omega)).trans (List.getElem?_eq_getElem _)
    have := (List.getElem?_eq_some_iff.1 this).1
    rw [List.length_take]; omega
  apply List.ext_getElem?
  intro j
  have ht : ((mixL A B o).take o).length = o := by rw [List.length_take, mixL_len _ _ _ hl]; omega
  rw [List.append_assoc, List.getElem?_append, ht, List.getElem?_append, hs4, mixL_get _ _ _ _ hl]
  by_cases h1 : j < o
  · rw [if_pos h1, if_pos (by omega), List.getElem?_take, if_pos h1, mixL_get _ _ _ _ hl, if_pos h1]
  · rw [if_neg h1]
    by_cases h2 : j < o + 4
    · rw [if_pos (by omega), if_pos h2, List.getElem?_take, if_pos (by omega), hs _ (by omega), show o + (j - o) = j from by omega]
    · rw [if_neg (by omega), if_neg h2, List.getElem?_drop, mixL_get _ _ _ _ hl, if_neg (by omega), show o + 4 + (j - o - 4) = j from by omega]
end Go.Proofs.Ytkbidgonjnlkmaa

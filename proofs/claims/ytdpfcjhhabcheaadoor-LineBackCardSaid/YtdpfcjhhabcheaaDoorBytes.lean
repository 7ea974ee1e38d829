/-
  A block of bytes that a call makes and fills, and the string that it becomes; bits of bytes and ints. No condition. Own work.
-/
import Derived.Test.YtdpfcjhhabcheaaDoorRows
import Derived.Test.YtdpfcjhhabcheaaDoorBase
namespace Go.Proofs.YtdpfcjhhabcheaaDoor
open Go.RowKit

/-- A byte as a value. -/
abbrev bv (c : UInt8) : Value := .int .u8 ((c.toNat : Nat) : Int)

/-- Block g is a row of n bytes, not frozen; those among D hold what R says. -/
def Filled (w : World) (g : Nat) (T : TypeId) (n : Nat) (R : List UInt8) (D : Nat → Prop) : Prop :=
  ∃ cs : Array Value, w.heap[g]? = some (.cells cs T (0, 0)) ∧ cs.size = n ∧ ∀ j c, D j → R[j]? = some c → cs[j]? = some (bv c)

section
variable {w w' : World} {g n : Nat} {T : TypeId} {R : List UInt8} {D D' : Nat → Prop}
theorem Filled.lt (h : Filled w g T n R D) : g < w.heap.size := by
  obtain ⟨cs, h1, _⟩ := h
  exact lt_of_block h1
theorem Filled.start (w : World) (T : TypeId) (cs : Array Value) (R : List UInt8) (hD : ∀ j, ¬ D j) : Filled (w.alloc (.cells cs T)) w.heap.size T cs.size R D :=
  ⟨cs, heap_alloc_new w _, rfl, fun j _ hj => absurd hj (hD j)⟩
theorem Filled.below {B : Nat} (h : Filled w g T n R D) (hb : Below B w w') (hg : g < B) : Filled w' g T n R D := by
  obtain ⟨cs, h1, h2, h3⟩ := h
  exact ⟨cs, by rw [hb.block g hg]; exact h1, h2, h3⟩
theorem Filled.cell (h : Filled w g T n R D) {i : Nat} (hi : i < n) : ∃ v, w.cell? ⟨g, i, none⟩ = some v := by
  obtain ⟨cs, h1, h2, _⟩ := h
  exact ⟨cs[i]'(by omega), by simp [World.cell?, h1, h2, hi]⟩
theorem Filled.frozen (h : Filled w g T n R D) (i : Nat) : w.frozen? ⟨g, i, none⟩ = false := by
  obtain ⟨cs, h1, _, _⟩ := h
  simp [World.frozen?, h1]
theorem Filled.set (h : Filled w g T n R D) {i : Nat} {c : UInt8} (hi : i < n) (hc : R[i]? = some c) (hD : ∀ j, D' j → D j ∨ j = i) : Filled (w.setCell ⟨g, i, none⟩ (bv c)) g T n R D' := by
  obtain ⟨cs, h1, h2, h3⟩ := h
  refine ⟨cs.setIfInBounds i (bv c), by simp [World.setCell, Array.getElem?_modify, h1], by simpa using h2, fun j d hj hd => ?_⟩
  rw [Array.getElem?_setIfInBounds]
  by_cases hij : i = j
  · subst hij
    rw [if_pos rfl, if_pos (by omega)]
    rw [hc] at hd
    injection hd with hd
    rw [hd]
  · rw [if_neg hij]
    rcases hD j hj with h4 | h4
    · exact h3 j d h4 hd
    · exact absurd h4.symm hij
theorem Filled.mono (h : Filled w g T n R D) (hD : ∀ j, D' j → D j) : Filled w g T n R D' := by
  obtain ⟨cs, h1, h2, h3⟩ := h
  exact ⟨cs, h1, h2, fun j d hj hd => h3 j d (hD j hj) hd⟩
/-- The string of a row that is filled. -/
theorem Filled.str {P : Program} (h : Filled w g T n R D) (hD : ∀ j, j < n → D j) (hn : R.length = n) (cap : Nat) (src e dst : TypeId) (hs : P.underlying src = some (.slice e)) (he : P.underlying e = some (.int .u8)) (hd : P.underlying dst = some .string) :
    (convert src dst (.slice (some ⟨g, 0, none⟩) n cap)).run P w = .ok (.string ⟨R.toArray⟩) w := by
  obtain ⟨cs, h1, h2, h3⟩ := h
  subst hn
  refine run_convert_bytes_back w src dst e ⟨g, 0, none⟩ cap R hs he hd fun j hj => ?_
  have ha : (⟨g, 0, none⟩ : Addr).add j = ⟨g, j, none⟩ := by unfold Addr.add; split <;> simp_all
  rw [ha]
  have := h3 j R[j] (hD j hj) (List.getElem?_eq_getElem hj)
  simp only [World.cell?, h1]
  exact this
end

/-- 'make([]byte, n)'. -/
theorem run_make_bytes {P : Program} (t e : TypeId) (i : TypeInfo) (ht : P.underlying t = some (.slice e)) (hi : P.info? e = some i) (hz : i.zero = some (.int .u8 0)) (h1 : i.size = 1) (h2 : i.bytes = 1)
    (n : Nat) (hn : n ≤ 281474976710656) (w : World) : (Instr.makeSlice t (.int .i64 (n : Int)) (.int .i64 (n : Int))).run P w = .ok (.slice (some ⟨w.heap.size, 0, none⟩) n n) (w.alloc (.cells (madeCells #[.int .u8 0] n) e)) := by
  have hr := run_make (P := P) w t e i _ ht hi hz .i64 .i64 n n (by omega) (by omega) (by rw [h2]; omega) (by omega)
  simp only [Int.toNat_natCast, h1, Nat.mul_one] at hr
  exact hr
theorem size_made (z : Value) (n : Nat) : (madeCells #[z] n).size = n := by simp [madeCells]

/-! ### Bits -/
theorem and1_i64 (b : Int) : bits .and .i64 b 1 = b % 2 := by
  have h1 : (BitVec.ofInt 64 b &&& BitVec.ofInt 64 1).toNat = (b % 2).toNat := by
    rw [BitVec.toNat_and, BitVec.toNat_ofInt, BitVec.toNat_ofInt]
    have e1 : ((1 : Int) % ((2 ^ 64 : Nat) : Int)).toNat = 1 := rfl
    rw [e1, Nat.and_one_is_mod]
    have e2 : ((2 ^ 64 : Nat) : Int) = 18446744073709551616 := rfl
    rw [e2]
    omega
  show IntKind.i64.wrap ((BitVec.ofInt 64 b &&& BitVec.ofInt 64 1).toNat : Int) = _
  rw [h1, IntKind.wrap_i64]
  omega
theorem u8_and255 (c : UInt8) : bits .and .u8 ((c.toNat : Nat) : Int) 255 = ((c.toNat : Nat) : Int) := by
  have := u8_and_nat c.toNat 255 c.toNat_lt (by omega)
  rw [show ((255 : Nat) : Int) = 255 from rfl] at this
  rw [this]
  have h := Nat.and_two_pow_sub_one_eq_mod c.toNat 8
  rw [show c.toNat &&& 255 = c.toNat % 256 from h, Nat.mod_eq_of_lt c.toNat_lt]
theorem u8_and0 (c : UInt8) : bits .and .u8 ((c.toNat : Nat) : Int) 0 = 0 := by
  have := u8_and_nat c.toNat 0 c.toNat_lt (by omega)
  rw [show ((0 : Nat) : Int) = 0 from rfl] at this
  rw [this, Nat.and_zero]; rfl
theorem u8_andNot255 (c : UInt8) : bits .andNot .u8 ((c.toNat : Nat) : Int) 255 = 0 := by
  have := u8_andNot_nat c.toNat 255 c.toNat_lt (by omega)
  rw [show ((255 : Nat) : Int) = 255 from rfl] at this
  rw [this, Nat.sub_self, Nat.and_zero]; rfl
theorem u8_andNot0 (c : UInt8) : bits .andNot .u8 ((c.toNat : Nat) : Int) 0 = ((c.toNat : Nat) : Int) := by
  have := u8_andNot_nat c.toNat 0 c.toNat_lt (by omega)
  rw [show ((0 : Nat) : Int) = 0 from rfl] at this
  rw [this, Nat.sub_zero]
  have h := Nat.and_two_pow_sub_one_eq_mod c.toNat 8
  rw [show c.toNat &&& 255 = c.toNat % 256 from h, Nat.mod_eq_of_lt c.toNat_lt]
theorem u8_or0 (c : UInt8) : bits .or .u8 ((c.toNat : Nat) : Int) 0 = ((c.toNat : Nat) : Int) := by
  have := u8_or_nat c.toNat 0 c.toNat_lt (by omega)
  rw [show ((0 : Nat) : Int) = 0 from rfl] at this
  rw [this, Nat.or_zero]
theorem u8_0or (c : UInt8) : bits .or .u8 0 ((c.toNat : Nat) : Int) = ((c.toNat : Nat) : Int) := by
  have := u8_or_nat 0 c.toNat (by omega) c.toNat_lt
  rw [show ((0 : Nat) : Int) = 0 from rfl] at this
  rw [this, Nat.zero_or]

theorem byte_info : (Tryd.prog.info? 5).map (fun i => (i.zero, i.size, i.bytes)) = some (some (.int .u8 0), 1, 1) := by kernel_rfl

end Go.Proofs.YtdpfcjhhabcheaaDoor

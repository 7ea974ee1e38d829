/-
  Arrays of bytes in memory (for the seats without AES). No condition. Own work.
-/
import Derived.Test.YtdpfcjhhabcheaaDoorBytes
import Derived.Test.YtdpfcjhhabcheaaDoorText
import Derived.Deep.MidRow
import Derived.Deep.WholeRow
namespace Go.Proofs.YtdpfcjhhabcheaaDoor
open Go.RowKit

/-- Bytes as cells. -/
def bvs (R : List UInt8) : Array Value := (R.map bv).toArray
theorem bvs_size (R : List UInt8) : (bvs R).size = R.length := by simp [bvs]
theorem bvs_get (R : List UInt8) (i : Nat) : (bvs R)[i]? = (R[i]?).map bv := by simp [bvs]
theorem bvs_set (R : List UInt8) (i : Nat) (c : UInt8) : (bvs R).setIfInBounds i (bv c) = bvs (R.set i c) := by simp [bvs, List.map_set]
theorem bvs_one (R : List UInt8) : (bvs R).all (·.oneCell') = true := by
  refine Array.all_eq_true_iff_forall_mem.2 fun v hv => ?_
  simp [bvs] at hv
  obtain ⟨c, _, rfl⟩ := hv
  rfl
/-- Block g is an array of bytes. -/
def Arr (w : World) (g : Nat) (T : TypeId) (R : List UInt8) : Prop := w.heap[g]? = some (.cells (bvs R) T (0, 0))
section
variable {w w' : World} {g : Nat} {T : TypeId} {R : List UInt8}
theorem Arr.lt (h : Arr w g T R) : g < w.heap.size := lt_of_block h
theorem Arr.new (w : World) (T : TypeId) (R : List UInt8) : Arr (w.alloc (.cells (bvs R) T)) w.heap.size T R := heap_alloc_new w _
theorem Arr.below {B : Nat} (h : Arr w g T R) (hb : Below B w w') (hg : g < B) : Arr w' g T R := (hb.block g hg).trans h
theorem Arr.drew (h : Arr w g T R) : Arr w.drew g T R := h
theorem Arr.alloc (h : Arr w g T R) (o : Obj) : Arr (w.alloc o) g T R := ((bnew w o).block g h.lt).trans h
theorem Arr.grown {k : Option Nat} (h : Arr w g T R) (hg : w.grownBy w' k) (hne : some g ≠ k) : Arr w' g T R := (hg.block g h.lt hne).trans h
theorem Arr.cell (h : Arr w g T R) {i : Nat} {c : UInt8} (hc : R[i]? = some c) : w.cell? ⟨g, i, none⟩ = some (bv c) := by
  rw [cell_of_row w g i _ T (0, 0) h, bvs_get, hc]; rfl
theorem Arr.frozen (h : Arr w g T R) (i : Nat) : w.frozen? ⟨g, i, none⟩ = false := frozen_of_row w g i _ T h
theorem Arr.set (h : Arr w g T R) (i : Nat) (c : UInt8) : Arr (w.setCell ⟨g, i, none⟩ (bv c)) g T (R.set i c) := by
  unfold Arr
  rw [← bvs_set]
  exact heap_setCell_same w g i _ T _ h
theorem Arr.other (h : Arr w g T R) {a : Addr} (v : Value) (hne : g ≠ a.block) : Arr (w.setCell a v) g T R := (heap_setCell_other w a g v hne).trans h
theorem Arr.setRow (h : Arr w g T R) {S : List UInt8} : Arr (w.setRow g (bvs S)) g T S := setRow_heap w g _ _ T (0, 0) h
end

theorem heap_setRow_other (w : World) (g k : Nat) (cs : Array Value) (h : k ≠ g) : (w.setRow g cs).heap[k]? = w.heap[k]? := by
  simp only [World.setRow, Array.getElem?_modify]
  rw [if_neg (fun e => h e.symm)]
theorem below_setRow {B g : Nat} {a w : World} (h : Below B a w) (hg : B ≤ g) (cs : Array Value) : Below B a (w.setRow g cs) :=
  ⟨h.os, h.tape, h.output, by rw [size_setRow]; exact h.size, fun k hk => (heap_setRow_other w g k cs (by omega)).trans (h.block k hk)⟩
section
variable {P : Program}
/-- An index into an array's value. -/
theorem run_index_bvs (T e : TypeId) (R : List UInt8) (k : IntKind) (i : Nat) (c : UInt8) (hT : P.underlying T = some (.array R.length e)) (he : P.underlying e = some (.int .u8)) (hi : (P.info? e).map (·.size) = some 1) (hc : R[i]? = some c) (w : World) :
    (Instr.index T (.agg (bvs R)) (.int k (i : Int))).run P w = .ok (bv c) w := by
  have hil : i < R.length := (List.getElem?_eq_some_iff.mp hc).1
  have hs : (sizeOf e).run P w = .ok 1 w := by
    cases hq : P.info? e with
    | none => simp [hq] at hi
    | some x =>
      have : x.size = 1 := by simpa [hq] using hi
      simp [sizeOf, typeInfo, hq, this]
  have ha : (isAgg e).run P w = .ok false w := by
    unfold isAgg
    rw [Sem.run_bind, run_underlying he w]
    rfl
  have hg : (bvs R)[i]? = some (bv c) := by rw [bvs_get, hc]; rfl
  have hii : (0 : Int) ≤ i ∧ (i : Int) < R.length := by omega
  simp [Instr.index, asIntOf, Sem.run_bind, run_underlying hT w, hii, hs, part, ha, hg, Result.andThen]
  omega
/-- The whole array into a block. -/
theorem wpList_store_arr {ops : Array Oper} {rest : List Oper} {o : Oper} {a : Act} {w : World} {Q : Exit → Act → World → Prop} (hgd : o.guard = none) (ty : TypeId) (x y : Operand) (ho : o.op = .store ty x y)
    (g : Nat) (T : TypeId) (R S : List UInt8) (hx : a.eval x = .pointer (some ⟨g, 0, none⟩)) (hy : a.eval y = .agg (bvs S)) (hg : Arr w g T R) (hl : R.length = S.length) (hi : (P.info? ty).map (·.size) = some S.length)
    (h : wpList P ops Q rest (a.put o.dst undef) (w.setRow g (bvs S))) : wpList P ops Q (o :: rest) a w := by
  refine wpList_plain hgd fun K hK => ?_
  have hr := run_storeVar_row (P := P) w g T ty (bvs R) (bvs S) hg (by rw [bvs_size]; exact hi) (by rw [bvs_size, bvs_size]; exact hl) (bvs_one S)
  unfold Oper.wp execOp
  simp only [ho, hx, hy, Instr.storeAt, Instr.sureAddr, Sem.run_bind, Sem.run_pure, Result.andThen_ok, hr]
  exact hK _ _ h
theorem wpList_load_arr {ops : Array Oper} {rest : List Oper} {o : Oper} {a : Act} {w : World} {Q : Exit → Act → World → Prop} (hgd : o.guard = none) (ty : TypeId) (x : Operand) (ho : o.op = .load ty x)
    (g : Nat) (T : TypeId) (R : List UInt8) (n : Nat) (e : TypeId) (hx : a.eval x = .pointer (some ⟨g, 0, none⟩)) (hg : Arr w g T R) (hu : P.underlying ty = some (.array n e)) (hi : (P.info? ty).map (·.size) = some R.length)
    (h : wpList P ops Q rest (a.put o.dst (.agg (bvs R))) w) : wpList P ops Q (o :: rest) a w :=
  wpList_load_row hgd ty x ho g hx T (bvs R) (0, 0) _ hg hu rfl (by rw [bvs_size]; exact hi) h
end

/-- A world of which some cells are known. -/
abbrev Cells1 (a : Addr) (u : Value) (W w' : World) : Prop := w'.cell? a = some u ∧ W = w'
abbrev Cells2 (a b : Addr) (u v : Value) (W w' : World) : Prop := w'.cell? a = some u ∧ w'.cell? b = some v ∧ W = w'
abbrev Cells3 (a b c : Addr) (u v x : Value) (W w' : World) : Prop := w'.cell? a = some u ∧ w'.cell? b = some v ∧ w'.cell? c = some x ∧ W = w'
/-- The first b bytes of one row, the others of another one. -/
def mixL (A B : List UInt8) (b : Nat) : List UInt8 := A.take b ++ B.drop b
theorem mixL_get (A B : List UInt8) (b j : Nat) (hl : A.length = B.length) : (mixL A B b)[j]? = if j < b then A[j]? else B[j]? := by
  unfold mixL
  rw [List.getElem?_append, List.length_take]
  by_cases hb : b ≤ A.length
  · rw [Nat.min_eq_left hb]
    by_cases h : j < b
    · rw [if_pos h, if_pos h, List.getElem?_take, if_pos h]
    · rw [if_neg h, if_neg h, List.getElem?_drop, show b + (j - b) = j from by omega]
  · rw [Nat.min_eq_right (by omega), List.drop_of_length_le (by omega)]
    by_cases h : j < A.length
    · rw [if_pos h, if_pos (by omega), List.getElem?_take, if_pos (by omega)]
    · rw [if_neg h]
      by_cases h2 : j < b
      · rw [if_pos h2, List.getElem?_eq_none (by omega : A.length ≤ j)]; simp
      · rw [if_neg h2, List.getElem?_eq_none (by omega : B.length ≤ j)]; simp
theorem mixL_zero (A B : List UInt8) : mixL A B 0 = B := by simp [mixL]
theorem mixL_len (A B : List UInt8) (b : Nat) (hl : A.length = B.length) : (mixL A B b).length = B.length := by
  unfold mixL; rw [List.length_append, List.length_take, List.length_drop]; omega
theorem mixL_end (A B : List UInt8) (b : Nat) (hl : A.length = B.length) (hb : A.length ≤ b) : mixL A B b = A := by
  unfold mixL; rw [List.take_of_length_le hb, List.drop_of_length_le (by omega), List.append_nil]
theorem mixL_set {A B : List UInt8} {b : Nat} {c : UInt8} (hl : A.length = B.length) (hc : A[b]? = some c) : (mixL A B b).set b c = mixL A B (b + 1) := by
  apply List.ext_getElem?
  intro j
  have hb : b < A.length := (List.getElem?_eq_some_iff.mp hc).1
  rw [List.getElem?_set, mixL_get _ _ _ _ hl, mixL_get _ _ _ _ hl, mixL_len _ _ _ hl]
  by_cases h : b = j
  · subst h
    rw [if_pos rfl, if_pos (by omega), if_pos (by omega), hc]
  · rw [if_neg h]
    by_cases h2 : j < b
    · rw [if_pos h2, if_pos (by omega)]
    · rw [if_neg h2, if_neg (by omega)]
theorem getD_some {X : List UInt8} {i : Nat} (h : i < X.length) : X[i]? = some (X.getD i 0) := by
  rw [List.getD_eq_getElem?_getD, List.getElem?_eq_getElem h]; rfl
theorem Arr.str {P : Program} {w : World} {g : Nat} {T : TypeId} {R : List UInt8} (h : Arr w g T R) (n cap : Nat) (hn : n = R.length) (src e dst : TypeId) (hs : P.underlying src = some (.slice e)) (he : P.underlying e = some (.int .u8)) (hd : P.underlying dst = some .string) :
    (convert src dst (.slice (some ⟨g, 0, none⟩) n cap)).run P w = .ok (.string ⟨R.toArray⟩) w := by
  subst hn
  refine run_convert_bytes_back w src dst e ⟨g, 0, none⟩ cap R hs he hd fun j hj => ?_
  have ha : (⟨g, 0, none⟩ : Addr).add j = ⟨g, j, none⟩ := by unfold Addr.add; split <;> simp_all
  rw [ha]
  exact h.cell (List.getElem?_eq_getElem hj)
end Go.Proofs.YtdpfcjhhabcheaaDoor

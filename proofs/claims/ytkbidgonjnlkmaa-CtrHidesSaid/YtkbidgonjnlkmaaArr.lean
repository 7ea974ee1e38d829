/-
  Arrays of bytes in memory; the contracts of aes.turned and aes.boxes. No condition. Own work.
-/
import Derived.Test.YtkbidgonjnlkmaaCMul
import Derived.Test.YtkbidgonjnlkmaaText
import Derived.Deep.MidRow
import Derived.Deep.WholeRow
namespace Go.Proofs.Ytkbidgonjnlkmaa
open Go.RowKit

/-- Bytes as cells. -/
def bvs (R : List UInt8) : Array Value := (R.map bv).toArray
theorem bvs_size (R : List UInt8) : (bvs R).size = R.length := by simp [bvs]
theorem bvs_get (R : List UInt8) (i : Nat) : (bvs R)[i]? = (R[i]?).map bv := by simp [bvs]
theorem bvs_set (R : List UInt8) (i : Nat) (c : UInt8) : (bvs R).setIfInBounds i (bv c) = bvs (R.set i c) := by simp [bvs, List.map_set]
theorem bvs_one (R : List UInt8) : (bvs R).all (·.oneCell') = true := by
  refine Array.all_eq_true_iff_forall_mem.2 fun v hv => ?_
  simp [bvs] at hv
  obtain ⟨c, _, rfl⟩ := hv
  rfl
/-- Block g is an array of bytes. -/
def Arr (w : World) (g : Nat) (T : TypeId) (R : List UInt8) : Prop := w.heap[g]? = some (.cells (bvs R) T (0, 0))
section
variable {w w' : World} {g : Nat} {T : TypeId} {R : List UInt8}
theorem Arr.lt (h : Arr w g T R) : g < w.heap.size := lt_of_block h
theorem Arr.new (w : World) (T : TypeId) (R : List UInt8) : Arr (w.alloc (.cells (bvs R) T)) w.heap.size T R := heap_alloc_new w _
theorem Arr.below {B : Nat} (h : Arr w g T R) (hb : Below B w w') (hg : g < B) : Arr w' g T R := (hb.block g hg).trans h
theorem Arr.drew (h : Arr w g T R) : Arr w.drew g T R := h
theorem Arr.alloc (h : Arr w g T R) (o : Obj) : Arr (w.alloc o) g T R := ((bnew w o).block g h.lt).trans h
theorem Arr.grown {k : Option Nat} (h : Arr w g T R) (hg : w.grownBy w' k) (hne : some g ≠ k) : Arr w' g T R := (hg.block g h.lt hne).trans h
theorem Arr.cell (h : Arr w g T R) {i : Nat} {c : UInt8} (hc : R[i]? = some c) : w.cell? ⟨g, i, none⟩ = some (bv c) := by
  rw [cell_of_row w g i _ T (0, 0) h, bvs_get, hc]; rfl
theorem Arr.frozen (h : Arr w g T R) (i : Nat) : w.frozen? ⟨g, i, none⟩ = false := frozen_of_row w g i _ T h
theorem Arr.set (h : Arr w g T R) (i : Nat) (c : UInt8) : Arr (w.setCell ⟨g, i, none⟩ (bv c)) g T (R.set i c) := by
  unfold Arr
  rw [← bvs_set]
  exact heap_setCell_same w g i _ T _ h
theorem Arr.other (h : Arr w g T R) {a : Addr} (v : Value) (hne : g ≠ a.block) : Arr (w.setCell a v) g T R := (heap_setCell_other w a g v hne).trans h
theorem Arr.setRow (h : Arr w g T R) {S : List UInt8} : Arr (w.setRow g (bvs S)) g T S := setRow_heap w g _ _ T (0, 0) h
end

theorem heap_setRow_other (w : World) (g k : Nat) (cs : Array Value) (h : k ≠ g) : (w.setRow g cs).heap[k]? = w.heap[k]? := by
  simp only [World.setRow, Array.getElem?_modify]
  rw [if_neg (fun e => h e.symm)]
theorem below_setRow {B g : Nat} {a w : World} (h : Below B a w) (hg : B ≤ g) (cs : Array Value) : Below B a (w.setRow g cs) :=
  ⟨h.os, h.tape, h.output, by rw [size_setRow]; exact h.size, fun k hk => (heap_setRow_other w g k cs (by omega)).trans (h.block k hk)⟩
section
variable {P : Program}
/-- An index into an array's value. -/
theorem run_index_bvs (T e : TypeId) (R : List UInt8) (k : IntKind) (i : Nat) (c : UInt8) (hT : P.underlying T = some (.array R.length e)) (he : P.underlying e = some (.int .u8)) (hi : (P.info? e).map (·.size) = some 1) (hc : R[i]? = some c) (w : World) :
    (Instr.index T (.agg (bvs R)) (.int k (i : Int))).run P w = .ok (bv c) w := by
  have hil : i < R.length := (List.getElem?_eq_some_iff.mp hc).1
  have hs : (sizeOf e).run P w = .ok 1 w := by
    cases hq : P.info? e with
    | none => simp [hq] at hi
    | some x =>
      have : x.size = 1 := by simpa [hq] using hi
      simp [sizeOf, typeInfo, hq, this]
  have ha : (isAgg e).run P w = .ok false w := by
    unfold isAgg
    rw [Sem.run_bind, run_underlying he w]
    rfl
  have hg : (bvs R)[i]? = some (bv c) := by rw [bvs_get, hc]; rfl
  have hii : (0 : Int) ≤ i ∧ (i : Int) < R.length := by omega
  simp [Instr.index, asIntOf, Sem.run_bind, run_underlying hT w, hii, hs, part, ha, hg, Result.andThen]
  omega
/-- The whole array into a block. -/
theorem wpList_store_arr {ops : Array Oper} {rest : List Oper} {o : Oper} {a : Act} {w : World} {Q : Exit → Act → World → Prop} (hgd : o.guard = none) (ty : TypeId) (x y : Operand) (ho : o.op = .store ty x y)
    (g : Nat) (T : TypeId) (R S : List UInt8) (hx : a.eval x = .pointer (some ⟨g, 0, none⟩)) (hy : a.eval y = .agg (bvs S)) (hg : Arr w g T R) (hl : R.length = S.length) (hi : (P.info? ty).map (·.size) = some S.length)
    (h : wpList P ops Q rest (a.put o.dst undef) (w.setRow g (bvs S))) : wpList P ops Q (o :: rest) a w := by
  refine wpList_plain hgd fun K hK => ?_
  have hr := run_storeVar_row (P := P) w g T ty (bvs R) (bvs S) hg (by rw [bvs_size]; exact hi) (by rw [bvs_size, bvs_size]; exact hl) (bvs_one S)
  unfold Oper.wp execOp
  simp only [ho, hx, hy, Instr.storeAt, Instr.sureAddr, Sem.run_bind, Sem.run_pure, Result.andThen_ok, hr]
  exact hK _ _ h
theorem wpList_load_arr {ops : Array Oper} {rest : List Oper} {o : Oper} {a : Act} {w : World} {Q : Exit → Act → World → Prop} (hgd : o.guard = none) (ty : TypeId) (x : Operand) (ho : o.op = .load ty x)
    (g : Nat) (T : TypeId) (R : List UInt8) (n : Nat) (e : TypeId) (hx : a.eval x = .pointer (some ⟨g, 0, none⟩)) (hg : Arr w g T R) (hu : P.underlying ty = some (.array n e)) (hi : (P.info? ty).map (·.size) = some R.length)
    (h : wpList P ops Q rest (a.put o.dst (.agg (bvs R))) w) : wpList P ops Q (o :: rest) a w :=
  wpList_load_row hgd ty x ho g hx T (bvs R) (0, 0) _ hg hu rfl (by rw [bvs_size]; exact hi) h
end

/-- A world of which some cells are known. -/
abbrev Cells1 (a : Addr) (u : Value) (W w' : World) : Prop := w'.cell? a = some u ∧ W = w'
abbrev Cells2 (a b : Addr) (u v : Value) (W w' : World) : Prop := w'.cell? a = some u ∧ w'.cell? b = some v ∧ W = w'
abbrev Cells3 (a b c : Addr) (u v x : Value) (W w' : World) : Prop := w'.cell? a = some u ∧ w'.cell? b = some v ∧ w'.cell? c = some x ∧ W = w'
/-- The first b bytes of one row, the others of another one. -/
def mixL (A B : List UInt8) (b : Nat) : List UInt8 := A.take b ++ B.drop b
theorem mixL_get (A B : List UInt8) (b j : Nat) (hl : A.length = B.length) : (mixL A B b)[j]? = if j < b then A[j]? else B[j]? := by
  unfold mixL
  rw [List.getElem?_append, List.length_take]
  by_cases hb : b ≤ A.length
  · rw [Nat.min_eq_left hb]
    by_cases h : j < b
    · rw [if_pos h, if_pos h, List.getElem?_take, if_pos h]
    · rw [if_neg h, if_neg h, List.getElem?_drop, show b + (j - b) = j from by omega]
  · rw [Nat.min_eq_right (by omega), List.drop_of_length_le (by omega)]
    by_cases h : j < A.length
    · rw [if_pos h, if_pos (by omega), List.getElem?_take, if_pos (by omega)]
    · rw [if_neg h]
      by_cases h2 : j < b
      · rw [if_pos h2, List.getElem?_eq_none (by omega : A.length ≤ j)]; simp
      · rw [if_neg h2, List.getElem?_eq_none (by omega : B.length ≤ j)]; simp
theorem mixL_zero (A B : List UInt8) : mixL A B 0 = B := by simp [mixL]
theorem mixL_len (A B : List UInt8) (b : Nat) (hl : A.length = B.length) : (mixL A B b).length = B.length := by
  unfold mixL; rw [List.length_append, List.length_take, List.length_drop]; omega
theorem mixL_end (A B : List UInt8) (b : Nat) (hl : A.length = B.length) (hb : A.length ≤ b) : mixL A B b = A := by
  unfold mixL; rw [List.take_of_length_le hb, List.drop_of_length_le (by omega), List.append_nil]
theorem mixL_set {A B : List UInt8} {b : Nat} {c : UInt8} (hl : A.length = B.length) (hc : A[b]? = some c) : (mixL A B b).set b c = mixL A B (b + 1) := by
  apply List.ext_getElem?
  intro j
  have hb : b < A.length := (List.getElem?_eq_some_iff.mp hc).1
  rw [List.getElem?_set, mixL_get _ _ _ _ hl, mixL_get _ _ _ _ hl, mixL_len _ _ _ hl]
  by_cases h : b = j
  · subst h
    rw [if_pos rfl, if_pos (by omega), if_pos (by omega), hc]
  · rw [if_neg h]
    by_cases h2 : j < b
    · rw [if_pos h2, if_pos (by omega)]
    · rw [if_neg h2, if_neg (by omega)]

theorem zero_info : (Try.prog.info? 29).map (fun i => (i.zero, i.size)) = some (some (.agg (bvs (List.replicate 256 0))), 256) := by kernel_rfl

theorem grown_of_below {w w' : World} (h : Below w.heap.size w w') (row : Option Nat) : w.grownBy w' row := ⟨h.os, h.tape, h.output, h.size, fun i hi _ => h.block i hi⟩
theorem grown_set {a w : World} {g : Nat} (h : a.grownBy w (some g)) (v : Value) (o : Nat) : a.grownBy (w.setCell ⟨g, o, none⟩ v) (some g) :=
  ⟨h.os, h.tape, h.output, by simpa [World.setCell] using h.size, fun i hi hne => (Below.heap_setCell w ⟨g, o, none⟩ v i (fun e => hne (by rw [e]))).trans (h.block i hi hne)⟩
theorem grown_drew {a w : World} {k : Option Nat} (h : a.grownBy w k) : a.grownBy w.drew k := ⟨h.os, h.tape, h.output, h.size, h.block⟩
theorem axor (a b : UInt8) : bits .xor .u8 ((a.toNat : Nat) : Int) ((b.toNat : Nat) : Int) = (((a ^^^ b).toNat : Nat) : Int) := by
  rw [u8_xor_nat a.toNat b.toNat a.toNat_lt b.toNat_lt, UInt8.toNat_xor]
/-! ### The stand-ins, plainly -/
def rotl (b : UInt8) (n : Nat) : UInt8 := UInt8.ofNat (b.toNat * 2 ^ n % 256 ||| b.toNat / 2 ^ (8 - n))
def sbv (q : UInt8) : UInt8 := q ^^^ rotl q 1 ^^^ rotl q 2 ^^^ rotl q 3 ^^^ rotl q 4 ^^^ 99
def bxGo : Nat → UInt8 → UInt8 → List UInt8 → List UInt8
  | 0, _, _, T => T
  | k + 1, p, q, T => bxGo k (gm p 3) (gm q 246) (T.set (gm p 3).toNat (sbv (gm q 246)))
def boxT : List UInt8 := (bxGo 255 1 1 (List.replicate 256 0)).set 0 99
theorem bxGo_len (k : Nat) (p q : UInt8) (T : List UInt8) : (bxGo k p q T).length = T.length := by
  induction k generalizing p q T with
  | zero => rfl
  | succ k ih => rw [bxGo, ih, List.length_set]
theorem boxT_len : boxT.length = 256 := by unfold boxT; rw [List.length_set, bxGo_len, List.length_replicate]

theorem turned_nat (b : Nat) (hb : b < 256) (n : Nat) (ni : Int) (hn : (n = 1 ∧ ni = 1) ∨ (n = 2 ∧ ni = 2) ∨ (n = 3 ∧ ni = 3) ∨ (n = 4 ∧ ni = 4)) (w : World) :
    Calls Try.prog 54 #[.int .u8 (b : Int), .int .i64 ni] w fun e w' => e = .returned (.int .u8 ((b * 2 ^ n % 256 ||| b / 2 ^ (8 - n) : Nat) : Int)) ∧ w.drew = w' := by
  have hx := u8_or_nat (b * 2 ^ n % 256) (b / 2 ^ (8 - n)) (Nat.mod_lt _ (by omega)) (Nat.lt_of_le_of_lt (Nat.div_le_self _ _) hb)
  obtain ⟨R, hR⟩ : ∃ R, R = (b * 2 ^ n % 256 ||| b / 2 ^ (8 - n)) := ⟨_, rfl⟩
  rw [← hR] at hx ⊢
  obtain ⟨X, hX⟩ : ∃ X : Int, X = ((b * 2 ^ n % 256 : Nat) : Int) := ⟨_, rfl⟩
  obtain ⟨Y, hY⟩ : ∃ Y : Int, Y = ((b / 2 ^ (8 - n) : Nat) : Int) := ⟨_, rfl⟩
  rw [← hX, ← hY] at hx
  clear hR
  rcases hn with ⟨rfl, rfl⟩ | ⟨rfl, rfl⟩ | ⟨rfl, rfl⟩ | ⟨rfl, rfl⟩
  all_goals
    simp at hX hY
    subst hX hY
    have w7 : IntKind.i64.wrap 7 = 7 := by rw [IntKind.wrap_i64]; rfl
    have w6 : IntKind.i64.wrap 6 = 6 := by rw [IntKind.wrap_i64]; rfl
    have w5 : IntKind.i64.wrap 5 = 5 := by rw [IntKind.wrap_i64]; rfl
    have w4 : IntKind.i64.wrap 4 = 4 := by rw [IntKind.wrap_i64]; rfl
    go_enter Try.func54, Try.ntmps54
    go_wp2_with fail
    refine wp_region_txt (fun w' => w.drew = w') (by kernel_rfl) (by kernel_rfl) rfl ?_
    repeat (first
      | (refine text_skip (by rfl) ?_; simp only [Act.put, List.setIfInBounds_toArray, List.set_cons_zero, List.set_cons_succ])
      | (refine text_pure (v := ?_) (by rfl) (fun wx hS => ?_) ?_; rotate_left; (go_simp; with_reducible exact rfl); simp only [Act.put, List.setIfInBounds_toArray, List.set_cons_zero, List.set_cons_succ]))
    refine text_nil (fun wx hS => ?_)
    subst hS
    go_wp2_with fail
    go_ret
    refine ⟨?_, rfl⟩
    rw [← hx, ← IntKind.wrap_u8]
    rfl
theorem turned_any (b : UInt8) (n : Nat) (ni : Int) (hn : (n = 1 ∧ ni = 1) ∨ (n = 2 ∧ ni = 2) ∨ (n = 3 ∧ ni = 3) ∨ (n = 4 ∧ ni = 4)) (w : World) :
    Calls Try.prog 54 #[bv b, .int .i64 ni] w fun e w' => e = .returned (bv (rotl b n)) ∧ w.drew = w' := by
  have h := turned_nat b.toNat b.toNat_lt n ni hn w
  have e : (b.toNat * 2 ^ n % 256 ||| b.toNat / 2 ^ (8 - n)) = (rotl b n).toNat := by
    unfold rotl
    rw [UInt8.toNat_ofNat']
    refine (Nat.mod_eq_of_lt ?_).symm
    exact Nat.or_lt_two_pow (n := 8) (Nat.mod_lt _ (by omega)) (Nat.lt_of_le_of_lt (Nat.div_le_self _ _) b.toNat_lt)
  rw [e] at h
  exact h

set_option maxRecDepth 20000 in
set_option maxHeartbeats 3200000 in
theorem boxes_any (w : World) : Calls Try.prog 35 #[] w fun e w' => e = .returned (.agg (bvs boxT)) ∧ Below w.heap.size w w' := by
  obtain ⟨hzv, hzs⟩ := zero_of_info zero_info
  obtain ⟨Z, hZ⟩ : ∃ Z, Z = List.replicate 256 (0 : UInt8) := ⟨_, rfl⟩
  obtain ⟨R, hR⟩ : ∃ R, R = bxGo 255 1 1 Z := ⟨_, rfl⟩
  have hB : boxT = R.set 0 99 := by rw [hR, hZ]; rfl
  rw [hB]
  have hZl : Z.length = 256 := by rw [hZ]; exact List.length_replicate
  have hRl : R.length = 256 := by rw [hR, bxGo_len, hZl]
  rw [← hZ] at hzv
  have HR := Lib.hid hR
  have HZS := Lib.hid hzs
  clear hZ hR hB hzs
  go_enter Try.func35, Try.ntmps35
  go_wp2_with fail
  clear hzv
  go_loopw [2, 3, 4] (fun p q c wr => ∃ (i k : Nat) (x y : UInt8) (T : List UInt8), i + k = 255 ∧ c = .int .i64 i ∧ p = bv x ∧ q = bv y ∧ Arr wr w.heap.size 29 Z ∧ Arr wr (w.heap.size + 1) 29 T ∧ T.length = 256 ∧ bxGo k x y T = R ∧ Below w.heap.size w wr) (fun _ _ c _ => 255 - (intOf c).toNat)
  case atStart => exact ⟨0, 255, 1, 1, Z, rfl, rfl, rfl, rfl, (Arr.new w _ Z).alloc _, by have := Arr.new (w.alloc (.cells (bvs Z) 29)) 29 Z; simpa using this, hZl, HR.out.symm, (bnew _ _).alloc (by simp) _⟩
  case round =>
    obtain ⟨i, k, x, y, T, hik, rfl, rfl, rfl, hA, hT, hTl, hg, hbw⟩ := hrel
    by_cases hk0 : k = 0
    · have hi : i = 255 := by omega
      subst hk0 hi
      rw [bxGo] at hg
      subst hg
      obtain ⟨c, hc⟩ : ∃ c, T[0]? = some c := ⟨T[0]'(by omega), List.getElem?_eq_getElem _⟩
      have hcell := hT.cell hc
      have hfz := hT.frozen 0
      have HT2 : Hid (Arr (wr.setCell ⟨w.heap.size + 1, 0, none⟩ (.int .u8 99)) (w.heap.size + 1) 29 (T.set 0 99)) := Lib.hid (hT.set 0 99)
      have HA2 : Hid (Arr (wr.setCell ⟨w.heap.size + 1, 0, none⟩ (.int .u8 99)) w.heap.size 29 Z) := Lib.hid (hA.other _ (by simp))
      have HB2 : Hid (Below w.heap.size w (wr.setCell ⟨w.heap.size + 1, 0, none⟩ (.int .u8 99))) := Lib.hid (hbw.setCell (by simp) _)
      obtain ⟨S, hS⟩ : ∃ S, S = T.set 0 99 := ⟨_, rfl⟩
      have hSl : S.length = 256 := by rw [hS, List.length_set]; exact hTl
      rw [← hS] at HT2
      have HS := Lib.hid hS
      clear hA hT hbw hc hS HR
      go_wp2_with (first
        | (refine wpList_load_arr rfl 29 _ rfl (w.heap.size + 1) 29 S 256 5 rfl HT2.out Try.underlying29 (by rw [hSl]; exact HZS.out) ?_)
        | (refine wpList_store_arr rfl 29 _ _ rfl w.heap.size 29 Z S rfl rfl HA2.out (by omega) (by rw [hSl]; exact HZS.out) ?_))
      have HA3 := HA2.out.setRow (S := S)
      refine bodyPost_ret (v := .agg (bvs S)) (results_cell_row Try.results35 _ _ w.heap.size 29 (bvs S) (0, 0) _ rfl HA3 Try.underlying29 rfl (by rw [bvs_size, hSl]; exact HZS.out)) rfl ⟨by rw [HS.out], below_setRow HB2.out (Nat.le_refl _) _⟩
    · obtain ⟨k, rfl⟩ : ∃ j, k = j + 1 := ⟨k - 1, by omega⟩
      rw [bxGo] at hg
      have hM1 : ∀ w, Calls Try.prog 16 #[bv x, .int .u8 3] w fun e w' => e = .returned (bv (gm x 3)) ∧ w = w' := fun w => mul_any x 3 w
      have hM2 : ∀ w, Calls Try.prog 16 #[bv y, .int .u8 246] w fun e w' => e = .returned (bv (gm y 246)) ∧ w = w' := fun w => mul_any y 246 w
      obtain ⟨x2, hx2⟩ : ∃ x2, x2 = gm x 3 := ⟨_, rfl⟩
      obtain ⟨y2, hy2⟩ : ∃ y2, y2 = gm y 246 := ⟨_, rfl⟩
      rw [← hx2, ← hy2] at hg
      rw [← hx2] at hM1
      rw [← hy2] at hM2
      have hT1 := fun w => turned_any y2 1 1 (by decide) w
      have hT2 := fun w => turned_any y2 2 2 (by decide) w
      have hT3 := fun w => turned_any y2 3 3 (by decide) w
      have hT4 := fun w => turned_any y2 4 4 (by decide) w
      obtain ⟨s, hs⟩ : ∃ s, s = sbv y2 := ⟨_, rfl⟩
      rw [← hs] at hg
      unfold sbv at hs
      have e1 := axor y2 (rotl y2 1)
      have e2 := axor (y2 ^^^ rotl y2 1) (rotl y2 2)
      have e3 := axor (y2 ^^^ rotl y2 1 ^^^ rotl y2 2) (rotl y2 3)
      have e4 := axor (y2 ^^^ rotl y2 1 ^^^ rotl y2 2 ^^^ rotl y2 3) (rotl y2 4)
      have e5 : bits .xor .u8 (((y2 ^^^ rotl y2 1 ^^^ rotl y2 2 ^^^ rotl y2 3 ^^^ rotl y2 4).toNat : Nat) : Int) 99 = ((s.toNat : Nat) : Int) := by rw [hs]; exact axor _ 99
      generalize y2 ^^^ rotl y2 1 = a1 at *
      generalize a1 ^^^ rotl y2 2 = a2 at *
      generalize a2 ^^^ rotl y2 3 = a3 at *
      generalize a3 ^^^ rotl y2 4 = a4 at *
      generalize rotl y2 1 = r1 at *
      generalize rotl y2 2 = r2 at *
      generalize rotl y2 3 = r3 at *
      generalize rotl y2 4 = r4 at *
      have hxl := x2.toNat_lt
      obtain ⟨c, hc⟩ : ∃ c, T[x2.toNat]? = some c := ⟨T[x2.toNat]'(by omega), List.getElem?_eq_getElem _⟩
      have hcell : wr.drew.drew.drew.drew.cell? ⟨w.heap.size + 1, x2.toNat, none⟩ = some (bv c) := hT.cell hc
      have hfz := hT.frozen x2.toNat
      have hxi : (x2.toNat : Int) < 256 := by omega
      have hi : i < 255 := by omega
      have HG := Lib.hid hg
      have HA := Lib.hid hA
      have HT := Lib.hid hT
      have HIK := Lib.hid hik
      have M1 := Lib.hid hM1
      have M2 := Lib.hid hM2
      have T1 := Lib.hid hT1
      have T2 := Lib.hid hT2
      have T3 := Lib.hid hT3
      have T4 := Lib.hid hT4
      clear hg hA hT hik hM1 hM2 hT1 hT2 hT3 hT4 hs hx2 hy2 hc
      go_wp2_with (first
        | (go_at_call 16; first
            | ((with_reducible refine (M1.out _).mono ?_); rintro e w1 ⟨rfl, rfl⟩)
            | ((with_reducible refine (M2.out _).mono ?_); rintro e w1 ⟨rfl, rfl⟩))
        | (go_at_call 54; first
            | ((with_reducible refine (T1.out _).mono ?_); rintro e w1 ⟨rfl, rfl⟩)
            | ((with_reducible refine (T2.out _).mono ?_); rintro e w1 ⟨rfl, rfl⟩)
            | ((with_reducible refine (T3.out _).mono ?_); rintro e w1 ⟨rfl, rfl⟩)
            | ((with_reducible refine (T4.out _).mono ?_); rintro e w1 ⟨rfl, rfl⟩)))
      refine ⟨⟨i + 1, k, x2, y2, T.set x2.toNat s, by have := HIK.out; omega, by go_num, rfl, rfl, ?_, ?_, by rw [List.length_set]; exact hTl, HG.out, ?_⟩, by simp [intOf]; omega⟩
      · exact ((HA.out.other _ (by simp)).drew.drew.drew.drew)
      · exact (HT.out.set _ s).drew.drew.drew.drew
      · exact (hbw.setCell (by simp) _).drew.drew.drew.drew
end Go.Proofs.Ytkbidgonjnlkmaa

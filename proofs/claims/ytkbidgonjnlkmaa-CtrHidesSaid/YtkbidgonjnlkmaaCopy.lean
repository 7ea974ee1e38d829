/-
  'copy' out of a string into an array of bytes. No condition. Own work.
-/
import Derived.Test.YtkbidgonjnlkmaaAes4
import Derived.Laws.CopyRow
namespace Go.Proofs.Ytkbidgonjnlkmaa
open Go.RowKit

theorem run_copy_arr {P : Program} (w : World) (dT sT ty elem : TypeId) (g o dLen dCap n : Nat) (s : ByteArray) (T : TypeId) (R : List UInt8)
    (hu : P.underlying dT = some (.slice elem)) (hs : (P.info? elem).map (·.size) = some 1) (hg : Arr w g T R) (hn : n = min s.size dLen) (hfit : o + n ≤ R.length) :
    (Builtin.copy_ #[dT, sT] ty #[.slice (some ⟨g, o, none⟩) dLen dCap, .string s]).run P w =
      .ok (.int .i64 (n : Int)) (w.setRow g (bvs (R.take o ++ s.data.toList.take n ++ R.drop (o + n)))) := by
  have hnl : (s.data.toList.take n).length = n := by rw [List.length_take]; simp; omega
  have hst := run_storeCells_at P g o T ((s.data.toList.take n).map bv) 0 (bvs R) w hg (by rw [List.length_map, hnl, bvs_size]; simpa using hfit) (fun v hv => by
    obtain ⟨c, _, rfl⟩ := List.mem_map.mp hv
    rfl)
  rw [List.length_map, hnl] at hst
  simp only [Nat.add_zero] at hst
  have hb : ((bvs R).toList.take o ++ (s.data.toList.take n).map bv ++ (bvs R).toList.drop (o + n)).toArray = bvs (R.take o ++ s.data.toList.take n ++ R.drop (o + n)) := by
    unfold bvs
    simp [List.map_take, List.map_drop, List.map_append]
  rw [hb] at hst
  have hmin : Nat.min s.size dLen = n := hn.symm
  cases hq : P.info? elem with
  | none => simp [hq] at hs
  | some i =>
    simp [Builtin.copy_, run_underlying hu, Builtin.lenOf, Builtin.firstCells, sizeOf, typeInfo, hq, hmin]
    rw [show List.take n (List.map (fun b : UInt8 => Value.int IntKind.u8 ((b.toNat : Nat) : Int)) s.data.toList) = (s.data.toList.take n).map bv from List.map_take.symm, hst]
    simp [Result.andThen, goInt]

/-- .. at the operation. -/
theorem wpList_copy_arr {P : Program} {ops : Array Oper} {rest : List Oper} {op : Oper} {a : Act} {w : World} {Q : Exit → Act → World → Prop} (hgd : op.guard = none) (d x : Operand) (dT sT : TypeId) (ho : op.op = Op.call { callee := Callee.builtin Builtin.copy, args := #[d, x], argTypes := #[dT, sT] })
    (elem : TypeId) (hu : P.underlying dT = some (.slice elem)) (hs : (P.info? elem).map (·.size) = some 1) (g o dLen dCap n : Nat) (s : ByteArray) (T : TypeId) (R : List UInt8)
    (hd : a.eval d = .slice (some ⟨g, o, none⟩) dLen dCap) (hx : a.eval x = .string s) (hg : Arr w g T R) (hn : n = min s.size dLen) (hfit : o + n ≤ R.length)
    (h : wpList P ops Q rest (a.put op.dst (.int .i64 (n : Int))) (w.setRow g (bvs (R.take o ++ s.data.toList.take n ++ R.drop (o + n))))) : wpList P ops Q (op :: rest) a w := by
  refine wpList_plain hgd fun K hK => ?_
  have hrun := run_copy_arr (P := P) w dT sT op.type elem g o dLen dCap n s T R hu hs hg hn hfit
  unfold Oper.wp
  simp [execOp, ho, resolve, invoke, builtin, hd, hx, hrun, Result.andThen]
  exact hK _ _ (by simpa using h)

/-- The bytes of a string of 16, as a state. -/
theorem of_any (s : ByteArray) (hs : s.size = 16) (w : World) :
    Calls Try.prog 36 #[.string s] w fun e w' => e = .returned (.agg (bvs s.data.toList)) ∧ Below w.heap.size w w' := by
  have hsl : s.data.toList.length = 16 := by simp [hs]
  have hsz : (Try.prog.info? 63).map (·.size) = some s.data.toList.length := by rw [hsl]; kernel_rfl
  have hbs : (Try.prog.info? 5).map (·.size) = some 1 := by kernel_rfl
  have HSZ := Lib.hid hsz
  have HBS := Lib.hid hbs
  clear hsz hbs
  go_enter Try.func36, Try.ntmps36
  have A1 := Arr.new2 w (.cells (bvs (List.replicate 16 0)) 63) 63 (List.replicate 16 0)
  have A0 := (Arr.new w 63 (List.replicate 16 0)).alloc (.cells (bvs (List.replicate 16 0)) 63)
  obtain ⟨W2, hW2⟩ : ∃ W, W = (w.alloc (.cells (bvs (List.replicate 16 0)) 63)).alloc (.cells (bvs (List.replicate 16 0)) 63) := ⟨_, rfl⟩
  have hB2 : Below w.heap.size w W2 := by rw [hW2]; exact (bnew _ _).alloc (by simp) _
  rw [← hW2] at A1 A0
  have A1' := Lib.hid (A1.setRow (S := s.data.toList))
  have A0' : Hid (Arr (W2.setRow (w.heap.size + 1) (bvs s.data.toList)) w.heap.size 63 (List.replicate 16 0)) := Lib.hid ((heap_setRow_other W2 _ _ _ (by omega)).trans A0)
  have HW2 := Lib.hid hW2
  have HA1 := Lib.hid A1
  have HB2 := Lib.hid hB2
  clear A0 A1 hB2 hW2
  have hsl2 : List.take 0 (List.replicate 16 (0 : UInt8)) ++ List.take 16 s.data.toList ++ List.drop (0 + 16) (List.replicate 16 (0 : UInt8)) = s.data.toList := by
    rw [List.take_of_length_le (by omega : s.data.toList.length ≤ 16)]; simp
  go_wp2_with (first
    | (refine wpList_copy_arr rfl _ _ 69 9 rfl 5 Try.underlying69 HBS.out (w.heap.size + 1) 0 16 16 16 s 63 (List.replicate 16 0) rfl rfl (by have := HA1.out; rw [HW2.out] at this; exact this) (by omega) (by decide) ?_; rw [hsl2])
    | (refine wpList_load_arr rfl 63 _ rfl (w.heap.size + 1) 63 s.data.toList 16 5 rfl (by have := A1'.out; rw [HW2.out] at this; exact this) Try.underlying63 HSZ.out ?_)
    | (refine wpList_store_arr rfl 63 _ _ rfl w.heap.size 63 (List.replicate 16 0) s.data.toList rfl rfl (by have := A0'.out; rw [HW2.out] at this; exact this) (by rw [hsl]; rfl) HSZ.out ?_))
  have HA3 := A0'.out.setRow (S := s.data.toList)
  rw [HW2.out] at HA3
  refine bodyPost_ret (v := .agg (bvs s.data.toList)) (results_cell_row Try.results36 _ _ w.heap.size 63 (bvs s.data.toList) (0, 0) _ rfl HA3 Try.underlying63 rfl (by rw [bvs_size]; exact HSZ.out)) rfl ⟨rfl, ?_⟩
  have hB := HB2.out
  rw [HW2.out] at hB
  exact below_setRow (below_setRow hB (by omega) _) (Nat.le_refl _) _
end Go.Proofs.Ytkbidgonjnlkmaa

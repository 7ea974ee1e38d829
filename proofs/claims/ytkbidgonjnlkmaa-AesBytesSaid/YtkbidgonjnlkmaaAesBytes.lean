/-
  AesBytes returns true for every pair of bytes. No condition.
-/
import Derived.Test.YtkbidgonjnlkmaaRBoxes
import Derived.Test.YtkbidgonjnlkmaaFront3
import Derived.Test.YtkbidgonjnlkmaaInv
namespace Go.Proofs.Ytkbidgonjnlkmaa
open Go.RowKit Go.ChangeShapes Go.WideShapes Go.ChangeAt

theorem meetsBE {P : Program} {B : Nat} {w0 : World} {f : FuncId} {args : Array Value} {v : Value} (hc : ∀ w, Calls P f args w fun e w' => e = .returned v ∧ w = w') (w : World) (hS : Below B w0 w) :
    Calls P f args w fun e w' => e = .returned v ∧ Below B w0 w' := (hc w).mono fun _ _ ⟨he, hb⟩ => ⟨he, hb ▸ hS⟩
/-- The world before and behind the pivot. -/
def PairS (A B : World) : Bool → World → Prop
  | false, w => A = w
  | true, w => B = w
theorem PairS.eq {P : Program} {A B : World} {f : FuncId} {args : Array Value} {v : Value} (hc : ∀ w, Calls P f args w fun e w' => e = .returned v ∧ w = w') (q : Bool) (w : World) (hS : PairS A B q w) :
    Calls P f args w fun e w' => e = .returned v ∧ PairS A B q w' := (hc w).mono fun _ _ ⟨he, hb⟩ => ⟨he, hb ▸ hS⟩
theorem PairS.piv {P : Program} {A B : World} {f : FuncId} {args : Array Value} {v : Value} (hc : Calls P f args A fun e w' => e = .returned v ∧ B = w') (w : World) (hS : PairS A B false w) :
    Calls P f args w fun e w' => e = .returned v ∧ PairS A B true w' := by
  obtain rfl : A = w := hS
  exact hc
set_option maxRecDepth 100000 in
set_option maxHeartbeats 6400000 in
theorem bytes_law (a b : UInt8) (w : World) : Calls Try.prog 5 #[bv a, bv b] w fun e w' => e = .returned (.bool true) ∧ Below w.heap.size w w' := by
  obtain ⟨p, hp⟩ : ∃ p, p = gm a b := ⟨_, rfl⟩
  obtain ⟨s, hs⟩ : ∃ s, s = bxf boxT a := ⟨_, rfl⟩
  obtain ⟨q, hq⟩ : ∃ q, q = bxf backT b := ⟨_, rfl⟩
  have hal : ((a.toNat : Nat) : Int) < 256 := by have := a.toNat_lt; omega
  have i64w : ∀ x : UInt8, IntKind.i64.wrap ((x.toNat : Nat) : Int) = ((x.toNat : Nat) : Int) := fun x => by have := x.toNat_lt; rw [IntKind.wrap_i64]; omega
  have wa := i64w a
  have wb := i64w b
  have wp := i64w p
  have ws := i64w s
  clear i64w
  have M1 : Hid (∀ w, Calls Try.prog 16 #[bv a, bv b] w fun e w' => e = .returned (bv p) ∧ w = w') := Lib.hid fun w => by rw [hp]; exact mul_any a b w
  have M2 : Hid (∀ w, Calls Try.prog 17 #[.int .i64 ((a.toNat : Nat) : Int), .int .i64 ((b.toNat : Nat) : Int)] w fun e w' => e = .returned (.int .i64 ((p.toNat : Nat) : Int)) ∧ w = w') := Lib.hid fun w => by
    have := rmul_any a.toNat b.toNat a.toNat_lt b.toNat_lt w
    rwa [← gm_nat, ← hp] at this
  have S1 : Hid (∀ w, Calls Try.prog 18 #[bv a] w fun e w' => e = .returned (bv s) ∧ Below w.heap.size w w') := Lib.hid fun w => by rw [hs]; exact sub_any a w
  have S2 : Hid (∀ w, Calls Try.prog 19 #[.int .i64 ((a.toNat : Nat) : Int)] w fun e w' => e = .returned (.int .i64 ((s.toNat : Nat) : Int)) ∧ w = w') := Lib.hid fun w => by
    have := rsub_nat a.toNat a.toNat_lt w
    rwa [sbN_all, ← hs] at this
  have B1 : Hid (∀ w, Calls Try.prog 21 #[bv s] w fun e w' => e = .returned (bv a) ∧ Below w.heap.size w w') := Lib.hid fun w => by
    have := back_any s w
    rwa [hs, back_box, ← hs] at this
  have B2 : Hid (∀ w, Calls Try.prog 21 #[bv b] w fun e w' => e = .returned (bv q) ∧ Below w.heap.size w w') := Lib.hid fun w => by rw [hq]; exact back_any b w
  have S3 : Hid (∀ w, Calls Try.prog 18 #[bv q] w fun e w' => e = .returned (bv b) ∧ Below w.heap.size w w') := Lib.hid fun w => by
    have := sub_any q w
    rwa [hq, box_back, ← hq] at this
  have HSA := Lib.hid hs
  clear hp hs hq
  go_enter Try.func5, Try.ntmps5
  go_upto_region 1 with (fail)
  have HK : Hid (Keeps (fun w' => Below w.heap.size w w')) := Lib.hid fun _ _ h hb => bthen h hb
  refine wp_region_front (by kernel_rfl) ?_
  refine front_chunk 11 99 (fun _ w' => Below w.heap.size w w') (by kernel_rfl) (by decide) (Below.refl _ _).drew ?_
  simp only [List.drop_zero, List.take_succ_cons, List.take_zero]
  repeat (first
    | (refine textP_skip (by rfl) (by decide) ?_; simp only [Act.put, List.setIfInBounds_toArray, List.set_cons_zero, List.set_cons_succ])
    | (refine textP_pure (v := ?_) (by rfl) (by decide) (fun q wx hS => ?_) ?_; rotate_left; (go_simp; with_reducible exact rfl); simp only [Act.put, List.setIfInBounds_toArray, List.set_cons_zero, List.set_cons_succ])
    | (refine textP_call (v := ?_) (f := ?_) (args := ?_) (by rfl) (by decide) (fun q wx hS => ?_) (fun q wx hS => ?_) ?_; rotate_left 3; (go_simp; constructor <;> with_reducible rfl)
       (first
         | with_reducible exact (fun _ => meetsBE M1.out) q wx hS
         | with_reducible exact (fun _ => meetsBE M2.out) q wx hS)
       simp only [Act.put, List.setIfInBounds_toArray, List.set_cons_zero, List.set_cons_succ]))
  refine textP_nil (fun w1 hb1 => ?_)
  refine front_chunk 9 99 (fun _ w' => Below w.heap.size w w') (by kernel_rfl) (by decide) hb1 ?_
  clear hb1
  simp only [List.drop_succ_cons, List.drop_zero, List.take_succ_cons, List.take_zero]
  repeat (first
    | (refine textP_skip (by rfl) (by decide) ?_; simp only [Act.put, List.setIfInBounds_toArray, List.set_cons_zero, List.set_cons_succ])
    | (refine textP_pure (v := ?_) (by rfl) (by decide) (fun q wx hS => ?_) ?_; rotate_left; (go_simp; with_reducible exact rfl); simp only [Act.put, List.setIfInBounds_toArray, List.set_cons_zero, List.set_cons_succ])
    | (refine textP_call (v := ?_) (f := ?_) (args := ?_) (by rfl) (by decide) (fun q wx hS => ?_) (fun q wx hS => ?_) ?_; rotate_left 3; (go_simp; constructor <;> with_reducible rfl)
       (first
         | with_reducible exact (fun _ => meets HK.out S1.out) q wx hS
         | with_reducible exact (fun _ => meetsBE S2.out) q wx hS)
       simp only [Act.put, List.setIfInBounds_toArray, List.set_cons_zero, List.set_cons_succ]))
  refine textP_nil (fun w2 hb2 => ?_)
  obtain ⟨W3, hW3⟩ : ∃ W, W = w2.alloc (.cells (boxT.map iv).toArray 3) := ⟨_, rfl⟩
  have hc3 : W3.cell? ⟨w2.heap.size, a.toNat, none⟩ = some (.int .i64 ((s.toNat : Nat) : Int)) := by
    rw [hW3, cell_of_row _ w2.heap.size a.toNat _ _ (0, 0) (heap_alloc_new w2 _), List.getElem?_toArray, List.getElem?_map, getD_some (X := boxT) (by rw [boxT_len]; exact a.toNat_lt), HSA.out]
    rfl
  have hb3 : Below w.heap.size w W3 := by rw [hW3]; exact hb2.alloc hb2.size _
  have RB : Hid (Calls Try.prog 20 #[] w2 fun e w' => e = .returned (.slice (some ⟨w2.heap.size, 0, none⟩) 256 256) ∧ W3 = w') := Lib.hid (by rw [hW3]; exact rboxes_any w2)
  obtain ⟨z, hz⟩ : ∃ z, z = w2.heap.size := ⟨_, rfl⟩
  rw [← hz] at RB hc3
  clear hW3 hz hb2
  refine front_chunk 10 20 (PairS w2 W3) (by kernel_rfl) (by decide) rfl ?_
  simp only [List.drop_succ_cons, List.drop_zero, List.take_succ_cons, List.take_zero]
  repeat (first
    | (refine textP_skip (by rfl) (by decide) ?_; simp only [Act.put, List.setIfInBounds_toArray, List.set_cons_zero, List.set_cons_succ])
    | (refine textP_pure (v := ?_) (by rfl) (by decide) (fun q wx hS => ?_) ?_; rotate_left; (go_simp; with_reducible exact rfl); simp only [Act.put, List.setIfInBounds_toArray, List.set_cons_zero, List.set_cons_succ])
    | (refine textP_late (v := ?_) (by rfl) (by rfl) (fun wx hS => ?_) ?_; rotate_left; (replace hS : _ = wx := hS; subst hS; go_simp; with_reducible exact rfl); simp only [Act.put, List.setIfInBounds_toArray, List.set_cons_zero, List.set_cons_succ])
    | (refine textP_pivot (v := ?_) (f := ?_) (args := ?_) (by rfl) (by rfl) (fun wx hS => ?_) (fun wx hS => ?_) ?_; rotate_left 3; (go_simp; constructor <;> with_reducible rfl); (with_reducible exact PairS.piv RB.out wx hS); simp only [Act.put, List.setIfInBounds_toArray, List.set_cons_zero, List.set_cons_succ])
    | (refine textP_call (v := ?_) (f := ?_) (args := ?_) (by rfl) (by decide) (fun q wx hS => ?_) (fun q wx hS => ?_) ?_; rotate_left 3; (go_simp; constructor <;> with_reducible rfl)
       (first
         | with_reducible exact PairS.eq S2.out q wx hS)
       simp only [Act.put, List.setIfInBounds_toArray, List.set_cons_zero, List.set_cons_succ]))
  refine textP_nil (fun wx hS => ?_)
  obtain rfl : W3 = wx := hS
  refine front_chunk 7 99 (fun _ w' => Below w.heap.size w w') (by kernel_rfl) (by decide) hb3 ?_
  clear hb3 hc3 RB
  simp only [List.drop_succ_cons, List.drop_zero, List.take_succ_cons, List.take_zero]
  repeat (first
    | (refine textP_skip (by rfl) (by decide) ?_; simp only [Act.put, List.setIfInBounds_toArray, List.set_cons_zero, List.set_cons_succ])
    | (refine textP_pure (v := ?_) (by rfl) (by decide) (fun q wx hS => ?_) ?_; rotate_left; (go_simp; with_reducible exact rfl); simp only [Act.put, List.setIfInBounds_toArray, List.set_cons_zero, List.set_cons_succ])
    | (refine textP_call (v := ?_) (f := ?_) (args := ?_) (by rfl) (by decide) (fun q wx hS => ?_) (fun q wx hS => ?_) ?_; rotate_left 3; (go_simp; constructor <;> with_reducible rfl)
       (first
         | with_reducible exact (fun _ => meets HK.out S1.out) q wx hS
         | with_reducible exact (fun _ => meets HK.out B1.out) q wx hS)
       simp only [Act.put, List.setIfInBounds_toArray, List.set_cons_zero, List.set_cons_succ]))
  refine textP_nil (fun w4 hb4 => ?_)
  refine front_chunk 7 99 (fun _ w' => Below w.heap.size w w') (by kernel_rfl) (by decide) hb4 ?_
  clear hb4
  simp only [List.drop_succ_cons, List.drop_zero, List.take_succ_cons, List.take_zero]
  repeat (first
    | (refine textP_skip (by rfl) (by decide) ?_; simp only [Act.put, List.setIfInBounds_toArray, List.set_cons_zero, List.set_cons_succ])
    | (refine textP_pure (v := ?_) (by rfl) (by decide) (fun q wx hS => ?_) ?_; rotate_left; (go_simp; with_reducible exact rfl); simp only [Act.put, List.setIfInBounds_toArray, List.set_cons_zero, List.set_cons_succ])
    | (refine textP_call (v := ?_) (f := ?_) (args := ?_) (by rfl) (by decide) (fun q wx hS => ?_) (fun q wx hS => ?_) ?_; rotate_left 3; (go_simp; constructor <;> with_reducible rfl)
       (first
         | with_reducible exact (fun _ => meets HK.out B2.out) q wx hS
         | with_reducible exact (fun _ => meets HK.out S3.out) q wx hS)
       simp only [Act.put, List.setIfInBounds_toArray, List.set_cons_zero, List.set_cons_succ]))
  refine textP_nil (fun w5 hb5 => ?_)
  refine front_chunk 3 99 (fun _ w' => Below w.heap.size w w') (by kernel_rfl) (by decide) hb5 ?_
  clear hb5
  simp only [List.drop_succ_cons, List.drop_zero, List.take_succ_cons, List.take_zero]
  repeat (first
    | (refine textP_skip (by rfl) (by decide) ?_; simp only [Act.put, List.setIfInBounds_toArray, List.set_cons_zero, List.set_cons_succ])
    | (refine textP_pure (v := ?_) (by rfl) (by decide) (fun q wx hS => ?_) ?_; rotate_left; (go_simp; with_reducible exact rfl); simp only [Act.put, List.setIfInBounds_toArray, List.set_cons_zero, List.set_cons_succ])
    | (refine textP_call (v := ?_) (f := ?_) (args := ?_) (by rfl) (by decide) (fun q wx hS => ?_) (fun q wx hS => ?_) ?_; rotate_left 3; (go_simp; constructor <;> with_reducible rfl)
       (first
         | with_reducible exact (fun _ => meets HK.out aes_alive) q wx hS)
       simp only [Act.put, List.setIfInBounds_toArray, List.set_cons_zero, List.set_cons_succ]))
  refine textP_nil (fun w6 hb6 => ?_)
  refine front_end (by rfl) ?_
  go_wp2_with fail
  go_ret
  exact ⟨rfl, hb6⟩

theorem bytes_ints (a b : Int) (ha : 0 ≤ a ∧ a ≤ 255) (hb : 0 ≤ b ∧ b ≤ 255) (w : World) : Calls Try.prog 5 #[.int .u8 a, .int .u8 b] w fun e w' => e = .returned (.bool true) ∧ Below w.heap.size w w' := by
  obtain ⟨x, rfl⟩ : ∃ x : UInt8, a = ((x.toNat : Nat) : Int) := ⟨UInt8.ofNat a.toNat, by rw [UInt8.toNat_ofNat']; omega⟩
  obtain ⟨y, rfl⟩ : ∃ y : UInt8, b = ((y.toNat : Nat) : Int) := ⟨UInt8.ofNat b.toNat, by rw [UInt8.toNat_ofNat']; omega⟩
  exact bytes_law x y w

set_option maxRecDepth 100000 in
theorem aesBytes_lifted (os : Os) (started : os.Started) (H : Type) (enc : TypeId × Value → H) :
    ReturnsInHanded {} Try.checked os 5 .any (Rows.aesBytesSpec.pre6 enc Try.prog Try.f5 [] false) (Rows.aesBytesSpec.post enc Try.prog Try.f5 false true false false) := by
  refine LawKit.lifted (C := Try.checked) (tb := 4) own started (by kernel_rfl) Try.func5
    (ChangeSpec.witness6 (enc := enc) (C := Try.checked) false ⟨#[], #[.int .u8 0, .int .u8 0], []⟩ 8 (by kernel_rfl) (by kernel_rfl) (by kernel_rfl) (by kernel_rfl))
    laidOut (by kernel_rfl) rfl (fun ds h => by match ds, h with | [_, _], _ => rfl) rfl Try.underlying4 ?_
  intro W base args ds ps hval0 hA0 hlt hsz
  have hval : ∀ (j : Nat) t v, Try.f5.params[j]? = some t → args[j]? = some v → Value.okWide Try.prog W .any base t v := hval0
  have hA : DataW.TrodAll enc Try.prog W 0 (fun _ => true) true Try.f5.params.toList args.toList ds ps := hA0
  rw [Try.params5] at hA hval
  clear hval0 hA0
  obtain ⟨v0, vs0, d0, ds0, p0, q0, hargs, rfl, rfl, t0, r0⟩ := trodAll_cons hA
  obtain ⟨v1, vs1, d1, ds1, p1, q1, rfl, rfl, rfl, t1, r1⟩ := trodAll_cons r0
  obtain ⟨rfl, rfl, rfl⟩ := trodAll_nil r1
  obtain rfl : args = #[v0, v1] := by cases args; simp_all
  obtain ⟨a, rfl, -, -, w_a⟩ := open_int Try.underlying5 (hval 0 _ v0 rfl rfl) t0
  obtain ⟨b, rfl, -, -, w_b⟩ := open_int Try.underlying5 (hval 1 _ v1 rfl rfl) t1
  exact bytes_ints a b (byte_bd w_a) (byte_bd w_b) W

theorem aesBytes_holds : Rows.AesBytesSaid :=
  OpenClaim.holds_of_wide 5 Try.f5 rfl rfl rfl rfl rfl rfl rfl ⟨rfl, rfl, rfl, rfl, rfl⟩ rfl rfl rfl rfl rfl (by kernel_rfl) Try.func5 (by kernel_rfl)
    (of_decide_eq_true (by kernel_rfl)) (by unfold Func.isWrapper; first | (rw [if_pos (by decide +kernel)]; kernel_rfl) | (rw [if_neg (by decide +kernel)]; exact ⟨rfl, rfl⟩))
    (fun os started H enc _ => aesBytes_lifted os started H enc)
#print axioms aesBytes_holds

end Go.Proofs.Ytkbidgonjnlkmaa

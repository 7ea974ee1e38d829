/-
  Slices of ints that hold bytes: built by append, read by address; the contracts of the reference's Text and add (chapter 05). No condition. Own work.
-/
import Derived.Test.YtkbidgonjnlkmaaRBoxes
import Derived.Test.YtkbidgonjnlkmaaFront4
namespace Go.Proofs.Ytkbidgonjnlkmaa
open Go.RowKit

theorem int_info : (Try.prog.info? 3).map (fun i => (i.zero, i.size, i.bytes)) = some (some (.int .i64 0), 1, 8) := by kernel_rfl
theorem bxor64 (a b : UInt8) : bits .xor .i64 ((a.toNat : Nat) : Int) ((b.toNat : Nat) : Int) = (((a ^^^ b).toNat : Nat) : Int) := by
  have h1 := a.toNat_lt
  have h2 := b.toNat_lt
  rw [i64_xor_nat a.toNat b.toNat (by omega) (by omega), UInt8.toNat_xor]
theorem str_app (A B : List UInt8) : (⟨A.toArray⟩ : ByteArray) ++ ⟨B.toArray⟩ = ⟨(A ++ B).toArray⟩ := by
  apply ByteArray.ext
  simp [ByteArray.data_append]
theorem str_snoc (A : List UInt8) (v : UInt8) : (⟨A.toArray⟩ : ByteArray) ++ ⟨#[v]⟩ = ⟨(A ++ [v]).toArray⟩ := str_app A [v]
/-- 'string([]byte{byte(n)})'. -/
theorem one_str (v : UInt8) (W : World) : (convert 69 9 (.slice (some ⟨W.heap.size, 0, none⟩) 1 1)).run Try.prog (W.alloc (.cells #[bv v] 5)) = .ok (.string ⟨#[v]⟩) (W.alloc (.cells #[bv v] 5)) := by
  have hA := Arr.new W 5 [v]
  exact hA.str (P := Try.prog) 1 1 rfl 69 5 9 Try.underlying69 Try.underlying5 Try.underlying9

/-- A slice of ints that the call owns (from block B on) holds these bytes. -/
def ISl (B : Nat) (v : Value) (R : List UInt8) (w : World) : Prop := w.ownsRow B 3 1 v R.length (R.map iv)
/-- Block g holds these bytes as ints, from its start. -/
def IC (g : Nat) (R : List UInt8) (w : World) : Prop := g < w.heap.size ∧ ∀ i c, R[i]? = some c → w.cell? ⟨g, i, none⟩ = some (iv c)
theorem IC.below {g : Nat} {R : List UInt8} {w w' : World} (h : IC g R w) (hb : Below w.heap.size w w') : IC g R w' :=
  ⟨Nat.lt_of_lt_of_le h.1 hb.size, fun i c hc => (hb.cell (p := ⟨g, i, none⟩) h.1).trans (h.2 i c hc)⟩
theorem IC.below2 {B g : Nat} {R : List UInt8} {w w' : World} (h : IC g R w) (hb : Below B w w') (hg : g < B) : IC g R w' :=
  ⟨Nat.lt_of_lt_of_le h.1 hb.size, fun i c hc => (hb.cell (p := ⟨g, i, none⟩) hg).trans (h.2 i c hc)⟩
theorem ISl.nil (B : Nat) (w : World) : ISl B (.slice none 0 0) [] w := World.ownsRow_nil _ _ _ _
theorem ISl.below {B : Nat} {v : Value} {R : List UInt8} {w w' : World} (h : ISl B v R w) (hb : Below w.heap.size w w') : ISl B v R w' := own_below h hb
theorem ISl.up {B B' : Nat} {v : Value} {R : List UInt8} {w : World} (h : ISl B v R w) (hb : B' ≤ B) : ISl B' v R w :=
  ⟨h.1, h.2.imp id fun ⟨g, cap, cur, h1, h2, h3⟩ => ⟨g, cap, cur, h1, by omega, h3⟩⟩
theorem ISl.opened {B : Nat} {v : Value} {R : List UInt8} {w : World} (h : ISl B v R w) (h0 : 0 < R.length) : ∃ g cap, v = .slice (some ⟨g, 0, none⟩) R.length cap ∧ B ≤ g ∧ IC g R w := by
  rcases h.2 with ⟨_, hn⟩ | ⟨g, cap, cur, rfl, hb, hg, hnc, _, hcs, htake⟩
  · omega
  · refine ⟨g, cap, rfl, hb, lt_of_block hg, fun i c hc => ?_⟩
    rw [cell_of_row w g i cur _ _ hg]
    have hi : i < R.length := (List.getElem?_eq_some_iff.mp hc).1
    have e : (cur.toList.take (R.length * 1))[i]? = some (iv c) := by rw [htake, List.getElem?_map, hc]; rfl
    rw [List.getElem?_take, if_pos (by omega)] at e
    simpa using e
/-- A slice literal of ints. -/
theorem ISl.lit (w : World) (R : List UInt8) (hR : R.length ≤ maxLen) : ISl w.heap.size (.slice (some ⟨w.heap.size, 0, none⟩) R.length R.length) R (w.alloc (.cells (R.map iv).toArray 3)) :=
  ⟨by simp, .inr ⟨w.heap.size, R.length, (R.map iv).toArray, rfl, Nat.le_refl _, heap_alloc_new w _, Nat.le_refl _, hR, by simp, by rw [List.toList_toArray, Nat.mul_one]; exact List.take_of_length_le (by simp)⟩⟩

set_option maxHeartbeats 1600000 in
theorem rtext_any (R : List UInt8) (g cap : Nat) (w : World) (hR : R.length ≤ 1000) (hI : IC g R w) :
    Calls Try.prog 23 #[.slice (some ⟨g, 0, none⟩) R.length cap] w fun e w' => e = .returned (.string ⟨R.toArray⟩) ∧ Below w.heap.size w w' := by
  obtain ⟨n, hn⟩ : ∃ n, n = R.length := ⟨_, rfl⟩
  rw [← hn] at hR ⊢
  have HN := Lib.hid hn
  have HI := Lib.hid hI
  clear hn hI
  go_enter Try.func23, Try.ntmps23
  go_wp2_with fail
  go_loopw [3, 4] (fun o c wr => ∃ i : Nat, i ≤ n ∧ c = .int .i64 (i : Int) ∧ o = .string ⟨(R.take i).toArray⟩ ∧ Below w.heap.size w wr) (fun _ c _ => n - (intOf c).toNat)
  case atStart => exact ⟨0, by omega, rfl, rfl, Below.refl _ _⟩
  case round =>
    obtain ⟨i, hi, rfl, rfl, hbw⟩ := hrel
    by_cases hin : i < n
    · have hii : (i : Int) < (n : Int) := by omega
      obtain ⟨c, hc⟩ : ∃ c, R[i]? = some c := ⟨R[i]'(by rw [← HN.out]; exact hin), List.getElem?_eq_getElem _⟩
      have c0 := (HI.out.below hbw).2 i c hc
      unfold iv at c0
      have hT : R.take (i + 1) = R.take i ++ [c] := by rw [List.take_add_one, hc]; rfl
      have hs := str_snoc (R.take i) c
      have hl : (⟨(R.take i).toArray⟩ : ByteArray).size ≤ 1000 := by simp [ByteArray.size]; omega
      rw [← hT] at hs
      have o1 := fun W => one_str c W
      unfold bv at o1
      have hcm : ((c.toNat : Nat) : Int) % 256 = ((c.toNat : Nat) : Int) := by have := c.toNat_lt; omega
      have hcw : IntKind.u8.wrap ((c.toNat : Nat) : Int) = ((c.toNat : Nat) : Int) := by rw [IntKind.wrap_u8, hcm]
      have h1s : (⟨#[c]⟩ : ByteArray).size = 1 := rfl
      have HB := Lib.hid hbw
      have hbz := hbw.size
      clear hT hc hbw
      generalize (⟨(R.take i).toArray⟩ : ByteArray) = A at *
      obtain ⟨A', hA'⟩ : ∃ A' : ByteArray, A' = ⟨(R.take (i + 1)).toArray⟩ := ⟨_, rfl⟩
      rw [← hA'] at hs
      have HA' := Lib.hid hA'
      clear hA'
      go_wp2_with fail
      exact ⟨⟨i + 1, by omega, by go_num, by rw [HA'.out], HB.out.alloc hbz _⟩, by simp [intOf]; omega⟩
    · have hi2 : i = n := by omega
      subst hi2
      have e : R.take i = R := List.take_of_length_le (by rw [← HN.out]; exact Nat.le_refl _)
      rw [e]
      go_wp2_with fail
      go_ret
      exact ⟨rfl, hbw⟩

theorem IC.grown {g : Nat} {R : List UInt8} {w w' : World} {row : Option Nat} (h : IC g R w) (hg : w.grownBy w' row) (hne : row ≠ some g) : IC g R w' :=
  ⟨Nat.lt_of_lt_of_le h.1 hg.size, fun i c hc => by
    rw [← h.2 i c hc]
    exact World.cell?_of_block (w := w) (a := ⟨g, i, none⟩) (hg.block g h.1 (fun e => hne e.symm))⟩
theorem IC.lit (w : World) (R : List UInt8) : IC w.heap.size R (w.alloc (.cells (R.map iv).toArray 3)) :=
  ⟨by simp, fun i c hc => by rw [cell_of_row _ w.heap.size i _ _ (0, 0) (heap_alloc_new w _)]; simp [hc]⟩
/-- append(l, m...) of ints that hold bytes. -/
theorem wpList_push {ops : Array Oper} {rest : List Oper} {o : Oper} {a : Act} {w : World} {Q : Exit → Act → World → Prop} (hgd : o.guard = none) (s x : Operand)
    (ho : o.op = .call { callee := .builtin .append, args := #[s, x], argTypes := #[42, 42] }) (B : Nat) (v : Value) (R : List UInt8) (hs : a.eval s = v) (hO : ISl B v R w)
    (g m c : Nat) (S : List UInt8) (hx : a.eval x = .slice (some ⟨g, 0, none⟩) m c) (hS : IC g S w) (hm : m = S.length) (hl : R.length + S.length ≤ 10000) (hB : B ≤ w.heap.size)
    (h : ∀ v' w', ISl B v' (R ++ S) w' → w.grownBy w' v.ownBlock → Below B w w' → wpList Try.prog ops Q rest (a.put o.dst v') w') : wpList Try.prog ops Q (o :: rest) a w := by
  obtain ⟨i0, hi, iz0, iz1, iz2⟩ := info_parts int_info
  subst hm
  refine wpList_append_own w hgd s x 42 ho B 3 i0 (.int .i64 0) 1 8 Try.underlying42 hi iz0 iz1 iz2 rfl (by decide) v R.length (R.map iv) hs hO ⟨g, 0, none⟩ S.length c (S.map iv) hx (by simp) (fun j u hu => ?_) (fun u hu => ?_) (by unfold maxLen; omega) (by omega) hB (fun v' w' h1 h2 _ => ?_)
  · rw [List.getElem?_map] at hu
    obtain ⟨d, hd, rfl⟩ := Option.map_eq_some_iff.1 hu
    have ha : (⟨g, 0, none⟩ : Addr).add j = ⟨g, j, none⟩ := by unfold Addr.add; split <;> simp_all
    rw [ha]
    exact hS.2 j d hd
  · obtain ⟨d, _, rfl⟩ := List.mem_map.1 hu
    rfl
  · refine h v' w' ?_ h2 ((Below.refl B w).grown h2 hB (fun k hk => (hO.lt k hk).1))
    unfold ISl
    rw [List.length_append, List.map_append]
    exact h1

set_option maxRecDepth 20000 in
set_option maxHeartbeats 3200000 in
theorem radd_any (X L : List UInt8) (gs gl cs cl r : Nat) (hX : X.length = 16) (hL : L.length = 176) (hr : r ≤ 10) (w : World) (hs : IC gs X w) (hl : IC gl L w) :
    Calls Try.prog 46 #[.slice (some ⟨gs, 0, none⟩) 16 cs, .slice (some ⟨gl, 0, none⟩) 176 cl, .int .i64 (r : Int)] w fun e w' => (∃ v, e = .returned v ∧ ISl w.heap.size v (addV X L r) w') ∧ Below w.heap.size w w' := by
  obtain ⟨V, hV⟩ : ∃ V, V = addV X L r := ⟨_, rfl⟩
  have hVl : V.length = 16 := by rw [hV]; exact addV_len _ _ _
  have hget : ∀ i, i < 16 → V[i]? = some (X.getD i 0 ^^^ L.getD (16 * r + i) 0) := fun i h => by rw [hV]; exact range_get _ 16 i h
  rw [← hV]
  have HS := Lib.hid hs
  have HL := Lib.hid hl
  have HG := Lib.hid hget
  clear hs hl hV hget
  go_enter Try.func46, Try.ntmps46
  go_wp2_with fail
  go_loopw [7, 8] (fun o c wr => ∃ i : Nat, i ≤ 16 ∧ c = .int .i64 (i : Int) ∧ ISl w.heap.size o (V.take i) wr ∧ Below w.heap.size w wr) (fun _ c _ => 16 - (intOf c).toNat)
  case atStart => exact ⟨0, by omega, rfl, ISl.nil _ _, Below.refl _ _⟩
  case round =>
    obtain ⟨i, hi16, rfl, hO, hbw⟩ := hrel
    by_cases hin : i < 16
    · have hii : (i : Int) < 16 := by omega
      obtain ⟨a, ha⟩ : ∃ a, a = X.getD i 0 := ⟨_, rfl⟩
      obtain ⟨b, hb⟩ : ∃ b, b = L.getD (16 * r + i) 0 := ⟨_, rfl⟩
      have hv := HG.out i hin
      rw [← ha, ← hb] at hv
      obtain ⟨m, hm⟩ : ∃ m, m = 16 * r + i := ⟨_, rfl⟩
      have c0 := (HS.out.below hbw).2 i a (by rw [ha]; exact getD_some (by omega))
      have c1 := (HL.out.below hbw).2 m b (by rw [hb, hm]; exact getD_some (by omega))
      unfold iv at c0 c1
      have hxo := bxor64 a b
      obtain ⟨c, hc⟩ : ∃ c, c = a ^^^ b := ⟨_, rfl⟩
      rw [← hc] at hxo hv
      have w1 : IntKind.i64.wrap (16 * (r : Int)) = 16 * (r : Int) := by rw [IntKind.wrap_i64]; omega
      have w4 : IntKind.i64.wrap (16 * (r : Int) + (i : Int)) = (m : Int) := by rw [IntKind.wrap_i64]; omega
      have hm0 : (0 : Int) ≤ (m : Int) := by omega
      have hm4 : (m : Int) < 176 := by omega
      have hi0 : (0 : Int) ≤ (i : Int) := by omega
      have hT : V.take (i + 1) = V.take i ++ [c] := by rw [List.take_add_one, hv]; rfl
      have hTl : (V.take i).length = i := by rw [List.length_take]; omega
      have HT := Lib.hid hT
      have HTL := Lib.hid hTl
      have HO := Lib.hid hO
      have HB := Lib.hid hbw
      have hbz := hbw.size
      clear hO hbw ha hb hv hc hm hT hTl
      go_wp2_with fail
      obtain ⟨B, hB⟩ : ∃ B, B = (wr.alloc (.cells #[.int .i64 ((c.toNat : Nat) : Int)] 3)).drew := ⟨_, rfl⟩
      have hgs := Nat.lt_of_lt_of_le HS.out.1 hbz
      have hgl := Nat.lt_of_lt_of_le HL.out.1 hbz
      have hK : PK (fun w' => w'.cell? ⟨gs, i, none⟩ = some (.int .i64 ((a.toNat : Nat) : Int)) ∧ w'.cell? ⟨gl, m, none⟩ = some (.int .i64 ((b.toNat : Nat) : Int))) wr.drew B true B :=
        ⟨⟨by rw [hB]; exact ((bnew wr _).cell (p := ⟨gs, i, none⟩) hgs).trans c0, by rw [hB]; exact ((bnew wr _).cell (p := ⟨gl, m, none⟩) hgl).trans c1⟩, rfl⟩
      have HK := Lib.hid hK
      rw [hB] at HK
      refine wp_region_front (by kernel_rfl) ?_
      refine front_chunk 14 13 (PK (fun w' => w'.cell? ⟨gs, i, none⟩ = some (.int .i64 ((a.toNat : Nat) : Int)) ∧ w'.cell? ⟨gl, m, none⟩ = some (.int .i64 ((b.toNat : Nat) : Int))) wr.drew (wr.alloc (.cells #[.int .i64 ((c.toNat : Nat) : Int)] 3)).drew) (by kernel_rfl) (by decide) ⟨⟨c0, c1⟩, rfl⟩ ?_
      clear hB hK
      simp only [List.drop_zero, List.take_succ_cons, List.take_zero]
      repeat (first
        | (refine textP_skip (by rfl) (by decide) ?_; simp only [Act.put, List.setIfInBounds_toArray, List.set_cons_zero, List.set_cons_succ])
        | (refine textP_known (v := ?_) (by rfl) (by decide) (fun wx hS => ?_) ?_; rotate_left; ((try dsimp only at hS); go_simp; with_reducible exact rfl); simp only [Act.put, List.setIfInBounds_toArray, List.set_cons_zero, List.set_cons_succ])
        | (refine textP_make (v := ?_) (by rfl) (by rfl) (fun wx hS => ?_) ?_; rotate_left; (replace hS := hS.2; subst hS; refine ⟨_, ?_, HK.out⟩; go_simp; with_reducible exact rfl); simp only [Act.put, List.setIfInBounds_toArray, List.set_cons_zero, List.set_cons_succ]))
      refine textP_nil (fun wx hS => ?_)
      replace hS := hS.2
      subst hS
      refine front_tail (by kernel_rfl) (by decide) ?_
      simp only [List.drop_succ_cons, List.drop_zero]
      have HO2 : Hid (ISl w.heap.size u7 (V.take i) (wr.alloc (.cells #[.int .i64 ((c.toNat : Nat) : Int)] 3)).drew) := Lib.hid (HO.out.alloc _)
      have HC2 : Hid (IC wr.heap.size [c] (wr.alloc (.cells #[.int .i64 ((c.toNat : Nat) : Int)] 3)).drew) := Lib.hid (IC.lit wr [c])
      go_wp2_with (at_builtin; refine wpList_push rfl _ _ rfl w.heap.size _ (V.take i) rfl HO2.out wr.heap.size 1 1 [c] rfl HC2.out rfl (by rw [HTL.out]; simp; omega) (by simp; omega) ?_)
      intro v' w5 hO5 _ hb5
      rw [← HT.out] at hO5
      have HO5 := Lib.hid hO5
      clear hO5 c0 c1
      go_wp2_with fail
      exact ⟨⟨i + 1, by omega, by go_num, HO5.out, (HB.out.alloc hbz _).drew.trans hb5⟩, by simp [intOf]; omega⟩
    · have hi2 : i = 16 := by omega
      subst hi2
      rw [List.take_of_length_le (by omega)] at hO
      have HO := Lib.hid hO
      clear hO
      go_wp2_with fail
      go_ret
      exact ⟨⟨_, rfl, HO.out⟩, hbw⟩
end Go.Proofs.Ytkbidgonjnlkmaa

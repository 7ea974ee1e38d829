/-
  The contract of the reference's Expand (chapter 05). No condition. Own work.
-/
import Derived.Test.YtkbidgonjnlkmaaRInts
namespace Go.Proofs.Ytkbidgonjnlkmaa
open Go.RowKit

theorem str_idx (s : ByteArray) (i : Nat) (c : UInt8) (h : s.data.toList[i]? = some c) : ∀ W, (Instr.index 9 (.string s) (.int .i64 (i : Int))).run Try.prog W = .ok (.int .u8 ((c.toNat : Nat) : Int)) W := by
  intro W
  have hi : i < s.size := by
    have := (List.getElem?_eq_some_iff.mp h).1
    simpa using this
  have hx : s[i] = c := by
    have h2 : s.data[i]? = some c := by simpa using h
    obtain ⟨h3, h4⟩ := Array.getElem?_eq_some_iff.mp h2
    exact h4
  simp [go_sem, hi, hx]
/-- Block g is just this row of ints. -/
def IA (g : Nat) (R : List UInt8) (w : World) : Prop := w.heap[g]? = some (.cells (R.map iv).toArray 3 (0, 0))
theorem IA.ic {g : Nat} {R : List UInt8} {w : World} (h : IA g R w) : IC g R w := ⟨lt_of_block h, fun i c hc => by rw [cell_of_row _ g i _ _ (0, 0) h]; simp [hc]⟩
theorem IA.new (w : World) (R : List UInt8) : IA w.heap.size R (w.alloc (.cells (R.map iv).toArray 3)) := heap_alloc_new w _
theorem IA.below {g : Nat} {R : List UInt8} {w w' : World} (h : IA g R w) (hb : Below w.heap.size w w') : IA g R w' := (hb.block g (lt_of_block h)).trans h
theorem IA.grown {g : Nat} {R : List UInt8} {w w' : World} {row : Option Nat} (h : IA g R w) (hg : w.grownBy w' row) (hne : row ≠ some g) : IA g R w' := (hg.block g (lt_of_block h) (fun e => hne e.symm)).trans h
/-- A longer slice lies in another block. -/
theorem ISl.apart {B g : Nat} {v : Value} {R S : List UInt8} {w : World} (h : ISl B v R w) (hS : IA g S w) (hl : S.length < R.length) : v.ownBlock ≠ some g := by
  rcases h.2 with ⟨rfl, _⟩ | ⟨k, cap, cur, rfl, _, hk, hnc, _, hcs, _⟩
  · simp [Value.ownBlock]
  · intro e
    simp only [Value.ownBlock, Option.some.injEq] at e
    subst e
    unfold IA at hS
    rw [hk] at hS
    simp only [Option.some.injEq, Obj.cells.injEq] at hS
    have := congrArg Array.size hS.1
    simp at this
    omega
theorem w64_byte (a : UInt8) : wrap64 ((a.toNat : Nat) : Int) = ((a.toNat : Nat) : Int) := by
  have := a.toNat_lt
  unfold wrap64
  omega
theorem i64w (x : UInt8) : IntKind.i64.wrap ((x.toNat : Nat) : Int) = ((x.toNat : Nat) : Int) := by
  have := x.toNat_lt
  rw [IntKind.wrap_i64]; omega
theorem rmul_u8 (a b : UInt8) (w : World) :
    Calls Try.prog 17 #[.int .i64 ((a.toNat : Nat) : Int), .int .i64 ((b.toNat : Nat) : Int)] w fun e w' => e = .returned (.int .i64 (((gm a b).toNat : Nat) : Int)) ∧ w = w' := by
  have := rmul_any a.toNat b.toNat a.toNat_lt b.toNat_lt w
  rw [← gm_nat] at this
  exact this
/-- The four new bytes. -/
def nwL (L T : List UInt8) (n : Nat) : List UInt8 := (List.range 4).map fun r => L.getD (4 * n + r) 0 ^^^ T.getD r 0
theorem nwL_len (L T : List UInt8) (n : Nat) : (nwL L T n).length = 4 := by simp [nwL]
theorem exL_succ (K : List UInt8) (n : Nat) : exL K (n + 1) = exL K n ++ nwL (exL K n) (tW (4 + n) (exP n) (tB (exL K n) n)) n := rfl
theorem list4 (T : List UInt8) (h : T.length = 4) : T = [T.getD 0 0, T.getD 1 0, T.getD 2 0, T.getD 3 0] := by
  match T, h with
  | [a, b, c, d], _ => rfl

set_option maxRecDepth 100000 in
set_option maxHeartbeats 6400000 in
theorem rexpand_any (key : ByteArray) (hk : key.size = 16) (gb cb : Nat) (w : World) (hb : IC gb boxT w) :
    Calls Try.prog 24 #[.string key, .slice (some ⟨gb, 0, none⟩) 256 cb] w fun e w' => (∃ v, e = .returned v ∧ ISl w.heap.size v (exL key.data.toList 40) w') ∧ Below w.heap.size w w' := by
  have hkl : key.data.toList.length = 16 := by simp [hk]
  obtain ⟨K, hK⟩ : ∃ K, K = key.data.toList := ⟨_, rfl⟩
  have hidx : ∀ (i : Nat) (c : UInt8), K[i]? = some c → ∀ W, (Instr.index 9 (.string key) (.int .i64 (i : Int))).run Try.prog W = .ok (.int .u8 ((c.toNat : Nat) : Int)) W := fun i c h => str_idx key i c (by rw [← hK]; exact h)
  rw [← hK] at hkl ⊢
  obtain ⟨BX, hBX⟩ : ∃ BX, BX = boxT := ⟨_, rfl⟩
  have hBl : BX.length = 256 := by rw [hBX]; exact boxT_len
  rw [← hBX] at hb
  have HBX := Lib.hid hBX
  have HIX := Lib.hid hidx
  have HBC := Lib.hid hb
  have HE : Hid (∀ n, (exL K n).length = 16 + 4 * n) := Lib.hid (exL_len K hkl)
  have HM := Lib.hid rmul_u8
  clear hK hidx hb hBX
  go_enter Try.func24, Try.ntmps24
  go_wp2_with fail
  go_loopw [5, 6] (fun o c wr => ∃ (i : Nat) (z : Int), i ≤ 16 ∧ z = (i : Int) ∧ c = .int .i64 z ∧ ISl w.heap.size o (K.take i) wr ∧ Below w.heap.size w wr) (fun _ c _ => 16 - (intOf c).toNat)
  case atStart => exact ⟨0, 0, by omega, rfl, rfl, ISl.nil _ _, Below.refl _ _⟩
  case round =>
    obtain ⟨i, z, hi16, hz, rfl, hO, hbw⟩ := hrel
    by_cases hin : i < 16
    · subst hz
      have hii : (i : Int) < 16 := by omega
      obtain ⟨c, hc⟩ : ∃ c, K[i]? = some c := ⟨_, List.getElem?_eq_getElem (by omega)⟩
      have hT : K.take (i + 1) = K.take i ++ [c] := by rw [List.take_add_one, hc]; rfl
      have hTl : (K.take i).length = i := by rw [List.length_take]; omega
      have hix := HIX.out i c hc
      have hcw := w64_byte c
      have HT := Lib.hid hT
      have HTL := Lib.hid hTl
      have HO := Lib.hid hO
      have HB := Lib.hid hbw
      have hbz := hbw.size
      clear hO hbw hc hT hTl
      have HO2 : Hid (ISl w.heap.size u5 (K.take i) (wr.alloc (.cells #[.int .i64 ((c.toNat : Nat) : Int)] 3))) := Lib.hid (HO.out.alloc _)
      have HC2 : Hid (IC wr.heap.size [c] (wr.alloc (.cells #[.int .i64 ((c.toNat : Nat) : Int)] 3))) := Lib.hid (IC.lit wr [c])
      go_wp2_with (at_builtin; refine wpList_push rfl _ _ rfl w.heap.size _ (K.take i) rfl HO2.out wr.heap.size 1 1 [c] rfl HC2.out rfl (by rw [HTL.out]; simp; omega) (by simp; omega) ?_)
      intro v' w5 hO5 _ hb5
      rw [← HT.out] at hO5
      have HO5 := Lib.hid hO5
      clear hO5
      go_wp2_with fail
      exact ⟨⟨i + 1, (i : Int) + 1, by omega, by omega, rfl, HO5.out, (HB.out.alloc hbz _).trans hb5⟩, by simp [intOf]; omega⟩
    · have hi2 : i = 16 := by omega
      obtain rfl : z = 16 := by omega
      subst hi2
      clear hz
      rw [List.take_of_length_le (by omega)] at hO
      have HO := Lib.hid hO
      have HB := Lib.hid hbw
      clear hO hbw
      go_wp2_with fail
      go_loopw [5, 7, 8] (fun o x c wr => ∃ n : Nat, n ≤ 40 ∧ c = .int .i64 ((n + 4 : Nat) : Int) ∧ x = .int .i64 (((exP n).toNat : Nat) : Int) ∧ ISl w.heap.size o (exL K n) wr ∧ Below w.heap.size w wr) (fun _ _ c _ => 44 - (intOf c).toNat)
      case atStart => exact ⟨0, by omega, rfl, rfl, HO.out, HB.out⟩
      case round =>
        clear HO HB
        obtain ⟨n, hn40, rfl, rfl, hO, hbw⟩ := hrel
        by_cases hlt : n < 40
        · have hEl := HE.out n
          obtain ⟨g, cap, rfl, hgB, hIC⟩ := hO.opened (by omega)
          obtain ⟨m, hm⟩ : ∃ m, m = n + 4 := ⟨_, rfl⟩
          rw [← hm]
          obtain ⟨len, hlen⟩ : ∃ len, len = 16 + 4 * n := ⟨_, rfl⟩
          rw [hEl, ← hlen] at hO ⊢
          have HO := Lib.hid hO
          have HB := Lib.hid hbw
          have hbz := hbw.size
          have HIC := Lib.hid hIC
          have hEs := exL_succ K n
          obtain ⟨L, hL⟩ : ∃ L, L = exL K n := ⟨_, rfl⟩
          obtain ⟨d0, hd0⟩ : ∃ d, d = L.getD (4 * n + 12 + 0) 0 := ⟨_, rfl⟩
          obtain ⟨d1, hd1⟩ : ∃ d, d = L.getD (4 * n + 12 + 1) 0 := ⟨_, rfl⟩
          obtain ⟨d2, hd2⟩ : ∃ d, d = L.getD (4 * n + 12 + 2) 0 := ⟨_, rfl⟩
          obtain ⟨d3, hd3⟩ : ∃ d, d = L.getD (4 * n + 12 + 3) 0 := ⟨_, rfl⟩
          have hTB : tB L n = [d0, d1, d2, d3] := by rw [hd0, hd1, hd2, hd3]; rfl
          rw [← hL] at HO HIC hEl hEs
          rw [hTB] at hEs
          obtain ⟨pw, hpw⟩ : ∃ pw, pw = exP n := ⟨_, rfl⟩
          have hpw' : exP (n + 1) = if (4 + n) % 4 = 0 then gm pw 2 else pw := by rw [hpw]; rfl
          rw [← hpw] at hEs ⊢
          have c0 := HIC.out.2 (4 * n + 12 + 0) d0 (by rw [hd0]; exact getD_some (by omega))
          have c1 := HIC.out.2 (4 * n + 12 + 1) d1 (by rw [hd1]; exact getD_some (by omega))
          have c2 := HIC.out.2 (4 * n + 12 + 2) d2 (by rw [hd2]; exact getD_some (by omega))
          have c3 := HIC.out.2 (4 * n + 12 + 3) d3 (by rw [hd3]; exact getD_some (by omega))
          obtain ⟨q0, hq0⟩ : ∃ q, q = 4 * n + 12 + 0 := ⟨_, rfl⟩
          obtain ⟨q1, hq1⟩ : ∃ q, q = 4 * n + 12 + 1 := ⟨_, rfl⟩
          obtain ⟨q2, hq2⟩ : ∃ q, q = 4 * n + 12 + 2 := ⟨_, rfl⟩
          obtain ⟨q3, hq3⟩ : ∃ q, q = 4 * n + 12 + 3 := ⟨_, rfl⟩
          rw [← hq0] at c0
          rw [← hq1] at c1
          rw [← hq2] at c2
          rw [← hq3] at c3
          unfold iv at c0 c1 c2 c3
          have e0 : IntKind.i64.wrap (4 * (m : Int)) = 4 * (m : Int) := by rw [IntKind.wrap_i64]; omega
          have p0 : IntKind.i64.wrap (4 * (m : Int) - 4) = (q0 : Int) := by rw [IntKind.wrap_i64]; omega
          have p1 : IntKind.i64.wrap (4 * (m : Int) - 3) = (q1 : Int) := by rw [IntKind.wrap_i64]; omega
          have p2 : IntKind.i64.wrap (4 * (m : Int) - 2) = (q2 : Int) := by rw [IntKind.wrap_i64]; omega
          have p3 : IntKind.i64.wrap (4 * (m : Int) - 1) = (q3 : Int) := by rw [IntKind.wrap_i64]; omega
          have z0 : (0 : Int) ≤ (q0 : Int) ∧ (q0 : Int) < (len : Int) := by omega
          have z1 : (0 : Int) ≤ (q1 : Int) ∧ (q1 : Int) < (len : Int) := by omega
          have z2 : (0 : Int) ≤ (q2 : Int) ∧ (q2 : Int) < (len : Int) := by omega
          have z3 : (0 : Int) ≤ (q3 : Int) ∧ (q3 : Int) < (len : Int) := by omega
          have hm44 : (m : Int) < 44 := by omega
          have hgl := HIC.out.1
          have HES := Lib.hid hEs
          have HPW := Lib.hid hpw'
          have HQ : Hid ((q0 = 4 * n + 12 + 0 ∧ q1 = 4 * n + 12 + 1 ∧ q2 = 4 * n + 12 + 2 ∧ q3 = 4 * n + 12 + 3) ∧ m = n + 4 ∧ len = 16 + 4 * n) := Lib.hid ⟨⟨hq0, hq1, hq2, hq3⟩, hm, hlen⟩
          have HEL := Lib.hid hEl
          have HLT := Lib.hid hlt
          clear hO hbw hIC hEs hd0 hd1 hd2 hd3 hTB hpw hpw' hq0 hq1 hq2 hq3 hm hlen hL hEl hn40 hi16 hin hlt
          go_wp2_with fail
          have hK : PK (fun w' => w'.cell? ⟨g, q0, none⟩ = some (.int .i64 ((d0.toNat : Nat) : Int)) ∧ w'.cell? ⟨g, q1, none⟩ = some (.int .i64 ((d1.toNat : Nat) : Int)) ∧ w'.cell? ⟨g, q2, none⟩ = some (.int .i64 ((d2.toNat : Nat) : Int)) ∧ w'.cell? ⟨g, q3, none⟩ = some (.int .i64 ((d3.toNat : Nat) : Int))) wr.drew (wr.alloc (.cells #[.int .i64 ((d0.toNat : Nat) : Int), .int .i64 ((d1.toNat : Nat) : Int), .int .i64 ((d2.toNat : Nat) : Int), .int .i64 ((d3.toNat : Nat) : Int)] 3)).drew true (wr.alloc (.cells #[.int .i64 ((d0.toNat : Nat) : Int), .int .i64 ((d1.toNat : Nat) : Int), .int .i64 ((d2.toNat : Nat) : Int), .int .i64 ((d3.toNat : Nat) : Int)] 3)).drew :=
            ⟨⟨((bnew wr _).cell (p := ⟨g, q0, none⟩) hgl).trans c0, ((bnew wr _).cell (p := ⟨g, q1, none⟩) hgl).trans c1, ((bnew wr _).cell (p := ⟨g, q2, none⟩) hgl).trans c2, ((bnew wr _).cell (p := ⟨g, q3, none⟩) hgl).trans c3⟩, rfl⟩
          have HK := Lib.hid hK
          clear hK
          refine wp_region_front (by kernel_rfl) ?_
          refine front_chunk 25 24 (PK (fun w' => w'.cell? ⟨g, q0, none⟩ = some (.int .i64 ((d0.toNat : Nat) : Int)) ∧ w'.cell? ⟨g, q1, none⟩ = some (.int .i64 ((d1.toNat : Nat) : Int)) ∧ w'.cell? ⟨g, q2, none⟩ = some (.int .i64 ((d2.toNat : Nat) : Int)) ∧ w'.cell? ⟨g, q3, none⟩ = some (.int .i64 ((d3.toNat : Nat) : Int))) wr.drew (wr.alloc (.cells #[.int .i64 ((d0.toNat : Nat) : Int), .int .i64 ((d1.toNat : Nat) : Int), .int .i64 ((d2.toNat : Nat) : Int), .int .i64 ((d3.toNat : Nat) : Int)] 3)).drew) (by kernel_rfl) (by decide) ⟨⟨c0, c1, c2, c3⟩, rfl⟩ ?_
          simp only [List.drop_zero, List.take_succ_cons, List.take_zero]
          repeat (first
            | (refine textP_skip (by rfl) (by decide) ?_; simp only [Act.put, List.setIfInBounds_toArray, List.set_cons_zero, List.set_cons_succ])
            | (refine textP_known (v := ?_) (by rfl) (by decide) (fun wx hS => ?_) ?_; rotate_left; ((try dsimp only at hS); go_simp; with_reducible exact rfl); simp only [Act.put, List.setIfInBounds_toArray, List.set_cons_zero, List.set_cons_succ])
            | (refine textP_make (v := ?_) (by rfl) (by rfl) (fun wx hS => ?_) ?_; rotate_left; (replace hS := hS.2; subst hS; refine ⟨_, ?_, HK.out⟩; go_simp; with_reducible exact rfl); simp only [Act.put, List.setIfInBounds_toArray, List.set_cons_zero, List.set_cons_succ]))
          refine textP_nil (fun wx hS => ?_)
          replace hS := hS.2
          subst hS
          refine front_tail (by kernel_rfl) (by decide) ?_
          simp only [List.drop_succ_cons, List.drop_zero]
          obtain ⟨W1, hW1⟩ : ∃ W1, W1 = (wr.alloc (.cells #[.int .i64 ((d0.toNat : Nat) : Int), .int .i64 ((d1.toNat : Nat) : Int), .int .i64 ((d2.toNat : Nat) : Int), .int .i64 ((d3.toNat : Nat) : Int)] 3)).drew := ⟨_, rfl⟩
          rw [← hW1]
          have hA1 : IA wr.heap.size [d0, d1, d2, d3] W1 := by rw [hW1]; exact IA.new wr [d0, d1, d2, d3]
          have hb1 : Below wr.heap.size wr W1 := by rw [hW1]; exact (bnew wr _).drew
          have HB1 := Lib.hid (bthen HB.out hb1)
          have HO1 := Lib.hid (HO.out.below hb1)
          have HBC1 := Lib.hid ((HBC.out.below2 HB.out HBC.out.1).below hb1)
          clear HK hW1 c0 c1 c2 c3 hb1 HO HB HIC p0 p1 p2 p3 z0 z1 z2 z3 hgl hbz
          obtain ⟨gt, hgt⟩ : ∃ gt, gt = wr.heap.size := ⟨_, rfl⟩
          rw [← hgt] at hA1 ⊢
          clear hgt
          have HA1 := Lib.hid hA1
          have t0 := hA1.ic.2 0 d0 rfl
          have t1 := hA1.ic.2 1 d1 rfl
          have t2 := hA1.ic.2 2 d2 rfl
          have t3 := hA1.ic.2 3 d3 rfl
          unfold iv at t0 t1 t2 t3
          have hgtl := hA1.ic.1
          clear hA1
          by_cases hm4 : m % 4 = 0
          · have r1 : (m : Int) % 4 = 0 := by omega
            have r2 : (m : Int).tmod 4 = 0 := by rw [Int.tmod_eq_emod_of_nonneg (by omega)]; exact r1
            have hn4 : (4 + n) % 4 = 0 := by have := HQ.out.2.1; omega
            obtain ⟨x0, hx0⟩ : ∃ x, x = BX.getD d0.toNat 0 := ⟨_, rfl⟩
            obtain ⟨x1, hx1⟩ : ∃ x, x = BX.getD d1.toNat 0 := ⟨_, rfl⟩
            obtain ⟨x2, hx2⟩ : ∃ x, x = BX.getD d2.toNat 0 := ⟨_, rfl⟩
            obtain ⟨x3, hx3⟩ : ∃ x, x = BX.getD d3.toNat 0 := ⟨_, rfl⟩
            have b0 := HBC1.out.2 d0.toNat x0 (by rw [hx0]; exact getD_some (by rw [hBl]; exact d0.toNat_lt))
            have b1 := HBC1.out.2 d1.toNat x1 (by rw [hx1]; exact getD_some (by rw [hBl]; exact d1.toNat_lt))
            have b2 := HBC1.out.2 d2.toNat x2 (by rw [hx2]; exact getD_some (by rw [hBl]; exact d2.toNat_lt))
            have b3 := HBC1.out.2 d3.toNat x3 (by rw [hx3]; exact getD_some (by rw [hBl]; exact d3.toNat_lt))
            unfold iv at b0 b1 b2 b3
            have l0 : ((d0.toNat : Nat) : Int) < 256 := by have := d0.toNat_lt; omega
            have l1 : ((d1.toNat : Nat) : Int) < 256 := by have := d1.toNat_lt; omega
            have l2 : ((d2.toNat : Nat) : Int) < 256 := by have := d2.toNat_lt; omega
            have l3 : ((d3.toNat : Nat) : Int) < 256 := by have := d3.toNat_lt; omega
            have hxo := bxor64 x1 pw
            obtain ⟨y, hy⟩ : ∃ y, y = x1 ^^^ pw := ⟨_, rfl⟩
            rw [← hy] at hxo
            obtain ⟨T, hTT⟩ : ∃ T, T = [y, x2, x3, x0] := ⟨_, rfl⟩
            have hTl : T.length = 4 := by rw [hTT]; rfl
            have HTW : Hid (exL K (n + 1) = L ++ nwL L T n) := Lib.hid (by
              rw [HES.out]
              congr 2
              rw [tW, if_pos hn4, hTT, hy, hx0, hx1, hx2, hx3, HBX.out]
              rfl)
            have HM2 : Hid (∀ w, Calls Try.prog 17 #[.int .i64 ((pw.toNat : Nat) : Int), .int .i64 2] w fun e w' => e = .returned (.int .i64 (((gm pw 2).toNat : Nat) : Int)) ∧ w = w') := Lib.hid fun w => HM.out pw 2 w
            obtain ⟨pw2, hpw2⟩ : ∃ p, p = gm pw 2 := ⟨_, rfl⟩
            rw [← hpw2] at HM2
            have HPW2 := Lib.hid hpw2
            have hgbl := HBC1.out.1
            clear hx0 hx1 hx2 hx3 hy hpw2
            go_wp2_with fail
            have hK : PK (fun w' => w'.cell? ⟨gt, 0, none⟩ = some (.int .i64 ((d0.toNat : Nat) : Int)) ∧ w'.cell? ⟨gt, 1, none⟩ = some (.int .i64 ((d1.toNat : Nat) : Int)) ∧ w'.cell? ⟨gt, 2, none⟩ = some (.int .i64 ((d2.toNat : Nat) : Int)) ∧ w'.cell? ⟨gt, 3, none⟩ = some (.int .i64 ((d3.toNat : Nat) : Int)) ∧ w'.cell? ⟨gb, d0.toNat, none⟩ = some (.int .i64 ((x0.toNat : Nat) : Int)) ∧ w'.cell? ⟨gb, d1.toNat, none⟩ = some (.int .i64 ((x1.toNat : Nat) : Int)) ∧ w'.cell? ⟨gb, d2.toNat, none⟩ = some (.int .i64 ((x2.toNat : Nat) : Int)) ∧ w'.cell? ⟨gb, d3.toNat, none⟩ = some (.int .i64 ((x3.toNat : Nat) : Int))) W1.drew (W1.alloc (.cells #[.int .i64 ((y.toNat : Nat) : Int), .int .i64 ((x2.toNat : Nat) : Int), .int .i64 ((x3.toNat : Nat) : Int), .int .i64 ((x0.toNat : Nat) : Int)] 3)).drew true (W1.alloc (.cells #[.int .i64 ((y.toNat : Nat) : Int), .int .i64 ((x2.toNat : Nat) : Int), .int .i64 ((x3.toNat : Nat) : Int), .int .i64 ((x0.toNat : Nat) : Int)] 3)).drew :=
              ⟨⟨((bnew W1 _).cell (p := ⟨gt, 0, none⟩) hgtl).trans t0, ((bnew W1 _).cell (p := ⟨gt, 1, none⟩) hgtl).trans t1, ((bnew W1 _).cell (p := ⟨gt, 2, none⟩) hgtl).trans t2, ((bnew W1 _).cell (p := ⟨gt, 3, none⟩) hgtl).trans t3,
                ((bnew W1 _).cell (p := ⟨gb, d0.toNat, none⟩) hgbl).trans b0, ((bnew W1 _).cell (p := ⟨gb, d1.toNat, none⟩) hgbl).trans b1, ((bnew W1 _).cell (p := ⟨gb, d2.toNat, none⟩) hgbl).trans b2, ((bnew W1 _).cell (p := ⟨gb, d3.toNat, none⟩) hgbl).trans b3⟩, rfl⟩
            have HK := Lib.hid hK
            clear hK
            refine wp_region_front (by kernel_rfl) ?_
            refine front_chunk 27 26 (PK (fun w' => w'.cell? ⟨gt, 0, none⟩ = some (.int .i64 ((d0.toNat : Nat) : Int)) ∧ w'.cell? ⟨gt, 1, none⟩ = some (.int .i64 ((d1.toNat : Nat) : Int)) ∧ w'.cell? ⟨gt, 2, none⟩ = some (.int .i64 ((d2.toNat : Nat) : Int)) ∧ w'.cell? ⟨gt, 3, none⟩ = some (.int .i64 ((d3.toNat : Nat) : Int)) ∧ w'.cell? ⟨gb, d0.toNat, none⟩ = some (.int .i64 ((x0.toNat : Nat) : Int)) ∧ w'.cell? ⟨gb, d1.toNat, none⟩ = some (.int .i64 ((x1.toNat : Nat) : Int)) ∧ w'.cell? ⟨gb, d2.toNat, none⟩ = some (.int .i64 ((x2.toNat : Nat) : Int)) ∧ w'.cell? ⟨gb, d3.toNat, none⟩ = some (.int .i64 ((x3.toNat : Nat) : Int))) W1.drew (W1.alloc (.cells #[.int .i64 ((y.toNat : Nat) : Int), .int .i64 ((x2.toNat : Nat) : Int), .int .i64 ((x3.toNat : Nat) : Int), .int .i64 ((x0.toNat : Nat) : Int)] 3)).drew) (by kernel_rfl) (by decide) ⟨⟨t0, t1, t2, t3, b0, b1, b2, b3⟩, rfl⟩ ?_
            simp only [List.drop_zero, List.take_succ_cons, List.take_zero]
            repeat (first
              | (refine textP_skip (by rfl) (by decide) ?_; simp only [Act.put, List.setIfInBounds_toArray, List.set_cons_zero, List.set_cons_succ])
              | (refine textP_known (v := ?_) (by rfl) (by decide) (fun wx hS => ?_) ?_; rotate_left; ((try dsimp only at hS); go_simp; with_reducible exact rfl); simp only [Act.put, List.setIfInBounds_toArray, List.set_cons_zero, List.set_cons_succ])
              | (refine textP_make (v := ?_) (by rfl) (by rfl) (fun wx hS => ?_) ?_; rotate_left; (replace hS := hS.2; subst hS; refine ⟨_, ?_, HK.out⟩; go_simp; with_reducible exact rfl); simp only [Act.put, List.setIfInBounds_toArray, List.set_cons_zero, List.set_cons_succ]))
            refine textP_nil (fun wx hS => ?_)
            replace hS := hS.2
            subst hS
            refine front_tail (by kernel_rfl) (by decide) ?_
            simp only [List.drop_succ_cons, List.drop_zero]
            obtain ⟨WT, hWT⟩ : ∃ WT, WT = (W1.alloc (.cells #[.int .i64 ((y.toNat : Nat) : Int), .int .i64 ((x2.toNat : Nat) : Int), .int .i64 ((x3.toNat : Nat) : Int), .int .i64 ((x0.toNat : Nat) : Int)] 3)).drew := ⟨_, rfl⟩
            rw [← hWT]
            have HAT : Hid (IA W1.heap.size T WT) := Lib.hid (by rw [hWT, hTT]; exact IA.new W1 [y, x2, x3, x0])
            have hb2 : Below W1.heap.size W1 WT := by rw [hWT]; exact (bnew W1 _).drew
            have HBT := Lib.hid (bthen HB1.out hb2)
            have HOT := Lib.hid (HO1.out.below hb2)
            clear hWT hb2 HK t0 t1 t2 t3 b0 b1 b2 b3 l0 l1 l2 l3 hxo hTT HA1 HBC1 hgtl hgbl
            obtain ⟨gT, hgT⟩ : ∃ gT, gT = W1.heap.size := ⟨_, rfl⟩
            rw [← hgT] at HAT ⊢
            clear hgT
            go_wp2_with (go_at_call 17; (with_reducible refine (HM2.out _).mono ?_); rintro e wz ⟨rfl, rfl⟩)
            obtain ⟨NW, hNW⟩ : ∃ NW, NW = nwL L T n := ⟨_, rfl⟩
            have hNWl : NW.length = 4 := by rw [hNW]; exact nwL_len _ _ _
            have hNWg : ∀ k, k < 4 → NW[k]? = some (L.getD (4 * n + k) 0 ^^^ T.getD k 0) := fun k h => by rw [hNW]; exact range_get _ 4 k h
            have HNW := Lib.hid hNW
            have HNWG := Lib.hid hNWg
            have HTL := Lib.hid hTl
            clear hNW hNWg hTl
            go_loopw [5, 10] (fun o c wr => ∃ k : Nat, k ≤ 4 ∧ c = .int .i64 (k : Int) ∧ ISl w.heap.size o (L ++ NW.take k) wr ∧ IA gT T wr ∧ Below w.heap.size w wr) (fun _ c _ => 4 - (intOf c).toNat)
            case atStart => exact ⟨0, by omega, rfl, by simpa [ISl, HEL.out, HQ.out.2.2] using HOT.out, HAT.out, HBT.out⟩
            case round =>
              clear HOT HAT HBT
              obtain ⟨k, hk4, rfl, hO, hA, hbi⟩ := hrel
              obtain ⟨hqs, hmn, hln⟩ := HQ.out
              have hLl := HEL.out
              have hOl : (L ++ NW.take k).length = len + k := by rw [List.length_append, List.length_take]; omega
              obtain ⟨g2, cap2, rfl, hg2B, hIC⟩ := hO.opened (by omega)
              rw [hOl] at hO ⊢
              by_cases hk : k < 4
              · have hkk : (k : Int) < 4 := by omega
                have hk0 : (0 : Int) ≤ (k : Int) := by omega
                obtain ⟨a, ha⟩ : ∃ a, a = L.getD (4 * n + k) 0 := ⟨_, rfl⟩
                obtain ⟨b, hb⟩ : ∃ b, b = T.getD k 0 := ⟨_, rfl⟩
                have hv := HNWG.out k hk
                rw [← ha, ← hb] at hv
                obtain ⟨q, hq⟩ : ∃ q, q = 4 * n + k := ⟨_, rfl⟩
                have k0 := hIC.2 q a (by rw [List.getElem?_append_left (by omega), ha, hq]; exact getD_some (by omega))
                have k1 := hA.ic.2 k b (by rw [hb]; exact getD_some (by rw [HTL.out]; omega))
                unfold iv at k0 k1
                have hxo := bxor64 a b
                obtain ⟨c, hc⟩ : ∃ c, c = a ^^^ b := ⟨_, rfl⟩
                rw [← hc] at hxo hv
                have y1 : IntKind.i64.wrap (4 * (m : Int) - 16) = 4 * (m : Int) - 16 := by rw [IntKind.wrap_i64]; omega
                have y2 : IntKind.i64.wrap (4 * (m : Int) - 16 + (k : Int)) = (q : Int) := by rw [IntKind.wrap_i64]; omega
                have y3 : (0 : Int) ≤ (q : Int) ∧ (q : Int) < (len : Int) + (k : Int) := by omega
                have hT2 : L ++ NW.take (k + 1) = L ++ (NW.take k ++ [c]) := by rw [List.take_add_one, hv]; rfl
                have hap := hO.apart hA (by rw [HTL.out, hOl]; omega)
                have HT2 := Lib.hid hT2
                have HAP := Lib.hid hap
                have HOL := Lib.hid hOl
                have HO := Lib.hid hO
                have HA := Lib.hid hA
                have HBI := Lib.hid hbi
                have hbz2 := hbi.size
                have hg2l := hIC.1
                have hgTl := hA.ic.1
                obtain ⟨len2, hlen2⟩ : ∃ len2, len2 = len + k := ⟨_, rfl⟩
                have y4 : (q : Int) < (len2 : Int) := by omega
                rw [← hlen2] at HO HOL HAP ⊢
                have HLEN2 := Lib.hid hlen2
                clear hO hA hbi hIC ha hb hv hc hT2 hap hOl hqs hmn hln hLl hq hlen2 y3
                go_wp2_with fail
                have hK : PK (fun w' => w'.cell? ⟨g2, q, none⟩ = some (.int .i64 ((a.toNat : Nat) : Int)) ∧ w'.cell? ⟨gT, k, none⟩ = some (.int .i64 ((b.toNat : Nat) : Int))) wr.drew (wr.alloc (.cells #[.int .i64 ((c.toNat : Nat) : Int)] 3)).drew true (wr.alloc (.cells #[.int .i64 ((c.toNat : Nat) : Int)] 3)).drew :=
                  ⟨⟨((bnew wr _).cell (p := ⟨g2, q, none⟩) hg2l).trans k0, ((bnew wr _).cell (p := ⟨gT, k, none⟩) hgTl).trans k1⟩, rfl⟩
                have HK := Lib.hid hK
                clear hK
                refine wp_region_front (by kernel_rfl) ?_
                refine front_chunk 15 14 (PK (fun w' => w'.cell? ⟨g2, q, none⟩ = some (.int .i64 ((a.toNat : Nat) : Int)) ∧ w'.cell? ⟨gT, k, none⟩ = some (.int .i64 ((b.toNat : Nat) : Int))) wr.drew (wr.alloc (.cells #[.int .i64 ((c.toNat : Nat) : Int)] 3)).drew) (by kernel_rfl) (by decide) ⟨⟨k0, k1⟩, rfl⟩ ?_
                simp only [List.drop_zero, List.take_succ_cons, List.take_zero]
                repeat (first
                  | (refine textP_skip (by rfl) (by decide) ?_; simp only [Act.put, List.setIfInBounds_toArray, List.set_cons_zero, List.set_cons_succ])
                  | (refine textP_known (v := ?_) (by rfl) (by decide) (fun wx hS => ?_) ?_; rotate_left; ((try dsimp only at hS); go_simp; with_reducible exact rfl); simp only [Act.put, List.setIfInBounds_toArray, List.set_cons_zero, List.set_cons_succ])
                  | (refine textP_make (v := ?_) (by rfl) (by rfl) (fun wx hS => ?_) ?_; rotate_left; (replace hS := hS.2; subst hS; refine ⟨_, ?_, HK.out⟩; go_simp; with_reducible exact rfl); simp only [Act.put, List.setIfInBounds_toArray, List.set_cons_zero, List.set_cons_succ]))
                refine textP_nil (fun wx hS => ?_)
                replace hS := hS.2
                subst hS
                refine front_tail (by kernel_rfl) (by decide) ?_
                simp only [List.drop_succ_cons, List.drop_zero]
                have HO2 : Hid (ISl w.heap.size (.slice (some ⟨g2, 0, none⟩) len2 cap2) (L ++ NW.take k) (wr.alloc (.cells #[.int .i64 ((c.toNat : Nat) : Int)] 3)).drew) := Lib.hid (HO.out.alloc _)
                have HC2 : Hid (IC wr.heap.size [c] (wr.alloc (.cells #[.int .i64 ((c.toNat : Nat) : Int)] 3)).drew) := Lib.hid (IC.lit wr [c])
                go_wp2_with (at_builtin; refine wpList_push rfl _ _ rfl w.heap.size _ (L ++ NW.take k) rfl HO2.out wr.heap.size 1 1 [c] rfl HC2.out rfl (by rw [HOL.out]; have := HLEN2.out; have := HQ.out.2.2; have := HLT.out; simp; omega) (by simp; omega) ?_)
                intro v' w5 hO5 hg5 hb5
                rw [← HT2.out] at hO5
                have HO5 := Lib.hid hO5
                have HA5 : Hid (IA gT T w5) := Lib.hid (IA.grown (w := (wr.alloc (.cells #[.int .i64 ((c.toNat : Nat) : Int)] 3)).drew) (IA.below HA.out (bnew wr _).drew) hg5 HAP.out)
                clear hO5 hg5 k0 k1
                go_wp2_with fail
                exact ⟨⟨k + 1, by omega, by go_num, HO5.out, HA5.out, (HBI.out.alloc hbz2 _).drew.trans hb5⟩, by simp [intOf]; omega⟩
              · have hk2 : k = 4 := by omega
                subst hk2
                rw [List.take_of_length_le (by omega : NW.length ≤ 4)] at hO
                have HO := Lib.hid hO
                have HBI := Lib.hid hbi
                clear hO hA hbi hIC
                go_wp2_with fail
                go_roundw
                case rel =>
                  refine ⟨n + 1, by have := HLT.out; omega, by go_num, by rw [HPW.out, if_pos hn4, ← HPW2.out], ?_, HBI.out⟩
                  have h := HO.out
                  rw [HNW.out, ← HTW.out] at h
                  simpa [hln] using h
                case measure => have := HLT.out; simp [intOf]; omega
          · have r1 : ¬ (m : Int) % 4 = 0 := by omega
            have r3 : ((m : Int) % 4 == 0) = false := by simp; omega
            have r2 : ¬ (m : Int).tmod 4 = 0 := by rw [Int.tmod_eq_emod_of_nonneg (by omega)]; exact r1
            have hn4 : ¬ (4 + n) % 4 = 0 := by have := HQ.out.2.1; omega
            obtain ⟨T, hTT⟩ : ∃ T, T = [d0, d1, d2, d3] := ⟨_, rfl⟩
            have hTl : T.length = 4 := by rw [hTT]; rfl
            have HTW : Hid (exL K (n + 1) = L ++ nwL L T n) := Lib.hid (by
              rw [HES.out]
              congr 2
              rw [tW, if_neg hn4, hTT])
            have HAT : Hid (IA gt T W1) := Lib.hid (by rw [hTT]; exact HA1.out)
            have HBT := HB1
            have HOT := HO1
            clear hTT t0 t1 t2 t3 HBC1 hgtl HA1 HB1 HO1
            obtain ⟨gT, hgT⟩ : ∃ gT, gT = gt := ⟨_, rfl⟩
            subst hgT
            go_wp2_with fail
            obtain ⟨NW, hNW⟩ : ∃ NW, NW = nwL L T n := ⟨_, rfl⟩
            have hNWl : NW.length = 4 := by rw [hNW]; exact nwL_len _ _ _
            have hNWg : ∀ k, k < 4 → NW[k]? = some (L.getD (4 * n + k) 0 ^^^ T.getD k 0) := fun k h => by rw [hNW]; exact range_get _ 4 k h
            have HNW := Lib.hid hNW
            have HNWG := Lib.hid hNWg
            have HTL := Lib.hid hTl
            clear hNW hNWg hTl
            go_loopw [5, 10] (fun o c wr => ∃ k : Nat, k ≤ 4 ∧ c = .int .i64 (k : Int) ∧ ISl w.heap.size o (L ++ NW.take k) wr ∧ IA gT T wr ∧ Below w.heap.size w wr) (fun _ c _ => 4 - (intOf c).toNat)
            case atStart => exact ⟨0, by omega, rfl, by simpa [ISl, HEL.out, HQ.out.2.2] using HOT.out, HAT.out, HBT.out⟩
            case round =>
              clear HOT HAT HBT
              obtain ⟨k, hk4, rfl, hO, hA, hbi⟩ := hrel
              obtain ⟨hqs, hmn, hln⟩ := HQ.out
              have hLl := HEL.out
              have hOl : (L ++ NW.take k).length = len + k := by rw [List.length_append, List.length_take]; omega
              obtain ⟨g2, cap2, rfl, hg2B, hIC⟩ := hO.opened (by omega)
              rw [hOl] at hO ⊢
              by_cases hk : k < 4
              · have hkk : (k : Int) < 4 := by omega
                have hk0 : (0 : Int) ≤ (k : Int) := by omega
                obtain ⟨a, ha⟩ : ∃ a, a = L.getD (4 * n + k) 0 := ⟨_, rfl⟩
                obtain ⟨b, hb⟩ : ∃ b, b = T.getD k 0 := ⟨_, rfl⟩
                have hv := HNWG.out k hk
                rw [← ha, ← hb] at hv
                obtain ⟨q, hq⟩ : ∃ q, q = 4 * n + k := ⟨_, rfl⟩
                have k0 := hIC.2 q a (by rw [List.getElem?_append_left (by omega), ha, hq]; exact getD_some (by omega))
                have k1 := hA.ic.2 k b (by rw [hb]; exact getD_some (by rw [HTL.out]; omega))
                unfold iv at k0 k1
                have hxo := bxor64 a b
                obtain ⟨c, hc⟩ : ∃ c, c = a ^^^ b := ⟨_, rfl⟩
                rw [← hc] at hxo hv
                have y1 : IntKind.i64.wrap (4 * (m : Int) - 16) = 4 * (m : Int) - 16 := by rw [IntKind.wrap_i64]; omega
                have y2 : IntKind.i64.wrap (4 * (m : Int) - 16 + (k : Int)) = (q : Int) := by rw [IntKind.wrap_i64]; omega
                have y3 : (0 : Int) ≤ (q : Int) ∧ (q : Int) < (len : Int) + (k : Int) := by omega
                have hT2 : L ++ NW.take (k + 1) = L ++ (NW.take k ++ [c]) := by rw [List.take_add_one, hv]; rfl
                have hap := hO.apart hA (by rw [HTL.out, hOl]; omega)
                have HT2 := Lib.hid hT2
                have HAP := Lib.hid hap
                have HOL := Lib.hid hOl
                have HO := Lib.hid hO
                have HA := Lib.hid hA
                have HBI := Lib.hid hbi
                have hbz2 := hbi.size
                have hg2l := hIC.1
                have hgTl := hA.ic.1
                obtain ⟨len2, hlen2⟩ : ∃ len2, len2 = len + k := ⟨_, rfl⟩
                have y4 : (q : Int) < (len2 : Int) := by omega
                rw [← hlen2] at HO HOL HAP ⊢
                have HLEN2 := Lib.hid hlen2
                clear hO hA hbi hIC ha hb hv hc hT2 hap hOl hqs hmn hln hLl hq hlen2 y3
                go_wp2_with fail
                have hK : PK (fun w' => w'.cell? ⟨g2, q, none⟩ = some (.int .i64 ((a.toNat : Nat) : Int)) ∧ w'.cell? ⟨gT, k, none⟩ = some (.int .i64 ((b.toNat : Nat) : Int))) wr.drew (wr.alloc (.cells #[.int .i64 ((c.toNat : Nat) : Int)] 3)).drew true (wr.alloc (.cells #[.int .i64 ((c.toNat : Nat) : Int)] 3)).drew :=
                  ⟨⟨((bnew wr _).cell (p := ⟨g2, q, none⟩) hg2l).trans k0, ((bnew wr _).cell (p := ⟨gT, k, none⟩) hgTl).trans k1⟩, rfl⟩
                have HK := Lib.hid hK
                clear hK
                refine wp_region_front (by kernel_rfl) ?_
                refine front_chunk 15 14 (PK (fun w' => w'.cell? ⟨g2, q, none⟩ = some (.int .i64 ((a.toNat : Nat) : Int)) ∧ w'.cell? ⟨gT, k, none⟩ = some (.int .i64 ((b.toNat : Nat) : Int))) wr.drew (wr.alloc (.cells #[.int .i64 ((c.toNat : Nat) : Int)] 3)).drew) (by kernel_rfl) (by decide) ⟨⟨k0, k1⟩, rfl⟩ ?_
                simp only [List.drop_zero, List.take_succ_cons, List.take_zero]
                repeat (first
                  | (refine textP_skip (by rfl) (by decide) ?_; simp only [Act.put, List.setIfInBounds_toArray, List.set_cons_zero, List.set_cons_succ])
                  | (refine textP_known (v := ?_) (by rfl) (by decide) (fun wx hS => ?_) ?_; rotate_left; ((try dsimp only at hS); go_simp; with_reducible exact rfl); simp only [Act.put, List.setIfInBounds_toArray, List.set_cons_zero, List.set_cons_succ])
                  | (refine textP_make (v := ?_) (by rfl) (by rfl) (fun wx hS => ?_) ?_; rotate_left; (replace hS := hS.2; subst hS; refine ⟨_, ?_, HK.out⟩; go_simp; with_reducible exact rfl); simp only [Act.put, List.setIfInBounds_toArray, List.set_cons_zero, List.set_cons_succ]))
                refine textP_nil (fun wx hS => ?_)
                replace hS := hS.2
                subst hS
                refine front_tail (by kernel_rfl) (by decide) ?_
                simp only [List.drop_succ_cons, List.drop_zero]
                have HO2 : Hid (ISl w.heap.size (.slice (some ⟨g2, 0, none⟩) len2 cap2) (L ++ NW.take k) (wr.alloc (.cells #[.int .i64 ((c.toNat : Nat) : Int)] 3)).drew) := Lib.hid (HO.out.alloc _)
                have HC2 : Hid (IC wr.heap.size [c] (wr.alloc (.cells #[.int .i64 ((c.toNat : Nat) : Int)] 3)).drew) := Lib.hid (IC.lit wr [c])
                go_wp2_with (at_builtin; refine wpList_push rfl _ _ rfl w.heap.size _ (L ++ NW.take k) rfl HO2.out wr.heap.size 1 1 [c] rfl HC2.out rfl (by rw [HOL.out]; have := HLEN2.out; have := HQ.out.2.2; have := HLT.out; simp; omega) (by simp; omega) ?_)
                intro v' w5 hO5 hg5 hb5
                rw [← HT2.out] at hO5
                have HO5 := Lib.hid hO5
                have HA5 : Hid (IA gT T w5) := Lib.hid (IA.grown (w := (wr.alloc (.cells #[.int .i64 ((c.toNat : Nat) : Int)] 3)).drew) (IA.below HA.out (bnew wr _).drew) hg5 HAP.out)
                clear hO5 hg5 k0 k1
                go_wp2_with fail
                exact ⟨⟨k + 1, by omega, by go_num, HO5.out, HA5.out, (HBI.out.alloc hbz2 _).drew.trans hb5⟩, by simp [intOf]; omega⟩
              · have hk2 : k = 4 := by omega
                subst hk2
                rw [List.take_of_length_le (by omega : NW.length ≤ 4)] at hO
                have HO := Lib.hid hO
                have HBI := Lib.hid hbi
                clear hO hA hbi hIC
                go_wp2_with fail
                go_roundw
                case rel =>
                  refine ⟨n + 1, by have := HLT.out; omega, by go_num, by rw [HPW.out, if_neg hn4], ?_, HBI.out⟩
                  have h := HO.out
                  rw [HNW.out, ← HTW.out] at h
                  simpa [hln] using h
                case measure => have := HLT.out; simp [intOf]; omega
        · have hn2 : n = 40 := by omega
          subst hn2
          have HO := Lib.hid hO
          clear hO
          go_wp2_with fail
          go_ret
          exact ⟨⟨_, rfl, HO.out⟩, hbw⟩
end Go.Proofs.Ytkbidgonjnlkmaa

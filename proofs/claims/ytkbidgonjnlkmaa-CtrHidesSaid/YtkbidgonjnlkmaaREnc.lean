/-
  The contract of the reference's Encrypt (chapter 05). No condition. Own work.
-/
import Derived.Test.YtkbidgonjnlkmaaRExp
import Derived.Test.YtkbidgonjnlkmaaInv
namespace Go.Proofs.Ytkbidgonjnlkmaa
open Go.RowKit

/-- The four bytes of a column, as the reference reckons them. -/
theorem mix_col (X : List UInt8) (c : Nat) (hc : c < 4) (a b d e : UInt8) (ha : X.getD (4 * c + 0) 0 = a) (hb : X.getD (4 * c + 1) 0 = b) (hd : X.getD (4 * c + 2) 0 = d) (he : X.getD (4 * c + 3) 0 = e) :
    (mixV [2, 3, 1, 1] X).take (4 * (c + 1)) = (mixV [2, 3, 1, 1] X).take (4 * c) ++ [gm 2 a ^^^ gm 3 b ^^^ d ^^^ e, a ^^^ gm 2 b ^^^ gm 3 d ^^^ e, a ^^^ b ^^^ gm 2 d ^^^ gm 3 e, gm 3 a ^^^ b ^^^ d ^^^ gm 2 e] := by
  have hg : ∀ r, r < 4 → (mixV [2, 3, 1, 1] X)[4 * c + r]? = some (gm a (cf [2, 3, 1, 1] 0 r) ^^^ gm b (cf [2, 3, 1, 1] 1 r) ^^^ gm d (cf [2, 3, 1, 1] 2 r) ^^^ gm e (cf [2, 3, 1, 1] 3 r)) := fun r hr => by
    rw [← ha, ← hb, ← hd, ← he, ← mixS_at _ _ _ _ hr]
    exact range_get _ 16 _ (by omega)
  have t : ∀ (L : List UInt8) (n : Nat) (p q r s : UInt8), L[n]? = some p → L[n + 1]? = some q → L[n + 2]? = some r → L[n + 3]? = some s → L.take (n + 4) = L.take n ++ [p, q, r, s] := by
    intro L n p q r s h0 h1 h2 h3
    rw [List.take_add_one, List.take_add_one, List.take_add_one, List.take_add_one, h0, h1, h2, h3]
    simp
  rw [show 4 * (c + 1) = 4 * c + 4 from by omega]
  refine t _ _ _ _ _ _ ?_ ?_ ?_ ?_
  · rw [show 4 * c = 4 * c + 0 from rfl, hg 0 (by omega)]
    simp [cf, gm_one, gm_comm a 2, gm_comm b 3]
  · rw [hg 1 (by omega)]
    simp [cf, gm_one, gm_comm b 2, gm_comm d 3]
  · rw [hg 2 (by omega)]
    simp [cf, gm_one, gm_comm d 2, gm_comm e 3]
  · rw [hg 3 (by omega)]
    simp [cf, gm_one, gm_comm a 3, gm_comm e 2]

set_option maxRecDepth 100000 in
set_option maxHeartbeats 12800000 in
theorem rencrypt_any (key s : ByteArray) (hk : key.size = 16) (hs : s.size = 16) (w : World) :
    Calls Try.prog 25 #[.string key, .string s] w fun e w' => e = .returned (.string ⟨(encV key.data.toList s.data.toList).toArray⟩) ∧ Below w.heap.size w w' := by
  have hsl : s.data.toList.length = 16 := by simp [hs]
  have hkl : key.data.toList.length = 16 := by simp [hk]
  obtain ⟨X, hX⟩ : ∃ X, X = s.data.toList := ⟨_, rfl⟩
  have hidx : ∀ (i : Nat) (c : UInt8), X[i]? = some c → ∀ W, (Instr.index 9 (.string s) (.int .i64 (i : Int))).run Try.prog W = .ok (.int .u8 ((c.toNat : Nat) : Int)) W := fun i c h => str_idx s i c (by rw [← hX]; exact h)
  obtain ⟨L, hL⟩ : ∃ L, L = exL key.data.toList 40 := ⟨_, rfl⟩
  have hLl : L.length = 176 := by rw [hL]; exact exL_len _ hkl 40
  obtain ⟨BX, hBX⟩ : ∃ BX, BX = boxT := ⟨_, rfl⟩
  have hBl : BX.length = 256 := by rw [hBX]; exact boxT_len
  have HRE : Hid (∀ (gb cb : Nat) w, IC gb BX w → Calls Try.prog 24 #[.string key, .slice (some ⟨gb, 0, none⟩) 256 cb] w fun e w' => (∃ v, e = .returned v ∧ ISl w.heap.size v L w') ∧ Below w.heap.size w w') := Lib.hid fun gb cb w hb => by rw [hL]; exact rexpand_any key hk gb cb w (by rw [← hBX]; exact hb)
  have HR : Hid (∀ w, Calls Try.prog 20 #[] w fun e w' => e = .returned (.slice (some ⟨w.heap.size, 0, none⟩) 256 256) ∧ w.alloc (.cells (BX.map iv).toArray 3) = w') := Lib.hid fun w => by rw [hBX]; exact rboxes_any w
  unfold encV
  rw [← hL, ← hX, ← hBX]
  rw [← hX] at hsl
  have HBX := Lib.hid hBX
  have HIX := Lib.hid hidx
  have HM := Lib.hid rmul_u8
  clear hX hL hidx hBX
  go_enter Try.func25, Try.ntmps25
  go_wp2_with fail
  refine (HR.out w).mono ?_
  rintro e0 w1 ⟨rfl, rfl⟩
  have hIC1 := IC.lit w BX
  obtain ⟨w1, hw1⟩ : ∃ w1, w1 = w.alloc (.cells (BX.map iv).toArray 3) := ⟨_, rfl⟩
  obtain ⟨gb, hgb⟩ : ∃ gb, gb = w.heap.size := ⟨_, rfl⟩
  have hb1 : Below w.heap.size w w1 := by rw [hw1]; exact bnew w _
  rw [← hw1, ← hgb] at hIC1 ⊢
  have HIC1 := Lib.hid hIC1
  clear hw1 hIC1 hgb
  go_wp2_with fail
  refine (HRE.out gb 256 w1 HIC1.out).mono ?_
  rintro e1 w2 ⟨⟨v, rfl, hv⟩, hb2⟩
  obtain ⟨gl, cl, rfl, hglB, hICl⟩ := hv.opened (by omega)
  rw [hLl]
  have HICl := Lib.hid hICl
  have HICb := Lib.hid (HIC1.out.below hb2)
  have HB2 := Lib.hid (bthen hb1 hb2)
  clear hv hICl hb1 hb2 HIC1 hglB
  go_wp2_with fail
  go_loopw [7, 8] (fun o c wr => ∃ (i : Nat) (z : Int), i ≤ 16 ∧ z = (i : Int) ∧ c = .int .i64 z ∧ ISl w2.heap.size o (X.take i) wr ∧ Below w2.heap.size w2 wr) (fun _ c _ => 16 - (intOf c).toNat)
  case atStart => exact ⟨0, 0, by omega, rfl, rfl, ISl.nil _ _, Below.refl _ _⟩
  case round =>
    obtain ⟨i, z, hi16, hz, rfl, hO, hbw⟩ := hrel
    by_cases hin : i < 16
    · subst hz
      have hii : (i : Int) < 16 := by omega
      obtain ⟨c, hc⟩ : ∃ c, X[i]? = some c := ⟨_, List.getElem?_eq_getElem (by omega)⟩
      have hT : X.take (i + 1) = X.take i ++ [c] := by rw [List.take_add_one, hc]; rfl
      have hTl : (X.take i).length = i := by rw [List.length_take]; omega
      have hix := HIX.out i c hc
      have hcw := w64_byte c
      have HT := Lib.hid hT
      have HTL := Lib.hid hTl
      have HO := Lib.hid hO
      have HB := Lib.hid hbw
      have hbz := hbw.size
      clear hO hbw hc hT hTl
      have HO2 : Hid (ISl w2.heap.size u7 (X.take i) (wr.alloc (.cells #[.int .i64 ((c.toNat : Nat) : Int)] 3))) := Lib.hid (HO.out.alloc _)
      have HC2 : Hid (IC wr.heap.size [c] (wr.alloc (.cells #[.int .i64 ((c.toNat : Nat) : Int)] 3))) := Lib.hid (IC.lit wr [c])
      go_wp2_with (at_builtin; refine wpList_push rfl _ _ rfl w2.heap.size _ (X.take i) rfl HO2.out wr.heap.size 1 1 [c] rfl HC2.out rfl (by rw [HTL.out]; simp; omega) (by simp; omega) ?_)
      intro v' w5 hO5 _ hb5
      rw [← HT.out] at hO5
      have HO5 := Lib.hid hO5
      clear hO5
      go_wp2_with fail
      exact ⟨⟨i + 1, (i : Int) + 1, by omega, by omega, rfl, HO5.out, (HB.out.alloc hbz _).trans hb5⟩, by simp [intOf]; omega⟩
    · have hi2 : i = 16 := by omega
      obtain rfl : z = 16 := by omega
      subst hi2
      clear hz
      rw [List.take_of_length_le (by omega)] at hO
      obtain ⟨gs, cs, rfl, hgsB, hICs⟩ := hO.opened (by omega)
      rw [hsl]
      have HICs := Lib.hid hICs
      have HBW := Lib.hid hbw
      have HICl2 := Lib.hid (HICl.out.below hbw)
      clear hO hbw hICs hgsB
      go_wp2_with fail
      refine (radd_any X L gs gl cs cl 0 hsl hLl (by omega) wr HICs.out HICl2.out).mono ?_
      rintro e3 w3 ⟨⟨v, rfl, hv⟩, hb3⟩
      have HS3 : Hid (ISl w2.heap.size v (encR L BX X 0) w3) := Lib.hid (ISl.up hv HBW.out.size)
      have HB3 := Lib.hid (HBW.out.trans (hb3.mono HBW.out.size))
      clear hv hb3 HICs HICl2 HBW
      go_wp2_with fail
      go_loopw [7, 9] (fun o c wr => ∃ (r : Nat) (z : Int), r ≤ 10 ∧ z = (r : Int) + 1 ∧ c = .int .i64 z ∧ ISl w2.heap.size o (encR L BX X r) wr ∧ Below w2.heap.size w2 wr) (fun _ c _ => 11 - (intOf c).toNat)
      case atStart => exact ⟨0, 1, by omega, rfl, rfl, HS3.out, HB3.out⟩
      case round =>
        clear HS3 HB3
        obtain ⟨r, z, hr10, hz, rfl, hO, hbw⟩ := hrel
        have hSl := encR_len L BX X r
        obtain ⟨gs, cs, rfl, hgsB, hICs⟩ := hO.opened (by omega)
        rw [hSl]
        obtain ⟨S, hS⟩ : ∃ S, S = encR L BX X r := ⟨_, rfl⟩
        have hER : encR L BX X (r + 1) = addV (encM (r + 1) (turnV false (S.map (bxf BX)))) L (r + 1) := by rw [hS]; rfl
        rw [← hS] at hICs hSl
        obtain ⟨wo, hwo⟩ : ∃ wo, wo = wr := ⟨_, rfl⟩
        subst hwo
        have HICs := Lib.hid hICs
        have HICl3 := Lib.hid (HICl.out.below hbw)
        have HICb3 := Lib.hid (HICb.out.below hbw)
        have HBO := Lib.hid hbw
        clear hO hbw hICs hgsB
        by_cases hlt : r < 10
        · subst hz
          clear hS
          have hz10 : (r : Int) + 1 ≤ 10 := by omega
          obtain ⟨TS, hTS⟩ : ∃ TS, TS = turnV false (S.map (bxf BX)) := ⟨_, rfl⟩
          have hTSl : TS.length = 16 := by rw [hTS]; exact turnV_len _ _
          have hTSg : ∀ i, i < 16 → TS[i]? = some (bxf BX (S.getD (4 * ((i / 4 + i % 4) % 4) + i % 4) 0)) := fun i hi => by
            rw [hTS]
            unfold turnV
            rw [range_get _ 16 i hi]
            congr 1
            unfold turnI
            simp only [Bool.false_eq_true, if_false]
            rw [show (i / 4 + i % 4) % 4 * 4 + i % 4 = 4 * ((i / 4 + i % 4) % 4) + i % 4 from by omega, List.getD_eq_getElem?_getD, List.getElem?_map, getD_some (X := S) (by omega)]
            rfl
          rw [← hTS] at hER
          have HER := Lib.hid hER
          have HTSG := Lib.hid hTSg
          clear hER hTSg hTS
          go_wp2_with fail
          go_loopw [10, 11] (fun o c wr => ∃ (i : Nat) (z : Int), i ≤ 16 ∧ z = (i : Int) ∧ c = .int .i64 z ∧ ISl wo.heap.size o (TS.take i) wr ∧ Below wo.heap.size wo wr) (fun _ c _ => 16 - (intOf c).toNat)
          case atStart => exact ⟨0, 0, by omega, rfl, rfl, ISl.nil _ _, Below.refl _ _⟩
          case round =>
            obtain ⟨i, z, hi16, hz, rfl, hO, hbw⟩ := hrel
            by_cases hin : i < 16
            · subst hz
              have hii : (i : Int) < 16 := by omega
              have hi0 : (0 : Int) ≤ (i : Int) := by omega
              obtain ⟨qq, hqq⟩ : ∃ q : Nat, (i : Int) / 4 = (q : Int) := ⟨i / 4, by omega⟩
              obtain ⟨rr, hrr⟩ : ∃ q : Nat, (i : Int) % 4 = (q : Int) := ⟨i % 4, by omega⟩
              obtain ⟨mm, hmm⟩ : ∃ q : Nat, ((qq : Int) + (rr : Int)) % 4 = (q : Int) := ⟨(qq + rr) % 4, by omega⟩
              obtain ⟨q, hq⟩ : ∃ q : Nat, 4 * (mm : Int) + (rr : Int) = (q : Int) := ⟨4 * mm + rr, by omega⟩
              have b1 : qq < 4 := by omega
              have b2 : rr < 4 := by omega
              have b3 : mm < 4 := by omega
              have b4 : (q : Int) < 16 := by omega
              have hqn : q = 4 * ((i / 4 + i % 4) % 4) + i % 4 := by omega
              obtain ⟨a, ha⟩ : ∃ a, a = S.getD q 0 := ⟨_, rfl⟩
              obtain ⟨x, hx⟩ : ∃ x, x = BX.getD a.toNat 0 := ⟨_, rfl⟩
              have hv := HTSG.out i hin
              rw [← hqn, ← ha, bxf, ← hx] at hv
              have c0 := (HICs.out.below hbw).2 q a (by rw [ha]; exact getD_some (by omega))
              have c1 := (HICb3.out.below hbw).2 a.toNat x (by rw [hx]; exact getD_some (by rw [hBl]; exact a.toNat_lt))
              unfold iv at c0 c1
              have hal : ((a.toNat : Nat) : Int) < 256 := by have := a.toNat_lt; omega
              have hT : TS.take (i + 1) = TS.take i ++ [x] := by rw [List.take_add_one, hv]; rfl
              have hTl : (TS.take i).length = i := by rw [List.length_take]; omega
              have HT := Lib.hid hT
              have HTL := Lib.hid hTl
              have HO := Lib.hid hO
              have HB := Lib.hid hbw
              have hbz := hbw.size
              clear hO hbw hv hT hTl ha hx hqn
              have HO2 : Hid (ISl wo.heap.size u10 (TS.take i) (wr.alloc (.cells #[.int .i64 ((x.toNat : Nat) : Int)] 3))) := Lib.hid (HO.out.alloc _)
              have HC2 : Hid (IC wr.heap.size [x] (wr.alloc (.cells #[.int .i64 ((x.toNat : Nat) : Int)] 3))) := Lib.hid (IC.lit wr [x])
              go_wp2_with (at_builtin; refine wpList_push rfl _ _ rfl wo.heap.size _ (TS.take i) rfl HO2.out wr.heap.size 1 1 [x] rfl HC2.out rfl (by rw [HTL.out]; simp; omega) (by simp; omega) ?_)
              intro v' w5 hO5 _ hb5
              rw [← HT.out] at hO5
              have HO5 := Lib.hid hO5
              clear hO5 c0 c1
              go_wp2_with fail
              exact ⟨⟨i + 1, (i : Int) + 1, by omega, by omega, rfl, HO5.out, (HB.out.alloc hbz _).trans hb5⟩, by simp [intOf]; omega⟩
            · have hi2 : i = 16 := by omega
              obtain rfl : z = 16 := by omega
              subst hi2
              clear hz
              rw [List.take_of_length_le (by omega)] at hO
              obtain ⟨gt, ct, rfl, hgtB, hICt⟩ := hO.opened (by omega)
              rw [hTSl]
              obtain ⟨w4, hw4⟩ : ∃ w4, w4 = wr := ⟨_, rfl⟩
              subst hw4
              have HICt := Lib.hid hICt
              have HICl4 := Lib.hid (HICl3.out.below hbw)
              have HB4 := Lib.hid (HBO.out.trans (hbw.mono HBO.out.size))
              clear hO hbw hICt hgtB HICs HICb3 HICl3
              obtain ⟨MV, hMV⟩ : ∃ MV, MV = mixV [2, 3, 1, 1] TS := ⟨_, rfl⟩
              have hMVl : MV.length = 16 := by rw [hMV]; exact mixV_len _ _
              have HCOL : Hid (∀ c, c < 4 → MV.take (4 * (c + 1)) = MV.take (4 * c) ++ [gm 2 (TS.getD (4 * c + 0) 0) ^^^ gm 3 (TS.getD (4 * c + 1) 0) ^^^ TS.getD (4 * c + 2) 0 ^^^ TS.getD (4 * c + 3) 0, TS.getD (4 * c + 0) 0 ^^^ gm 2 (TS.getD (4 * c + 1) 0) ^^^ gm 3 (TS.getD (4 * c + 2) 0) ^^^ TS.getD (4 * c + 3) 0, TS.getD (4 * c + 0) 0 ^^^ TS.getD (4 * c + 1) 0 ^^^ gm 2 (TS.getD (4 * c + 2) 0) ^^^ gm 3 (TS.getD (4 * c + 3) 0), gm 3 (TS.getD (4 * c + 0) 0) ^^^ TS.getD (4 * c + 1) 0 ^^^ TS.getD (4 * c + 2) 0 ^^^ gm 2 (TS.getD (4 * c + 3) 0)]) :=
                Lib.hid fun c hc => by rw [hMV]; exact mix_col TS c hc _ _ _ _ rfl rfl rfl rfl
              have HMV := Lib.hid hMV
              clear hMV
              go_wp2_with fail
              go_loopw [14, 15] (fun o c wr => ∃ (k : Nat) (z : Int), k ≤ 4 ∧ z = (k : Int) ∧ c = .int .i64 z ∧ ISl w4.heap.size o (MV.take (4 * k)) wr ∧ Below w4.heap.size w4 wr) (fun _ c _ => 4 - (intOf c).toNat)
              case atStart => exact ⟨0, 0, by omega, rfl, rfl, ISl.nil _ _, Below.refl _ _⟩
              case round =>
                obtain ⟨k, z, hk4, hz, rfl, hO, hbw⟩ := hrel
                by_cases hkn : k < 4
                · subst hz
                  have hkk : (k : Int) < 4 := by omega
                  have hk0 : (0 : Int) ≤ (k : Int) := by omega
                  have hcol := HCOL.out k hkn
                  obtain ⟨a, ha⟩ : ∃ a, a = TS.getD (4 * k + 0) 0 := ⟨_, rfl⟩
                  obtain ⟨b, hb⟩ : ∃ a, a = TS.getD (4 * k + 1) 0 := ⟨_, rfl⟩
                  obtain ⟨d, hd⟩ : ∃ a, a = TS.getD (4 * k + 2) 0 := ⟨_, rfl⟩
                  obtain ⟨e, he⟩ : ∃ a, a = TS.getD (4 * k + 3) 0 := ⟨_, rfl⟩
                  rw [← ha, ← hb, ← hd, ← he] at hcol
                  have c0 := (HICt.out.below hbw).2 (4 * k + 0) a (by rw [ha]; exact getD_some (by omega))
                  have c1 := (HICt.out.below hbw).2 (4 * k + 1) b (by rw [hb]; exact getD_some (by omega))
                  have c2 := (HICt.out.below hbw).2 (4 * k + 2) d (by rw [hd]; exact getD_some (by omega))
                  have c3 := (HICt.out.below hbw).2 (4 * k + 3) e (by rw [he]; exact getD_some (by omega))
                  unfold iv at c0 c1 c2 c3
                  obtain ⟨q0, hq0⟩ : ∃ q, q = 4 * k + 0 := ⟨_, rfl⟩
                  obtain ⟨q1, hq1⟩ : ∃ q, q = 4 * k + 1 := ⟨_, rfl⟩
                  obtain ⟨q2, hq2⟩ : ∃ q, q = 4 * k + 2 := ⟨_, rfl⟩
                  obtain ⟨q3, hq3⟩ : ∃ q, q = 4 * k + 3 := ⟨_, rfl⟩
                  rw [← hq0] at c0
                  rw [← hq1] at c1
                  rw [← hq2] at c2
                  rw [← hq3] at c3
                  have e0 : IntKind.i64.wrap (4 * (k : Int)) = (q0 : Int) := by rw [IntKind.wrap_i64]; omega
                  have p1 : IntKind.i64.wrap ((q0 : Int) + 1) = (q1 : Int) := by rw [IntKind.wrap_i64]; omega
                  have p2 : IntKind.i64.wrap ((q0 : Int) + 2) = (q2 : Int) := by rw [IntKind.wrap_i64]; omega
                  have p3 : IntKind.i64.wrap ((q0 : Int) + 3) = (q3 : Int) := by rw [IntKind.wrap_i64]; omega
                  have z0 : (0 : Int) ≤ (q0 : Int) ∧ (q0 : Int) < 16 := by omega
                  have z1 : (0 : Int) ≤ (q1 : Int) ∧ (q1 : Int) < 16 := by omega
                  have z2 : (0 : Int) ≤ (q2 : Int) ∧ (q2 : Int) < 16 := by omega
                  have z3 : (0 : Int) ≤ (q3 : Int) ∧ (q3 : Int) < 16 := by omega
                  have hTl : (MV.take (4 * k)).length = 4 * k := by rw [List.length_take]; omega
                  have HCL := Lib.hid hcol
                  have HTL := Lib.hid hTl
                  have HO := Lib.hid hO
                  have HB := Lib.hid hbw
                  have hbz := hbw.size
                  clear hO hbw hcol hTl ha hb hd he hq0 hq1 hq2 hq3
                  go_wp2_with fail
                  refine wp_region_txt (fun w' => w'.cell? ⟨gt, q0, none⟩ = some (.int .i64 ((a.toNat : Nat) : Int)) ∧ w'.cell? ⟨gt, q1, none⟩ = some (.int .i64 ((b.toNat : Nat) : Int)) ∧ w'.cell? ⟨gt, q2, none⟩ = some (.int .i64 ((d.toNat : Nat) : Int)) ∧ w'.cell? ⟨gt, q3, none⟩ = some (.int .i64 ((e.toNat : Nat) : Int)) ∧ wr.drew = w') (by kernel_rfl) (by kernel_rfl) ⟨c0, c1, c2, c3, rfl⟩ ?_
                  repeat (first
                    | (refine text_skip (by rfl) ?_; simp only [Act.put, List.setIfInBounds_toArray, List.set_cons_zero, List.set_cons_succ])
                    | (refine text_pure (v := ?_) (by rfl) (fun wx hS => ?_) ?_; rotate_left; (go_simp; with_reducible exact rfl); simp only [Act.put, List.setIfInBounds_toArray, List.set_cons_zero, List.set_cons_succ]))
                  refine text_nil (fun wx hS => ?_)
                  obtain ⟨_, _, _, _, rfl⟩ := hS
                  clear e0 p1 p2 p3 z0 z1 z2 z3 c0 c1 c2 c3
                  have M2a : Hid (∀ w, Calls Try.prog 17 #[.int .i64 2, .int .i64 ((a.toNat : Nat) : Int)] w fun e w' => e = .returned (.int .i64 (((gm 2 a).toNat : Nat) : Int)) ∧ w = w') := Lib.hid (HM.out 2 a)
                  have M3b : Hid (∀ w, Calls Try.prog 17 #[.int .i64 3, .int .i64 ((b.toNat : Nat) : Int)] w fun e w' => e = .returned (.int .i64 (((gm 3 b).toNat : Nat) : Int)) ∧ w = w') := Lib.hid (HM.out 3 b)
                  have M2b : Hid (∀ w, Calls Try.prog 17 #[.int .i64 2, .int .i64 ((b.toNat : Nat) : Int)] w fun e w' => e = .returned (.int .i64 (((gm 2 b).toNat : Nat) : Int)) ∧ w = w') := Lib.hid (HM.out 2 b)
                  have M3d : Hid (∀ w, Calls Try.prog 17 #[.int .i64 3, .int .i64 ((d.toNat : Nat) : Int)] w fun e w' => e = .returned (.int .i64 (((gm 3 d).toNat : Nat) : Int)) ∧ w = w') := Lib.hid (HM.out 3 d)
                  have M2d : Hid (∀ w, Calls Try.prog 17 #[.int .i64 2, .int .i64 ((d.toNat : Nat) : Int)] w fun e w' => e = .returned (.int .i64 (((gm 2 d).toNat : Nat) : Int)) ∧ w = w') := Lib.hid (HM.out 2 d)
                  have M3e : Hid (∀ w, Calls Try.prog 17 #[.int .i64 3, .int .i64 ((e.toNat : Nat) : Int)] w fun r w' => r = .returned (.int .i64 (((gm 3 e).toNat : Nat) : Int)) ∧ w = w') := Lib.hid (HM.out 3 e)
                  have M3a : Hid (∀ w, Calls Try.prog 17 #[.int .i64 3, .int .i64 ((a.toNat : Nat) : Int)] w fun e w' => e = .returned (.int .i64 (((gm 3 a).toNat : Nat) : Int)) ∧ w = w') := Lib.hid (HM.out 3 a)
                  have M2e : Hid (∀ w, Calls Try.prog 17 #[.int .i64 2, .int .i64 ((e.toNat : Nat) : Int)] w fun r w' => r = .returned (.int .i64 (((gm 2 e).toNat : Nat) : Int)) ∧ w = w') := Lib.hid (HM.out 2 e)
                  generalize gm 2 a = a2 at *
                  generalize gm 3 b = b3 at *
                  generalize gm 2 b = b2 at *
                  generalize gm 3 d = d3 at *
                  generalize gm 2 d = d2 at *
                  generalize gm 3 e = e3 at *
                  generalize gm 3 a = a3 at *
                  generalize gm 2 e = e2 at *
                  have x1 := bxor64 a2 b3
                  have x2 := bxor64 (a2 ^^^ b3) d
                  have x3 := bxor64 (a2 ^^^ b3 ^^^ d) e
                  have y1 := bxor64 a b2
                  have y2 := bxor64 (a ^^^ b2) d3
                  have y3 := bxor64 (a ^^^ b2 ^^^ d3) e
                  have s1 := bxor64 a b
                  have s2 := bxor64 (a ^^^ b) d2
                  have s3 := bxor64 (a ^^^ b ^^^ d2) e3
                  have t1 := bxor64 a3 b
                  have t2 := bxor64 (a3 ^^^ b) d
                  have t3 := bxor64 (a3 ^^^ b ^^^ d) e2
                  generalize a2 ^^^ b3 = X1 at *
                  generalize X1 ^^^ d = X2 at *
                  generalize X2 ^^^ e = X3 at *
                  generalize a ^^^ b2 = Y1 at *
                  generalize Y1 ^^^ d3 = Y2 at *
                  generalize Y2 ^^^ e = Y3 at *
                  generalize a ^^^ b = S1 at *
                  generalize S1 ^^^ d2 = S2 at *
                  generalize S2 ^^^ e3 = S3 at *
                  generalize a3 ^^^ b = T1 at *
                  generalize T1 ^^^ d = T2 at *
                  generalize T2 ^^^ e2 = T3 at *
                  have HO2 : Hid (ISl w4.heap.size u14 (MV.take (4 * k)) (wr.alloc (.cells #[.int .i64 ((X3.toNat : Nat) : Int), .int .i64 ((Y3.toNat : Nat) : Int), .int .i64 ((S3.toNat : Nat) : Int), .int .i64 ((T3.toNat : Nat) : Int)] 3)).drew) := Lib.hid (HO.out.alloc _)
                  have HC2 : Hid (IC wr.heap.size [X3, Y3, S3, T3] (wr.alloc (.cells #[.int .i64 ((X3.toNat : Nat) : Int), .int .i64 ((Y3.toNat : Nat) : Int), .int .i64 ((S3.toNat : Nat) : Int), .int .i64 ((T3.toNat : Nat) : Int)] 3)).drew) := Lib.hid (IC.lit wr [X3, Y3, S3, T3])
                  go_wp2_with (first
                    | (go_at_call 17; first
                        | ((with_reducible refine (M2a.out _).mono ?_); rintro r0 w0 ⟨rfl, rfl⟩)
                        | ((with_reducible refine (M3b.out _).mono ?_); rintro r0 w0 ⟨rfl, rfl⟩)
                        | ((with_reducible refine (M2b.out _).mono ?_); rintro r0 w0 ⟨rfl, rfl⟩)
                        | ((with_reducible refine (M3d.out _).mono ?_); rintro r0 w0 ⟨rfl, rfl⟩)
                        | ((with_reducible refine (M2d.out _).mono ?_); rintro r0 w0 ⟨rfl, rfl⟩)
                        | ((with_reducible refine (M3e.out _).mono ?_); rintro r0 w0 ⟨rfl, rfl⟩)
                        | ((with_reducible refine (M3a.out _).mono ?_); rintro r0 w0 ⟨rfl, rfl⟩)
                        | ((with_reducible refine (M2e.out _).mono ?_); rintro r0 w0 ⟨rfl, rfl⟩))
                    | (at_builtin; refine wpList_push rfl _ _ rfl w4.heap.size _ (MV.take (4 * k)) rfl HO2.out wr.heap.size 4 4 [X3, Y3, S3, T3] rfl HC2.out rfl (by rw [HTL.out]; simp; omega) (by simp; omega) ?_))
                  intro v' w5 hO5 _ hb5
                  rw [← HCL.out] at hO5
                  have HO5 := Lib.hid hO5
                  clear hO5
                  go_wp2_with fail
                  exact ⟨⟨k + 1, (k : Int) + 1, by omega, by omega, rfl, HO5.out, (HB.out.alloc hbz _).drew.trans hb5⟩, by simp [intOf]; omega⟩
                · have hk2 : k = 4 := by omega
                  obtain rfl : z = 4 := by omega
                  subst hk2
                  clear hz
                  rw [List.take_of_length_le (by omega)] at hO
                  obtain ⟨gu, cu, rfl, hguB, hICu⟩ := hO.opened (by omega)
                  rw [hMVl]
                  have HICu := Lib.hid hICu
                  have HICt5 := Lib.hid (HICt.out.below hbw)
                  have HICl4 := Lib.hid (HICl4.out.below hbw)
                  have HBR := Lib.hid (HB4.out.trans (hbw.mono HB4.out.size))
                  clear hO hbw hICu hguB
                  by_cases hr9 : r = 9
                  · have k1 : (r : Int) + 1 = 10 := by omega
                    have k2 : ((r : Int) + 1 == 10) = true := by simp; omega
                    have RA1 : Hid (Calls Try.prog 46 #[.slice (some ⟨gt, 0, none⟩) 16 ct, .slice (some ⟨gl, 0, none⟩) 176 cl, .int .i64 10] wr fun e w' => (∃ v, e = .returned v ∧ ISl wr.heap.size v (addV TS L (r + 1)) w') ∧ Below wr.heap.size wr w') := Lib.hid (by
                      have h := radd_any TS L gt gl ct cl (r + 1) hTSl hLl (by omega) wr HICt5.out HICl4.out
                      rw [show ((r + 1 : Nat) : Int) = 10 from by omega] at h
                      exact h)
                    go_wp2_with fail
                    with_reducible refine RA1.out.mono ?_
                    rintro e7 w7 ⟨⟨v7, rfl, hv7⟩, hb7⟩
                    have HS7 : Hid (ISl w2.heap.size v7 (encR L BX X (r + 1)) w7) := Lib.hid (by
                      rw [HER.out, encM, if_neg (by omega)]
                      exact ISl.up hv7 HBR.out.size)
                    have HB7 := Lib.hid (HBR.out.trans (hb7.mono HBR.out.size))
                    clear hv7 hb7
                    go_wp2_with fail
                    go_roundw
                    case rel => exact ⟨r + 1, _, by omega, by omega, rfl, HS7.out, HB7.out⟩
                    case measure => simp [intOf]; omega
                  · have k1 : ¬ (r : Int) + 1 = 10 := by omega
                    have k2 : ((r : Int) + 1 == 10) = false := by simp; omega
                    have RA2 : Hid (Calls Try.prog 46 #[.slice (some ⟨gu, 0, none⟩) 16 cu, .slice (some ⟨gl, 0, none⟩) 176 cl, .int .i64 ((r : Int) + 1)] wr fun e w' => (∃ v, e = .returned v ∧ ISl wr.heap.size v (addV MV L (r + 1)) w') ∧ Below wr.heap.size wr w') := Lib.hid (by
                      have h := radd_any MV L gu gl cu cl (r + 1) hMVl hLl (by omega) wr HICu.out HICl4.out
                      rw [show ((r + 1 : Nat) : Int) = (r : Int) + 1 from by omega] at h
                      exact h)
                    go_wp2_with fail
                    with_reducible refine RA2.out.mono ?_
                    rintro e7 w7 ⟨⟨v7, rfl, hv7⟩, hb7⟩
                    have HS7 : Hid (ISl w2.heap.size v7 (encR L BX X (r + 1)) w7) := Lib.hid (by
                      rw [HER.out, encM, if_pos (by omega), ← HMV.out]
                      exact ISl.up hv7 HBR.out.size)
                    have HB7 := Lib.hid (HBR.out.trans (hb7.mono HBR.out.size))
                    clear hv7 hb7
                    go_wp2_with fail
                    go_roundw
                    case rel => exact ⟨r + 1, _, by omega, by omega, rfl, HS7.out, HB7.out⟩
                    case measure => simp [intOf]; omega
        · have hr : r = 10 := by omega
          obtain rfl : z = 11 := by omega
          subst hr
          clear hz
          rw [hS] at HICs
          go_wp2_with fail
          refine (rtext_any (encR L BX X 10) gs cs wo (by rw [encR_len]; omega) HICs.out).mono ?_
          rintro e8 w8 ⟨rfl, hb8⟩
          go_wp2_with fail
          go_ret
          exact ⟨rfl, bthen (HB2.out.trans (HBO.out.mono HB2.out.size)) hb8⟩
end Go.Proofs.Ytkbidgonjnlkmaa

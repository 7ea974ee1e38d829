/-
  The contract of the cipher's Encrypt. No condition. Own work.
-/
import Derived.Test.YtkbidgonjnlkmaaCiph1
import Derived.Test.YtkbidgonjnlkmaaBytes
namespace Go.Proofs.Ytkbidgonjnlkmaa
open Go.RowKit

theorem Arr.str {P : Program} {w : World} {g : Nat} {T : TypeId} {R : List UInt8} (h : Arr w g T R) (n cap : Nat) (hn : n = R.length) (src e dst : TypeId) (hs : P.underlying src = some (.slice e)) (he : P.underlying e = some (.int .u8)) (hd : P.underlying dst = some .string) :
    (convert src dst (.slice (some ⟨g, 0, none⟩) n cap)).run P w = .ok (.string ⟨R.toArray⟩) w := by
  subst hn
  refine run_convert_bytes_back w src dst e ⟨g, 0, none⟩ cap R hs he hd fun j hj => ?_
  have ha : (⟨g, 0, none⟩ : Addr).add j = ⟨g, j, none⟩ := by unfold Addr.add; split <;> simp_all
  rw [ha]
  exact h.cell (List.getElem?_eq_getElem hj)
def bxf (T : List UInt8) (b : UInt8) : UInt8 := T.getD b.toNat 0
def encM (n : Nat) (Y : List UInt8) : List UInt8 := if n < 10 then mixV [2, 3, 1, 1] Y else Y
/-- The block behind n rounds. -/
def encR (W T X : List UInt8) : Nat → List UInt8
  | 0 => addV X W 0
  | n + 1 => addV (encM (n + 1) (turnV false ((encR W T X n).map (bxf T)))) W (n + 1)
theorem encR_len (W T X : List UInt8) (n : Nat) : (encR W T X n).length = 16 := by
  cases n <;> exact addV_len _ _ _

/-- Where a block is under way. -/
def CS (w : World) (b0 k g : Nat) (W T Y : List UInt8) (wr : World) : Prop :=
  Arr wr g 63 Y ∧ Ciph wr k W T ∧ wr.heap[b0]? = some (.cells #[.pointer (some ⟨k, 0, none⟩)] 22 (0, 0)) ∧ Below w.heap.size w wr
theorem CS.step {w : World} {b0 k g : Nat} {W T Y Y' : List UInt8} {wr w' : World} (h : CS w b0 k g W T Y wr) (hk : k ≠ g) (hb : b0 ≠ g) (hw : w.heap.size ≤ g) (hg : wr.grownBy w' (some g)) (hA : Arr w' g 63 Y') : CS w b0 k g W T Y' w' := by
  obtain ⟨_, h2, h3, h4⟩ := h
  refine ⟨hA, h2.grown hg (by simpa using hk), ?_, ⟨hg.os.trans h4.os, hg.tape.trans h4.tape, hg.output.trans h4.output, Nat.le_trans h4.size hg.size, fun j hj => ?_⟩⟩
  · rw [hg.block b0 (lt_of_block h3) (by simpa using hb)]; exact h3
  · rw [hg.block j (Nat.lt_of_lt_of_le hj h4.size) (by simp; omega)]; exact h4.block j hj
theorem CS.ptr {w : World} {b0 k g : Nat} {W T Y : List UInt8} {wr : World} (h : CS w b0 k g W T Y wr) : wr.cell? ⟨b0, 0, none⟩ = some (.pointer (some ⟨k, 0, none⟩)) := by
  rw [cell_of_row wr b0 0 _ _ (0, 0) h.2.2.1]; rfl

set_option maxRecDepth 20000 in
set_option maxHeartbeats 6400000 in
theorem cenc_any (k : Nat) (W T : List UInt8) (hW : W.length = 176) (hT : T.length = 256) (s : ByteArray) (hs : s.size = 16) (w : World) (hc : Ciph w k W T) :
    Calls Try.prog 14 #[.pointer (some ⟨k, 0, none⟩), .string s] w fun e w' => e = .returned (.tuple #[.string ⟨(encR W T s.data.toList 10).toArray⟩, .int .i64 0]) ∧ Below w.heap.size w w' := by
  have hsl : s.data.toList.length = 16 := by simp [hs]
  obtain ⟨X, hX⟩ : ∃ X, X = s.data.toList := ⟨_, rfl⟩
  rw [← hX] at hsl ⊢
  have HOF : Hid (∀ w, Calls Try.prog 36 #[.string s] w fun e w' => e = .returned (.agg (bvs X)) ∧ Below w.heap.size w w') := Lib.hid (fun w => by rw [hX]; exact of_any s hs w)
  have hkl := hc.lt
  obtain ⟨V, hV⟩ : ∃ V, V = w.alloc (.cells #[.pointer (some ⟨k, 0, none⟩)] 22) := ⟨_, rfl⟩
  have bV : V.heap[w.heap.size]? = some (.cells #[.pointer (some ⟨k, 0, none⟩)] 22 (0, 0)) := by rw [hV]; exact heap_alloc_new w _
  have cV : Ciph V k W T := by rw [hV]; exact hc.below (bnew _ _) hkl
  have BV : Below w.heap.size w V := by rw [hV]; exact bnew _ _
  have sV : V.heap.size = w.heap.size + 1 := by rw [hV]; simp
  have pV : V.cell? ⟨w.heap.size, 0, none⟩ = some (.pointer (some ⟨k, 0, none⟩)) := by rw [cell_of_row V w.heap.size 0 _ _ (0, 0) bV]; rfl
  have mV := cV.made
  have hsz : (Try.prog.info? 63).map (·.size) = some X.length := by rw [hsl]; kernel_rfl
  have HSZ := Lib.hid hsz
  have HSW : Hid ((Try.prog.info? 28).map (·.size) = some (W.map bv).length) := Lib.hid (by rw [List.length_map, hW]; kernel_rfl)
  have BVH := Lib.hid bV
  have CVH := Lib.hid cV
  have BWH := Lib.hid BV
  have HV := Lib.hid hV
  clear hX hc bV cV BV hV hsz
  go_enter Try.func14, Try.ntmps14
  go_upto_region 1 with (fail)
  rw [← HV.out]
  go_wp2_with fail
  refine (HOF.out V).mono ?_
  rintro e w1 ⟨rfl, hb1⟩
  obtain ⟨W1, hW1⟩ : ∃ W, W = w1.alloc (.cells (bvs X) 63) := ⟨_, rfl⟩
  have HSR : Hid ((w1.alloc (Obj.cells #[Value.int IntKind.u8 0, Value.int IntKind.u8 0, Value.int IntKind.u8 0, Value.int IntKind.u8 0, Value.int IntKind.u8 0, Value.int IntKind.u8 0, Value.int IntKind.u8 0, Value.int IntKind.u8 0, Value.int IntKind.u8 0, Value.int IntKind.u8 0, Value.int IntKind.u8 0, Value.int IntKind.u8 0, Value.int IntKind.u8 0, Value.int IntKind.u8 0, Value.int IntKind.u8 0, Value.int IntKind.u8 0] 63)).setRow w1.heap.size (bvs X) = W1) := Lib.hid (by rw [hW1]; exact World.setRow_alloc_new w1 (bvs (List.replicate 16 0)) (bvs X) 63)
  have x1 : Arr W1 w1.heap.size 63 X := by rw [hW1]; exact Arr.new _ _ _
  have s1 : V.heap.size ≤ w1.heap.size := hb1.size
  have b1 : Below w.heap.size w W1 := by
    rw [hW1]
    refine Below.alloc ⟨hb1.os.trans BWH.out.os, hb1.tape.trans BWH.out.tape, hb1.output.trans BWH.out.output, by omega, fun j hj => (hb1.block j (by omega)).trans (BWH.out.block j hj)⟩ (by omega) _
  have v1 : W1.heap[w.heap.size]? = some (.cells #[.pointer (some ⟨k, 0, none⟩)] 22 (0, 0)) := by
    rw [hW1, (bnew w1 _).block _ (by omega), hb1.block _ (by omega)]; exact BVH.out
  have c1 : Ciph W1 k W T := by rw [hW1]; exact (CVH.out.below hb1 (by omega)).below (bnew w1 _) (by omega)
  have p1 : W1.cell? ⟨w.heap.size, 0, none⟩ = some (.pointer (some ⟨k, 0, none⟩)) := by rw [cell_of_row W1 w.heap.size 0 _ _ (0, 0) v1]; rfl
  have m1 := c1.words
  obtain ⟨g, hg⟩ : ∃ g, g = w1.heap.size := ⟨_, rfl⟩
  have gl : w.heap.size + 1 ≤ g := by omega
  have X1 := Lib.hid x1
  have B1 := Lib.hid b1
  have V1 := Lib.hid v1
  have C1 := Lib.hid c1
  have M1 := Lib.hid m1
  clear hW1 x1 hb1 b1 v1 c1 m1 BVH CVH BWH HV pV mV
  go_wp2_with (first
    | (refine wpList_store_arr rfl 63 _ _ rfl w1.heap.size 63 (List.replicate 16 0) X rfl rfl (Arr.new w1 63 (List.replicate 16 0)) (by rw [hsl]; rfl) HSZ.out ?_; rw [HSR.out])
    | (refine wpList_load_mid rfl 28 _ rfl k 1 rfl (W.map bv) _ M1.out Try.underlying28 rfl HSW.out ?_))
  rw [← hg] at X1 ⊢
  clear hg
  have K1 : CS w w.heap.size k g W T X W1 := ⟨X1.out, C1.out, V1.out, B1.out⟩
  clear X1 C1 V1 B1 M1 HOF HSR
  refine (add_any g X W 0 hsl hW (by omega) W1 K1.1).mono ?_
  rintro e w2 ⟨rfl, hg2, hA2⟩
  have K2 := K1.step (by omega) (by omega) (by omega) hg2 hA2
  clear hg2 hA2 K1 p1
  go_wp2_with fail
  go_loopw [7] (fun c wr => ∃ m : Nat, 1 ≤ m ∧ m ≤ 11 ∧ c = .int .i64 (m : Int) ∧ CS w w.heap.size k g W T (encR W T X (m - 1)) wr) (fun c _ => 12 - (intOf c).toNat)
  case atStart => exact ⟨1, by omega, by omega, rfl, K2⟩
  case round =>
    clear K2
    obtain ⟨m, hm1, hm11, rfl, K⟩ := hrel
    by_cases hm : m ≤ 10
    · have hmi : (m : Int) ≤ 10 := by omega
      obtain ⟨n, hn⟩ : ∃ n, m = n + 1 := ⟨m - 1, by omega⟩
      have HN := Lib.hid hn
      have K0 : CS w w.heap.size k g W T (encR W T X n) wr := by have := K; rwa [show m - 1 = n from by omega] at this
      clear K
      have KH := Lib.hid K0
      clear K0 hn
      go_wp2_with fail
      refine (each_any g (encR W T X n) 39 (.pointer (some ⟨w.heap.size, 0, none⟩)) (bxf T) (encR_len _ _ _ _) wr KH.out.1 enc1_fid (fun w' hg' b => by
        have K' := KH.out
        refine enc1_any w.heap.size k W T hW hT w' ?_ (K'.2.1.grown hg' (by simp; omega)) b
        have h3 := K'.2.2.1
        rw [cell_of_row w' w.heap.size 0 _ _ (0, 0) ((hg'.block _ (lt_of_block h3) (by simp; omega)).trans h3)]; rfl)).mono ?_
      rintro e w3 ⟨rfl, hg3, hA3⟩
      have K3 := Lib.hid (KH.out.step (by omega) (by omega) (by omega) hg3 hA3)
      clear hg3 hA3
      go_wp2_with fail
      refine (turn_any g _ false (by rw [List.length_map, encR_len]) w3 K3.out.1).mono ?_
      rintro e w4 ⟨rfl, hg4, hA4⟩
      have K4 := Lib.hid (K3.out.step (by omega) (by omega) (by omega) hg4 hA4)
      clear hg4 hA4
      obtain ⟨Y, hY⟩ : ∃ Y, Y = turnV false ((encR W T X n).map (bxf T)) := ⟨_, rfl⟩
      have hYl : Y.length = 16 := by rw [hY, turnV_len]
      rw [← hY] at K4
      have hE : encR W T X m = addV (encM m Y) W m := by rw [HN.out, encR, hY]
      have HE := Lib.hid hE
      clear hE hY
      by_cases h10 : m < 10
      · have h10i : (m : Int) < 10 := by omega
        have hEM : encM m Y = mixV [2, 3, 1, 1] Y := by unfold encM; rw [if_pos h10]
        go_wp2_with fail
        refine (mix_any g [2, 3, 1, 1] Y hYl rfl w4 K4.out.1).mono ?_
        rintro e w5 ⟨rfl, hg5, hA5⟩
        rw [← hEM] at hA5
        have hYl2 : (encM m Y).length = 16 := by rw [hEM, mixV_len]
        clear hEM
        have K5 := Lib.hid (K4.out.step (by omega) (by omega) (by omega) hg5 hA5)
        clear hg5 hA5
        have p5 := K5.out.ptr
        have M5 := Lib.hid K5.out.2.1.words
        go_wp2_with (first
          | (refine wpList_load_mid rfl 28 _ rfl k 1 rfl (W.map bv) _ M5.out Try.underlying28 rfl HSW.out ?_))
        refine (add_any g (encM m Y) W m hYl2 hW (by omega) w5 K5.out.1).mono ?_
        rintro e w6 ⟨rfl, hg6, hA6⟩
        rw [← HE.out] at hA6
        have K6 := Lib.hid (K5.out.step (by omega) (by omega) (by omega) hg6 hA6)
        clear hg6 hA6
        go_wp2_with fail
        go_roundw
        case rel => exact ⟨m + 1, by omega, by omega, by go_num, K6.out⟩
        case measure => simp [intOf]; omega
      · have h10i : ¬ (m : Int) < 10 := by omega
        have hEM : encM m Y = Y := by unfold encM; rw [if_neg h10]
        have hYl2 : (encM m Y).length = 16 := by rw [hEM, hYl]
        rw [← hEM] at K4
        clear hEM
        have K5 := K4
        obtain ⟨w5, hw5⟩ : ∃ w5, w5 = w4 := ⟨_, rfl⟩
        rw [← hw5] at K5 ⊢
        clear hw5
        have p5 := K5.out.ptr
        have M5 := Lib.hid K5.out.2.1.words
        go_wp2_with (first
          | (refine wpList_load_mid rfl 28 _ rfl k 1 rfl (W.map bv) _ M5.out Try.underlying28 rfl HSW.out ?_))
        refine (add_any g (encM m Y) W m hYl2 hW (by omega) w5 K5.out.1).mono ?_
        rintro e w6 ⟨rfl, hg6, hA6⟩
        rw [← HE.out] at hA6
        have K6 := Lib.hid (K5.out.step (by omega) (by omega) (by omega) hg6 hA6)
        clear hg6 hA6
        go_wp2_with fail
        go_roundw
        case rel => exact ⟨m + 1, by omega, by omega, by go_num, K6.out⟩
        case measure => simp [intOf]; omega
    · have hm11' : m = 11 := by omega
      subst hm11'
      have hst := K.1.str 16 16 (by rw [encR_len]) 69 5 9 Try.underlying69 Try.underlying5 Try.underlying9
      go_wp2_with fail
      go_ret2
      exact ⟨rfl, K.2.2.2⟩
end Go.Proofs.Ytkbidgonjnlkmaa

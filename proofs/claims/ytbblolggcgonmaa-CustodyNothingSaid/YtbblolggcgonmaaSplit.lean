/-
  The contract of custody.Split. No condition. Own work.
-/
import Derived.Test.YtbblolggcgonmaaSplit1
import Derived.Test.YtbblolggcgonmaaLawKit
import Derived.Test.YtbblolggcgonmaaText
namespace Go.Proofs.Ytbblolggcgonmaa
open Go.RowKit

theorem own_mono {w : World} {base base' : Nat} {e : TypeId} {size : Nat} {v : Value} {n : Nat} {xs : List Value} (h : w.ownsRow base e size v n xs) (hb : base' ≤ base) : w.ownsRow base' e size v n xs :=
  ⟨h.1, h.2.imp id (fun ⟨g, cap, cur, a, b, c⟩ => ⟨g, cap, cur, a, Nat.le_trans hb b, c⟩)⟩

/-- A share's bytes: its polynomials' values. -/
def shareL (s n : List UInt8) (k : Nat) (x : UInt8) : List UInt8 := (List.range s.length).map fun i => pe (colP s n s.length k i) x
/-- May a secret be split so? -/
def SOk (s n : ByteArray) (k m : Int) : Prop := 1 ≤ s.size ∧ s.size ≤ 64 ∧ 1 ≤ k ∧ k ≤ m ∧ m ≤ 255 ∧ (n.size : Int) = (k - 1) * s.size
/-- The first j shares' cells. -/
def sharesV (s n : List UInt8) (k j : Nat) : List Value := ((List.range j).map fun x => [bv (UInt8.ofNat (x + 1)), .string ⟨(shareL s n k (UInt8.ofNat (x + 1))).toArray⟩]).flatten

set_option maxHeartbeats 800000 in
theorem split_short (s n : ByteArray) (k m : Int) (hs : s.size < 1 ∨ 64 < s.size) (_hsm : s.size ≤ maxLen) (_hnm : n.size ≤ maxLen) (w : World) :
    Calls Try.prog 24 #[.string s, .int .i64 k, .int .i64 m, .string n] w fun e w' => e = .returned (.tuple #[.slice none 0 0, .int .i64 2]) ∧ Below w.heap.size w w' := by
  go_enter Try.func24, Try.ntmps24
  go_wp2_with fail
  all_goals
    go_ret2
    exact ⟨rfl, ((((bnew _ _).alloc (by simp) _).alloc (by simp; omega) _).alloc (by simp; omega) _)⟩

set_option maxHeartbeats 1600000 in
theorem split_odd (s n : ByteArray) (k m : Int) (_h1 : 1 ≤ s.size) (_h2 : s.size ≤ 64) (h : k < 1 ∨ (1 ≤ k ∧ m < k) ∨ (1 ≤ k ∧ k ≤ m ∧ 255 < m)) (w : World) :
    Calls Try.prog 24 #[.string s, .int .i64 k, .int .i64 m, .string n] w fun e w' => e = .returned (.tuple #[.slice none 0 0, .int .i64 2]) ∧ Below w.heap.size w w' := by
  rcases h with h | ⟨ha, h⟩ | ⟨ha, hb, h⟩
  all_goals
    go_enter Try.func24, Try.ntmps24
    go_wp2_with fail
    go_ret2
    exact ⟨rfl, ((((bnew _ _).alloc (by simp) _).alloc (by simp; omega) _).alloc (by simp; omega) _)⟩
theorem split_noise (s n : ByteArray) (k : Nat) (m : Int) (_h1 : 1 ≤ s.size) (h2 : s.size ≤ 64) (hk : 1 ≤ k) (_hkm : (k : Int) ≤ m) (_hm : m ≤ 255) (hn : n.size ≠ (k - 1) * s.size) (w : World) :
    Calls Try.prog 24 #[.string s, .int .i64 (k : Int), .int .i64 m, .string n] w fun e w' => e = .returned (.tuple #[.slice none 0 0, .int .i64 2]) ∧ Below w.heap.size w w' := by
  obtain ⟨q, hq⟩ : ∃ q, q = (k - 1) * s.size := ⟨_, rfl⟩
  have hqi : ((k : Int) - 1) * (s.size : Int) = (q : Int) := by rw [hq, show (k : Int) - 1 = ((k - 1 : Nat) : Int) from by omega]; simp
  have hql : q ≤ 255 * 64 := by rw [hq]; exact Nat.mul_le_mul (by omega) h2
  rw [← hq] at hn
  have hne : ((n.size : Int) != (q : Int)) = true := by simp; omega
  clear hq
  go_enter Try.func24, Try.ntmps24
  go_wp2_with fail
  go_ret2
  exact ⟨rfl, ((((bnew _ _).alloc (by simp) _).alloc (by simp; omega) _).alloc (by simp; omega) _)⟩

theorem share_info : (Try.prog.info? 62).map (fun i => (i.zero, i.size, i.bytes)) = some (some (.agg #[.int .u8 0, .string ⟨#[]⟩]), 2, 24) := by kernel_rfl

set_option maxRecDepth 100000 in
set_option maxHeartbeats 3200000 in
theorem split_ok (s n : ByteArray) (k m : Nat) (h1 : 1 ≤ s.size) (h2 : s.size ≤ 64) (hk : 1 ≤ k) (hkm : k ≤ m) (hm : m ≤ 255) (hn : n.size = (k - 1) * s.size) (w : World) :
    Calls Try.prog 24 #[.string s, .int .i64 (k : Int), .int .i64 (m : Int), .string n] w fun e w' => (∃ v, e = .returned (.tuple #[v, .int .i64 0]) ∧ w'.ownsRow w.heap.size 62 2 v m (sharesV s.data.toList n.data.toList k m)) ∧ Below w.heap.size w w' := by
  have HN := Lib.hid hn
  obtain ⟨q, hq⟩ : ∃ q, q = (k - 1) * s.size := ⟨_, rfl⟩
  have hqi : ((k : Int) - 1) * (s.size : Int) = (q : Int) := by rw [hq, show (k : Int) - 1 = ((k - 1 : Nat) : Int) from by omega]; simp
  have hql : q ≤ 255 * 64 := by rw [hq]; exact Nat.mul_le_mul (by omega) h2
  rw [← hq] at hn
  have hne : ((n.size : Int) != (q : Int)) = false := by simp; omega
  have hkm2 : decide (m < k) = false := by simp; omega
  clear hq
  obtain ⟨i0, hi, iz0, iz1, iz2⟩ := info_parts share_info
  obtain ⟨j0, hj, jz0, jz1, jz2⟩ := info_parts byte_info
  have hmk := fun W => run_make_bytes (P := Try.prog) 72 5 j0 Try.underlying72 hj jz0 jz1 jz2 s.size (by omega) W
  clear hj jz0 jz1 jz2
  go_enter Try.func24, Try.ntmps24
  go_wp2_with fail
  obtain ⟨W4, hW4⟩ : ∃ W, W = (((w.alloc (Obj.cells #[Value.string s] 9)).alloc (Obj.cells #[Value.int IntKind.i64 (k : Int)] 3)).alloc (Obj.cells #[Value.string n] 9)).alloc (Obj.cells #[Value.int IntKind.i64 (s.size : Int)] 3) := ⟨_, rfl⟩
  have hz4 : W4.heap.size = w.heap.size + 4 := by rw [hW4]; simp
  have hB4 : Below w.heap.size w W4 := by rw [hW4]; exact ((((bnew _ _).alloc (by simp) _).alloc (by simp; omega) _).alloc (by simp; omega) _)
  have e0 : W4.cell? ⟨w.heap.size, 0, none⟩ = some (.string s) := by rw [hW4]; simp [go_sem]
  have e1 : W4.cell? ⟨w.heap.size + 1, 0, none⟩ = some (.int .i64 (k : Int)) := by rw [hW4]; simp [go_sem]
  have e2 : W4.cell? ⟨w.heap.size + 1 + 1, 0, none⟩ = some (.string n) := by rw [hW4]; simp [go_sem]
  have e3 : W4.cell? ⟨w.heap.size + 1 + 1 + 1, 0, none⟩ = some (.int .i64 (s.size : Int)) := by rw [hW4]; simp [go_sem]
  rw [← hW4]
  clear hW4
  go_loopw [12, 48] (fun out c wr => ∃ j : Nat, j ≤ m ∧ c = .int .i64 j ∧ wr.ownsRow (w.heap.size + 4) 62 2 out j (sharesV s.data.toList n.data.toList k j) ∧ Below (w.heap.size + 4) W4 wr) (fun _ c _ => m - (intOf c).toNat)
  case atStart => exact ⟨0, Nat.zero_le _, rfl, World.ownsRow_nil _ _ _ _, Below.refl _ _⟩
  case round =>
    obtain ⟨j, hjm, rfl, hown, hB⟩ := hrel
    have f0 : wr.cell? ⟨w.heap.size, 0, none⟩ = some (.string s) := (hB.cell (p := ⟨_, 0, none⟩) (by simp)).trans e0
    have f1 : wr.cell? ⟨w.heap.size + 1, 0, none⟩ = some (.int .i64 (k : Int)) := (hB.cell (p := ⟨_, 0, none⟩) (by simp)).trans e1
    have f2 : wr.cell? ⟨w.heap.size + 1 + 1, 0, none⟩ = some (.string n) := (hB.cell (p := ⟨_, 0, none⟩) (by simp)).trans e2
    have f3 : wr.cell? ⟨w.heap.size + 1 + 1 + 1, 0, none⟩ = some (.int .i64 (s.size : Int)) := (hB.cell (p := ⟨_, 0, none⟩) (by simp)).trans e3
    by_cases hlt : j < m
    · obtain ⟨x, hx⟩ : ∃ x, x = UInt8.ofNat (j + 1) := ⟨_, rfl⟩
      have hxn : (x.toNat : Int) = (j : Int) + 1 := by rw [hx, UInt8.toNat_ofNat']; omega
      obtain ⟨R, hR⟩ : ∃ R, R = shareL s.data.toList n.data.toList k x := ⟨_, rfl⟩
      have hRl : R.length = s.size := by rw [hR]; simp [shareL]
      have hRi : ∀ i, i < s.size → R[i]? = some (pe (colP s.data.toList n.data.toList s.size k i) x) := by
        intro i hi
        rw [hR, shareL, List.getElem?_map, List.getElem?_range (by simpa using hi)]
        simp
      have hsj : sharesV s.data.toList n.data.toList k (j + 1) = sharesV s.data.toList n.data.toList k j ++ [bv x, .string ⟨R.toArray⟩] := by
        rw [hR, hx]; simp [sharesV, List.range_succ]
      have HRI := Lib.hid hRi
      have HSJ := Lib.hid hsj
      clear hx hR hRi hsj
      obtain ⟨wo, hwo⟩ : ∃ wo, wo = wr := ⟨_, rfl⟩
      rw [← hwo] at hown hB f0 f1 f2 f3 ⊢
      clear hwo
      go_wp2_with fail
      go_loopw [55] (fun c wi => ∃ i : Nat, i ≤ s.size ∧ c = .int .i64 i ∧ Filled wi wo.heap.size 5 s.size R (· < i) ∧ Below wo.heap.size wo wi) (fun c _ => s.size - (intOf c).toNat)
      case atStart => exact ⟨0, Nat.zero_le _, rfl, by have := Filled.start wo 5 (madeCells #[.int .u8 0] s.size) R (D := (· < 0)) (fun j => Nat.not_lt_zero j); rw [size_made] at this; exact this, bnew _ _⟩
      case round =>
        obtain ⟨i, his, rfl, hF, hBi⟩ := hrel
        have zo : w.heap.size + 4 ≤ wo.heap.size := by have := hB.size; omega
        have g0 := (hBi.cell (p := ⟨w.heap.size, 0, none⟩) (by simp; omega)).trans f0
        have g1 := (hBi.cell (p := ⟨w.heap.size + 1, 0, none⟩) (by simp; omega)).trans f1
        have g2 := (hBi.cell (p := ⟨w.heap.size + 1 + 1, 0, none⟩) (by simp; omega)).trans f2
        have g3 := (hBi.cell (p := ⟨w.heap.size + 1 + 1 + 1, 0, none⟩) (by simp; omega)).trans f3
        by_cases hil : i < s.size
        · have HC := Lib.hid (split1_any s n k i x hk (by omega) hil h2 HN.out _ _ _ _ _ g1 g2 g3 g0)
          have hri := HRI.out i hil
          obtain ⟨y, hy⟩ : ∃ y, y = pe (colP s.data.toList n.data.toList s.size k i) x := ⟨_, rfl⟩
          rw [← hy] at HC hri
          clear hy
          obtain ⟨v, hv⟩ := hF.cell hil
          have hfz := hF.frozen i
          have HF := Lib.hid hF
          have HRX := Lib.hid hri
          clear hF hri
          simp only [bv] at HC
          rw [hxn] at HC
          go_wp2_with (go_at_call 42; (with_reducible refine HC.out.mono ?_); rintro e w1 ⟨rfl, rfl⟩)
          go_roundw
          case rel => exact ⟨i + 1, by omega, by go_num, HF.out.set hil HRX.out (fun j hj => by omega), hBi.setCell (Nat.le_refl _) _⟩
          case measure => simp [intOf]; omega
        · have hii : i = s.size := by omega
          have hcv := hF.str (P := Try.prog) (fun j hj => by omega) hRl s.size 72 5 9 Try.underlying72 Try.underlying5 Try.underlying9
          have hzb := hB.size
          have hzi := hBi.size
          have hownI : wr.ownsRow (w.heap.size + 4) 62 2 u12 j (sharesV s.data.toList n.data.toList k j) := own_below hown hBi
          go_wp2_with (at_builtin; refine wpList_append_own _ rfl _ _ 45 rfl (w.heap.size + 4) 62 i0 (.agg #[.int .u8 0, .string ⟨#[]⟩]) 2 24 Try.underlying45 hi iz0 iz1 iz2 rfl (by decide) _ _ _ rfl (hownI.alloc _) ⟨wr.heap.size, 0, none⟩ 1 1 [.int .u8 ((j : Int) + 1), .string ⟨R.toArray⟩] rfl rfl ?c1 ?c2 ?c3 ?c4 ?c5 ?_)
          case c1 => intro q u hu; match q, hu with
                                   | 0, hu => simp at hu; subst hu; simp [go_sem]
                                   | 1, hu => simp at hu; subst hu; simp [go_sem]
                                   | q + 2, hu => simp at hu
          case c2 => intro u hu; simp at hu; rcases hu with rfl | rfl <;> rfl
          case c3 => unfold maxLen; omega
          case c4 => omega
          case c5 => simp; omega
          intro v' w4 hown4 hgrow _
          have hB5 : Below (w.heap.size + 4) wo w4 := ((hBi.mono (by omega)).alloc (by omega) _).grown hgrow (by simp; omega) (fun q hq => (hownI.lt q hq).1)
          rw [← hxn, ← HSJ.out] at hown4
          clear hgrow hown hownI
          go_wp2_with fail
          go_roundw
          case rel => exact ⟨j + 1, by omega, by go_num, hown4, hB.trans hB5⟩
          case measure => simp [intOf]; omega
    · have hjm' : j = m := by omega
      subst hjm'
      go_wp2_with fail
      go_ret2
      exact ⟨⟨_, rfl, own_mono hown (by omega)⟩, hB4.trans (hB.mono (by omega))⟩
end Go.Proofs.Ytbblolggcgonmaa

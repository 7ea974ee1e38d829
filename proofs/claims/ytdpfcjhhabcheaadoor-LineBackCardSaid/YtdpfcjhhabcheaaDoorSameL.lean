/-
  The contracts of the law's same at equal events, and of alive. No condition. Own work.
-/
import Derived.Test.YtdpfcjhhabcheaaDoorParse
namespace Go.Proofs.YtdpfcjhhabcheaaDoor
open Go Go.RowKit

set_option maxRecDepth 100000 in
set_option maxHeartbeats 3200000 in
theorem ints_at (A1 A2 : Option Addr) (cap1 cap2 : Nat) (xs : List Int) (hl : xs.length ≤ 100000) (w : World) (h1 : NumAt w w.heap.size A1 xs) (h2 : NumAt w w.heap.size A2 xs) :
    Calls Tryd.prog 54 #[.slice A1 xs.length cap1, .slice A2 xs.length cap2] w fun e w' => e = .returned (.bool true) ∧ Below w.heap.size w w' := by
  obtain ⟨n, hn⟩ : ∃ n, n = xs.length := ⟨_, rfl⟩
  rw [← hn] at hl ⊢
  have HN := Lib.hid hn
  have R1 := Lib.hid h1
  have R2 := Lib.hid h2
  have hl' : (n : Int) ≤ 100000 := by omega
  clear hn h1 h2
  go_enter Tryd.func54, Tryd.ntmps54
  go_wp2_with fail
  go_loopw [5] (fun c wr => ∃ i : Nat, i ≤ n ∧ c = .int .i64 (i : Int) ∧ Below w.heap.size w wr) (fun c _ => n - (intOf c).toNat)
  case atStart => exact ⟨0, by omega, rfl, Below.refl _ _⟩
  case round =>
    obtain ⟨i, hi, rfl, hbw⟩ := hrel
    by_cases hik : i < n
    · have hii : (i : Int) < (n : Int) := by omega
      obtain ⟨x, hx⟩ : ∃ x, xs[i]? = some x := ⟨xs[i]'(by rw [← HN.out]; exact hik), List.getElem?_eq_getElem _⟩
      obtain ⟨g1, rfl, -, c1⟩ := NumAt.get (R1.out.below hbw) hx
      obtain ⟨g2, rfl, -, c2⟩ := NumAt.get (R2.out.below hbw) hx
      have HB := Lib.hid hbw
      clear hbw hx R1 R2
      go_wp2_with fail
      refine wp_region_txt (fun w' => w'.cell? (g1.add i) = some (Value.int .i64 x) ∧ w'.cell? (g2.add i) = some (Value.int .i64 x) ∧ Below w.heap.size w w') (by kernel_rfl) (by kernel_rfl) ⟨c1, c2, HB.out.drew⟩ ?_
      repeat (first
        | (refine text_skip (by rfl) ?_; simp only [Act.put, List.setIfInBounds_toArray, List.set_cons_zero, List.set_cons_succ])
        | (refine text_pure (v := ?_) (by rfl) (fun wx hS => ?_) ?_; rotate_left; (go_simp; with_reducible exact rfl); simp only [Act.put, List.setIfInBounds_toArray, List.set_cons_zero, List.set_cons_succ]))
      refine text_nil (fun wx hS => ?_)
      have HB2 := Lib.hid hS.2.2
      clear hS c1 c2
      go_wp2_with fail
      exact ⟨⟨i + 1, by omega, by go_num, HB2.out⟩, by simp [intOf]; omega⟩
    · have hi2 : i = n := by omega
      subst hi2
      go_wp2_with fail
      go_ret
      exact ⟨rfl, hbw⟩
set_option maxRecDepth 100000 in
set_option maxHeartbeats 6400000 in
theorem same_yes (v1 v2 : Value) (e : Ev) (hn : e.nums.length ≤ 100000) (ha : e.asks.length ≤ 100000) (w : World) (h1 : EvAt w w.heap.size e v1) (h2 : EvAt w w.heap.size e v2) :
    Calls Tryd.prog 28 #[v1, v2] w fun e w' => e = .returned (.bool true) ∧ Below w.heap.size w w' := by
  obtain ⟨A1, c1, A2, c2, rfl, hN1, hA1⟩ := h1
  obtain ⟨A3, c3, A4, c4, rfl, hN2, hA2⟩ := h2
  obtain ⟨wd, nums, nm, dt, asks⟩ := e
  dsimp only at *
  have hi : ∀ W, Below w.heap.size w W → Calls Tryd.prog 54 #[.slice A1 nums.length c1, .slice A3 nums.length c3] W fun e w' => e = .returned (.bool true) ∧ Below W.heap.size W w' := fun W hb =>
    ints_at A1 A3 c1 c3 nums hn W ((hN1.below hb).up hb.size) ((hN2.below hb).up hb.size)
  have HI := Lib.hid hi
  have HA1 := Lib.hid hA1
  have HA2 := Lib.hid hA2
  clear hi hA1 hA2 hN1 hN2
  obtain ⟨n, hnn⟩ : ∃ n, n = asks.length := ⟨_, rfl⟩
  rw [← hnn] at ha ⊢
  have HNN := Lib.hid hnn
  generalize nums.length = n1 at *
  have hl' : (n : Int) ≤ 100000 := by omega
  clear hnn
  go_enter Tryd.func28, Tryd.ntmps28
  go_wp2_with fail
  refine (HI.out _ ((bnew w _).trans ((bnew _ _).mono (by simp)))).mono ?_
  rintro e1 w1 ⟨rfl, hb1⟩
  have f1 := five_row ((hb1.block w.heap.size (by simp; omega)).trans (((bnew (w.alloc (.cells (ECells wd (.slice A1 n1 c1) nm dt (.slice A2 n c2)) 44)) (.cells (ECells wd (.slice A3 n1 c3) nm dt (.slice A4 n c4)) 45)).block w.heap.size (by simp)).trans (heap_alloc_new w _)))
  have f2 := five_row ((hb1.block (w.heap.size + 1) (by simp)).trans (by
    have e := heap_alloc_new (w.alloc (.cells (ECells wd (.slice A1 n1 c1) nm dt (.slice A2 n c2)) 44)) (.cells (ECells wd (.slice A3 n1 c3) nm dt (.slice A4 n c4)) 45)
    rw [show (w.alloc (.cells (ECells wd (.slice A1 n1 c1) nm dt (.slice A2 n c2)) 44)).heap.size = w.heap.size + 1 from by simp] at e
    exact e))
  have z1 : w.heap.size + 1 < w1.heap.size := by have := hb1.size; simp at this; omega
  have b1 : Below w.heap.size w w1 := ((bnew w _).trans ((bnew _ _).mono (by simp))).trans (hb1.mono (by simp; omega))
  clear hb1
  have HB1 := Lib.hid b1
  have F1 := Lib.hid f1
  have F2 := Lib.hid f2
  obtain ⟨p0, p1, p2, p3, p4⟩ := f1
  obtain ⟨q0, q1, q2, q3, q4⟩ := f2
  clear b1
  go_wp2_with fail
  clear p0 p1 p2 p3 p4 q0 q1 q2 q3 q4
  go_loopw [45] (fun c wr => ∃ i : Nat, i ≤ n ∧ c = .int .i64 (i : Int) ∧ Below w1.heap.size w1 wr) (fun c _ => n - (intOf c).toNat)
  case atStart => exact ⟨0, by omega, rfl, Below.refl _ _⟩
  case round =>
    obtain ⟨i, hi, rfl, hbw⟩ := hrel
    have g1 := five_below F1.out hbw (by omega)
    have g2 := five_below F2.out hbw z1
    by_cases hik : i < n
    · have hii : (i : Int) < (n : Int) := by omega
      obtain ⟨x, hx⟩ : ∃ x, asks[i]? = some x := ⟨asks[i]'(by rw [← HNN.out]; exact hik), List.getElem?_eq_getElem _⟩
      have hbb : Below w.heap.size w wr := HB1.out.trans (hbw.mono (by omega))
      obtain ⟨a1, rfl, -, k1, k2⟩ := AskAt.get (HA1.out.below hbb) hx
      obtain ⟨a2, rfl, -, k3, k4⟩ := AskAt.get (HA2.out.below hbb) hx
      have HB := Lib.hid hbw
      obtain ⟨-, -, -, -, m1⟩ := g1
      obtain ⟨-, -, -, -, m2⟩ := g2
      obtain ⟨xa, xb⟩ := x
      dsimp only at k1 k2 k3 k4
      clear hbw hx hbb HA1 HA2 HI F1 F2
      go_wp2_with fail
      refine wp_region_txt (fun w' => (w'.cell? ⟨w.heap.size, 4, none⟩ = some (.slice (some a1) n c2) ∧ w'.cell? ⟨w.heap.size + 1, 4, none⟩ = some (.slice (some a2) n c4)) ∧ (w'.cell? (a1.add (i * 2)) = some (.int .i64 xa) ∧ w'.cell? ⟨(a1.add (i * 2)).block, (a1.add (i * 2)).off + 1, none⟩ = some (.int .i64 xb)) ∧
        (w'.cell? (a2.add (i * 2)) = some (.int .i64 xa) ∧ w'.cell? ⟨(a2.add (i * 2)).block, (a2.add (i * 2)).off + 1, none⟩ = some (.int .i64 xb)) ∧ Below w1.heap.size w1 w') (by kernel_rfl) (by kernel_rfl) ⟨⟨m1, m2⟩, ⟨k1, k2⟩, ⟨k3, k4⟩, HB.out.drew⟩ ?_
      repeat (first
        | (refine text_skip (by rfl) ?_; simp only [Act.put, List.setIfInBounds_toArray, List.set_cons_zero, List.set_cons_succ])
        | (refine text_pure (v := ?_) (by rfl) (fun wx hS => ?_) ?_; rotate_left; (go_simp; with_reducible exact rfl); simp only [Act.put, List.setIfInBounds_toArray, List.set_cons_zero, List.set_cons_succ]))
      refine text_nil (fun wx hS => ?_)
      have HB2 := Lib.hid hS.2.2.2
      clear hS k1 k2 k3 k4 m1 m2
      go_wp2_with fail
      exact ⟨⟨i + 1, by omega, by go_num, HB2.out⟩, by simp [intOf]; omega⟩
    · have hi2 : i = n := by omega
      subst hi2
      go_wp2_with fail
      go_ret
      exact ⟨rfl, bthen HB1.out hbw⟩
def ln1 : ByteArray := ⟨#[97, 117, 100, 105, 116, 32, 48, 58, 49, 32, 50, 58, 51]⟩
def ln2 : ByteArray := ⟨#[104, 111, 108, 100, 32, 50, 32, 97]⟩
def ev1 : Ev := ⟨⟨#[97, 117, 100, 105, 116]⟩, [], ⟨#[]⟩, ⟨#[]⟩, [(0, 1), (2, 3)]⟩
def ev2 : Ev := ⟨⟨#[104, 111, 108, 100]⟩, [2], ⟨#[97]⟩, ⟨#[]⟩, []⟩
theorem parse_ln1 : parseW (wordsL ln1.data.toList) = some ev1 := by kernel_rfl
theorem parse_ln2 : parseW (wordsL ln2.data.toList) = some ev2 := by kernel_rfl
theorem parse_yes (sb : ByteArray) (hs : sb.size ≤ 90000) (e : Ev) (h : parseW (wordsL sb.data.toList) = some e) (w : World) : Calls Tryd.prog 27 #[.string sb] w fun x w' => (∃ V, x = .returned (.tuple #[V, .int .i64 0]) ∧ EvAt w' w'.heap.size e V) ∧ Below w.heap.size w w' := by
  have := parse_any sb hs w
  rw [h] at this
  exact this
set_option maxRecDepth 100000 in
set_option maxHeartbeats 6400000 in
theorem alive_any (w : World) : Calls Tryd.prog 21 #[] w fun e w' => e = .returned (.bool true) ∧ Below w.heap.size w w' := by
  have H1 := Lib.hid (parse_yes ln1 (by decide) ev1 parse_ln1)
  have H2 := Lib.hid (parse_yes ln2 (by decide) ev2 parse_ln2)
  go_enter Tryd.func21, Tryd.ntmps21
  go_wp2_with fail
  refine (H1.out _).mono ?_
  rintro e1 w1 ⟨⟨V1, rfl, A1, c1, A2, c2, rfl, hN1, hA1⟩, hb1⟩
  dsimp only [ev1] at hA1 ⊢
  obtain ⟨a1, rfl, ha1, k1, k2⟩ := AskAt.get hA1 (j := 1) (p := (2, 3)) rfl
  rw [show ([(0, 1), (2, 3)] : List (Int × Int)).length = 2 from rfl, show ([] : List Int).length = 0 from rfl]
  dsimp only at k1 k2
  clear hN1 hA1
  go_wp2_with fail
  refine (H2.out _).mono ?_
  rintro e2 w2 ⟨⟨V2, rfl, A3, c3, A4, c4, rfl, hN2, hA2⟩, hb2⟩
  dsimp only [ev2] at hN2 ⊢
  obtain ⟨a2, rfl, ha2, k3⟩ := NumAt.get hN2 (j := 0) (p := 2) rfl
  rw [show ([2] : List Int).length = 1 from rfl, show ([] : List (Int × Int)).length = 0 from rfl]
  have z2 := bsz hb2
  have f1 := five_row ((hb2.block w1.heap.size (by simp)).trans (heap_alloc_new w1 _))
  have j1 := ((bthen (bnew w1 _) hb2).cell (p := a1.add (1 * 2)) (by rw [block_add']; exact ha1)).trans k1
  have j2 := ((bthen (bnew w1 _) hb2).cell (p := ⟨(a1.add (1 * 2)).block, (a1.add (1 * 2)).off + 1, none⟩) (by dsimp only; rw [block_add']; exact ha1)).trans k2
  have HB : Hid (Below w.heap.size w w2) := Lib.hid (hb1.trans ((bthen (bnew w1 _) hb2).mono hb1.size))
  obtain ⟨p0, p1, p2, p3, p4⟩ := f1
  have ea : a1.add (1 * 2) = ⟨a1.block, a1.off + 2, none⟩ := by unfold Addr.add; rfl
  rw [ea] at j1 j2
  dsimp only at j2
  have ez : a2.add 0 = a2 := by unfold Addr.add; rfl
  rw [ez] at k3
  have z3 : a1.block < w2.heap.size := by omega
  clear hN2 hA2 hb2 hb1 k1 k2 ea ez ha1
  go_wp2_with fail
  go_ret
  exact ⟨rfl, HB.out.alloc (by have := HB.out.size; exact this) _⟩
end Go.Proofs.YtdpfcjhhabcheaaDoor

/-
  The contract of line.Check. No condition. Own work.
-/
import Derived.Test.YtdpfcjhhabcheaaDoorEvAt
namespace Go.Proofs.YtdpfcjhhabcheaaDoor
open Go Go.RowKit

/-- What is asked ahead of the numbers: two rows of tests. -/
def chk1 (s : Shp) (e : Ev) : Bool := decide (s.least ≤ e.nums.length) && decide (e.nums.length ≤ s.most) && (if s.name then nameL e.name.data.toList else decide (e.name.data.toList = []))
def chk2 (s : Shp) (e : Ev) : Bool := (dataB e.data.data.toList && (s.data || decide (e.data.data.toList = []))) && (if s.asks then decide (1 ≤ e.asks.length) && decide (e.asks.length ≤ 64) else decide (e.asks.length = 0))
theorem head_chk (s : Shp) (e : Ev) : headB s e = (chk1 s e && chk2 s e) := by unfold headB chk1 chk2; simp [Bool.and_assoc]
theorem of_bounds {l : List UInt8} {s : Shp} (h : ofW l = some s) : s.least ≤ 64 ∧ s.most ≤ 64 := by
  have key : (ofW l).all (fun s => decide (s.least ≤ 64) && decide (s.most ≤ 64)) = true := by
    have ite_all : ∀ (c : Prop) [Decidable c] (a : Shp) (o : Option Shp) (p : Shp → Bool), p a = true → o.all p = true → (if c then some a else o).all p = true := fun c _ a o p h1 h2 => by
      by_cases hc : c
      · rw [if_pos hc]; exact h1
      · rw [if_neg hc]; exact h2
    unfold ofW
    repeat (refine ite_all _ _ _ _ (by rfl) ?_)
    rfl
  rw [h] at key
  simpa using key
/-- What a walk keeps: an event's cells, a shape's cells. -/
abbrev KE (w0 : World) (b c : Nat) (wd : ByteArray) (vn : Value) (nm dt : ByteArray) (va : Value) (ls ms : Nat) (xn xd xa : Bool) (w' : World) : Prop :=
  Five b (.string wd) vn (.string nm) (.string dt) va w' ∧ Five c (.int .i64 (ls : Int)) (.int .i64 (ms : Int)) (.bool xn) (.bool xd) (.bool xa) w' ∧ b < w'.heap.size ∧ c < w'.heap.size ∧ Below w0.heap.size w0 w'
theorem ke_keeps {w0 : World} {b c : Nat} {wd nm dt : ByteArray} {vn va : Value} {ls ms : Nat} {xn xd xa : Bool} : Keeps (KE w0 b c wd vn nm dt va ls ms xn xd xa) := fun _ _ h hb =>
  ⟨five_below h.1 hb h.2.2.1, five_below h.2.1 hb h.2.2.2.1, Nat.lt_of_lt_of_le h.2.2.1 hb.size, Nat.lt_of_lt_of_le h.2.2.2.1 hb.size, bthen h.2.2.2.2 hb⟩
theorem ke_drew {w0 : World} {b c : Nat} {wd nm dt : ByteArray} {vn va : Value} {ls ms : Nat} {xn xd xa : Bool} {w' : World} (h : KE w0 b c wd vn nm dt va ls ms xn xd xa w') : KE w0 b c wd vn nm dt va ls ms xn xd xa w'.drew := ⟨h.1, h.2.1, h.2.2.1, h.2.2.2.1, h.2.2.2.2.drew⟩
set_option maxRecDepth 100000 in
set_option maxHeartbeats 6400000 in
theorem check_none (e : Ev) (v : Value) (w : World) (hv : EvAt w w.heap.size e v) (ho : ofW e.word.toList = none) : Calls Tryd.prog 24 #[v] w fun x w' => x = .returned (.int .i64 2) ∧ Below w.heap.size w w' := by
  obtain ⟨A1, c1, A2, c2, rfl, -, -⟩ := hv
  have h1 := of_any e.word
  rw [ho] at h1
  have H1 := Lib.hid h1
  clear h1 ho
  go_enter Tryd.func24, Tryd.ntmps24
  go_wp2_with fail
  refine (H1.out _).mono ?_
  rintro e1 w1 ⟨rfl, hb1⟩
  have b1 := bthen (bnew w _) hb1
  clear hb1
  dsimp only [ofV]
  go_wp2_with fail
  refine wp_region_txt (fun w' => Below w.heap.size w w') (by kernel_rfl) (by kernel_rfl) (b1.alloc (by exact b1.size) _).drew ?_
  repeat (first
    | (refine text_skip (by rfl) ?_; simp only [Act.put, List.setIfInBounds_toArray, List.set_cons_zero, List.set_cons_succ])
    | (refine text_pure (v := ?_) (by rfl) (fun wx hS => ?_) ?_; rotate_left; (go_simp; with_reducible exact rfl); simp only [Act.put, List.setIfInBounds_toArray, List.set_cons_zero, List.set_cons_succ]))
  refine text_nil (fun wx hS => ?_)
  go_wp2_with fail
  go_ret
  exact ⟨rfl, hS⟩
set_option maxRecDepth 100000 in
set_option maxHeartbeats 6400000 in
theorem check_some (e : Ev) (v : Value) (s : Shp) (w : World) (hv : EvAt w w.heap.size e v) (ho : ofW e.word.toList = some s) (hn : e.nums.length ≤ 100000) (ha : e.asks.length ≤ 100000) (hm : e.name.size ≤ 100000) :
    Calls Tryd.prog 24 #[v] w fun x w' => x = .returned (.int .i64 (if evOk e then 0 else 2)) ∧ Below w.heap.size w w' := by
  obtain ⟨A1, c1, A2, c2, rfl, hN, hA⟩ := hv
  obtain ⟨hl, hm2⟩ := of_bounds ho
  have hE : evOk e = (chk1 s e && (chk2 s e && (e.nums.all numB && e.asks.all askB))) := by
    unfold evOk
    rw [ho]
    dsimp only
    rw [head_chk, Bool.and_assoc]
  rw [hE]
  have h1 := of_any e.word
  rw [ho] at h1
  have H1 := Lib.hid h1
  have h2 := name_any e.name hm
  have h3 := data_any e.data
  have HN := Lib.hid hN
  have HA := Lib.hid hA
  clear h1 ho hE hN hA
  obtain ⟨V, hV⟩ : ∃ V : Int, V = if chk1 s e && (chk2 s e && (e.nums.all numB && e.asks.all askB)) then 0 else 2 := ⟨_, rfl⟩
  rw [← hV]
  unfold chk1 chk2 at hV
  have hbn : nameL e.name.data.toList = true → e.name.data.toList ≠ [] := fun h q => by rw [q] at h; exact absurd h (by decide)
  generalize nameL e.name.data.toList = bn at hV h2 hbn
  generalize dataB e.data.data.toList = bd at hV h3
  have H2 := Lib.hid h2
  have H3 := Lib.hid h3
  clear h2 h3
  obtain ⟨wd, nums, nm, dt, asks⟩ := e
  obtain ⟨least, most, xn, xd, xa⟩ := s
  dsimp only at *
  obtain ⟨n1, hn1⟩ : ∃ n1, n1 = nums.length := ⟨_, rfl⟩
  obtain ⟨n2, hn2⟩ : ∃ n2, n2 = asks.length := ⟨_, rfl⟩
  rw [← hn1] at hn hV ⊢
  rw [← hn2] at ha hV ⊢
  have HN1 := Lib.hid hn1
  have HN2 := Lib.hid hn2
  have HV := Lib.hid hV
  clear hn1 hn2 hV
  go_enter Tryd.func24, Tryd.ntmps24
  go_wp2_with fail
  refine (H1.out _).mono ?_
  rintro e1 w1 ⟨rfl, hb1⟩
  have b1 := bthen (bnew w _) hb1
  have z1 := bsz hb1
  have r1 := (hb1.block w.heap.size (by simp)).trans (heap_alloc_new w (.cells (ECells wd (.slice A1 n1 c1) nm dt (.slice A2 n2 c2)) 44))
  have f1 := five_row r1
  clear hb1 r1
  dsimp only [ofV, shpV]
  go_upto_region 2 with (fail)
  have KW : Hid (KE w w.heap.size w1.heap.size wd (.slice A1 n1 c1) nm dt (.slice A2 n2 c2) least most xn xd xa (w1.alloc (.cells #[.int .i64 (least : Int), .int .i64 (most : Int), .bool xn, .bool xd, .bool xa] 80))) := Lib.hid
    ⟨five_below f1 (bnew w1 _) z1, five_row (heap_alloc_new w1 _), by simp; omega, by simp, bthen b1 (bnew w1 _)⟩
  clear f1 b1
  have HZ := Lib.hid z1
  clear z1
  have HK : Hid (Keeps (KE w w.heap.size w1.heap.size wd (.slice A1 n1 c1) nm dt (.slice A2 n2 c2) least most xn xd xa)) := Lib.hid ke_keeps
  have hcase : (n1 < least) ∨ (least ≤ n1 ∧ most < n1) ∨ (least ≤ n1 ∧ n1 ≤ most ∧ xn = true ∧ bn = false) ∨ (least ≤ n1 ∧ n1 ≤ most ∧ xn = false ∧ bn = true ∧ nm.data.toList ≠ []) ∨ (least ≤ n1 ∧ n1 ≤ most ∧ xn = false ∧ bn = false ∧ nm.data.toList ≠ []) ∨
      (least ≤ n1 ∧ n1 ≤ most ∧ xn = true ∧ bn = true) ∨ (least ≤ n1 ∧ n1 ≤ most ∧ xn = false ∧ bn = false ∧ nm.data.toList = []) := by
    by_cases q : nm.data.toList = []
    all_goals cases xn <;> cases bn <;> simp [q] at hbn ⊢ <;> omega
  rcases hcase with h0 | ⟨h0, h1⟩ | ⟨h0, h1, rfl, rfl⟩ | ⟨h0, h1, rfl, rfl, h2⟩ | ⟨h0, h1, rfl, rfl, h2⟩ | ⟨h0, h1, rfl, rfl⟩ | ⟨h0, h1, rfl, rfl, h2⟩
  · obtain rfl : V = 2 := by
      rw [HV.out]
      rw [if_neg]
      simp; intro q; omega
    have a0 : (n1 : Int) < (least : Int) := by omega
    clear h0
    refine wp_region_txt (KE w w.heap.size w1.heap.size wd (.slice A1 n1 c1) nm dt (.slice A2 n2 c2) least most xn xd xa) (by kernel_rfl) (by kernel_rfl) (ke_drew KW.out) ?_
    repeat (first
      | (refine text_skip (by rfl) ?_; simp only [Act.put, List.setIfInBounds_toArray, List.set_cons_zero, List.set_cons_succ])
      | (refine text_pure (v := ?_) (by rfl) (fun wx hS => ?_) ?_; rotate_left; (go_simp; with_reducible exact rfl); simp only [Act.put, List.setIfInBounds_toArray, List.set_cons_zero, List.set_cons_succ])
      | (refine text_call (v := ?_) (f := ?_) (args := ?_) (by rfl) (fun wx hS => ?_) (fun wx hS => ?_) ?_; rotate_left 3; (go_simp; constructor <;> with_reducible rfl)
         (first
           | with_reducible exact meetsEq H2.out wx hS)
         simp only [Act.put, List.setIfInBounds_toArray, List.set_cons_zero, List.set_cons_succ]))
    refine text_nil (fun wx hS => ?_)
    have hb9 := hS.2.2.2.2
    clear hS KW HV HN1 HN2 HK HN HA
    go_wp2_with fail
    go_ret
    exact ⟨rfl, hb9⟩
  · obtain rfl : V = 2 := by
      rw [HV.out]
      rw [if_neg]
      simp; intro q; omega
    have a0 : ¬ (n1 : Int) < (least : Int) := by omega
    have a1 : (most : Int) < (n1 : Int) := by omega
    clear h0 h1
    refine wp_region_txt (KE w w.heap.size w1.heap.size wd (.slice A1 n1 c1) nm dt (.slice A2 n2 c2) least most xn xd xa) (by kernel_rfl) (by kernel_rfl) (ke_drew KW.out) ?_
    repeat (first
      | (refine text_skip (by rfl) ?_; simp only [Act.put, List.setIfInBounds_toArray, List.set_cons_zero, List.set_cons_succ])
      | (refine text_pure (v := ?_) (by rfl) (fun wx hS => ?_) ?_; rotate_left; (go_simp; with_reducible exact rfl); simp only [Act.put, List.setIfInBounds_toArray, List.set_cons_zero, List.set_cons_succ])
      | (refine text_call (v := ?_) (f := ?_) (args := ?_) (by rfl) (fun wx hS => ?_) (fun wx hS => ?_) ?_; rotate_left 3; (go_simp; constructor <;> with_reducible rfl)
         (first
           | with_reducible exact meetsEq H2.out wx hS)
         simp only [Act.put, List.setIfInBounds_toArray, List.set_cons_zero, List.set_cons_succ]))
    refine text_nil (fun wx hS => ?_)
    have hb9 := hS.2.2.2.2
    clear hS KW HV HN1 HN2 HK HN HA
    go_wp2_with fail
    go_ret
    exact ⟨rfl, hb9⟩
  · obtain rfl : V = 2 := by
      rw [HV.out]
      rw [if_neg]
      simp
    have a0 : ¬ (n1 : Int) < (least : Int) := by omega
    have a1 : ¬ (most : Int) < (n1 : Int) := by omega
    clear h0 h1
    refine wp_region_txt (KE w w.heap.size w1.heap.size wd (.slice A1 n1 c1) nm dt (.slice A2 n2 c2) least most true xd xa) (by kernel_rfl) (by kernel_rfl) (ke_drew KW.out) ?_
    repeat (first
      | (refine text_skip (by rfl) ?_; simp only [Act.put, List.setIfInBounds_toArray, List.set_cons_zero, List.set_cons_succ])
      | (refine text_pure (v := ?_) (by rfl) (fun wx hS => ?_) ?_; rotate_left; (go_simp; with_reducible exact rfl); simp only [Act.put, List.setIfInBounds_toArray, List.set_cons_zero, List.set_cons_succ])
      | (refine text_call (v := ?_) (f := ?_) (args := ?_) (by rfl) (fun wx hS => ?_) (fun wx hS => ?_) ?_; rotate_left 3; (go_simp; constructor <;> with_reducible rfl)
         (first
           | with_reducible exact meetsEq H2.out wx hS)
         simp only [Act.put, List.setIfInBounds_toArray, List.set_cons_zero, List.set_cons_succ]))
    refine text_nil (fun wx hS => ?_)
    have hb9 := hS.2.2.2.2
    clear hS KW HV HN1 HN2 HK HN HA
    go_wp2_with fail
    go_ret
    exact ⟨rfl, hb9⟩
  · obtain rfl : V = 2 := by
      rw [HV.out]
      rw [if_neg]
      simp [h2]
    have a0 : ¬ (n1 : Int) < (least : Int) := by omega
    have a1 : ¬ (most : Int) < (n1 : Int) := by omega
    clear h2
    clear h0 h1
    refine wp_region_txt (KE w w.heap.size w1.heap.size wd (.slice A1 n1 c1) nm dt (.slice A2 n2 c2) least most false xd xa) (by kernel_rfl) (by kernel_rfl) (ke_drew KW.out) ?_
    repeat (first
      | (refine text_skip (by rfl) ?_; simp only [Act.put, List.setIfInBounds_toArray, List.set_cons_zero, List.set_cons_succ])
      | (refine text_pure (v := ?_) (by rfl) (fun wx hS => ?_) ?_; rotate_left; (go_simp; with_reducible exact rfl); simp only [Act.put, List.setIfInBounds_toArray, List.set_cons_zero, List.set_cons_succ])
      | (refine text_call (v := ?_) (f := ?_) (args := ?_) (by rfl) (fun wx hS => ?_) (fun wx hS => ?_) ?_; rotate_left 3; (go_simp; constructor <;> with_reducible rfl)
         (first
           | with_reducible exact meetsEq H2.out wx hS)
         simp only [Act.put, List.setIfInBounds_toArray, List.set_cons_zero, List.set_cons_succ]))
    refine text_nil (fun wx hS => ?_)
    have hb9 := hS.2.2.2.2
    clear hS KW HV HN1 HN2 HK HN HA
    go_wp2_with fail
    go_ret
    exact ⟨rfl, hb9⟩
  · obtain rfl : V = 2 := by
      rw [HV.out]
      rw [if_neg]
      simp [h2]
    have a0 : ¬ (n1 : Int) < (least : Int) := by omega
    have a1 : ¬ (most : Int) < (n1 : Int) := by omega
    obtain ⟨t1, t2, t3⟩ := tl_ne h2
    clear h0 h1
    refine wp_region_txt (KE w w.heap.size w1.heap.size wd (.slice A1 n1 c1) nm dt (.slice A2 n2 c2) least most false xd xa) (by kernel_rfl) (by kernel_rfl) (ke_drew KW.out) ?_
    repeat (first
      | (refine text_skip (by rfl) ?_; simp only [Act.put, List.setIfInBounds_toArray, List.set_cons_zero, List.set_cons_succ])
      | (refine text_pure (v := ?_) (by rfl) (fun wx hS => ?_) ?_; rotate_left; (go_simp; with_reducible exact rfl); simp only [Act.put, List.setIfInBounds_toArray, List.set_cons_zero, List.set_cons_succ])
      | (refine text_call (v := ?_) (f := ?_) (args := ?_) (by rfl) (fun wx hS => ?_) (fun wx hS => ?_) ?_; rotate_left 3; (go_simp; constructor <;> with_reducible rfl)
         (first
           | with_reducible exact meetsEq H2.out wx hS)
         simp only [Act.put, List.setIfInBounds_toArray, List.set_cons_zero, List.set_cons_succ]))
    refine text_nil (fun wx hS => ?_)
    have hb9 := hS.2.2.2.2
    clear hS KW HV HN1 HN2 HK HN HA
    go_wp2_with fail
    go_ret
    exact ⟨rfl, hb9⟩
  · have a0 : ¬ (n1 : Int) < (least : Int) := by omega
    have a1 : ¬ (most : Int) < (n1 : Int) := by omega
    have HH1 := Lib.hid h0
    have HH2 := Lib.hid h1
    clear h0 h1
    refine wp_region_txt (KE w w.heap.size w1.heap.size wd (.slice A1 n1 c1) nm dt (.slice A2 n2 c2) least most true xd xa) (by kernel_rfl) (by kernel_rfl) (ke_drew KW.out) ?_
    repeat (first
      | (refine text_skip (by rfl) ?_; simp only [Act.put, List.setIfInBounds_toArray, List.set_cons_zero, List.set_cons_succ])
      | (refine text_pure (v := ?_) (by rfl) (fun wx hS => ?_) ?_; rotate_left; (go_simp; with_reducible exact rfl); simp only [Act.put, List.setIfInBounds_toArray, List.set_cons_zero, List.set_cons_succ])
      | (refine text_call (v := ?_) (f := ?_) (args := ?_) (by rfl) (fun wx hS => ?_) (fun wx hS => ?_) ?_; rotate_left 3; (go_simp; constructor <;> with_reducible rfl)
         (first
           | with_reducible exact meetsEq H2.out wx hS)
         simp only [Act.put, List.setIfInBounds_toArray, List.set_cons_zero, List.set_cons_succ]))
    refine text_nil (fun wx hS => ?_)
    have KX := Lib.hid hS
    clear hS KW a0 a1
    have KY0 := KX.out
    obtain ⟨⟨p0, p1, p2, p3, p4⟩, ⟨s0, s1, s2, s3, s4⟩, zb, zc, bx⟩ := KY0
    go_wp2_with fail
    refine (H3.out _).mono ?_
    rintro e3 w3 ⟨rfl, hb3⟩
    have KY := Lib.hid (ke_keeps _ _ KX.out hb3)
    clear hb3 p0 p1 p2 p3 p4 s0 s1 s2 s3 s4 zb zc bx KX H1 H2 H3 HK
    have hcase2 : bd = false ∨ (bd = true ∧ xd = false ∧ dt.data.toList ≠ []) ∨ (bd = true ∧ xd = true) ∨ (bd = true ∧ xd = false ∧ dt.data.toList = []) := by
      by_cases q : dt.data.toList = []
      all_goals cases bd <;> cases xd <;> simp [q]
    rcases hcase2 with rfl | ⟨rfl, rfl, k2⟩ | ⟨rfl, rfl⟩ | ⟨rfl, rfl, k2⟩
    · obtain rfl : V = 2 := by
        rw [HV.out, if_neg]
        simp
      obtain ⟨⟨p0, p1, p2, p3, p4⟩, ⟨s0, s1, s2, s3, s4⟩, zb, zc, b3⟩ := KY.out
      go_wp2_with fail
      go_ret
      exact ⟨rfl, b3⟩
    · obtain rfl : V = 2 := by
        rw [HV.out, if_neg]
        simp [k2]
      obtain ⟨⟨p0, p1, p2, p3, p4⟩, ⟨s0, s1, s2, s3, s4⟩, zb, zc, b3⟩ := KY.out
      obtain ⟨u1, u2, u3⟩ := tl_ne k2
      clear k2
      go_wp2_with fail
      go_ret
      exact ⟨rfl, b3⟩
    · obtain ⟨⟨p0, p1, p2, p3, p4⟩, ⟨s0, s1, s2, s3, s4⟩, zb, zc, b3⟩ := KY.out
      have hcase3 : (xa = true ∧ n2 = 0) ∨ (xa = true ∧ 64 < n2) ∨ (xa = false ∧ 0 < n2) ∨ (xa = true ∧ 0 < n2 ∧ n2 ≤ 64) ∨ (xa = false ∧ n2 = 0) := by
        cases xa <;> simp <;> omega
      rcases hcase3 with ⟨rfl, j1⟩ | ⟨rfl, j1⟩ | ⟨rfl, j1⟩ | ⟨rfl, j1, j2⟩ | ⟨rfl, j1⟩
      · obtain rfl : V = 2 := by
          rw [HV.out, if_neg]
          simp
          intros
          omega
        have o1 : ¬ (0 : Int) < (n2 : Int) := by omega
        go_wp2_with fail
        go_ret
        exact ⟨rfl, b3⟩
      · obtain rfl : V = 2 := by
          rw [HV.out, if_neg]
          simp
          intros
          omega
        have o1 : (0 : Int) < (n2 : Int) := by omega
        have o2 : (64 : Int) < (n2 : Int) := by omega
        go_wp2_with fail
        go_ret
        exact ⟨rfl, b3⟩
      · obtain rfl : V = 2 := by
          rw [HV.out, if_neg]
          simp
          intros
          omega
        have o1 : (0 : Int) < (n2 : Int) := by omega
        go_wp2_with fail
        go_ret
        exact ⟨rfl, b3⟩
      · have o1 : (0 : Int) < (n2 : Int) := by omega
        have o2 : ¬ (64 : Int) < (n2 : Int) := by omega
        have HW0 : Hid (V = if (nums.all numB && asks.all askB) = true then 0 else 2) := Lib.hid (by
          have g1 := HH1.out
          have g2 := HH2.out
          have g3 : decide (least ≤ n1) = true := decide_eq_true g1
          have g4 : decide (n1 ≤ most) = true := decide_eq_true g2
          have g5 : decide (n2 ≤ 64) = true := decide_eq_true (by omega)
          rw [HV.out, g3, g4]
          congr 2
          simp
          try omega)
        clear HV
        have HV := HW0
        clear HW0
        have hA3 := (HA.out.below b3)
        have hN3 := (HN.out.below b3)
        have HA3 := Lib.hid hA3
        have HN3 := Lib.hid hN3
        have HB3 := Lib.hid b3
        clear hA3 hN3 b3
        go_wp2_with fail
        go_loopw [83] (fun c wr => ∃ i : Nat, i ≤ n1 ∧ c = .int .i64 (i : Int) ∧ (∀ j p, j < i → nums[j]? = some p → numB p = true) ∧ w3 = wr) (fun c _ => n1 - (intOf c).toNat)
        case atStart => exact ⟨0, by omega, rfl, fun j c h => by omega, rfl⟩
        case round =>
          obtain ⟨i, hi, rfl, hall, rfl⟩ := hrel
          have HALL := Lib.hid hall
          clear hall
          by_cases hlt2 : i < n1
          · have hil : (i : Int) < (n1 : Int) := by omega
            obtain ⟨p, hp⟩ : ∃ p, nums[i]? = some p := ⟨_, List.getElem?_eq_getElem (by rw [← HN1.out]; exact hlt2)⟩
            obtain ⟨ad, rfl, -, hc⟩ := NumAt.get HN3.out hp
            have HP := Lib.hid hp
            clear hp
            by_cases hneg : p < 0
            · obtain rfl : V = 2 := by
                rw [HV.out, if_neg]
                have e : nums.all numB = false := by
                  rw [List.all_eq_false]
                  exact ⟨p, List.mem_of_getElem? HP.out, by unfold numB; simp; omega⟩
                simp [e]
              go_wp2_with fail
              go_ret
              exact ⟨rfl, HB3.out⟩
            by_cases hbig : 1099511627776 < p
            · obtain rfl : V = 2 := by
                rw [HV.out, if_neg]
                have e : nums.all numB = false := by
                  rw [List.all_eq_false]
                  exact ⟨p, List.mem_of_getElem? HP.out, by unfold numB; simp; omega⟩
                simp [e]
              go_wp2_with fail
              go_ret
              exact ⟨rfl, HB3.out⟩
            · go_wp2_with fail
              exact ⟨⟨i + 1, by omega, by go_num, fun j c' hj hc' => by
                by_cases hji : j = i
                · subst hji
                  have e := HP.out
                  rw [hc'] at e
                  cases e
                  unfold numB
                  simp
                  omega
                · exact HALL.out j c' (by omega) hc', by first | trivial | rfl⟩, by simp [intOf]; omega⟩
          · obtain rfl : i = n1 := by omega
            have hz : ¬ (i : Int) < (i : Int) := by omega
            have HY1 : Hid (nums.all numB = true) := Lib.hid (by
              rw [List.all_eq_true]
              intro p hp
              obtain ⟨j, hj⟩ := List.mem_iff_getElem?.1 hp
              exact HALL.out j p (by have := (List.getElem?_eq_some_iff.1 hj).1; have := HN1.out; omega) hj)
            clear HALL hlt2 hi
            go_wp2_with fail
            go_loopw [97] (fun c wr => ∃ i : Nat, i ≤ n2 ∧ c = .int .i64 (i : Int) ∧ (∀ j p, j < i → asks[j]? = some p → askB p = true) ∧ Below w.heap.size w wr) (fun c _ => n2 - (intOf c).toNat)
            case atStart => exact ⟨0, by omega, rfl, fun j c h => by omega, HB3.out⟩
            case round =>
              obtain ⟨i2, hi2, rfl, hall, hbr⟩ := hrel
              have HALL := Lib.hid hall
              clear hall
              by_cases hlt2 : i2 < n2
              · have hil : (i2 : Int) < (n2 : Int) := by omega
                obtain ⟨p, hp⟩ : ∃ p, asks[i2]? = some p := ⟨_, List.getElem?_eq_getElem (by rw [← HN2.out]; exact hlt2)⟩
                obtain ⟨ad, rfl, -, hc1, hc2⟩ := AskAt.get (HA.out.below hbr) hp
                have HP := Lib.hid hp
                have HBR := Lib.hid hbr
                clear hp hbr
                obtain ⟨pa, pb⟩ := p
                dsimp only at hc1 hc2
                have hbad : ¬ askB (pa, pb) = true → V = 2 := fun h => by
                  rw [HV.out, if_neg]
                  have e : asks.all askB = false := by
                    rw [List.all_eq_false]
                    exact ⟨(pa, pb), List.mem_of_getElem? HP.out, h⟩
                  simp [e]
                have HBAD := Lib.hid hbad
                clear hbad
                by_cases q1 : pa < 0
                · obtain rfl : V = 2 := HBAD.out (by unfold askB; simp <;> omega)
                  go_wp2_with fail
                  go_ret
                  exact ⟨rfl, bthen HBR.out (bnew _ _)⟩
                by_cases q2 : 4294967295 < pa
                · obtain rfl : V = 2 := HBAD.out (by unfold askB; simp <;> omega)
                  go_wp2_with fail
                  go_ret
                  exact ⟨rfl, bthen HBR.out (bnew _ _)⟩
                by_cases q3 : pb < 0
                · obtain rfl : V = 2 := HBAD.out (by unfold askB; simp <;> omega)
                  go_wp2_with fail
                  go_ret
                  exact ⟨rfl, bthen HBR.out (bnew _ _)⟩
                by_cases q4 : 4096 ≤ pb
                · obtain rfl : V = 2 := HBAD.out (by unfold askB; simp <;> omega)
                  go_wp2_with fail
                  go_ret
                  exact ⟨rfl, bthen HBR.out (bnew _ _)⟩
                · go_wp2_with fail
                  exact ⟨⟨i2 + 1, by omega, by go_num, fun j c' hj hc' => by
                    by_cases hji : j = i2
                    · subst hji
                      have e := HP.out
                      rw [hc'] at e
                      cases e
                      unfold askB
                      simp
                      omega
                    · exact HALL.out j c' (by omega) hc', bthen HBR.out (bnew _ _)⟩, by simp [intOf]; omega⟩
              · obtain rfl : i2 = n2 := by omega
                have hz : ¬ (i2 : Int) < (i2 : Int) := by omega
                obtain rfl : V = 0 := by
                  have e : asks.all askB = true := by
                    rw [List.all_eq_true]
                    intro p hp
                    obtain ⟨j, hj⟩ := List.mem_iff_getElem?.1 hp
                    exact HALL.out j p (by have := (List.getElem?_eq_some_iff.1 hj).1; have := HN2.out; omega) hj
                  have e1 := HY1.out
                  have g1 := HH1.out
                  have g2 := HH2.out
                  rw [HV.out, if_pos]
                  simp [e, e1]
                  try omega
                go_wp2_with fail
                go_ret
                exact ⟨rfl, hbr⟩
      · have o1 : ¬ (0 : Int) < (n2 : Int) := by omega
        have o2 : ¬ (64 : Int) < (n2 : Int) := by omega
        have HW0 : Hid (V = if (nums.all numB && asks.all askB) = true then 0 else 2) := Lib.hid (by
          have g1 := HH1.out
          have g2 := HH2.out
          have g3 : decide (least ≤ n1) = true := decide_eq_true g1
          have g4 : decide (n1 ≤ most) = true := decide_eq_true g2
          have g5 : decide (n2 ≤ 64) = true := decide_eq_true (by omega)
          rw [HV.out, g3, g4]
          congr 2
          simp
          try omega)
        clear HV
        have HV := HW0
        clear HW0
        have hA3 := (HA.out.below b3)
        have hN3 := (HN.out.below b3)
        have HA3 := Lib.hid hA3
        have HN3 := Lib.hid hN3
        have HB3 := Lib.hid b3
        clear hA3 hN3 b3
        go_wp2_with fail
        go_loopw [83] (fun c wr => ∃ i : Nat, i ≤ n1 ∧ c = .int .i64 (i : Int) ∧ (∀ j p, j < i → nums[j]? = some p → numB p = true) ∧ w3 = wr) (fun c _ => n1 - (intOf c).toNat)
        case atStart => exact ⟨0, by omega, rfl, fun j c h => by omega, rfl⟩
        case round =>
          obtain ⟨i, hi, rfl, hall, rfl⟩ := hrel
          have HALL := Lib.hid hall
          clear hall
          by_cases hlt2 : i < n1
          · have hil : (i : Int) < (n1 : Int) := by omega
            obtain ⟨p, hp⟩ : ∃ p, nums[i]? = some p := ⟨_, List.getElem?_eq_getElem (by rw [← HN1.out]; exact hlt2)⟩
            obtain ⟨ad, rfl, -, hc⟩ := NumAt.get HN3.out hp
            have HP := Lib.hid hp
            clear hp
            by_cases hneg : p < 0
            · obtain rfl : V = 2 := by
                rw [HV.out, if_neg]
                have e : nums.all numB = false := by
                  rw [List.all_eq_false]
                  exact ⟨p, List.mem_of_getElem? HP.out, by unfold numB; simp; omega⟩
                simp [e]
              go_wp2_with fail
              go_ret
              exact ⟨rfl, HB3.out⟩
            by_cases hbig : 1099511627776 < p
            · obtain rfl : V = 2 := by
                rw [HV.out, if_neg]
                have e : nums.all numB = false := by
                  rw [List.all_eq_false]
                  exact ⟨p, List.mem_of_getElem? HP.out, by unfold numB; simp; omega⟩
                simp [e]
              go_wp2_with fail
              go_ret
              exact ⟨rfl, HB3.out⟩
            · go_wp2_with fail
              exact ⟨⟨i + 1, by omega, by go_num, fun j c' hj hc' => by
                by_cases hji : j = i
                · subst hji
                  have e := HP.out
                  rw [hc'] at e
                  cases e
                  unfold numB
                  simp
                  omega
                · exact HALL.out j c' (by omega) hc', by first | trivial | rfl⟩, by simp [intOf]; omega⟩
          · obtain rfl : i = n1 := by omega
            have hz : ¬ (i : Int) < (i : Int) := by omega
            have HY1 : Hid (nums.all numB = true) := Lib.hid (by
              rw [List.all_eq_true]
              intro p hp
              obtain ⟨j, hj⟩ := List.mem_iff_getElem?.1 hp
              exact HALL.out j p (by have := (List.getElem?_eq_some_iff.1 hj).1; have := HN1.out; omega) hj)
            clear HALL hlt2 hi
            go_wp2_with fail
            go_loopw [97] (fun c wr => ∃ i : Nat, i ≤ n2 ∧ c = .int .i64 (i : Int) ∧ (∀ j p, j < i → asks[j]? = some p → askB p = true) ∧ Below w.heap.size w wr) (fun c _ => n2 - (intOf c).toNat)
            case atStart => exact ⟨0, by omega, rfl, fun j c h => by omega, HB3.out⟩
            case round =>
              obtain ⟨i2, hi2, rfl, hall, hbr⟩ := hrel
              have HALL := Lib.hid hall
              clear hall
              by_cases hlt2 : i2 < n2
              · exact absurd hlt2 (by omega)
              · obtain rfl : i2 = n2 := by omega
                have hz : ¬ (i2 : Int) < (i2 : Int) := by omega
                obtain rfl : V = 0 := by
                  have e : asks.all askB = true := by
                    rw [List.all_eq_true]
                    intro p hp
                    obtain ⟨j, hj⟩ := List.mem_iff_getElem?.1 hp
                    exact HALL.out j p (by have := (List.getElem?_eq_some_iff.1 hj).1; have := HN2.out; omega) hj
                  have e1 := HY1.out
                  have g1 := HH1.out
                  have g2 := HH2.out
                  rw [HV.out, if_pos]
                  simp [e, e1]
                  try omega
                go_wp2_with fail
                go_ret
                exact ⟨rfl, hbr⟩
    · obtain ⟨⟨p0, p1, p2, p3, p4⟩, ⟨s0, s1, s2, s3, s4⟩, zb, zc, b3⟩ := KY.out
      obtain ⟨u1, u2, u3⟩ := tl_em k2
      have K2 := Lib.hid k2
      clear k2
      have hcase3 : (xa = true ∧ n2 = 0) ∨ (xa = true ∧ 64 < n2) ∨ (xa = false ∧ 0 < n2) ∨ (xa = true ∧ 0 < n2 ∧ n2 ≤ 64) ∨ (xa = false ∧ n2 = 0) := by
        cases xa <;> simp <;> omega
      rcases hcase3 with ⟨rfl, j1⟩ | ⟨rfl, j1⟩ | ⟨rfl, j1⟩ | ⟨rfl, j1, j2⟩ | ⟨rfl, j1⟩
      · obtain rfl : V = 2 := by
          rw [HV.out, if_neg]
          simp
          intros
          omega
        have o1 : ¬ (0 : Int) < (n2 : Int) := by omega
        go_wp2_with fail
        go_ret
        exact ⟨rfl, b3⟩
      · obtain rfl : V = 2 := by
          rw [HV.out, if_neg]
          simp
          intros
          omega
        have o1 : (0 : Int) < (n2 : Int) := by omega
        have o2 : (64 : Int) < (n2 : Int) := by omega
        go_wp2_with fail
        go_ret
        exact ⟨rfl, b3⟩
      · obtain rfl : V = 2 := by
          rw [HV.out, if_neg]
          simp
          intros
          omega
        have o1 : (0 : Int) < (n2 : Int) := by omega
        go_wp2_with fail
        go_ret
        exact ⟨rfl, b3⟩
      · have o1 : (0 : Int) < (n2 : Int) := by omega
        have o2 : ¬ (64 : Int) < (n2 : Int) := by omega
        have k2 := K2.out
        have HW0 : Hid (V = if (nums.all numB && asks.all askB) = true then 0 else 2) := Lib.hid (by
          have g1 := HH1.out
          have g2 := HH2.out
          have g3 : decide (least ≤ n1) = true := decide_eq_true g1
          have g4 : decide (n1 ≤ most) = true := decide_eq_true g2
          have g5 : decide (n2 ≤ 64) = true := decide_eq_true (by omega)
          rw [HV.out, g3, g4]
          congr 2
          simp [k2]
          try omega)
        clear HV k2
        have HV := HW0
        clear HW0
        have hA3 := (HA.out.below b3)
        have hN3 := (HN.out.below b3)
        have HA3 := Lib.hid hA3
        have HN3 := Lib.hid hN3
        have HB3 := Lib.hid b3
        clear hA3 hN3 b3
        go_wp2_with fail
        go_loopw [83] (fun c wr => ∃ i : Nat, i ≤ n1 ∧ c = .int .i64 (i : Int) ∧ (∀ j p, j < i → nums[j]? = some p → numB p = true) ∧ w3 = wr) (fun c _ => n1 - (intOf c).toNat)
        case atStart => exact ⟨0, by omega, rfl, fun j c h => by omega, rfl⟩
        case round =>
          obtain ⟨i, hi, rfl, hall, rfl⟩ := hrel
          have HALL := Lib.hid hall
          clear hall
          by_cases hlt2 : i < n1
          · have hil : (i : Int) < (n1 : Int) := by omega
            obtain ⟨p, hp⟩ : ∃ p, nums[i]? = some p := ⟨_, List.getElem?_eq_getElem (by rw [← HN1.out]; exact hlt2)⟩
            obtain ⟨ad, rfl, -, hc⟩ := NumAt.get HN3.out hp
            have HP := Lib.hid hp
            clear hp
            by_cases hneg : p < 0
            · obtain rfl : V = 2 := by
                rw [HV.out, if_neg]
                have e : nums.all numB = false := by
                  rw [List.all_eq_false]
                  exact ⟨p, List.mem_of_getElem? HP.out, by unfold numB; simp; omega⟩
                simp [e]
              go_wp2_with fail
              go_ret
              exact ⟨rfl, HB3.out⟩
            by_cases hbig : 1099511627776 < p
            · obtain rfl : V = 2 := by
                rw [HV.out, if_neg]
                have e : nums.all numB = false := by
                  rw [List.all_eq_false]
                  exact ⟨p, List.mem_of_getElem? HP.out, by unfold numB; simp; omega⟩
                simp [e]
              go_wp2_with fail
              go_ret
              exact ⟨rfl, HB3.out⟩
            · go_wp2_with fail
              exact ⟨⟨i + 1, by omega, by go_num, fun j c' hj hc' => by
                by_cases hji : j = i
                · subst hji
                  have e := HP.out
                  rw [hc'] at e
                  cases e
                  unfold numB
                  simp
                  omega
                · exact HALL.out j c' (by omega) hc', by first | trivial | rfl⟩, by simp [intOf]; omega⟩
          · obtain rfl : i = n1 := by omega
            have hz : ¬ (i : Int) < (i : Int) := by omega
            have HY1 : Hid (nums.all numB = true) := Lib.hid (by
              rw [List.all_eq_true]
              intro p hp
              obtain ⟨j, hj⟩ := List.mem_iff_getElem?.1 hp
              exact HALL.out j p (by have := (List.getElem?_eq_some_iff.1 hj).1; have := HN1.out; omega) hj)
            clear HALL hlt2 hi
            go_wp2_with fail
            go_loopw [97] (fun c wr => ∃ i : Nat, i ≤ n2 ∧ c = .int .i64 (i : Int) ∧ (∀ j p, j < i → asks[j]? = some p → askB p = true) ∧ Below w.heap.size w wr) (fun c _ => n2 - (intOf c).toNat)
            case atStart => exact ⟨0, by omega, rfl, fun j c h => by omega, HB3.out⟩
            case round =>
              obtain ⟨i2, hi2, rfl, hall, hbr⟩ := hrel
              have HALL := Lib.hid hall
              clear hall
              by_cases hlt2 : i2 < n2
              · have hil : (i2 : Int) < (n2 : Int) := by omega
                obtain ⟨p, hp⟩ : ∃ p, asks[i2]? = some p := ⟨_, List.getElem?_eq_getElem (by rw [← HN2.out]; exact hlt2)⟩
                obtain ⟨ad, rfl, -, hc1, hc2⟩ := AskAt.get (HA.out.below hbr) hp
                have HP := Lib.hid hp
                have HBR := Lib.hid hbr
                clear hp hbr
                obtain ⟨pa, pb⟩ := p
                dsimp only at hc1 hc2
                have hbad : ¬ askB (pa, pb) = true → V = 2 := fun h => by
                  rw [HV.out, if_neg]
                  have e : asks.all askB = false := by
                    rw [List.all_eq_false]
                    exact ⟨(pa, pb), List.mem_of_getElem? HP.out, h⟩
                  simp [e]
                have HBAD := Lib.hid hbad
                clear hbad
                by_cases q1 : pa < 0
                · obtain rfl : V = 2 := HBAD.out (by unfold askB; simp <;> omega)
                  go_wp2_with fail
                  go_ret
                  exact ⟨rfl, bthen HBR.out (bnew _ _)⟩
                by_cases q2 : 4294967295 < pa
                · obtain rfl : V = 2 := HBAD.out (by unfold askB; simp <;> omega)
                  go_wp2_with fail
                  go_ret
                  exact ⟨rfl, bthen HBR.out (bnew _ _)⟩
                by_cases q3 : pb < 0
                · obtain rfl : V = 2 := HBAD.out (by unfold askB; simp <;> omega)
                  go_wp2_with fail
                  go_ret
                  exact ⟨rfl, bthen HBR.out (bnew _ _)⟩
                by_cases q4 : 4096 ≤ pb
                · obtain rfl : V = 2 := HBAD.out (by unfold askB; simp <;> omega)
                  go_wp2_with fail
                  go_ret
                  exact ⟨rfl, bthen HBR.out (bnew _ _)⟩
                · go_wp2_with fail
                  exact ⟨⟨i2 + 1, by omega, by go_num, fun j c' hj hc' => by
                    by_cases hji : j = i2
                    · subst hji
                      have e := HP.out
                      rw [hc'] at e
                      cases e
                      unfold askB
                      simp
                      omega
                    · exact HALL.out j c' (by omega) hc', bthen HBR.out (bnew _ _)⟩, by simp [intOf]; omega⟩
              · obtain rfl : i2 = n2 := by omega
                have hz : ¬ (i2 : Int) < (i2 : Int) := by omega
                obtain rfl : V = 0 := by
                  have e : asks.all askB = true := by
                    rw [List.all_eq_true]
                    intro p hp
                    obtain ⟨j, hj⟩ := List.mem_iff_getElem?.1 hp
                    exact HALL.out j p (by have := (List.getElem?_eq_some_iff.1 hj).1; have := HN2.out; omega) hj
                  have e1 := HY1.out
                  have g1 := HH1.out
                  have g2 := HH2.out
                  rw [HV.out, if_pos]
                  simp [e, e1]
                  try omega
                go_wp2_with fail
                go_ret
                exact ⟨rfl, hbr⟩
      · have o1 : ¬ (0 : Int) < (n2 : Int) := by omega
        have o2 : ¬ (64 : Int) < (n2 : Int) := by omega
        have k2 := K2.out
        have HW0 : Hid (V = if (nums.all numB && asks.all askB) = true then 0 else 2) := Lib.hid (by
          have g1 := HH1.out
          have g2 := HH2.out
          have g3 : decide (least ≤ n1) = true := decide_eq_true g1
          have g4 : decide (n1 ≤ most) = true := decide_eq_true g2
          have g5 : decide (n2 ≤ 64) = true := decide_eq_true (by omega)
          rw [HV.out, g3, g4]
          congr 2
          simp [k2]
          try omega)
        clear HV k2
        have HV := HW0
        clear HW0
        have hA3 := (HA.out.below b3)
        have hN3 := (HN.out.below b3)
        have HA3 := Lib.hid hA3
        have HN3 := Lib.hid hN3
        have HB3 := Lib.hid b3
        clear hA3 hN3 b3
        go_wp2_with fail
        go_loopw [83] (fun c wr => ∃ i : Nat, i ≤ n1 ∧ c = .int .i64 (i : Int) ∧ (∀ j p, j < i → nums[j]? = some p → numB p = true) ∧ w3 = wr) (fun c _ => n1 - (intOf c).toNat)
        case atStart => exact ⟨0, by omega, rfl, fun j c h => by omega, rfl⟩
        case round =>
          obtain ⟨i, hi, rfl, hall, rfl⟩ := hrel
          have HALL := Lib.hid hall
          clear hall
          by_cases hlt2 : i < n1
          · have hil : (i : Int) < (n1 : Int) := by omega
            obtain ⟨p, hp⟩ : ∃ p, nums[i]? = some p := ⟨_, List.getElem?_eq_getElem (by rw [← HN1.out]; exact hlt2)⟩
            obtain ⟨ad, rfl, -, hc⟩ := NumAt.get HN3.out hp
            have HP := Lib.hid hp
            clear hp
            by_cases hneg : p < 0
            · obtain rfl : V = 2 := by
                rw [HV.out, if_neg]
                have e : nums.all numB = false := by
                  rw [List.all_eq_false]
                  exact ⟨p, List.mem_of_getElem? HP.out, by unfold numB; simp; omega⟩
                simp [e]
              go_wp2_with fail
              go_ret
              exact ⟨rfl, HB3.out⟩
            by_cases hbig : 1099511627776 < p
            · obtain rfl : V = 2 := by
                rw [HV.out, if_neg]
                have e : nums.all numB = false := by
                  rw [List.all_eq_false]
                  exact ⟨p, List.mem_of_getElem? HP.out, by unfold numB; simp; omega⟩
                simp [e]
              go_wp2_with fail
              go_ret
              exact ⟨rfl, HB3.out⟩
            · go_wp2_with fail
              exact ⟨⟨i + 1, by omega, by go_num, fun j c' hj hc' => by
                by_cases hji : j = i
                · subst hji
                  have e := HP.out
                  rw [hc'] at e
                  cases e
                  unfold numB
                  simp
                  omega
                · exact HALL.out j c' (by omega) hc', by first | trivial | rfl⟩, by simp [intOf]; omega⟩
          · obtain rfl : i = n1 := by omega
            have hz : ¬ (i : Int) < (i : Int) := by omega
            have HY1 : Hid (nums.all numB = true) := Lib.hid (by
              rw [List.all_eq_true]
              intro p hp
              obtain ⟨j, hj⟩ := List.mem_iff_getElem?.1 hp
              exact HALL.out j p (by have := (List.getElem?_eq_some_iff.1 hj).1; have := HN1.out; omega) hj)
            clear HALL hlt2 hi
            go_wp2_with fail
            go_loopw [97] (fun c wr => ∃ i : Nat, i ≤ n2 ∧ c = .int .i64 (i : Int) ∧ (∀ j p, j < i → asks[j]? = some p → askB p = true) ∧ Below w.heap.size w wr) (fun c _ => n2 - (intOf c).toNat)
            case atStart => exact ⟨0, by omega, rfl, fun j c h => by omega, HB3.out⟩
            case round =>
              obtain ⟨i2, hi2, rfl, hall, hbr⟩ := hrel
              have HALL := Lib.hid hall
              clear hall
              by_cases hlt2 : i2 < n2
              · exact absurd hlt2 (by omega)
              · obtain rfl : i2 = n2 := by omega
                have hz : ¬ (i2 : Int) < (i2 : Int) := by omega
                obtain rfl : V = 0 := by
                  have e : asks.all askB = true := by
                    rw [List.all_eq_true]
                    intro p hp
                    obtain ⟨j, hj⟩ := List.mem_iff_getElem?.1 hp
                    exact HALL.out j p (by have := (List.getElem?_eq_some_iff.1 hj).1; have := HN2.out; omega) hj
                  have e1 := HY1.out
                  have g1 := HH1.out
                  have g2 := HH2.out
                  rw [HV.out, if_pos]
                  simp [e, e1]
                  try omega
                go_wp2_with fail
                go_ret
                exact ⟨rfl, hbr⟩
  · have a0 : ¬ (n1 : Int) < (least : Int) := by omega
    have a1 : ¬ (most : Int) < (n1 : Int) := by omega
    obtain ⟨t1, t2, t3⟩ := tl_em h2
    have HH1 := Lib.hid h0
    have HH2 := Lib.hid h1
    clear h0 h1
    refine wp_region_txt (KE w w.heap.size w1.heap.size wd (.slice A1 n1 c1) nm dt (.slice A2 n2 c2) least most false xd xa) (by kernel_rfl) (by kernel_rfl) (ke_drew KW.out) ?_
    repeat (first
      | (refine text_skip (by rfl) ?_; simp only [Act.put, List.setIfInBounds_toArray, List.set_cons_zero, List.set_cons_succ])
      | (refine text_pure (v := ?_) (by rfl) (fun wx hS => ?_) ?_; rotate_left; (go_simp; with_reducible exact rfl); simp only [Act.put, List.setIfInBounds_toArray, List.set_cons_zero, List.set_cons_succ])
      | (refine text_call (v := ?_) (f := ?_) (args := ?_) (by rfl) (fun wx hS => ?_) (fun wx hS => ?_) ?_; rotate_left 3; (go_simp; constructor <;> with_reducible rfl)
         (first
           | with_reducible exact meetsEq H2.out wx hS)
         simp only [Act.put, List.setIfInBounds_toArray, List.set_cons_zero, List.set_cons_succ]))
    refine text_nil (fun wx hS => ?_)
    have KX := Lib.hid hS
    clear hS KW a0 a1
    have KY0 := KX.out
    obtain ⟨⟨p0, p1, p2, p3, p4⟩, ⟨s0, s1, s2, s3, s4⟩, zb, zc, bx⟩ := KY0
    go_wp2_with fail
    refine (H3.out _).mono ?_
    rintro e3 w3 ⟨rfl, hb3⟩
    have KY := Lib.hid (ke_keeps _ _ KX.out hb3)
    clear hb3 p0 p1 p2 p3 p4 s0 s1 s2 s3 s4 zb zc bx KX H1 H2 H3 HK
    have hcase2 : bd = false ∨ (bd = true ∧ xd = false ∧ dt.data.toList ≠ []) ∨ (bd = true ∧ xd = true) ∨ (bd = true ∧ xd = false ∧ dt.data.toList = []) := by
      by_cases q : dt.data.toList = []
      all_goals cases bd <;> cases xd <;> simp [q]
    rcases hcase2 with rfl | ⟨rfl, rfl, k2⟩ | ⟨rfl, rfl⟩ | ⟨rfl, rfl, k2⟩
    · obtain rfl : V = 2 := by
        rw [HV.out, if_neg]
        simp
      obtain ⟨⟨p0, p1, p2, p3, p4⟩, ⟨s0, s1, s2, s3, s4⟩, zb, zc, b3⟩ := KY.out
      go_wp2_with fail
      go_ret
      exact ⟨rfl, b3⟩
    · obtain rfl : V = 2 := by
        rw [HV.out, if_neg]
        simp [k2]
      obtain ⟨⟨p0, p1, p2, p3, p4⟩, ⟨s0, s1, s2, s3, s4⟩, zb, zc, b3⟩ := KY.out
      obtain ⟨u1, u2, u3⟩ := tl_ne k2
      clear k2
      go_wp2_with fail
      go_ret
      exact ⟨rfl, b3⟩
    · obtain ⟨⟨p0, p1, p2, p3, p4⟩, ⟨s0, s1, s2, s3, s4⟩, zb, zc, b3⟩ := KY.out
      have hcase3 : (xa = true ∧ n2 = 0) ∨ (xa = true ∧ 64 < n2) ∨ (xa = false ∧ 0 < n2) ∨ (xa = true ∧ 0 < n2 ∧ n2 ≤ 64) ∨ (xa = false ∧ n2 = 0) := by
        cases xa <;> simp <;> omega
      rcases hcase3 with ⟨rfl, j1⟩ | ⟨rfl, j1⟩ | ⟨rfl, j1⟩ | ⟨rfl, j1, j2⟩ | ⟨rfl, j1⟩
      · obtain rfl : V = 2 := by
          rw [HV.out, if_neg]
          simp
          intros
          omega
        have o1 : ¬ (0 : Int) < (n2 : Int) := by omega
        go_wp2_with fail
        go_ret
        exact ⟨rfl, b3⟩
      · obtain rfl : V = 2 := by
          rw [HV.out, if_neg]
          simp
          intros
          omega
        have o1 : (0 : Int) < (n2 : Int) := by omega
        have o2 : (64 : Int) < (n2 : Int) := by omega
        go_wp2_with fail
        go_ret
        exact ⟨rfl, b3⟩
      · obtain rfl : V = 2 := by
          rw [HV.out, if_neg]
          simp
          intros
          omega
        have o1 : (0 : Int) < (n2 : Int) := by omega
        go_wp2_with fail
        go_ret
        exact ⟨rfl, b3⟩
      · have o1 : (0 : Int) < (n2 : Int) := by omega
        have o2 : ¬ (64 : Int) < (n2 : Int) := by omega
        have HW0 : Hid (V = if (nums.all numB && asks.all askB) = true then 0 else 2) := Lib.hid (by
          have g1 := HH1.out
          have g2 := HH2.out
          have g3 : decide (least ≤ n1) = true := decide_eq_true g1
          have g4 : decide (n1 ≤ most) = true := decide_eq_true g2
          have g5 : decide (n2 ≤ 64) = true := decide_eq_true (by omega)
          rw [HV.out, g3, g4]
          congr 2
          simp [h2]
          try omega)
        clear HV
        have HV := HW0
        clear HW0
        have hA3 := (HA.out.below b3)
        have hN3 := (HN.out.below b3)
        have HA3 := Lib.hid hA3
        have HN3 := Lib.hid hN3
        have HB3 := Lib.hid b3
        clear hA3 hN3 b3
        go_wp2_with fail
        go_loopw [83] (fun c wr => ∃ i : Nat, i ≤ n1 ∧ c = .int .i64 (i : Int) ∧ (∀ j p, j < i → nums[j]? = some p → numB p = true) ∧ w3 = wr) (fun c _ => n1 - (intOf c).toNat)
        case atStart => exact ⟨0, by omega, rfl, fun j c h => by omega, rfl⟩
        case round =>
          obtain ⟨i, hi, rfl, hall, rfl⟩ := hrel
          have HALL := Lib.hid hall
          clear hall
          by_cases hlt2 : i < n1
          · have hil : (i : Int) < (n1 : Int) := by omega
            obtain ⟨p, hp⟩ : ∃ p, nums[i]? = some p := ⟨_, List.getElem?_eq_getElem (by rw [← HN1.out]; exact hlt2)⟩
            obtain ⟨ad, rfl, -, hc⟩ := NumAt.get HN3.out hp
            have HP := Lib.hid hp
            clear hp
            by_cases hneg : p < 0
            · obtain rfl : V = 2 := by
                rw [HV.out, if_neg]
                have e : nums.all numB = false := by
                  rw [List.all_eq_false]
                  exact ⟨p, List.mem_of_getElem? HP.out, by unfold numB; simp; omega⟩
                simp [e]
              go_wp2_with fail
              go_ret
              exact ⟨rfl, HB3.out⟩
            by_cases hbig : 1099511627776 < p
            · obtain rfl : V = 2 := by
                rw [HV.out, if_neg]
                have e : nums.all numB = false := by
                  rw [List.all_eq_false]
                  exact ⟨p, List.mem_of_getElem? HP.out, by unfold numB; simp; omega⟩
                simp [e]
              go_wp2_with fail
              go_ret
              exact ⟨rfl, HB3.out⟩
            · go_wp2_with fail
              exact ⟨⟨i + 1, by omega, by go_num, fun j c' hj hc' => by
                by_cases hji : j = i
                · subst hji
                  have e := HP.out
                  rw [hc'] at e
                  cases e
                  unfold numB
                  simp
                  omega
                · exact HALL.out j c' (by omega) hc', by first | trivial | rfl⟩, by simp [intOf]; omega⟩
          · obtain rfl : i = n1 := by omega
            have hz : ¬ (i : Int) < (i : Int) := by omega
            have HY1 : Hid (nums.all numB = true) := Lib.hid (by
              rw [List.all_eq_true]
              intro p hp
              obtain ⟨j, hj⟩ := List.mem_iff_getElem?.1 hp
              exact HALL.out j p (by have := (List.getElem?_eq_some_iff.1 hj).1; have := HN1.out; omega) hj)
            clear HALL hlt2 hi
            go_wp2_with fail
            go_loopw [97] (fun c wr => ∃ i : Nat, i ≤ n2 ∧ c = .int .i64 (i : Int) ∧ (∀ j p, j < i → asks[j]? = some p → askB p = true) ∧ Below w.heap.size w wr) (fun c _ => n2 - (intOf c).toNat)
            case atStart => exact ⟨0, by omega, rfl, fun j c h => by omega, HB3.out⟩
            case round =>
              obtain ⟨i2, hi2, rfl, hall, hbr⟩ := hrel
              have HALL := Lib.hid hall
              clear hall
              by_cases hlt2 : i2 < n2
              · have hil : (i2 : Int) < (n2 : Int) := by omega
                obtain ⟨p, hp⟩ : ∃ p, asks[i2]? = some p := ⟨_, List.getElem?_eq_getElem (by rw [← HN2.out]; exact hlt2)⟩
                obtain ⟨ad, rfl, -, hc1, hc2⟩ := AskAt.get (HA.out.below hbr) hp
                have HP := Lib.hid hp
                have HBR := Lib.hid hbr
                clear hp hbr
                obtain ⟨pa, pb⟩ := p
                dsimp only at hc1 hc2
                have hbad : ¬ askB (pa, pb) = true → V = 2 := fun h => by
                  rw [HV.out, if_neg]
                  have e : asks.all askB = false := by
                    rw [List.all_eq_false]
                    exact ⟨(pa, pb), List.mem_of_getElem? HP.out, h⟩
                  simp [e]
                have HBAD := Lib.hid hbad
                clear hbad
                by_cases q1 : pa < 0
                · obtain rfl : V = 2 := HBAD.out (by unfold askB; simp <;> omega)
                  go_wp2_with fail
                  go_ret
                  exact ⟨rfl, bthen HBR.out (bnew _ _)⟩
                by_cases q2 : 4294967295 < pa
                · obtain rfl : V = 2 := HBAD.out (by unfold askB; simp <;> omega)
                  go_wp2_with fail
                  go_ret
                  exact ⟨rfl, bthen HBR.out (bnew _ _)⟩
                by_cases q3 : pb < 0
                · obtain rfl : V = 2 := HBAD.out (by unfold askB; simp <;> omega)
                  go_wp2_with fail
                  go_ret
                  exact ⟨rfl, bthen HBR.out (bnew _ _)⟩
                by_cases q4 : 4096 ≤ pb
                · obtain rfl : V = 2 := HBAD.out (by unfold askB; simp <;> omega)
                  go_wp2_with fail
                  go_ret
                  exact ⟨rfl, bthen HBR.out (bnew _ _)⟩
                · go_wp2_with fail
                  exact ⟨⟨i2 + 1, by omega, by go_num, fun j c' hj hc' => by
                    by_cases hji : j = i2
                    · subst hji
                      have e := HP.out
                      rw [hc'] at e
                      cases e
                      unfold askB
                      simp
                      omega
                    · exact HALL.out j c' (by omega) hc', bthen HBR.out (bnew _ _)⟩, by simp [intOf]; omega⟩
              · obtain rfl : i2 = n2 := by omega
                have hz : ¬ (i2 : Int) < (i2 : Int) := by omega
                obtain rfl : V = 0 := by
                  have e : asks.all askB = true := by
                    rw [List.all_eq_true]
                    intro p hp
                    obtain ⟨j, hj⟩ := List.mem_iff_getElem?.1 hp
                    exact HALL.out j p (by have := (List.getElem?_eq_some_iff.1 hj).1; have := HN2.out; omega) hj
                  have e1 := HY1.out
                  have g1 := HH1.out
                  have g2 := HH2.out
                  rw [HV.out, if_pos]
                  simp [e, e1]
                  try omega
                go_wp2_with fail
                go_ret
                exact ⟨rfl, hbr⟩
      · have o1 : ¬ (0 : Int) < (n2 : Int) := by omega
        have o2 : ¬ (64 : Int) < (n2 : Int) := by omega
        have HW0 : Hid (V = if (nums.all numB && asks.all askB) = true then 0 else 2) := Lib.hid (by
          have g1 := HH1.out
          have g2 := HH2.out
          have g3 : decide (least ≤ n1) = true := decide_eq_true g1
          have g4 : decide (n1 ≤ most) = true := decide_eq_true g2
          have g5 : decide (n2 ≤ 64) = true := decide_eq_true (by omega)
          rw [HV.out, g3, g4]
          congr 2
          simp [h2]
          try omega)
        clear HV
        have HV := HW0
        clear HW0
        have hA3 := (HA.out.below b3)
        have hN3 := (HN.out.below b3)
        have HA3 := Lib.hid hA3
        have HN3 := Lib.hid hN3
        have HB3 := Lib.hid b3
        clear hA3 hN3 b3
        go_wp2_with fail
        go_loopw [83] (fun c wr => ∃ i : Nat, i ≤ n1 ∧ c = .int .i64 (i : Int) ∧ (∀ j p, j < i → nums[j]? = some p → numB p = true) ∧ w3 = wr) (fun c _ => n1 - (intOf c).toNat)
        case atStart => exact ⟨0, by omega, rfl, fun j c h => by omega, rfl⟩
        case round =>
          obtain ⟨i, hi, rfl, hall, rfl⟩ := hrel
          have HALL := Lib.hid hall
          clear hall
          by_cases hlt2 : i < n1
          · have hil : (i : Int) < (n1 : Int) := by omega
            obtain ⟨p, hp⟩ : ∃ p, nums[i]? = some p := ⟨_, List.getElem?_eq_getElem (by rw [← HN1.out]; exact hlt2)⟩
            obtain ⟨ad, rfl, -, hc⟩ := NumAt.get HN3.out hp
            have HP := Lib.hid hp
            clear hp
            by_cases hneg : p < 0
            · obtain rfl : V = 2 := by
                rw [HV.out, if_neg]
                have e : nums.all numB = false := by
                  rw [List.all_eq_false]
                  exact ⟨p, List.mem_of_getElem? HP.out, by unfold numB; simp; omega⟩
                simp [e]
              go_wp2_with fail
              go_ret
              exact ⟨rfl, HB3.out⟩
            by_cases hbig : 1099511627776 < p
            · obtain rfl : V = 2 := by
                rw [HV.out, if_neg]
                have e : nums.all numB = false := by
                  rw [List.all_eq_false]
                  exact ⟨p, List.mem_of_getElem? HP.out, by unfold numB; simp; omega⟩
                simp [e]
              go_wp2_with fail
              go_ret
              exact ⟨rfl, HB3.out⟩
            · go_wp2_with fail
              exact ⟨⟨i + 1, by omega, by go_num, fun j c' hj hc' => by
                by_cases hji : j = i
                · subst hji
                  have e := HP.out
                  rw [hc'] at e
                  cases e
                  unfold numB
                  simp
                  omega
                · exact HALL.out j c' (by omega) hc', by first | trivial | rfl⟩, by simp [intOf]; omega⟩
          · obtain rfl : i = n1 := by omega
            have hz : ¬ (i : Int) < (i : Int) := by omega
            have HY1 : Hid (nums.all numB = true) := Lib.hid (by
              rw [List.all_eq_true]
              intro p hp
              obtain ⟨j, hj⟩ := List.mem_iff_getElem?.1 hp
              exact HALL.out j p (by have := (List.getElem?_eq_some_iff.1 hj).1; have := HN1.out; omega) hj)
            clear HALL hlt2 hi
            go_wp2_with fail
            go_loopw [97] (fun c wr => ∃ i : Nat, i ≤ n2 ∧ c = .int .i64 (i : Int) ∧ (∀ j p, j < i → asks[j]? = some p → askB p = true) ∧ Below w.heap.size w wr) (fun c _ => n2 - (intOf c).toNat)
            case atStart => exact ⟨0, by omega, rfl, fun j c h => by omega, HB3.out⟩
            case round =>
              obtain ⟨i2, hi2, rfl, hall, hbr⟩ := hrel
              have HALL := Lib.hid hall
              clear hall
              by_cases hlt2 : i2 < n2
              · exact absurd hlt2 (by omega)
              · obtain rfl : i2 = n2 := by omega
                have hz : ¬ (i2 : Int) < (i2 : Int) := by omega
                obtain rfl : V = 0 := by
                  have e : asks.all askB = true := by
                    rw [List.all_eq_true]
                    intro p hp
                    obtain ⟨j, hj⟩ := List.mem_iff_getElem?.1 hp
                    exact HALL.out j p (by have := (List.getElem?_eq_some_iff.1 hj).1; have := HN2.out; omega) hj
                  have e1 := HY1.out
                  have g1 := HH1.out
                  have g2 := HH2.out
                  rw [HV.out, if_pos]
                  simp [e, e1]
                  try omega
                go_wp2_with fail
                go_ret
                exact ⟨rfl, hbr⟩
    · obtain ⟨⟨p0, p1, p2, p3, p4⟩, ⟨s0, s1, s2, s3, s4⟩, zb, zc, b3⟩ := KY.out
      obtain ⟨u1, u2, u3⟩ := tl_em k2
      have K2 := Lib.hid k2
      clear k2
      have hcase3 : (xa = true ∧ n2 = 0) ∨ (xa = true ∧ 64 < n2) ∨ (xa = false ∧ 0 < n2) ∨ (xa = true ∧ 0 < n2 ∧ n2 ≤ 64) ∨ (xa = false ∧ n2 = 0) := by
        cases xa <;> simp <;> omega
      rcases hcase3 with ⟨rfl, j1⟩ | ⟨rfl, j1⟩ | ⟨rfl, j1⟩ | ⟨rfl, j1, j2⟩ | ⟨rfl, j1⟩
      · obtain rfl : V = 2 := by
          rw [HV.out, if_neg]
          simp
          intros
          omega
        have o1 : ¬ (0 : Int) < (n2 : Int) := by omega
        go_wp2_with fail
        go_ret
        exact ⟨rfl, b3⟩
      · obtain rfl : V = 2 := by
          rw [HV.out, if_neg]
          simp
          intros
          omega
        have o1 : (0 : Int) < (n2 : Int) := by omega
        have o2 : (64 : Int) < (n2 : Int) := by omega
        go_wp2_with fail
        go_ret
        exact ⟨rfl, b3⟩
      · obtain rfl : V = 2 := by
          rw [HV.out, if_neg]
          simp
          intros
          omega
        have o1 : (0 : Int) < (n2 : Int) := by omega
        go_wp2_with fail
        go_ret
        exact ⟨rfl, b3⟩
      · have o1 : (0 : Int) < (n2 : Int) := by omega
        have o2 : ¬ (64 : Int) < (n2 : Int) := by omega
        have k2 := K2.out
        have HW0 : Hid (V = if (nums.all numB && asks.all askB) = true then 0 else 2) := Lib.hid (by
          have g1 := HH1.out
          have g2 := HH2.out
          have g3 : decide (least ≤ n1) = true := decide_eq_true g1
          have g4 : decide (n1 ≤ most) = true := decide_eq_true g2
          have g5 : decide (n2 ≤ 64) = true := decide_eq_true (by omega)
          rw [HV.out, g3, g4]
          congr 2
          simp [k2, h2]
          try omega)
        clear HV k2
        have HV := HW0
        clear HW0
        have hA3 := (HA.out.below b3)
        have hN3 := (HN.out.below b3)
        have HA3 := Lib.hid hA3
        have HN3 := Lib.hid hN3
        have HB3 := Lib.hid b3
        clear hA3 hN3 b3
        go_wp2_with fail
        go_loopw [83] (fun c wr => ∃ i : Nat, i ≤ n1 ∧ c = .int .i64 (i : Int) ∧ (∀ j p, j < i → nums[j]? = some p → numB p = true) ∧ w3 = wr) (fun c _ => n1 - (intOf c).toNat)
        case atStart => exact ⟨0, by omega, rfl, fun j c h => by omega, rfl⟩
        case round =>
          obtain ⟨i, hi, rfl, hall, rfl⟩ := hrel
          have HALL := Lib.hid hall
          clear hall
          by_cases hlt2 : i < n1
          · have hil : (i : Int) < (n1 : Int) := by omega
            obtain ⟨p, hp⟩ : ∃ p, nums[i]? = some p := ⟨_, List.getElem?_eq_getElem (by rw [← HN1.out]; exact hlt2)⟩
            obtain ⟨ad, rfl, -, hc⟩ := NumAt.get HN3.out hp
            have HP := Lib.hid hp
            clear hp
            by_cases hneg : p < 0
            · obtain rfl : V = 2 := by
                rw [HV.out, if_neg]
                have e : nums.all numB = false := by
                  rw [List.all_eq_false]
                  exact ⟨p, List.mem_of_getElem? HP.out, by unfold numB; simp; omega⟩
                simp [e]
              go_wp2_with fail
              go_ret
              exact ⟨rfl, HB3.out⟩
            by_cases hbig : 1099511627776 < p
            · obtain rfl : V = 2 := by
                rw [HV.out, if_neg]
                have e : nums.all numB = false := by
                  rw [List.all_eq_false]
                  exact ⟨p, List.mem_of_getElem? HP.out, by unfold numB; simp; omega⟩
                simp [e]
              go_wp2_with fail
              go_ret
              exact ⟨rfl, HB3.out⟩
            · go_wp2_with fail
              exact ⟨⟨i + 1, by omega, by go_num, fun j c' hj hc' => by
                by_cases hji : j = i
                · subst hji
                  have e := HP.out
                  rw [hc'] at e
                  cases e
                  unfold numB
                  simp
                  omega
                · exact HALL.out j c' (by omega) hc', by first | trivial | rfl⟩, by simp [intOf]; omega⟩
          · obtain rfl : i = n1 := by omega
            have hz : ¬ (i : Int) < (i : Int) := by omega
            have HY1 : Hid (nums.all numB = true) := Lib.hid (by
              rw [List.all_eq_true]
              intro p hp
              obtain ⟨j, hj⟩ := List.mem_iff_getElem?.1 hp
              exact HALL.out j p (by have := (List.getElem?_eq_some_iff.1 hj).1; have := HN1.out; omega) hj)
            clear HALL hlt2 hi
            go_wp2_with fail
            go_loopw [97] (fun c wr => ∃ i : Nat, i ≤ n2 ∧ c = .int .i64 (i : Int) ∧ (∀ j p, j < i → asks[j]? = some p → askB p = true) ∧ Below w.heap.size w wr) (fun c _ => n2 - (intOf c).toNat)
            case atStart => exact ⟨0, by omega, rfl, fun j c h => by omega, HB3.out⟩
            case round =>
              obtain ⟨i2, hi2, rfl, hall, hbr⟩ := hrel
              have HALL := Lib.hid hall
              clear hall
              by_cases hlt2 : i2 < n2
              · have hil : (i2 : Int) < (n2 : Int) := by omega
                obtain ⟨p, hp⟩ : ∃ p, asks[i2]? = some p := ⟨_, List.getElem?_eq_getElem (by rw [← HN2.out]; exact hlt2)⟩
                obtain ⟨ad, rfl, -, hc1, hc2⟩ := AskAt.get (HA.out.below hbr) hp
                have HP := Lib.hid hp
                have HBR := Lib.hid hbr
                clear hp hbr
                obtain ⟨pa, pb⟩ := p
                dsimp only at hc1 hc2
                have hbad : ¬ askB (pa, pb) = true → V = 2 := fun h => by
                  rw [HV.out, if_neg]
                  have e : asks.all askB = false := by
                    rw [List.all_eq_false]
                    exact ⟨(pa, pb), List.mem_of_getElem? HP.out, h⟩
                  simp [e]
                have HBAD := Lib.hid hbad
                clear hbad
                by_cases q1 : pa < 0
                · obtain rfl : V = 2 := HBAD.out (by unfold askB; simp <;> omega)
                  go_wp2_with fail
                  go_ret
                  exact ⟨rfl, bthen HBR.out (bnew _ _)⟩
                by_cases q2 : 4294967295 < pa
                · obtain rfl : V = 2 := HBAD.out (by unfold askB; simp <;> omega)
                  go_wp2_with fail
                  go_ret
                  exact ⟨rfl, bthen HBR.out (bnew _ _)⟩
                by_cases q3 : pb < 0
                · obtain rfl : V = 2 := HBAD.out (by unfold askB; simp <;> omega)
                  go_wp2_with fail
                  go_ret
                  exact ⟨rfl, bthen HBR.out (bnew _ _)⟩
                by_cases q4 : 4096 ≤ pb
                · obtain rfl : V = 2 := HBAD.out (by unfold askB; simp <;> omega)
                  go_wp2_with fail
                  go_ret
                  exact ⟨rfl, bthen HBR.out (bnew _ _)⟩
                · go_wp2_with fail
                  exact ⟨⟨i2 + 1, by omega, by go_num, fun j c' hj hc' => by
                    by_cases hji : j = i2
                    · subst hji
                      have e := HP.out
                      rw [hc'] at e
                      cases e
                      unfold askB
                      simp
                      omega
                    · exact HALL.out j c' (by omega) hc', bthen HBR.out (bnew _ _)⟩, by simp [intOf]; omega⟩
              · obtain rfl : i2 = n2 := by omega
                have hz : ¬ (i2 : Int) < (i2 : Int) := by omega
                obtain rfl : V = 0 := by
                  have e : asks.all askB = true := by
                    rw [List.all_eq_true]
                    intro p hp
                    obtain ⟨j, hj⟩ := List.mem_iff_getElem?.1 hp
                    exact HALL.out j p (by have := (List.getElem?_eq_some_iff.1 hj).1; have := HN2.out; omega) hj
                  have e1 := HY1.out
                  have g1 := HH1.out
                  have g2 := HH2.out
                  rw [HV.out, if_pos]
                  simp [e, e1]
                  try omega
                go_wp2_with fail
                go_ret
                exact ⟨rfl, hbr⟩
      · have o1 : ¬ (0 : Int) < (n2 : Int) := by omega
        have o2 : ¬ (64 : Int) < (n2 : Int) := by omega
        have k2 := K2.out
        have HW0 : Hid (V = if (nums.all numB && asks.all askB) = true then 0 else 2) := Lib.hid (by
          have g1 := HH1.out
          have g2 := HH2.out
          have g3 : decide (least ≤ n1) = true := decide_eq_true g1
          have g4 : decide (n1 ≤ most) = true := decide_eq_true g2
          have g5 : decide (n2 ≤ 64) = true := decide_eq_true (by omega)
          rw [HV.out, g3, g4]
          congr 2
          simp [k2, h2]
          try omega)
        clear HV k2
        have HV := HW0
        clear HW0
        have hA3 := (HA.out.below b3)
        have hN3 := (HN.out.below b3)
        have HA3 := Lib.hid hA3
        have HN3 := Lib.hid hN3
        have HB3 := Lib.hid b3
        clear hA3 hN3 b3
        go_wp2_with fail
        go_loopw [83] (fun c wr => ∃ i : Nat, i ≤ n1 ∧ c = .int .i64 (i : Int) ∧ (∀ j p, j < i → nums[j]? = some p → numB p = true) ∧ w3 = wr) (fun c _ => n1 - (intOf c).toNat)
        case atStart => exact ⟨0, by omega, rfl, fun j c h => by omega, rfl⟩
        case round =>
          obtain ⟨i, hi, rfl, hall, rfl⟩ := hrel
          have HALL := Lib.hid hall
          clear hall
          by_cases hlt2 : i < n1
          · have hil : (i : Int) < (n1 : Int) := by omega
            obtain ⟨p, hp⟩ : ∃ p, nums[i]? = some p := ⟨_, List.getElem?_eq_getElem (by rw [← HN1.out]; exact hlt2)⟩
            obtain ⟨ad, rfl, -, hc⟩ := NumAt.get HN3.out hp
            have HP := Lib.hid hp
            clear hp
            by_cases hneg : p < 0
            · obtain rfl : V = 2 := by
                rw [HV.out, if_neg]
                have e : nums.all numB = false := by
                  rw [List.all_eq_false]
                  exact ⟨p, List.mem_of_getElem? HP.out, by unfold numB; simp; omega⟩
                simp [e]
              go_wp2_with fail
              go_ret
              exact ⟨rfl, HB3.out⟩
            by_cases hbig : 1099511627776 < p
            · obtain rfl : V = 2 := by
                rw [HV.out, if_neg]
                have e : nums.all numB = false := by
                  rw [List.all_eq_false]
                  exact ⟨p, List.mem_of_getElem? HP.out, by unfold numB; simp; omega⟩
                simp [e]
              go_wp2_with fail
              go_ret
              exact ⟨rfl, HB3.out⟩
            · go_wp2_with fail
              exact ⟨⟨i + 1, by omega, by go_num, fun j c' hj hc' => by
                by_cases hji : j = i
                · subst hji
                  have e := HP.out
                  rw [hc'] at e
                  cases e
                  unfold numB
                  simp
                  omega
                · exact HALL.out j c' (by omega) hc', by first | trivial | rfl⟩, by simp [intOf]; omega⟩
          · obtain rfl : i = n1 := by omega
            have hz : ¬ (i : Int) < (i : Int) := by omega
            have HY1 : Hid (nums.all numB = true) := Lib.hid (by
              rw [List.all_eq_true]
              intro p hp
              obtain ⟨j, hj⟩ := List.mem_iff_getElem?.1 hp
              exact HALL.out j p (by have := (List.getElem?_eq_some_iff.1 hj).1; have := HN1.out; omega) hj)
            clear HALL hlt2 hi
            go_wp2_with fail
            go_loopw [97] (fun c wr => ∃ i : Nat, i ≤ n2 ∧ c = .int .i64 (i : Int) ∧ (∀ j p, j < i → asks[j]? = some p → askB p = true) ∧ Below w.heap.size w wr) (fun c _ => n2 - (intOf c).toNat)
            case atStart => exact ⟨0, by omega, rfl, fun j c h => by omega, HB3.out⟩
            case round =>
              obtain ⟨i2, hi2, rfl, hall, hbr⟩ := hrel
              have HALL := Lib.hid hall
              clear hall
              by_cases hlt2 : i2 < n2
              · exact absurd hlt2 (by omega)
              · obtain rfl : i2 = n2 := by omega
                have hz : ¬ (i2 : Int) < (i2 : Int) := by omega
                obtain rfl : V = 0 := by
                  have e : asks.all askB = true := by
                    rw [List.all_eq_true]
                    intro p hp
                    obtain ⟨j, hj⟩ := List.mem_iff_getElem?.1 hp
                    exact HALL.out j p (by have := (List.getElem?_eq_some_iff.1 hj).1; have := HN2.out; omega) hj
                  have e1 := HY1.out
                  have g1 := HH1.out
                  have g2 := HH2.out
                  rw [HV.out, if_pos]
                  simp [e, e1]
                  try omega
                go_wp2_with fail
                go_ret
                exact ⟨rfl, hbr⟩
end Go.Proofs.YtdpfcjhhabcheaaDoor

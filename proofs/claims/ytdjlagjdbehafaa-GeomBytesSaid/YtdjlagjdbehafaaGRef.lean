/-
  The reference's Put and Take of a shape. No condition. Own work.
-/
import Derived.Test.YtdjlagjdbehafaaGTake2
namespace Go.Proofs.Ytdjlagjdbehafaa
open Go.RowKit

set_option maxHeartbeats 3200000 in
theorem rget4 (s : ByteArray) (h : s.data.toList.length = 4) (w : World) : Calls Try.prog 51 #[.string s] w fun e w' => e = .returned (.tuple #[.int .i64 ((gt s.data.toList : Nat) : Int), .int .i64 0]) ∧ w = w' := by
  obtain ⟨l, hl⟩ : ∃ l, l = s.data.toList := ⟨_, rfl⟩
  have hlt := gt_lt s.data.toList
  rw [h] at hlt
  have hn : s.size = l.length := by rw [hl]; simp
  have hidx : ∀ (i : Nat) (c : UInt8), l[i]? = some c → ∀ W, (Instr.index 9 (.string s) (.int .i64 (i : Int))).run Try.prog W = .ok (.int .u8 ((c.toNat : Nat) : Int)) W := fun i c h => str_idx s i c (by rw [← hl]; exact h)
  rw [← hl] at hlt h ⊢
  have HIX := Lib.hid hidx
  have hsz : (s.size : Int) = ((4 : Nat) : Int) := by omega
  have HN := Lib.hid h
  clear hl hidx h
  go_enter Try.func51, Try.ntmps51
  go_wp2_with fail
  go_loopw [4, 5] (fun nv c wr => ∃ i : Nat, i ≤ 4 ∧ c = .int .i64 (i : Int) ∧ nv = .int .i64 ((gt (l.take i) : Nat) : Int) ∧ w = wr) (fun _ c _ => 4 - (intOf c).toNat)
  case atStart => exact ⟨0, by omega, rfl, rfl, rfl⟩
  case round =>
    obtain ⟨i, hi, rfl, rfl, rfl⟩ := hrel
    by_cases hlt2 : i < 4
    · have hil : (i : Int) < ((4 : Nat) : Int) := by omega
      obtain ⟨c, hc⟩ : ∃ c, l[i]? = some c := ⟨_, List.getElem?_eq_getElem (by rw [HN.out]; exact hlt2)⟩
      have hix := HIX.out i c hc
      have hT : gt (l.take (i + 1)) = 256 * gt (l.take i) + c.toNat := by
        rw [List.take_add_one, hc]
        exact gt_snoc _ _
      have hle := gt_take_le l (i + 1)
      obtain ⟨m, hm⟩ : ∃ m, m = gt (l.take i) := ⟨_, rfl⟩
      rw [← hm] at hT ⊢
      rw [hT] at hle
      have hcl := c.toNat_lt
      have hsh : (256 : Int) * (m : Int) = ((256 * m : Nat) : Int) := by omega
      have hsw : wrap64 ((256 * m : Nat) : Int) = ((256 * m : Nat) : Int) := by unfold wrap64; omega
      have hcw := w64c c
      obtain ⟨q, hq⟩ : ∃ q, q = 256 * m := ⟨_, rfl⟩
      rw [← hq] at hsh hsw hT hle
      have had : (q : Int) + ((c.toNat : Nat) : Int) = ((q + c.toNat : Nat) : Int) := by omega
      have haw : wrap64 ((q + c.toNat : Nat) : Int) = ((q + c.toNat : Nat) : Int) := by unfold wrap64; omega
      obtain ⟨r, hr⟩ : ∃ r, r = q + c.toNat := ⟨_, rfl⟩
      rw [← hr] at had haw hT
      have HT := Lib.hid hT
      clear hT hm hq hr hc
      go_wp2_with fail
      exact ⟨⟨i + 1, by omega, by go_num, by rw [HT.out], by first | trivial | rfl⟩, by simp [intOf]; omega⟩
    · have hi2 : i = 4 := by omega
      subst hi2
      rw [List.take_of_length_le (by rw [HN.out]; exact Nat.le_refl _)]
      go_wp2_with fail
      go_ret2
      exact ⟨rfl, rfl⟩
/-- What the reference's Put gives. -/
def rgP (b l f : Int) : Value := if GOk b l f then .tuple #[.string ⟨(gB b.toNat l.toNat f.toNat).toArray⟩, .bool true] else .tuple #[.string ⟨#[]⟩, .bool false]
set_option maxHeartbeats 3200000 in
theorem rgput_any (b l f : Int) (w : World) : Calls Try.prog 38 #[GVal b l f] w fun e w' => e = .returned (rgP b l f) ∧ Below w.heap.size w w' := by
  have HR := Lib.hid (ref_right b l f)
  by_cases hg : GOk b l f
  · have e : rgP b l f = .tuple #[.string ⟨(gB b.toNat l.toNat f.toNat).toArray⟩, .bool true] := if_pos hg
    rw [e]
    obtain ⟨x, rfl⟩ : ∃ x : Nat, b = (x : Int) := ⟨b.toNat, by unfold GOk at hg; omega⟩
    obtain ⟨y, rfl⟩ : ∃ x : Nat, l = (x : Int) := ⟨l.toNat, by unfold GOk at hg; omega⟩
    obtain ⟨z, rfl⟩ : ∃ x : Nat, f = (x : Int) := ⟨f.toNat, by unfold GOk at hg; omega⟩
    simp only [Int.toNat_natCast]
    have hp : ∀ n : Nat, n < 4294967296 → Hid (∀ w, Calls Try.prog 49 #[.int .i64 (n : Int), .int .i64 4] w fun e w' => e = .returned (.tuple #[.string ⟨(be n 4).toArray⟩, .int .i64 0]) ∧ Below w.heap.size w w') := fun n hn => Lib.hid (by
      rcases rput4 (n : Int) (by omega) with ⟨m, e, _, h⟩ | ⟨h, _⟩
      · obtain rfl : n = m := by omega
        exact h
      · omega)
    have H1 := hp x (by unfold GOk at hg; omega)
    have H2 := hp y (by unfold GOk at hg; omega)
    have H3 := hp z (by unfold GOk at hg; omega)
    have hd : decide (GOk x y z) = true := decide_eq_true hg
    rw [hd] at HR
    have lx := be_len x 4
    have ly := be_len y 4
    have lz := be_len z 4
    obtain ⟨G, hG⟩ : ∃ G, G = gB x y z := ⟨_, rfl⟩
    rw [← hG]
    unfold gB at hG
    rw [List.append_nil, ← List.append_assoc] at hG
    generalize be x 4 = X at *
    generalize be y 4 = Y at *
    generalize be z 4 = Z at *
    have s1 : ∀ W, (Op.stringOp .add (⟨X.toArray⟩ : ByteArray) ⟨Y.toArray⟩).run Try.prog W = .ok (.string ⟨(X ++ Y).toArray⟩) W := fun W => by
      rw [← str_app]; exact run_string_add_sum W _ _ (by simp [ByteArray.size]; omega)
    have s2 : ∀ W, (Op.stringOp .add (⟨(X ++ Y).toArray⟩ : ByteArray) ⟨Z.toArray⟩).run Try.prog W = .ok (.string ⟨G.toArray⟩) W := fun W => by
      rw [hG, ← str_app]; exact run_string_add_sum W _ _ (by simp [ByteArray.size]; omega)
    generalize X ++ Y = XY at *
    clear lx ly lz hG hp hd hg e
    go_enter Try.func38, Try.ntmps38
    go_wp2_with fail
    refine (HR.out _).mono ?_
    rintro e1 w1 ⟨rfl, hb1⟩
    have b1 := bthen (bnew w (.cells #[.int .i64 (x : Int), .int .i64 (y : Int), .int .i64 (z : Int)] 23)) hb1
    have z1 := bsz hb1
    have c0 : w1.cell? ⟨w.heap.size, 0, none⟩ = some (.int .i64 (x : Int)) := (hb1.cell (p := ⟨w.heap.size, 0, none⟩) (by simp)).trans (by simp [go_sem])
    have c1 : w1.cell? ⟨w.heap.size, 1, none⟩ = some (.int .i64 (y : Int)) := (hb1.cell (p := ⟨w.heap.size, 1, none⟩) (by simp)).trans (by simp [go_sem])
    have c2 : w1.cell? ⟨w.heap.size, 2, none⟩ = some (.int .i64 (z : Int)) := (hb1.cell (p := ⟨w.heap.size, 2, none⟩) (by simp)).trans (by simp [go_sem])
    clear hb1
    go_wp2_with fail
    refine (H1.out _).mono ?_
    rintro e2 w2 ⟨rfl, hb2⟩
    have b2 := bthen b1 hb2
    have z2 : w.heap.size < w2.heap.size := Nat.lt_of_lt_of_le z1 hb2.size
    replace c1 := (hb2.cell (p := ⟨w.heap.size, 1, none⟩) z1).trans c1
    replace c2 := (hb2.cell (p := ⟨w.heap.size, 2, none⟩) z1).trans c2
    clear hb2 c0
    go_wp2_with fail
    refine (H2.out _).mono ?_
    rintro e3 w3 ⟨rfl, hb3⟩
    have b3 := bthen b2 hb3
    replace c2 := (hb3.cell (p := ⟨w.heap.size, 2, none⟩) z2).trans c2
    clear hb3 c1
    go_wp2_with fail
    refine (H3.out _).mono ?_
    rintro e4 w4 ⟨rfl, hb4⟩
    have b4 := bthen b3 hb4
    clear hb4 c2
    go_wp2_with fail
    go_ret2
    exact ⟨rfl, b4⟩
  · have e : rgP b l f = .tuple #[.string ⟨#[]⟩, .bool false] := if_neg hg
    rw [e]
    rw [decide_eq_false hg] at HR
    clear e hg
    go_enter Try.func38, Try.ntmps38
    go_wp2_with fail
    refine (HR.out _).mono ?_
    rintro e1 w1 ⟨rfl, hb1⟩
    have b1 := bthen (bnew w (.cells #[.int .i64 b, .int .i64 l, .int .i64 f] 23)) hb1
    clear hb1
    go_wp2_with fail
    go_ret2
    exact ⟨rfl, b1⟩
/-- What the reference's Take gives. -/
def rtR (l : List UInt8) : Value := if l.length = 12 ∧ GOk (t1 l) (t2 l) (t3 l) then .tuple #[GVal (t1 l) (t2 l) (t3 l), .bool true] else .tuple #[GVal 0 0 0, .bool false]
set_option maxHeartbeats 3200000 in
theorem rgtake_short (s : ByteArray) (h : s.size ≠ 12) (w : World) : Calls Try.prog 40 #[.string s] w fun e w' => e = .returned (.tuple #[GVal 0 0 0, .bool false]) ∧ Below w.heap.size w w' := by
  have h12 : ¬ ((s.size : Int) = 12) := by omega
  go_enter Try.func40, Try.ntmps40
  go_wp2_with fail
  (try simp only [Exit.inBlock, Exit.then])
  refine bodyPost_ret (v := .tuple #[GVal 0 0 0, .bool false]) ?_ rfl ⟨rfl, ?_⟩
  · rw [results_cell_tmp rfl]
    go_simp
  · exact bnew w _
set_option maxHeartbeats 3200000 in
theorem rgtake_long (s : ByteArray) (h : s.size = 12) (w : World) : Calls Try.prog 40 #[.string s] w fun e w' => e = .returned (rtR s.data.toList) ∧ Below w.heap.size w w' := by
  have hl : s.data.toList.length = 12 := by simpa using h
  have hres : rtR s.data.toList = if GOk (t1 s.data.toList) (t2 s.data.toList) (t3 s.data.toList) then .tuple #[GVal (t1 s.data.toList) (t2 s.data.toList) (t3 s.data.toList), .bool true] else .tuple #[GVal 0 0 0, .bool false] := by
    unfold rtR
    simp only [hl, true_and]
  rw [hres]
  clear hres
  have G1 := rget4 (s.extract 0 4) (by simp [h])
  have G2 := rget4 (s.extract 4 8) (by simp [h])
  have G3 := rget4 (s.extract 8 12) (by simp [h])
  have x1 : (s.extract 0 4).data.toList = s.data.toList.take 4 := by simp only [ByteArray.data_extract, Array.toList_extract, List.extract_eq_take_drop, Nat.sub_zero, List.drop_zero]
  have x2 : (s.extract 4 8).data.toList = (s.data.toList.drop 4).take 4 := by simp only [ByteArray.data_extract, Array.toList_extract, List.extract_eq_take_drop]
  have x3 : (s.extract 8 12).data.toList = (s.data.toList.drop 8).take 4 := by simp only [ByteArray.data_extract, Array.toList_extract, List.extract_eq_take_drop]
  rw [x1] at G1
  rw [x2] at G2
  rw [x3] at G3
  unfold t1 t2 t3
  generalize gt (s.data.toList.take 4) = n1 at *
  generalize gt ((s.data.toList.drop 4).take 4) = n2 at *
  generalize gt ((s.data.toList.drop 8).take 4) = n3 at *
  have HR := Lib.hid (ref_right n1 n2 n3)
  obtain ⟨V, hV⟩ : ∃ V : Value, V = if GOk n1 n2 n3 then .tuple #[GVal n1 n2 n3, .bool true] else .tuple #[GVal 0 0 0, .bool false] := ⟨_, rfl⟩
  rw [← hV]
  have HV := Lib.hid hV
  have H1 := Lib.hid G1
  have H2 := Lib.hid G2
  have H3 := Lib.hid G3
  have h12 : (s.size : Int) = 12 := by omega
  clear G1 G2 G3 x1 x2 x3 hl hV
  go_enter Try.func40, Try.ntmps40
  go_upto_region 1 with (fail)
  obtain ⟨W1, hW1⟩ : ∃ W1, W1 = w.alloc (.cells #[.int .i64 0, .int .i64 0, .int .i64 0] 23) := ⟨_, rfl⟩
  rw [← hW1]
  have r1 : W1.heap[w.heap.size]? = some (.cells #[.int .i64 0, .int .i64 0, .int .i64 0] 23 (0, 0)) := by rw [hW1]; exact heap_alloc_new w _
  have b1 : Below w.heap.size w W1 := by rw [hW1]; exact bnew w _
  have z1 : w.heap.size < W1.heap.size := by rw [hW1]; simp
  clear hW1
  go_wp2_with fail
  refine (H1.out _).mono ?_
  rintro e1 w1 ⟨rfl, rfl⟩
  go_wp2_with fail
  refine (H2.out _).mono ?_
  rintro e1 w1 ⟨rfl, rfl⟩
  go_wp2_with fail
  refine (H3.out _).mono ?_
  rintro e1 w1 ⟨rfl, rfl⟩
  go_wp2_with fail
  refine (HR.out _).mono ?_
  rintro e6 w6 ⟨rfl, hb6⟩
  have b5 : Below w.heap.size w (W1.alloc (.cells #[.int .i64 (n1 : Int), .int .i64 (n2 : Int), .int .i64 (n3 : Int)] 23)) := bthen b1 (bnew W1 _)
  have q5 : (W1.alloc (.cells #[.int .i64 (n1 : Int), .int .i64 (n2 : Int), .int .i64 (n3 : Int)] 23)).heap[W1.heap.size]? = some (.cells #[.int .i64 (n1 : Int), .int .i64 (n2 : Int), .int .i64 (n3 : Int)] 23 (0, 0)) := heap_alloc_new W1 _
  have r5 : (W1.alloc (.cells #[.int .i64 (n1 : Int), .int .i64 (n2 : Int), .int .i64 (n3 : Int)] 23)).heap[w.heap.size]? = some (.cells #[.int .i64 0, .int .i64 0, .int .i64 0] 23 (0, 0)) := ((bnew W1 _).block _ z1).trans r1
  have b6 : Below w.heap.size w w6 := bthen b5 hb6
  have q6 := (hb6.block W1.heap.size (by simp)).trans q5
  have r6 := (hb6.block w.heap.size (by simp; omega)).trans r5
  have q60 : w6.cell? ⟨W1.heap.size, 0, none⟩ = some (.int .i64 (n1 : Int)) := by rw [cell_of_row _ _ _ _ _ _ q6]; rfl
  have q61 : w6.cell? ⟨W1.heap.size, 1, none⟩ = some (.int .i64 (n2 : Int)) := by rw [cell_of_row _ _ _ _ _ _ q6]; rfl
  have q62 : w6.cell? ⟨W1.heap.size, 2, none⟩ = some (.int .i64 (n3 : Int)) := by rw [cell_of_row _ _ _ _ _ _ q6]; rfl
  have c0 : w6.cell? ⟨w.heap.size, 0, none⟩ = some (.int .i64 0) := by rw [cell_of_row _ _ _ _ _ _ r6]; rfl
  have c1 : w6.cell? ⟨w.heap.size, 1, none⟩ = some (.int .i64 0) := by rw [cell_of_row _ _ _ _ _ _ r6]; rfl
  have c2 : w6.cell? ⟨w.heap.size, 2, none⟩ = some (.int .i64 0) := by rw [cell_of_row _ _ _ _ _ _ r6]; rfl
  have f0 := frozen_of_row w6 w.heap.size 0 _ _ r6
  have f1 := frozen_of_row w6 w.heap.size 1 _ _ r6
  have f2 := frozen_of_row w6 w.heap.size 2 _ _ r6
  clear r5 q5 q6 r6 hb6 r1 b5 H1 H2 H3 HR
  by_cases hgok : GOk n1 n2 n3
  · have hV := HV.out
    rw [if_pos hgok] at hV
    subst hV
    rw [decide_eq_true hgok]
    clear HV
    go_wp2_with fail
    (try simp only [Exit.inBlock, Exit.then])
    refine bodyPost_ret (v := .tuple #[GVal n1 n2 n3, .bool true]) ?_ rfl ⟨rfl, ?_⟩
    · rw [results_cell_tmp rfl]
      go_simp
    · exact ((b6.setCell (Nat.le_refl _) _).setCell (Nat.le_refl _) _).setCell (Nat.le_refl _) _
  · have hV := HV.out
    rw [if_neg hgok] at hV
    subst hV
    rw [decide_eq_false hgok]
    clear HV
    go_wp2_with fail
    (try simp only [Exit.inBlock, Exit.then])
    refine bodyPost_ret (v := .tuple #[GVal 0 0 0, .bool false]) ?_ rfl ⟨rfl, ?_⟩
    · rw [results_cell_tmp rfl]
      go_simp
    · exact ((b6.setCell (Nat.le_refl _) _).setCell (Nat.le_refl _) _).setCell (Nat.le_refl _) _
theorem rgtake_any (s : ByteArray) (w : World) : Calls Try.prog 40 #[.string s] w fun e w' => e = .returned (rtR s.data.toList) ∧ Below w.heap.size w w' := by
  by_cases h : s.size = 12
  · exact rgtake_long s h w
  · have e : rtR s.data.toList = .tuple #[GVal 0 0 0, .bool false] := by
      unfold rtR
      rw [if_neg (fun ⟨h1, _⟩ => h (by simpa using h1))]
    rw [e]
    exact rgtake_short s h w
end Go.Proofs.Ytdjlagjdbehafaa

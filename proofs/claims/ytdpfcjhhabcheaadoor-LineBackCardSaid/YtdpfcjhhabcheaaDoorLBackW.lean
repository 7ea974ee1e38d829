/-
  The walk of LineBack. No condition. Own work.
-/
import Derived.Test.YtdpfcjhhabcheaaDoorFewE
namespace Go.Proofs.YtdpfcjhhabcheaaDoor
open Go Go.RowKit

/-- What an event that was parsed is: one that may be. -/
theorem parse_ok {ws : List (List UInt8)} {e : Ev} (h : parseW ws = some e) : evOk e = true := by
  have key : ∀ {wd nums nm dt asks is ws e}, pEnd wd nums nm dt asks is ws = some e → evOk e = true := fun {wd nums nm dt asks is ws e} h => by
    unfold pEnd at h
    split at h
    · rename_i hc
      cases h
      exact hc.2.2
    · cases h
  cases ws with
  | nil => cases h
  | cons x r =>
    unfold parseW pNums at h
    dsimp only at h
    split at h
    · cases h
    · split at h
      · unfold pName pData pAsks at h
        repeat' split at h
        all_goals exact key h
      · cases h
theorem parse_line (e : Ev) (h : evOk e = true) : parseW (wordsL (lineS e).data.toList) = some e := by
  rw [line_list, show_line e h, parse_show e h]
theorem words_line (sb : ByteArray) (e : Ev) (h : parseW (wordsL sb.data.toList) = some e) : wordsL (lineS e).data.toList = wordsL sb.data.toList := by
  rw [line_list, show_line e (parse_ok h)]
  exact show_parse _ (words_ne sb.data.toList) e h
theorem tab_b {w w' : World} (h : Tab w) (hb : Below w.heap.size w w') : Tab w' := h.below hb
set_option maxRecDepth 100000 in
set_option maxHeartbeats 6400000 in
theorem lback_nn (e : Ev) (v : Value) (sb : ByteArray) (hf : fewE e = true) (hsb : sb.size ≤ 2000) (hok : evOk e = false) (hp : parseW (wordsL sb.data.toList) = none) (w : World) (ht : Tab w) (hv : EvAt w w.heap.size e v) : Calls Tryd.prog 8 #[v, .string sb] w fun x w' => x = .returned (.bool true) ∧ Below w.heap.size w w' := by
  have HF : Hid (∀ W, Below w.heap.size w W → Calls Tryd.prog 20 #[v] W fun x w' => x = .returned (.bool true) ∧ Below W.heap.size W w') := Lib.hid fun W hb => by
    have h := few_any e v W ((hv.below hb).up hb.size)
    rw [hf] at h
    exact h
  have HAL := Lib.hid alive_any
  have hs := few_sizes hf
  have HSH : Hid (∀ W, Below w.heap.size w W → Calls Tryd.prog 22 #[v] W fun x w' => x = .returned (.tuple #[.string ⟨#[]⟩, .int .i64 2]) ∧ Below W.heap.size W w') := Lib.hid fun W hb =>
    show_no e v (by omega) (by omega) (by omega) hok W ((hv.below hb).up hb.size)
  have hP := parse_any sb (by omega)
  rw [hp] at hP
  have HP := Lib.hid hP
  clear hP hp
  have HTAB : Hid (∀ W, Below w.heap.size w W → Tab W) := Lib.hid fun W hb => tab_b ht hb
  have hnn : e.nums.length ≤ 200 ∧ e.asks.length ≤ 200 := by omega
  have HNN := Lib.hid hnn
  have HEV : Hid (∀ W, Below w.heap.size w W → EvAt W W.heap.size e v) := Lib.hid fun W hb => (hv.below hb).up hb.size
  obtain ⟨A1, c1, A2, c2, rfl, -, -⟩ := hv
  have hl2 : ¬ (2000 : Int) < (sb.size : Int) := by omega
  clear ht hs hf hok hsb hnn
  go_enter Tryd.func8, Tryd.ntmps8
  go_wp2_with fail
  refine (HF.out _ (bnew w _)).mono ?_
  rintro e1 w1 ⟨rfl, hb1⟩
  have F1 := Lib.hid (five_row ((hb1.block w.heap.size (by simp)).trans (heap_alloc_new w _)))
  have z1 := bsz hb1
  have B1 := Lib.hid (bthen (bnew w _) hb1)
  have f1 := F1.out
  obtain ⟨p0, p1, p2, p3, p4⟩ := f1
  clear hb1
  go_wp2_with fail
  refine (HSH.out _ B1.out).mono ?_
  rintro e2 w2 ⟨rfl, hb2⟩
  clear p0 p1 p2 p3 p4
  have f2 := five_below F1.out hb2 z1
  have F2 := Lib.hid f2
  obtain ⟨p0, p1, p2, p3, p4⟩ := f2
  have z2 : w.heap.size < w2.heap.size := Nat.lt_of_lt_of_le z1 hb2.size
  have B2 := Lib.hid (bthen B1.out hb2)
  clear hb2 B1 F1 z1
  clear p0 p1 p2 p3 p4 F2
  have B4 := B2
  go_wp2_with fail
  refine (HP.out _).mono ?_
  rintro e5 w5 ⟨rfl, hb5⟩
  have B5 := Lib.hid (bthen B4.out hb5)
  clear hb5 B4
  go_wp2_with fail
  refine (same_yes _ _ ev0 (by simp [ev0]) (by simp [ev0]) _ (EvAt.zero _ _) (EvAt.zero _ _)).mono ?_
  rintro e6 w6 ⟨rfl, hb6⟩
  have B6 := Lib.hid (bthen (bthen B5.out (bnew w5 _)) hb6)
  clear hb6 B5
  go_wp2_with fail
  refine (HAL.out _).mono ?_
  rintro e7 w7 ⟨rfl, hb7⟩
  go_wp2_with fail
  go_ret
  exact ⟨rfl, bthen B6.out hb7⟩
set_option maxRecDepth 100000 in
set_option maxHeartbeats 6400000 in
theorem lback_ny (e : Ev) (v : Value) (sb : ByteArray) (hf : fewE e = true) (hsb : sb.size ≤ 2000) (hok : evOk e = false) (x : Ev) (hp : parseW (wordsL sb.data.toList) = some x) (w : World) (ht : Tab w) (hv : EvAt w w.heap.size e v) : Calls Tryd.prog 8 #[v, .string sb] w fun x w' => x = .returned (.bool true) ∧ Below w.heap.size w w' := by
  have HF : Hid (∀ W, Below w.heap.size w W → Calls Tryd.prog 20 #[v] W fun x w' => x = .returned (.bool true) ∧ Below W.heap.size W w') := Lib.hid fun W hb => by
    have h := few_any e v W ((hv.below hb).up hb.size)
    rw [hf] at h
    exact h
  have HAL := Lib.hid alive_any
  have hs := few_sizes hf
  have HSH : Hid (∀ W, Below w.heap.size w W → Calls Tryd.prog 22 #[v] W fun x w' => x = .returned (.tuple #[.string ⟨#[]⟩, .int .i64 2]) ∧ Below W.heap.size W w') := Lib.hid fun W hb =>
    show_no e v (by omega) (by omega) (by omega) hok W ((hv.below hb).up hb.size)
  have HP := Lib.hid (parse_yes sb (by omega) x hp)
  have hokx := parse_ok hp
  have hwx := words_line sb x hp
  have HSX : Hid (∀ V W, Tab W → EvAt W W.heap.size x V → Calls Tryd.prog 22 #[V] W fun z w' => z = .returned (.tuple #[.string (lineS x), .int .i64 0]) ∧ Below W.heap.size W w') := Lib.hid fun V W h1 h2 => show_ok x V hokx W h1 h2
  have hW1 := words_any (lineS x) (by have := line_size x hokx; omega)
  rw [hwx] at hW1
  have HW1 := Lib.hid hW1
  have HW2 := Lib.hid (words_any sb (by omega))
  have hwl : (wordsL sb.data.toList).length ≤ 90000 := by have := words_len sb.data.toList; have := sz_list sb; omega
  have HWL := Lib.hid hwl
  generalize lineS x = LX at *
  clear hp hokx hwx hW1 hwl
  have HTAB : Hid (∀ W, Below w.heap.size w W → Tab W) := Lib.hid fun W hb => tab_b ht hb
  have hnn : e.nums.length ≤ 200 ∧ e.asks.length ≤ 200 := by omega
  have HNN := Lib.hid hnn
  have HEV : Hid (∀ W, Below w.heap.size w W → EvAt W W.heap.size e v) := Lib.hid fun W hb => (hv.below hb).up hb.size
  obtain ⟨A1, c1, A2, c2, rfl, -, -⟩ := hv
  have hl2 : ¬ (2000 : Int) < (sb.size : Int) := by omega
  clear ht hs hf hok hsb hnn
  go_enter Tryd.func8, Tryd.ntmps8
  go_wp2_with fail
  refine (HF.out _ (bnew w _)).mono ?_
  rintro e1 w1 ⟨rfl, hb1⟩
  have F1 := Lib.hid (five_row ((hb1.block w.heap.size (by simp)).trans (heap_alloc_new w _)))
  have z1 := bsz hb1
  have B1 := Lib.hid (bthen (bnew w _) hb1)
  have f1 := F1.out
  obtain ⟨p0, p1, p2, p3, p4⟩ := f1
  clear hb1
  go_wp2_with fail
  refine (HSH.out _ B1.out).mono ?_
  rintro e2 w2 ⟨rfl, hb2⟩
  clear p0 p1 p2 p3 p4
  have f2 := five_below F1.out hb2 z1
  have F2 := Lib.hid f2
  obtain ⟨p0, p1, p2, p3, p4⟩ := f2
  have z2 : w.heap.size < w2.heap.size := Nat.lt_of_lt_of_le z1 hb2.size
  have B2 := Lib.hid (bthen B1.out hb2)
  clear hb2 B1 F1 z1
  clear p0 p1 p2 p3 p4 F2
  have B4 := B2
  go_wp2_with fail
  refine (HP.out _).mono ?_
  rintro e5 w5 ⟨⟨V2, rfl, hev2⟩, hb5⟩
  obtain ⟨A5, c5, A6, c6, rfl, hN5, hA5⟩ := hev2
  have B5 := Lib.hid (bthen B4.out hb5)
  have HN5 := Lib.hid hN5
  have HA5 := Lib.hid hA5
  clear hb5 B4 hN5 hA5
  go_wp2_with fail
  refine (HSX.out _ _ (HTAB.out _ (bthen B5.out (bnew w5 _))) ⟨A5, c5, A6, c6, rfl, (HN5.out.below (bnew w5 _)).up (bnew w5 _).size, (HA5.out.below (bnew w5 _)).up (bnew w5 _).size⟩).mono ?_
  rintro e6 w6 ⟨rfl, hb6⟩
  have B6 := Lib.hid (bthen (bthen B5.out (bnew w5 _)) hb6)
  clear hb6 B5 HN5 HA5
  go_wp2_with fail
  refine (HW1.out _).mono ?_
  rintro e7 w7 ⟨⟨v7, rfl, hO7⟩, hb7⟩
  have B7 := Lib.hid (bthen B6.out hb7)
  have O7 := Lib.hid hO7
  clear hb7 B6 hO7
  go_wp2_with fail
  refine (HW2.out _).mono ?_
  rintro e8 w8 ⟨⟨v8, rfl, hO8⟩, hb8⟩
  have B8 := Lib.hid (bthen B7.out hb8)
  have hr7 := (O7.out.below hb8).rd
  have hr8 := hO8.rd
  have hT := texts_yes v7 v8 ((wordsL sb.data.toList).map fun l => ⟨l.toArray⟩) (by rw [List.length_map]; have := HWL.out; omega) w8 (by rw [List.map_map]; exact hr7) (by rw [List.map_map]; exact hr8)
  have HT := Lib.hid hT
  clear hT hr7 hr8 hO8 O7 hb8 B7
  go_wp2_with fail
  refine HT.out.mono ?_
  rintro e9 w9 ⟨rfl, hb9⟩
  have B9 := Lib.hid (bthen B8.out hb9)
  clear hb9 HT B8
  go_wp2_with fail
  refine (HAL.out _).mono ?_
  rintro e10 w10 ⟨rfl, hb10⟩
  go_wp2_with fail
  go_ret
  exact ⟨rfl, bthen B9.out hb10⟩
set_option maxRecDepth 100000 in
set_option maxHeartbeats 6400000 in
theorem lback_yn (e : Ev) (v : Value) (sb : ByteArray) (hf : fewE e = true) (hsb : sb.size ≤ 2000) (hok : evOk e = true) (hp : parseW (wordsL sb.data.toList) = none) (w : World) (ht : Tab w) (hv : EvAt w w.heap.size e v) : Calls Tryd.prog 8 #[v, .string sb] w fun x w' => x = .returned (.bool true) ∧ Below w.heap.size w w' := by
  have HF : Hid (∀ W, Below w.heap.size w W → Calls Tryd.prog 20 #[v] W fun x w' => x = .returned (.bool true) ∧ Below W.heap.size W w') := Lib.hid fun W hb => by
    have h := few_any e v W ((hv.below hb).up hb.size)
    rw [hf] at h
    exact h
  have HAL := Lib.hid alive_any
  have hs := few_sizes hf
  have HSH : Hid (∀ W, Below w.heap.size w W → Calls Tryd.prog 22 #[v] W fun x w' => x = .returned (.tuple #[.string (lineS e), .int .i64 0]) ∧ Below W.heap.size W w') := Lib.hid fun W hb =>
    show_ok e v hok W (tab_b ht hb) ((hv.below hb).up hb.size)
  have HPL := Lib.hid (parse_yes (lineS e) (by have := line_size e hok; omega) e (parse_line e hok))
  generalize lineS e = LS at *
  have hP := parse_any sb (by omega)
  rw [hp] at hP
  have HP := Lib.hid hP
  clear hP hp
  have HTAB : Hid (∀ W, Below w.heap.size w W → Tab W) := Lib.hid fun W hb => tab_b ht hb
  have hnn : e.nums.length ≤ 200 ∧ e.asks.length ≤ 200 := by omega
  have HNN := Lib.hid hnn
  have HEV : Hid (∀ W, Below w.heap.size w W → EvAt W W.heap.size e v) := Lib.hid fun W hb => (hv.below hb).up hb.size
  obtain ⟨A1, c1, A2, c2, rfl, -, -⟩ := hv
  have hl2 : ¬ (2000 : Int) < (sb.size : Int) := by omega
  clear ht hs hf hok hsb hnn
  go_enter Tryd.func8, Tryd.ntmps8
  go_wp2_with fail
  refine (HF.out _ (bnew w _)).mono ?_
  rintro e1 w1 ⟨rfl, hb1⟩
  have F1 := Lib.hid (five_row ((hb1.block w.heap.size (by simp)).trans (heap_alloc_new w _)))
  have z1 := bsz hb1
  have B1 := Lib.hid (bthen (bnew w _) hb1)
  have f1 := F1.out
  obtain ⟨p0, p1, p2, p3, p4⟩ := f1
  clear hb1
  go_wp2_with fail
  refine (HSH.out _ B1.out).mono ?_
  rintro e2 w2 ⟨rfl, hb2⟩
  clear p0 p1 p2 p3 p4
  have f2 := five_below F1.out hb2 z1
  have F2 := Lib.hid f2
  obtain ⟨p0, p1, p2, p3, p4⟩ := f2
  have z2 : w.heap.size < w2.heap.size := Nat.lt_of_lt_of_le z1 hb2.size
  have B2 := Lib.hid (bthen B1.out hb2)
  clear hb2 B1 F1 z1
  go_wp2_with fail
  refine (HPL.out _).mono ?_
  rintro e3 w3 ⟨⟨V1, rfl, hev1⟩, hb3⟩
  obtain ⟨A3, c3, A4, c4, rfl, hN3, hA3⟩ := hev1
  clear p0 p1 p2 p3 p4
  have f3 := five_below F2.out hb3 z2
  obtain ⟨p0, p1, p2, p3, p4⟩ := f3
  have z3 : w.heap.size < w3.heap.size := Nat.lt_of_lt_of_le z2 hb3.size
  have B3 := Lib.hid (bthen B2.out hb3)
  have HN3 := Lib.hid hN3
  have HA3 := Lib.hid hA3
  clear hb3 hN3 hA3 z2 F2 B2
  go_wp2_with fail
  refine (same_yes _ _ e (by have := HNN.out; omega) (by have := HNN.out; omega) _ ⟨A3, c3, A4, c4, rfl, (HN3.out.below (bnew w3 _)).up (bnew w3 _).size, (HA3.out.below (bnew w3 _)).up (bnew w3 _).size⟩ (HEV.out _ (bthen B3.out (bnew w3 _)))).mono ?_
  rintro e4 w4 ⟨rfl, hb4⟩
  have B4 := Lib.hid (bthen (bthen B3.out (bnew w3 _)) hb4)
  clear p0 p1 p2 p3 p4 hb4 B3 z3 HN3 HA3
  go_wp2_with fail
  refine (HP.out _).mono ?_
  rintro e5 w5 ⟨rfl, hb5⟩
  have B5 := Lib.hid (bthen B4.out hb5)
  clear hb5 B4
  go_wp2_with fail
  refine (same_yes _ _ ev0 (by simp [ev0]) (by simp [ev0]) _ (EvAt.zero _ _) (EvAt.zero _ _)).mono ?_
  rintro e6 w6 ⟨rfl, hb6⟩
  have B6 := Lib.hid (bthen (bthen B5.out (bnew w5 _)) hb6)
  clear hb6 B5
  go_wp2_with fail
  refine (HAL.out _).mono ?_
  rintro e7 w7 ⟨rfl, hb7⟩
  go_wp2_with fail
  go_ret
  exact ⟨rfl, bthen B6.out hb7⟩
set_option maxRecDepth 100000 in
set_option maxHeartbeats 6400000 in
theorem lback_yy (e : Ev) (v : Value) (sb : ByteArray) (hf : fewE e = true) (hsb : sb.size ≤ 2000) (hok : evOk e = true) (x : Ev) (hp : parseW (wordsL sb.data.toList) = some x) (w : World) (ht : Tab w) (hv : EvAt w w.heap.size e v) : Calls Tryd.prog 8 #[v, .string sb] w fun x w' => x = .returned (.bool true) ∧ Below w.heap.size w w' := by
  have HF : Hid (∀ W, Below w.heap.size w W → Calls Tryd.prog 20 #[v] W fun x w' => x = .returned (.bool true) ∧ Below W.heap.size W w') := Lib.hid fun W hb => by
    have h := few_any e v W ((hv.below hb).up hb.size)
    rw [hf] at h
    exact h
  have HAL := Lib.hid alive_any
  have hs := few_sizes hf
  have HSH : Hid (∀ W, Below w.heap.size w W → Calls Tryd.prog 22 #[v] W fun x w' => x = .returned (.tuple #[.string (lineS e), .int .i64 0]) ∧ Below W.heap.size W w') := Lib.hid fun W hb =>
    show_ok e v hok W (tab_b ht hb) ((hv.below hb).up hb.size)
  have HPL := Lib.hid (parse_yes (lineS e) (by have := line_size e hok; omega) e (parse_line e hok))
  generalize lineS e = LS at *
  have HP := Lib.hid (parse_yes sb (by omega) x hp)
  have hokx := parse_ok hp
  have hwx := words_line sb x hp
  have HSX : Hid (∀ V W, Tab W → EvAt W W.heap.size x V → Calls Tryd.prog 22 #[V] W fun z w' => z = .returned (.tuple #[.string (lineS x), .int .i64 0]) ∧ Below W.heap.size W w') := Lib.hid fun V W h1 h2 => show_ok x V hokx W h1 h2
  have hW1 := words_any (lineS x) (by have := line_size x hokx; omega)
  rw [hwx] at hW1
  have HW1 := Lib.hid hW1
  have HW2 := Lib.hid (words_any sb (by omega))
  have hwl : (wordsL sb.data.toList).length ≤ 90000 := by have := words_len sb.data.toList; have := sz_list sb; omega
  have HWL := Lib.hid hwl
  generalize lineS x = LX at *
  clear hp hokx hwx hW1 hwl
  have HTAB : Hid (∀ W, Below w.heap.size w W → Tab W) := Lib.hid fun W hb => tab_b ht hb
  have hnn : e.nums.length ≤ 200 ∧ e.asks.length ≤ 200 := by omega
  have HNN := Lib.hid hnn
  have HEV : Hid (∀ W, Below w.heap.size w W → EvAt W W.heap.size e v) := Lib.hid fun W hb => (hv.below hb).up hb.size
  obtain ⟨A1, c1, A2, c2, rfl, -, -⟩ := hv
  have hl2 : ¬ (2000 : Int) < (sb.size : Int) := by omega
  clear ht hs hf hok hsb hnn
  go_enter Tryd.func8, Tryd.ntmps8
  go_wp2_with fail
  refine (HF.out _ (bnew w _)).mono ?_
  rintro e1 w1 ⟨rfl, hb1⟩
  have F1 := Lib.hid (five_row ((hb1.block w.heap.size (by simp)).trans (heap_alloc_new w _)))
  have z1 := bsz hb1
  have B1 := Lib.hid (bthen (bnew w _) hb1)
  have f1 := F1.out
  obtain ⟨p0, p1, p2, p3, p4⟩ := f1
  clear hb1
  go_wp2_with fail
  refine (HSH.out _ B1.out).mono ?_
  rintro e2 w2 ⟨rfl, hb2⟩
  clear p0 p1 p2 p3 p4
  have f2 := five_below F1.out hb2 z1
  have F2 := Lib.hid f2
  obtain ⟨p0, p1, p2, p3, p4⟩ := f2
  have z2 : w.heap.size < w2.heap.size := Nat.lt_of_lt_of_le z1 hb2.size
  have B2 := Lib.hid (bthen B1.out hb2)
  clear hb2 B1 F1 z1
  go_wp2_with fail
  refine (HPL.out _).mono ?_
  rintro e3 w3 ⟨⟨V1, rfl, hev1⟩, hb3⟩
  obtain ⟨A3, c3, A4, c4, rfl, hN3, hA3⟩ := hev1
  clear p0 p1 p2 p3 p4
  have f3 := five_below F2.out hb3 z2
  obtain ⟨p0, p1, p2, p3, p4⟩ := f3
  have z3 : w.heap.size < w3.heap.size := Nat.lt_of_lt_of_le z2 hb3.size
  have B3 := Lib.hid (bthen B2.out hb3)
  have HN3 := Lib.hid hN3
  have HA3 := Lib.hid hA3
  clear hb3 hN3 hA3 z2 F2 B2
  go_wp2_with fail
  refine (same_yes _ _ e (by have := HNN.out; omega) (by have := HNN.out; omega) _ ⟨A3, c3, A4, c4, rfl, (HN3.out.below (bnew w3 _)).up (bnew w3 _).size, (HA3.out.below (bnew w3 _)).up (bnew w3 _).size⟩ (HEV.out _ (bthen B3.out (bnew w3 _)))).mono ?_
  rintro e4 w4 ⟨rfl, hb4⟩
  have B4 := Lib.hid (bthen (bthen B3.out (bnew w3 _)) hb4)
  clear p0 p1 p2 p3 p4 hb4 B3 z3 HN3 HA3
  go_wp2_with fail
  refine (HP.out _).mono ?_
  rintro e5 w5 ⟨⟨V2, rfl, hev2⟩, hb5⟩
  obtain ⟨A5, c5, A6, c6, rfl, hN5, hA5⟩ := hev2
  have B5 := Lib.hid (bthen B4.out hb5)
  have HN5 := Lib.hid hN5
  have HA5 := Lib.hid hA5
  clear hb5 B4 hN5 hA5
  go_wp2_with fail
  refine (HSX.out _ _ (HTAB.out _ (bthen B5.out (bnew w5 _))) ⟨A5, c5, A6, c6, rfl, (HN5.out.below (bnew w5 _)).up (bnew w5 _).size, (HA5.out.below (bnew w5 _)).up (bnew w5 _).size⟩).mono ?_
  rintro e6 w6 ⟨rfl, hb6⟩
  have B6 := Lib.hid (bthen (bthen B5.out (bnew w5 _)) hb6)
  clear hb6 B5 HN5 HA5
  go_wp2_with fail
  refine (HW1.out _).mono ?_
  rintro e7 w7 ⟨⟨v7, rfl, hO7⟩, hb7⟩
  have B7 := Lib.hid (bthen B6.out hb7)
  have O7 := Lib.hid hO7
  clear hb7 B6 hO7
  go_wp2_with fail
  refine (HW2.out _).mono ?_
  rintro e8 w8 ⟨⟨v8, rfl, hO8⟩, hb8⟩
  have B8 := Lib.hid (bthen B7.out hb8)
  have hr7 := (O7.out.below hb8).rd
  have hr8 := hO8.rd
  have hT := texts_yes v7 v8 ((wordsL sb.data.toList).map fun l => ⟨l.toArray⟩) (by rw [List.length_map]; have := HWL.out; omega) w8 (by rw [List.map_map]; exact hr7) (by rw [List.map_map]; exact hr8)
  have HT := Lib.hid hT
  clear hT hr7 hr8 hO8 O7 hb8 B7
  go_wp2_with fail
  refine HT.out.mono ?_
  rintro e9 w9 ⟨rfl, hb9⟩
  have B9 := Lib.hid (bthen B8.out hb9)
  clear hb9 HT B8
  go_wp2_with fail
  refine (HAL.out _).mono ?_
  rintro e10 w10 ⟨rfl, hb10⟩
  go_wp2_with fail
  go_ret
  exact ⟨rfl, bthen B9.out hb10⟩
set_option maxRecDepth 100000 in
set_option maxHeartbeats 6400000 in
theorem lback_many (e : Ev) (v : Value) (sb : ByteArray) (hf : fewE e = false) (w : World) (ht : Tab w) (hv : EvAt w w.heap.size e v) : Calls Tryd.prog 8 #[v, .string sb] w fun x w' => x = .returned (.bool true) ∧ Below w.heap.size w w' := by
  have HF : Hid (∀ W, Below w.heap.size w W → Calls Tryd.prog 20 #[v] W fun x w' => x = .returned (.bool false) ∧ Below W.heap.size W w') := Lib.hid fun W hb => by
    have h := few_any e v W ((hv.below hb).up hb.size)
    rw [hf] at h
    exact h
  have HAL := Lib.hid alive_any
  have _h := ht
  obtain ⟨A1, c1, A2, c2, rfl, -, -⟩ := hv
  clear hf
  go_enter Tryd.func8, Tryd.ntmps8
  go_wp2_with fail
  refine (HF.out _ (bnew w _)).mono ?_
  rintro e1 w1 ⟨rfl, hb1⟩
  have B1 := Lib.hid (bthen (bnew w _) hb1)
  clear hb1
  go_wp2_with fail
  refine (HAL.out _).mono ?_
  rintro e7 w7 ⟨rfl, hb7⟩
  have B7 := bthen B1.out hb7
  clear hb7
  go_wp2_with fail
  go_ret
  exact ⟨rfl, B7⟩
set_option maxRecDepth 100000 in
set_option maxHeartbeats 6400000 in
theorem lback_long (e : Ev) (v : Value) (sb : ByteArray) (hf : fewE e = true) (hsb : ¬ sb.size ≤ 2000) (w : World) (ht : Tab w) (hv : EvAt w w.heap.size e v) : Calls Tryd.prog 8 #[v, .string sb] w fun x w' => x = .returned (.bool true) ∧ Below w.heap.size w w' := by
  have HF : Hid (∀ W, Below w.heap.size w W → Calls Tryd.prog 20 #[v] W fun x w' => x = .returned (.bool true) ∧ Below W.heap.size W w') := Lib.hid fun W hb => by
    have h := few_any e v W ((hv.below hb).up hb.size)
    rw [hf] at h
    exact h
  have HAL := Lib.hid alive_any
  have _h := ht
  have hl2 : (2000 : Int) < (sb.size : Int) := by omega
  obtain ⟨A1, c1, A2, c2, rfl, -, -⟩ := hv
  clear hf
  go_enter Tryd.func8, Tryd.ntmps8
  go_wp2_with fail
  refine (HF.out _ (bnew w _)).mono ?_
  rintro e1 w1 ⟨rfl, hb1⟩
  have B1 := Lib.hid (bthen (bnew w _) hb1)
  clear hb1
  go_wp2_with fail
  refine (HAL.out _).mono ?_
  rintro e7 w7 ⟨rfl, hb7⟩
  have B7 := bthen B1.out hb7
  clear hb7
  go_wp2_with fail
  go_ret
  exact ⟨rfl, B7⟩
theorem lback_walk (e : Ev) (v : Value) (sb : ByteArray) (w : World) (ht : Tab w) (hv : EvAt w w.heap.size e v) : Calls Tryd.prog 8 #[v, .string sb] w fun x w' => x = .returned (.bool true) ∧ Below w.heap.size w w' := by
  cases hf : fewE e with
  | false => exact lback_many e v sb hf w ht hv
  | true =>
    by_cases hsb : sb.size ≤ 2000
    · cases hok : evOk e with
      | false =>
        cases hp : parseW (wordsL sb.data.toList) with
        | none => exact lback_nn e v sb hf hsb hok hp w ht hv
        | some x => exact lback_ny e v sb hf hsb hok x hp w ht hv
      | true =>
        cases hp : parseW (wordsL sb.data.toList) with
        | none => exact lback_yn e v sb hf hsb hok hp w ht hv
        | some x => exact lback_yy e v sb hf hsb hok x hp w ht hv
    · exact lback_long e v sb hf hsb w ht hv
end Go.Proofs.YtdpfcjhhabcheaaDoor

/-
  The contract of the reference's Right (may an event be?). No condition. Own work.
-/
import Derived.Test.YtdpfcjhhabcheaaDoorCheck
import Derived.Test.YtdpfcjhhabcheaaDoorRName
import Derived.Test.YtdpfcjhhabcheaaDoorParseP
namespace Go.Proofs.YtdpfcjhhabcheaaDoor
open Go Go.RowKit

set_option maxRecDepth 100000 in
set_option maxHeartbeats 6400000 in
theorem rright_none (e : Ev) (v : Value) (w : World) (hv : EvAt w w.heap.size e v) (ho : ofW e.word.toList = none) : Calls Tryd.prog 23 #[v] w fun x w' => x = .returned (.bool false) ∧ Below w.heap.size w w' := by
  obtain ⟨A1, c1, A2, c2, rfl, -, -⟩ := hv
  have h1 := kinds_any e.word
  rw [ho] at h1
  have H1 := Lib.hid h1
  clear h1 ho
  go_enter Tryd.func23, Tryd.ntmps23
  go_wp2_with fail
  refine (H1.out _).mono ?_
  rintro e1 w1 ⟨rfl, hb1⟩
  have b1 := bthen (bnew w _) hb1
  clear hb1
  dsimp only [kindV]
  go_wp2_with fail
  go_ret
  exact ⟨rfl, b1⟩
set_option maxRecDepth 100000 in
set_option maxHeartbeats 6400000 in
theorem rright_some (e : Ev) (v : Value) (s : Shp) (w : World) (hv : EvAt w w.heap.size e v) (ho : ofW e.word.toList = some s) (hn : e.nums.length ≤ 100000) (ha : e.asks.length ≤ 100000) (hm : e.name.size ≤ 100000) (hd : e.data.size ≤ 1000000) :
    Calls Tryd.prog 23 #[v] w fun x w' => x = .returned (.bool (evOk e)) ∧ Below w.heap.size w w' := by
  obtain ⟨A1, c1, A2, c2, rfl, hN, hA⟩ := hv
  obtain ⟨hl, hm2⟩ := of_bounds ho
  have hone := of_one ho
  have hE : evOk e = (chk1 s e && (chk2 s e && (e.nums.all numB && e.asks.all askB))) := by
    unfold evOk
    rw [ho]
    dsimp only
    rw [head_chk, Bool.and_assoc]
  rw [hE]
  have h1 := kinds_any e.word
  rw [ho] at h1
  have H1 := Lib.hid h1
  have h2 := rname_any e.name hm
  have h3 := rdata_any e.data hd
  have HN := Lib.hid hN
  have HA := Lib.hid hA
  clear h1 ho hE hN hA
  obtain ⟨V, hV⟩ : ∃ V : Bool, V = (chk1 s e && (chk2 s e && (e.nums.all numB && e.asks.all askB))) := ⟨_, rfl⟩
  rw [← hV]
  unfold chk1 chk2 at hV
  generalize nameL e.name.data.toList = bn at hV h2
  generalize dataB e.data.data.toList = bd at hV h3
  have H2 := Lib.hid h2
  have H3 := Lib.hid h3
  clear h2 h3
  obtain ⟨wd, nums, nm, dt, asks⟩ := e
  obtain ⟨least, most, xn, xd, xa⟩ := s
  dsimp only at *
  obtain ⟨n1, hn1⟩ : ∃ n1, n1 = nums.length := ⟨_, rfl⟩
  obtain ⟨n2, hn2⟩ : ∃ n2, n2 = asks.length := ⟨_, rfl⟩
  rw [← hn1] at hn hV ⊢
  rw [← hn2] at ha hV ⊢
  have HN1 := Lib.hid hn1
  have HN2 := Lib.hid hn2
  have HV := Lib.hid hV
  clear hn1 hn2 hV
  go_enter Tryd.func23, Tryd.ntmps23
  go_wp2_with fail
  refine (H1.out _).mono ?_
  rintro e1 w1 ⟨rfl, hb1⟩
  have b1 := bthen (bnew w _) hb1
  have z1 := bsz hb1
  have r1 := (hb1.block w.heap.size (by simp)).trans (heap_alloc_new w (.cells (ECells wd (.slice A1 n1 c1) nm dt (.slice A2 n2 c2)) 45))
  have f1 := five_row r1
  clear hb1 r1
  dsimp only [kindV]
  have HB1 := Lib.hid b1
  have hA3 := Lib.hid (HA.out.below b1)
  have hN3 := Lib.hid (HN.out.below b1)
  clear b1
  have hle0 : ¬ ((least : Nat) : Int) < 0 := by omega
  obtain ⟨p0, p1, p2, p3, p4⟩ := f1
  by_cases h0 : least ≤ n1
  · have a0 : ¬ (n1 : Int) < (least : Int) := by omega
    by_cases h1 : n1 ≤ most
    · have a1 : ¬ (most : Int) < (n1 : Int) := by omega
      rcases hone with ⟨rfl, rfl, rfl⟩ | ⟨rfl, rfl, rfl⟩ | ⟨rfl, rfl, rfl⟩ | ⟨rfl, rfl, rfl⟩
      · cases bn with
        | false =>
          obtain rfl : V = false := by
            rw [HV.out]
            simp
          go_wp2_with (first | ((with_reducible refine (H2.out _).mono ?_); rintro e2 w2 ⟨rfl, rfl⟩) | ((with_reducible refine (H3.out _).mono ?_); rintro e3 w3 ⟨rfl, rfl⟩))
          go_ret
          exact ⟨rfl, HB1.out⟩
        | true =>
          cases bd with
          | false =>
            obtain rfl : V = false := by
              rw [HV.out]
              simp
            go_wp2_with (first | ((with_reducible refine (H2.out _).mono ?_); rintro e2 w2 ⟨rfl, rfl⟩) | ((with_reducible refine (H3.out _).mono ?_); rintro e3 w3 ⟨rfl, rfl⟩))
            go_ret
            exact ⟨rfl, HB1.out⟩
          | true =>
            by_cases kdt : dt.data.toList = []
            · obtain ⟨u1, u2, u3⟩ := tl_em kdt
              by_cases j0 : n2 = 0
              · have o1 : ¬ (0 : Int) < (n2 : Int) := by omega
                have hw : Hid (V = (nums.all numB && asks.all askB)) := Lib.hid (by
                  rw [HV.out, decide_eq_true h0, decide_eq_true h1]
                  simp [kdt, j0])
                clear HV h0 h1 kdt
                have HV := hw
                clear hw
                go_wp2_with (first | ((with_reducible refine (H2.out _).mono ?_); rintro e2 w2 ⟨rfl, rfl⟩) | ((with_reducible refine (H3.out _).mono ?_); rintro e3 w3 ⟨rfl, rfl⟩))
                clear H1 H2 H3
                go_loopw [8] (fun c wr => ∃ i : Nat, i ≤ n1 ∧ c = .int .i64 (i : Int) ∧ (∀ j p, j < i → nums[j]? = some p → numB p = true) ∧ w1 = wr) (fun c _ => n1 - (intOf c).toNat)
                case atStart => exact ⟨0, by omega, rfl, fun j c h => by omega, rfl⟩
                case round =>
                  obtain ⟨i, hi, rfl, hall, rfl⟩ := hrel
                  have HALL := Lib.hid hall
                  clear hall
                  by_cases hlt2 : i < n1
                  · have hil : (i : Int) < (n1 : Int) := by omega
                    obtain ⟨p, hp⟩ : ∃ p, nums[i]? = some p := ⟨_, List.getElem?_eq_getElem (by rw [← HN1.out]; exact hlt2)⟩
                    obtain ⟨ad, rfl, -, hc⟩ := NumAt.get hN3.out hp
                    have HP := Lib.hid hp
                    clear hp
                    by_cases hneg : p < 0
                    · obtain rfl : V = false := by
                        have e : nums.all numB = false := by
                          rw [List.all_eq_false]
                          exact ⟨p, List.mem_of_getElem? HP.out, by unfold numB; simp; omega⟩
                        rw [HV.out, e, Bool.false_and]
                      go_wp2_with fail
                      go_ret
                      exact ⟨rfl, HB1.out⟩
                    by_cases hbig : 1099511627776 < p
                    · obtain rfl : V = false := by
                        have e : nums.all numB = false := by
                          rw [List.all_eq_false]
                          exact ⟨p, List.mem_of_getElem? HP.out, by unfold numB; simp; omega⟩
                        rw [HV.out, e, Bool.false_and]
                      go_wp2_with fail
                      go_ret
                      exact ⟨rfl, HB1.out⟩
                    · go_wp2_with fail
                      exact ⟨⟨i + 1, by omega, by go_num, fun j c' hj hc' => by
                        by_cases hji : j = i
                        · subst hji
                          have e := HP.out
                          rw [hc'] at e
                          cases e
                          unfold numB
                          simp
                          omega
                        · exact HALL.out j c' (by omega) hc', by first | trivial | rfl⟩, by simp [intOf]; omega⟩
                  · obtain rfl : i = n1 := by omega
                    have hz : ¬ (i : Int) < (i : Int) := by omega
                    have HY1 : Hid (nums.all numB = true) := Lib.hid (by
                      rw [List.all_eq_true]
                      intro p hp
                      obtain ⟨j, hj⟩ := List.mem_iff_getElem?.1 hp
                      exact HALL.out j p (by have := (List.getElem?_eq_some_iff.1 hj).1; have := HN1.out; omega) hj)
                    clear HALL hlt2 hi
                    have HP4 := Lib.hid p4
                    have HZ1 := Lib.hid z1
                    clear p4
                    go_wp2_with fail
                    go_loopw [9] (fun c wr => ∃ i : Nat, i ≤ n2 ∧ c = .int .i64 (i : Int) ∧ (∀ j p, j < i → asks[j]? = some p → askB p = true) ∧ Below w1.heap.size w1 wr) (fun c _ => n2 - (intOf c).toNat)
                    case atStart => exact ⟨0, by omega, rfl, fun j c h => by omega, Below.refl _ _⟩
                    case round =>
                      obtain ⟨i2, hi2, rfl, hall, hbr⟩ := hrel
                      have HALL := Lib.hid hall
                      have p4 := (hbr.cell (p := ⟨w.heap.size, 4, none⟩) HZ1.out).trans HP4.out
                      have zr : w.heap.size < wr.heap.size := Nat.lt_of_lt_of_le HZ1.out hbr.size
                      clear hall
                      by_cases hlt2 : i2 < n2
                      · exact absurd hlt2 (by omega)
                      · obtain rfl : i2 = n2 := by omega
                        have hz : ¬ (i2 : Int) < (i2 : Int) := by omega
                        obtain rfl : V = true := by
                          have e : asks.all askB = true := by
                            rw [List.all_eq_true]
                            intro p hp
                            obtain ⟨j, hj⟩ := List.mem_iff_getElem?.1 hp
                            exact HALL.out j p (by have := (List.getElem?_eq_some_iff.1 hj).1; have := HN2.out; omega) hj
                          rw [HV.out, HY1.out, e]
                          rfl
                        go_wp2_with fail
                        go_ret
                        exact ⟨rfl, bthen HB1.out hbr⟩
              · have o1 : (0 : Int) < (n2 : Int) := by omega
                obtain rfl : V = false := by
                  rw [HV.out]
                  simp [j0]
                go_wp2_with (first | ((with_reducible refine (H2.out _).mono ?_); rintro e2 w2 ⟨rfl, rfl⟩) | ((with_reducible refine (H3.out _).mono ?_); rintro e3 w3 ⟨rfl, rfl⟩))
                go_ret
                exact ⟨rfl, HB1.out⟩
            · obtain ⟨u1, u2, u3⟩ := tl_ne kdt
              obtain rfl : V = false := by
                rw [HV.out]
                simp [kdt]
              go_wp2_with (first | ((with_reducible refine (H2.out _).mono ?_); rintro e2 w2 ⟨rfl, rfl⟩) | ((with_reducible refine (H3.out _).mono ?_); rintro e3 w3 ⟨rfl, rfl⟩))
              go_ret
              exact ⟨rfl, HB1.out⟩
      · by_cases knm : nm.data.toList = []
        · obtain ⟨t1, t2, t3⟩ := tl_em knm
          cases bd with
          | false =>
            obtain rfl : V = false := by
              rw [HV.out]
              simp
            go_wp2_with (first | ((with_reducible refine (H2.out _).mono ?_); rintro e2 w2 ⟨rfl, rfl⟩) | ((with_reducible refine (H3.out _).mono ?_); rintro e3 w3 ⟨rfl, rfl⟩))
            go_ret
            exact ⟨rfl, HB1.out⟩
          | true =>
            by_cases j0 : n2 = 0
            · have o1 : ¬ (0 : Int) < (n2 : Int) := by omega
              have hw : Hid (V = (nums.all numB && asks.all askB)) := Lib.hid (by
                rw [HV.out, decide_eq_true h0, decide_eq_true h1]
                simp [knm, j0])
              clear HV h0 h1 knm
              have HV := hw
              clear hw
              go_wp2_with (first | ((with_reducible refine (H2.out _).mono ?_); rintro e2 w2 ⟨rfl, rfl⟩) | ((with_reducible refine (H3.out _).mono ?_); rintro e3 w3 ⟨rfl, rfl⟩))
              clear H1 H2 H3
              go_loopw [8] (fun c wr => ∃ i : Nat, i ≤ n1 ∧ c = .int .i64 (i : Int) ∧ (∀ j p, j < i → nums[j]? = some p → numB p = true) ∧ w1 = wr) (fun c _ => n1 - (intOf c).toNat)
              case atStart => exact ⟨0, by omega, rfl, fun j c h => by omega, rfl⟩
              case round =>
                obtain ⟨i, hi, rfl, hall, rfl⟩ := hrel
                have HALL := Lib.hid hall
                clear hall
                by_cases hlt2 : i < n1
                · have hil : (i : Int) < (n1 : Int) := by omega
                  obtain ⟨p, hp⟩ : ∃ p, nums[i]? = some p := ⟨_, List.getElem?_eq_getElem (by rw [← HN1.out]; exact hlt2)⟩
                  obtain ⟨ad, rfl, -, hc⟩ := NumAt.get hN3.out hp
                  have HP := Lib.hid hp
                  clear hp
                  by_cases hneg : p < 0
                  · obtain rfl : V = false := by
                      have e : nums.all numB = false := by
                        rw [List.all_eq_false]
                        exact ⟨p, List.mem_of_getElem? HP.out, by unfold numB; simp; omega⟩
                      rw [HV.out, e, Bool.false_and]
                    go_wp2_with fail
                    go_ret
                    exact ⟨rfl, HB1.out⟩
                  by_cases hbig : 1099511627776 < p
                  · obtain rfl : V = false := by
                      have e : nums.all numB = false := by
                        rw [List.all_eq_false]
                        exact ⟨p, List.mem_of_getElem? HP.out, by unfold numB; simp; omega⟩
                      rw [HV.out, e, Bool.false_and]
                    go_wp2_with fail
                    go_ret
                    exact ⟨rfl, HB1.out⟩
                  · go_wp2_with fail
                    exact ⟨⟨i + 1, by omega, by go_num, fun j c' hj hc' => by
                      by_cases hji : j = i
                      · subst hji
                        have e := HP.out
                        rw [hc'] at e
                        cases e
                        unfold numB
                        simp
                        omega
                      · exact HALL.out j c' (by omega) hc', by first | trivial | rfl⟩, by simp [intOf]; omega⟩
                · obtain rfl : i = n1 := by omega
                  have hz : ¬ (i : Int) < (i : Int) := by omega
                  have HY1 : Hid (nums.all numB = true) := Lib.hid (by
                    rw [List.all_eq_true]
                    intro p hp
                    obtain ⟨j, hj⟩ := List.mem_iff_getElem?.1 hp
                    exact HALL.out j p (by have := (List.getElem?_eq_some_iff.1 hj).1; have := HN1.out; omega) hj)
                  clear HALL hlt2 hi
                  have HP4 := Lib.hid p4
                  have HZ1 := Lib.hid z1
                  clear p4
                  go_wp2_with fail
                  go_loopw [9] (fun c wr => ∃ i : Nat, i ≤ n2 ∧ c = .int .i64 (i : Int) ∧ (∀ j p, j < i → asks[j]? = some p → askB p = true) ∧ Below w1.heap.size w1 wr) (fun c _ => n2 - (intOf c).toNat)
                  case atStart => exact ⟨0, by omega, rfl, fun j c h => by omega, Below.refl _ _⟩
                  case round =>
                    obtain ⟨i2, hi2, rfl, hall, hbr⟩ := hrel
                    have HALL := Lib.hid hall
                    have p4 := (hbr.cell (p := ⟨w.heap.size, 4, none⟩) HZ1.out).trans HP4.out
                    have zr : w.heap.size < wr.heap.size := Nat.lt_of_lt_of_le HZ1.out hbr.size
                    clear hall
                    by_cases hlt2 : i2 < n2
                    · exact absurd hlt2 (by omega)
                    · obtain rfl : i2 = n2 := by omega
                      have hz : ¬ (i2 : Int) < (i2 : Int) := by omega
                      obtain rfl : V = true := by
                        have e : asks.all askB = true := by
                          rw [List.all_eq_true]
                          intro p hp
                          obtain ⟨j, hj⟩ := List.mem_iff_getElem?.1 hp
                          exact HALL.out j p (by have := (List.getElem?_eq_some_iff.1 hj).1; have := HN2.out; omega) hj
                        rw [HV.out, HY1.out, e]
                        rfl
                      go_wp2_with fail
                      go_ret
                      exact ⟨rfl, bthen HB1.out hbr⟩
            · have o1 : (0 : Int) < (n2 : Int) := by omega
              obtain rfl : V = false := by
                rw [HV.out]
                simp [j0]
              go_wp2_with (first | ((with_reducible refine (H2.out _).mono ?_); rintro e2 w2 ⟨rfl, rfl⟩) | ((with_reducible refine (H3.out _).mono ?_); rintro e3 w3 ⟨rfl, rfl⟩))
              go_ret
              exact ⟨rfl, HB1.out⟩
        · obtain ⟨t1, t2, t3⟩ := tl_ne knm
          obtain rfl : V = false := by
            rw [HV.out]
            simp [knm]
          go_wp2_with (first | ((with_reducible refine (H2.out _).mono ?_); rintro e2 w2 ⟨rfl, rfl⟩) | ((with_reducible refine (H3.out _).mono ?_); rintro e3 w3 ⟨rfl, rfl⟩))
          go_ret
          exact ⟨rfl, HB1.out⟩
      · by_cases knm : nm.data.toList = []
        · obtain ⟨t1, t2, t3⟩ := tl_em knm
          cases bd with
          | false =>
            obtain rfl : V = false := by
              rw [HV.out]
              simp
            go_wp2_with (first | ((with_reducible refine (H2.out _).mono ?_); rintro e2 w2 ⟨rfl, rfl⟩) | ((with_reducible refine (H3.out _).mono ?_); rintro e3 w3 ⟨rfl, rfl⟩))
            go_ret
            exact ⟨rfl, HB1.out⟩
          | true =>
            by_cases kdt : dt.data.toList = []
            · obtain ⟨u1, u2, u3⟩ := tl_em kdt
              by_cases j0 : n2 = 0
              · have o1 : (n2 : Int) < 1 := by omega
                have o3 : ¬ (0 : Int) < (n2 : Int) := by omega
                obtain rfl : V = false := by
                  rw [HV.out]
                  simp [j0]
                go_wp2_with (first | ((with_reducible refine (H2.out _).mono ?_); rintro e2 w2 ⟨rfl, rfl⟩) | ((with_reducible refine (H3.out _).mono ?_); rintro e3 w3 ⟨rfl, rfl⟩))
                go_ret
                exact ⟨rfl, HB1.out⟩
              by_cases j1 : 64 < n2
              · have o1 : ¬ (n2 : Int) < 1 := by omega
                have o2 : (64 : Int) < (n2 : Int) := by omega
                obtain rfl : V = false := by
                  rw [HV.out]
                  simp; intros; omega
                go_wp2_with (first | ((with_reducible refine (H2.out _).mono ?_); rintro e2 w2 ⟨rfl, rfl⟩) | ((with_reducible refine (H3.out _).mono ?_); rintro e3 w3 ⟨rfl, rfl⟩))
                go_ret
                exact ⟨rfl, HB1.out⟩
              have o1 : ¬ (n2 : Int) < 1 := by omega
              have o2 : ¬ (64 : Int) < (n2 : Int) := by omega
              have d1 : 1 ≤ n2 := by omega
              have d2 : n2 ≤ 64 := by omega
              have hw : Hid (V = (nums.all numB && asks.all askB)) := Lib.hid (by
                rw [HV.out, decide_eq_true h0, decide_eq_true h1]
                simp [knm, kdt, d1, d2])
              clear HV h0 h1 knm kdt
              have HV := hw
              clear hw
              go_wp2_with (first | ((with_reducible refine (H2.out _).mono ?_); rintro e2 w2 ⟨rfl, rfl⟩) | ((with_reducible refine (H3.out _).mono ?_); rintro e3 w3 ⟨rfl, rfl⟩))
              clear H1 H2 H3
              go_loopw [8] (fun c wr => ∃ i : Nat, i ≤ n1 ∧ c = .int .i64 (i : Int) ∧ (∀ j p, j < i → nums[j]? = some p → numB p = true) ∧ w1 = wr) (fun c _ => n1 - (intOf c).toNat)
              case atStart => exact ⟨0, by omega, rfl, fun j c h => by omega, rfl⟩
              case round =>
                obtain ⟨i, hi, rfl, hall, rfl⟩ := hrel
                have HALL := Lib.hid hall
                clear hall
                by_cases hlt2 : i < n1
                · have hil : (i : Int) < (n1 : Int) := by omega
                  obtain ⟨p, hp⟩ : ∃ p, nums[i]? = some p := ⟨_, List.getElem?_eq_getElem (by rw [← HN1.out]; exact hlt2)⟩
                  obtain ⟨ad, rfl, -, hc⟩ := NumAt.get hN3.out hp
                  have HP := Lib.hid hp
                  clear hp
                  by_cases hneg : p < 0
                  · obtain rfl : V = false := by
                      have e : nums.all numB = false := by
                        rw [List.all_eq_false]
                        exact ⟨p, List.mem_of_getElem? HP.out, by unfold numB; simp; omega⟩
                      rw [HV.out, e, Bool.false_and]
                    go_wp2_with fail
                    go_ret
                    exact ⟨rfl, HB1.out⟩
                  by_cases hbig : 1099511627776 < p
                  · obtain rfl : V = false := by
                      have e : nums.all numB = false := by
                        rw [List.all_eq_false]
                        exact ⟨p, List.mem_of_getElem? HP.out, by unfold numB; simp; omega⟩
                      rw [HV.out, e, Bool.false_and]
                    go_wp2_with fail
                    go_ret
                    exact ⟨rfl, HB1.out⟩
                  · go_wp2_with fail
                    exact ⟨⟨i + 1, by omega, by go_num, fun j c' hj hc' => by
                      by_cases hji : j = i
                      · subst hji
                        have e := HP.out
                        rw [hc'] at e
                        cases e
                        unfold numB
                        simp
                        omega
                      · exact HALL.out j c' (by omega) hc', by first | trivial | rfl⟩, by simp [intOf]; omega⟩
                · obtain rfl : i = n1 := by omega
                  have hz : ¬ (i : Int) < (i : Int) := by omega
                  have HY1 : Hid (nums.all numB = true) := Lib.hid (by
                    rw [List.all_eq_true]
                    intro p hp
                    obtain ⟨j, hj⟩ := List.mem_iff_getElem?.1 hp
                    exact HALL.out j p (by have := (List.getElem?_eq_some_iff.1 hj).1; have := HN1.out; omega) hj)
                  clear HALL hlt2 hi
                  have HP4 := Lib.hid p4
                  have HZ1 := Lib.hid z1
                  clear p4
                  go_wp2_with fail
                  go_loopw [9] (fun c wr => ∃ i : Nat, i ≤ n2 ∧ c = .int .i64 (i : Int) ∧ (∀ j p, j < i → asks[j]? = some p → askB p = true) ∧ Below w1.heap.size w1 wr) (fun c _ => n2 - (intOf c).toNat)
                  case atStart => exact ⟨0, by omega, rfl, fun j c h => by omega, Below.refl _ _⟩
                  case round =>
                    obtain ⟨i2, hi2, rfl, hall, hbr⟩ := hrel
                    have HALL := Lib.hid hall
                    have p4 := (hbr.cell (p := ⟨w.heap.size, 4, none⟩) HZ1.out).trans HP4.out
                    have zr : w.heap.size < wr.heap.size := Nat.lt_of_lt_of_le HZ1.out hbr.size
                    clear hall
                    by_cases hlt2 : i2 < n2
                    · have hil : (i2 : Int) < (n2 : Int) := by omega
                      obtain ⟨p, hp⟩ : ∃ p, asks[i2]? = some p := ⟨_, List.getElem?_eq_getElem (by rw [← HN2.out]; exact hlt2)⟩
                      obtain ⟨ad, rfl, -, hc1, hc2⟩ := AskAt.get (hA3.out.below (hbr.mono (Nat.le_of_lt HZ1.out))) hp
                      have HP := Lib.hid hp
                      have HBR := Lib.hid hbr
                      clear hp hbr
                      obtain ⟨pa, pb⟩ := p
                      dsimp only at hc1 hc2
                      have hbad : ¬ askB (pa, pb) = true → V = false := fun h => by
                        have e : asks.all askB = false := by
                          rw [List.all_eq_false]
                          exact ⟨(pa, pb), List.mem_of_getElem? HP.out, h⟩
                        rw [HV.out, e, Bool.and_false]
                      have HBAD := Lib.hid hbad
                      clear hbad
                      by_cases q1 : pa < 0
                      · obtain rfl : V = false := HBAD.out (by unfold askB; simp <;> omega)
                        go_wp2_with fail
                        go_ret
                        exact ⟨rfl, bthen HB1.out (bthen HBR.out (bnew _ _))⟩
                      by_cases q2 : 4294967295 < pa
                      · obtain rfl : V = false := HBAD.out (by unfold askB; simp <;> omega)
                        go_wp2_with fail
                        go_ret
                        exact ⟨rfl, bthen HB1.out (bthen HBR.out (bnew _ _))⟩
                      by_cases q3 : pb < 0
                      · obtain rfl : V = false := HBAD.out (by unfold askB; simp <;> omega)
                        go_wp2_with fail
                        go_ret
                        exact ⟨rfl, bthen HB1.out (bthen HBR.out (bnew _ _))⟩
                      by_cases q4 : 4095 < pb
                      · obtain rfl : V = false := HBAD.out (by unfold askB; simp <;> omega)
                        go_wp2_with fail
                        go_ret
                        exact ⟨rfl, bthen HB1.out (bthen HBR.out (bnew _ _))⟩
                      go_wp2_with fail
                      exact ⟨⟨i2 + 1, by omega, by go_num, fun j c' hj hc' => by
                        by_cases hji : j = i2
                        · subst hji
                          have e := HP.out
                          rw [hc'] at e
                          cases e
                          unfold askB
                          simp
                          omega
                        · exact HALL.out j c' (by omega) hc', bthen HBR.out (bnew _ _)⟩, by simp [intOf]; omega⟩
                    · obtain rfl : i2 = n2 := by omega
                      have hz : ¬ (i2 : Int) < (i2 : Int) := by omega
                      obtain rfl : V = true := by
                        have e : asks.all askB = true := by
                          rw [List.all_eq_true]
                          intro p hp
                          obtain ⟨j, hj⟩ := List.mem_iff_getElem?.1 hp
                          exact HALL.out j p (by have := (List.getElem?_eq_some_iff.1 hj).1; have := HN2.out; omega) hj
                        rw [HV.out, HY1.out, e]
                        rfl
                      go_wp2_with fail
                      go_ret
                      exact ⟨rfl, bthen HB1.out hbr⟩
            · obtain ⟨u1, u2, u3⟩ := tl_ne kdt
              obtain rfl : V = false := by
                rw [HV.out]
                simp [kdt]
              go_wp2_with (first | ((with_reducible refine (H2.out _).mono ?_); rintro e2 w2 ⟨rfl, rfl⟩) | ((with_reducible refine (H3.out _).mono ?_); rintro e3 w3 ⟨rfl, rfl⟩))
              go_ret
              exact ⟨rfl, HB1.out⟩
        · obtain ⟨t1, t2, t3⟩ := tl_ne knm
          obtain rfl : V = false := by
            rw [HV.out]
            simp [knm]
          go_wp2_with (first | ((with_reducible refine (H2.out _).mono ?_); rintro e2 w2 ⟨rfl, rfl⟩) | ((with_reducible refine (H3.out _).mono ?_); rintro e3 w3 ⟨rfl, rfl⟩))
          go_ret
          exact ⟨rfl, HB1.out⟩
      · by_cases knm : nm.data.toList = []
        · obtain ⟨t1, t2, t3⟩ := tl_em knm
          cases bd with
          | false =>
            obtain rfl : V = false := by
              rw [HV.out]
              simp
            go_wp2_with (first | ((with_reducible refine (H2.out _).mono ?_); rintro e2 w2 ⟨rfl, rfl⟩) | ((with_reducible refine (H3.out _).mono ?_); rintro e3 w3 ⟨rfl, rfl⟩))
            go_ret
            exact ⟨rfl, HB1.out⟩
          | true =>
            by_cases kdt : dt.data.toList = []
            · obtain ⟨u1, u2, u3⟩ := tl_em kdt
              by_cases j0 : n2 = 0
              · have o1 : ¬ (0 : Int) < (n2 : Int) := by omega
                have hw : Hid (V = (nums.all numB && asks.all askB)) := Lib.hid (by
                  rw [HV.out, decide_eq_true h0, decide_eq_true h1]
                  simp [knm, kdt, j0])
                clear HV h0 h1 knm kdt
                have HV := hw
                clear hw
                go_wp2_with (first | ((with_reducible refine (H2.out _).mono ?_); rintro e2 w2 ⟨rfl, rfl⟩) | ((with_reducible refine (H3.out _).mono ?_); rintro e3 w3 ⟨rfl, rfl⟩))
                clear H1 H2 H3
                go_loopw [8] (fun c wr => ∃ i : Nat, i ≤ n1 ∧ c = .int .i64 (i : Int) ∧ (∀ j p, j < i → nums[j]? = some p → numB p = true) ∧ w1 = wr) (fun c _ => n1 - (intOf c).toNat)
                case atStart => exact ⟨0, by omega, rfl, fun j c h => by omega, rfl⟩
                case round =>
                  obtain ⟨i, hi, rfl, hall, rfl⟩ := hrel
                  have HALL := Lib.hid hall
                  clear hall
                  by_cases hlt2 : i < n1
                  · have hil : (i : Int) < (n1 : Int) := by omega
                    obtain ⟨p, hp⟩ : ∃ p, nums[i]? = some p := ⟨_, List.getElem?_eq_getElem (by rw [← HN1.out]; exact hlt2)⟩
                    obtain ⟨ad, rfl, -, hc⟩ := NumAt.get hN3.out hp
                    have HP := Lib.hid hp
                    clear hp
                    by_cases hneg : p < 0
                    · obtain rfl : V = false := by
                        have e : nums.all numB = false := by
                          rw [List.all_eq_false]
                          exact ⟨p, List.mem_of_getElem? HP.out, by unfold numB; simp; omega⟩
                        rw [HV.out, e, Bool.false_and]
                      go_wp2_with fail
                      go_ret
                      exact ⟨rfl, HB1.out⟩
                    by_cases hbig : 1099511627776 < p
                    · obtain rfl : V = false := by
                        have e : nums.all numB = false := by
                          rw [List.all_eq_false]
                          exact ⟨p, List.mem_of_getElem? HP.out, by unfold numB; simp; omega⟩
                        rw [HV.out, e, Bool.false_and]
                      go_wp2_with fail
                      go_ret
                      exact ⟨rfl, HB1.out⟩
                    · go_wp2_with fail
                      exact ⟨⟨i + 1, by omega, by go_num, fun j c' hj hc' => by
                        by_cases hji : j = i
                        · subst hji
                          have e := HP.out
                          rw [hc'] at e
                          cases e
                          unfold numB
                          simp
                          omega
                        · exact HALL.out j c' (by omega) hc', by first | trivial | rfl⟩, by simp [intOf]; omega⟩
                  · obtain rfl : i = n1 := by omega
                    have hz : ¬ (i : Int) < (i : Int) := by omega
                    have HY1 : Hid (nums.all numB = true) := Lib.hid (by
                      rw [List.all_eq_true]
                      intro p hp
                      obtain ⟨j, hj⟩ := List.mem_iff_getElem?.1 hp
                      exact HALL.out j p (by have := (List.getElem?_eq_some_iff.1 hj).1; have := HN1.out; omega) hj)
                    clear HALL hlt2 hi
                    have HP4 := Lib.hid p4
                    have HZ1 := Lib.hid z1
                    clear p4
                    go_wp2_with fail
                    go_loopw [9] (fun c wr => ∃ i : Nat, i ≤ n2 ∧ c = .int .i64 (i : Int) ∧ (∀ j p, j < i → asks[j]? = some p → askB p = true) ∧ Below w1.heap.size w1 wr) (fun c _ => n2 - (intOf c).toNat)
                    case atStart => exact ⟨0, by omega, rfl, fun j c h => by omega, Below.refl _ _⟩
                    case round =>
                      obtain ⟨i2, hi2, rfl, hall, hbr⟩ := hrel
                      have HALL := Lib.hid hall
                      have p4 := (hbr.cell (p := ⟨w.heap.size, 4, none⟩) HZ1.out).trans HP4.out
                      have zr : w.heap.size < wr.heap.size := Nat.lt_of_lt_of_le HZ1.out hbr.size
                      clear hall
                      by_cases hlt2 : i2 < n2
                      · exact absurd hlt2 (by omega)
                      · obtain rfl : i2 = n2 := by omega
                        have hz : ¬ (i2 : Int) < (i2 : Int) := by omega
                        obtain rfl : V = true := by
                          have e : asks.all askB = true := by
                            rw [List.all_eq_true]
                            intro p hp
                            obtain ⟨j, hj⟩ := List.mem_iff_getElem?.1 hp
                            exact HALL.out j p (by have := (List.getElem?_eq_some_iff.1 hj).1; have := HN2.out; omega) hj
                          rw [HV.out, HY1.out, e]
                          rfl
                        go_wp2_with fail
                        go_ret
                        exact ⟨rfl, bthen HB1.out hbr⟩
              · have o1 : (0 : Int) < (n2 : Int) := by omega
                obtain rfl : V = false := by
                  rw [HV.out]
                  simp [j0]
                go_wp2_with (first | ((with_reducible refine (H2.out _).mono ?_); rintro e2 w2 ⟨rfl, rfl⟩) | ((with_reducible refine (H3.out _).mono ?_); rintro e3 w3 ⟨rfl, rfl⟩))
                go_ret
                exact ⟨rfl, HB1.out⟩
            · obtain ⟨u1, u2, u3⟩ := tl_ne kdt
              obtain rfl : V = false := by
                rw [HV.out]
                simp [kdt]
              go_wp2_with (first | ((with_reducible refine (H2.out _).mono ?_); rintro e2 w2 ⟨rfl, rfl⟩) | ((with_reducible refine (H3.out _).mono ?_); rintro e3 w3 ⟨rfl, rfl⟩))
              go_ret
              exact ⟨rfl, HB1.out⟩
        · obtain ⟨t1, t2, t3⟩ := tl_ne knm
          obtain rfl : V = false := by
            rw [HV.out]
            simp [knm]
          go_wp2_with (first | ((with_reducible refine (H2.out _).mono ?_); rintro e2 w2 ⟨rfl, rfl⟩) | ((with_reducible refine (H3.out _).mono ?_); rintro e3 w3 ⟨rfl, rfl⟩))
          go_ret
          exact ⟨rfl, HB1.out⟩
    · have a1 : (most : Int) < (n1 : Int) := by omega
      obtain rfl : V = false := by
        rw [HV.out]
        simp [h1]
      go_wp2_with (first | ((with_reducible refine (H2.out _).mono ?_); rintro e2 w2 ⟨rfl, rfl⟩) | ((with_reducible refine (H3.out _).mono ?_); rintro e3 w3 ⟨rfl, rfl⟩))
      go_ret
      exact ⟨rfl, HB1.out⟩
  · have a0 : (n1 : Int) < (least : Int) := by omega
    obtain rfl : V = false := by
      rw [HV.out]
      simp [h0]
    go_wp2_with (first | ((with_reducible refine (H2.out _).mono ?_); rintro e2 w2 ⟨rfl, rfl⟩) | ((with_reducible refine (H3.out _).mono ?_); rintro e3 w3 ⟨rfl, rfl⟩))
    go_ret
    exact ⟨rfl, HB1.out⟩
theorem rright_any (e : Ev) (v : Value) (hn : e.nums.length ≤ 100000) (ha : e.asks.length ≤ 100000) (hm : e.name.size ≤ 100000) (hd : e.data.size ≤ 1000000) (w : World) (hv : EvAt w w.heap.size e v) :
    Calls Tryd.prog 23 #[v] w fun x w' => x = .returned (.bool (evOk e)) ∧ Below w.heap.size w w' := by
  cases ho : ofW e.word.toList with
  | none =>
    have : evOk e = false := by unfold evOk; rw [ho]
    rw [this]
    exact rright_none e v w hv ho
  | some s => exact rright_some e v s w hv ho hn ha hm hd
end Go.Proofs.YtdpfcjhhabcheaaDoor

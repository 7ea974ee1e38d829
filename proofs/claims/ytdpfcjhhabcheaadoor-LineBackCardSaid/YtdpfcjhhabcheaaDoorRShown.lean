/-
  The contract of the reference's Shown (an event's words) at an event that may be. No condition. Own work.
-/
import Derived.Test.YtdpfcjhhabcheaaDoorShowB
namespace Go.Proofs.YtdpfcjhhabcheaaDoor
open Go Go.RowKit

set_option maxRecDepth 100000 in
set_option maxHeartbeats 6400000 in
theorem rshown_any (e : Ev) (v : Value) (s : Shp) (XS : List ByteArray) (hn : e.nums.length ≤ 64) (ha : e.asks.length ≤ 64) (hnb : ∀ (j : Nat) (p : Int), e.nums[j]? = some p → 0 ≤ p ∧ p ≤ 1099511627776) (hab : ∀ (j : Nat) (p : Int × Int), e.asks[j]? = some p → (0 ≤ p.1 ∧ p.1 ≤ 4294967295) ∧ 0 ≤ p.2 ∧ p.2 ≤ 4095) (hza : s.asks = false → e.asks = [])
    (ho : ofW e.word.data.toList = some s) (hxs : (showW e).map baL = XS) (w : World) (hv : EvAt w w.heap.size e v) :
    Calls Tryd.prog 26 #[v] w fun x w' => ∃ v', x = .returned v' ∧ SlO 9 w.heap.size v' (XS.map Value.string) w' ∧ Below w.heap.size w w' := by
  have HO := Lib.hid (kinds_any e.word)
  have hone := of_one ho
  rw [showB_eq ho] at hxs
  rw [str_tl, ho] at HO
  obtain ⟨A1, c1, A2, c2, rfl, hN, hA⟩ := hv
  have HN := Lib.hid hN
  have HA := Lib.hid hA
  have HNB := Lib.hid hnb
  have HONE := Lib.hid hone
  have HAB := Lib.hid hab
  have HZA := Lib.hid hza
  have HXE := Lib.hid hxs.symm
  clear ho hN hA hnb hone hab hza hxs
  obtain ⟨wd, nums, nm, dt, asks⟩ := e
  dsimp only at *
  obtain ⟨n1, hn1⟩ : ∃ n1, n1 = nums.length := ⟨_, rfl⟩
  rw [← hn1] at hn ⊢
  have HN1 := Lib.hid hn1
  obtain ⟨n2, hn2⟩ : ∃ n2, n2 = asks.length := ⟨_, rfl⟩
  rw [← hn2] at ha ⊢
  have HN2 := Lib.hid hn2
  obtain ⟨L1, hL1⟩ : ∃ L1, L1 = wd :: nums.map fun n => decS n.toNat := ⟨_, rfl⟩
  rw [← hL1] at HXE
  have HL1 := Lib.hid hL1
  have hlen1 : L1.length ≤ 65 := by rw [hL1]; simp; omega
  have HLEN := Lib.hid hlen1
  clear hn1 hn2 hL1 hlen1
  have hn' : (n1 : Int) ≤ 64 := by omega
  have ha' : (n2 : Int) ≤ 64 := by omega
  go_enter Tryd.func26, Tryd.ntmps26
  go_wp2_with fail
  refine (HO.out _).mono ?_
  rintro e2 w2 ⟨rfl, hb2⟩
  dsimp only [kindV]
  have z2 := bsz hb2
  have f2 := five_row ((hb2.block w.heap.size (by simp)).trans (heap_alloc_new w _))
  have b2 := bthen (bnew w _) hb2
  have F2 := Lib.hid f2
  have HB2 := Lib.hid b2
  obtain ⟨p0, p1, p2, p3, p4⟩ := f2
  clear hb2 b2
  have S0 : Hid (SlO 9 w2.heap.size (.slice (some ⟨w2.heap.size, 0, none⟩) 1 1) (([wd] ++ (nums.take 0).map fun n => decS n.toNat).map Value.string) (w2.alloc (.cells #[.string wd] 9))) := Lib.hid (SlO.lit w2 9 [Value.string wd] (show 1 ≤ maxLen by decide))
  go_wp2_with fail
  clear p0 p1 p2 p3 p4
  go_loopw [8, 9] (fun l c wr => ∃ j : Nat, j ≤ n1 ∧ c = .int .i64 (j : Int) ∧ SlO 9 w2.heap.size l (([wd] ++ (nums.take j).map fun n => decS n.toNat).map Value.string) wr ∧ Below w2.heap.size w2 wr) (fun _ c _ => n1 - (intOf c).toNat)
  case atStart => exact ⟨0, by omega, rfl, S0.out, bnew _ _⟩
  case round =>
    obtain ⟨j, hj, rfl, hO, hbw⟩ := hrel
    have hq := five_below F2.out hbw z2
    obtain ⟨p0, p1, p2, p3, p4⟩ := hq
    by_cases hjn : j < n1
    · have hjj : (j : Int) < (n1 : Int) := by omega
      obtain ⟨p, hp⟩ : ∃ p, nums[j]? = some p := ⟨_, List.getElem?_eq_getElem (by rw [← HN1.out]; exact hjn)⟩
      obtain ⟨k1, k2⟩ := HNB.out j p hp
      obtain ⟨m, rfl⟩ : ∃ m : Nat, p = (m : Int) := ⟨p.toNat, by omega⟩
      obtain ⟨ad, rfl, -, hc⟩ := NumAt.get (HN.out.below (HB2.out.trans (hbw.mono (Nat.le_of_lt z2)))) hp
      have HIT := Lib.hid (rdig m (by omega) wr)
      have hlen : ([wd] ++ (nums.take j).map fun n => decS n.toNat).length = j + 1 := by simp; have := HN1.out; omega
      have HLENJ := Lib.hid hlen
      have HP := Lib.hid hp
      have HO1 := Lib.hid hO
      have HB := Lib.hid hbw
      clear k1 k2 hlen hp hO hbw p0 p2 p3 p4
      go_wp2_with fail
      refine HIT.out.mono ?_
      rintro e7 w7 ⟨rfl, hb7⟩
      have HO2 : Hid (SlO 9 w2.heap.size u8 (([wd] ++ (nums.take j).map fun n => decS n.toNat).map Value.string) (w7.alloc (.cells #[.string (decS m)] 9))) := Lib.hid ((HO1.out.below hb7).below (bnew w7 _))
      have HC2 : Hid (SlC w7.heap.size ([decS m].map Value.string) (w7.alloc (.cells #[.string (decS m)] 9))) := Lib.hid (SlC.lit w7 _ _)
      have HZ : Hid (w2.heap.size ≤ (w7.alloc (.cells #[.string (decS m)] 9)).heap.size) := Lib.hid (by have := HB.out.size; have := hb7.size; rw [size_alloc1]; omega)
      have HNL : Hid ((([wd] ++ (nums.take j).map fun n => decS n.toNat).map Value.string).length + [decS m].length ≤ 100000) := Lib.hid (by rw [List.length_map, HLENJ.out]; simp; omega)
      have HB7 := Lib.hid (bthen (bthen HB.out hb7) (bnew w7 (.cells #[.string (decS m)] 9)))
      clear hb7 hc p1
      go_wp2_with (at_builtin; refine wpList_pushS rfl _ _ rfl w2.heap.size _ (([wd] ++ (nums.take j).map fun n => decS n.toNat).map Value.string) rfl HO2.out w7.heap.size 1 1 [decS m] rfl HC2.out rfl HNL.out HZ.out ?_)
      intro v' w3 hO3 hg3 hB3
      have HO3 := Lib.hid hO3
      have HB3 := Lib.hid (HB7.out.trans hB3)
      clear hO3 hg3 hB3
      go_wp2_with fail
      exact ⟨⟨j + 1, by omega, by go_num, by rw [show nums.take (j + 1) = nums.take j ++ [(m : Int)] by rw [List.take_add_one, HP.out]; rfl]; simpa using HO3.out, HB3.out⟩, by simp [intOf]; omega⟩
    · obtain rfl : j = n1 := by omega
      rename World => wo
      have HB := Lib.hid hbw
      have HO1 : Hid (SlO 9 w2.heap.size u8 (L1.map Value.string) wo) := Lib.hid (by rw [HL1.out]; rw [List.take_of_length_le (by rw [← HN1.out]; exact Nat.le_refl _)] at hO; exact hO)
      clear hO hbw
      rcases HONE.out with hs | hs | hs | hs
      · obtain ⟨hs1, hs2, hs3⟩ := hs
        rw [hs1, hs2, hs3]
        have HXN : Hid (XS = L1 ++ [nm]) := Lib.hid (by rw [HXE.out]; simp [midW, hs1, HZA.out hs3, baL_get])
        have hzz : n2 = 0 := by rw [HN2.out, HZA.out hs3]; rfl
        subst hzz
        have hC2 : Hid (SlC wo.heap.size ([nm].map Value.string) (wo.alloc (.cells #[.string nm] 9))) := Lib.hid (SlC.lit wo _ _)
        have hO2 : Hid (SlO 9 w2.heap.size u8 (L1.map Value.string) (wo.alloc (.cells #[.string nm] 9))) := Lib.hid (HO1.out.below (bnew wo _))
        have HZ : Hid (w2.heap.size ≤ (wo.alloc (.cells #[.string nm] 9)).heap.size) := Lib.hid (by have := HB.out.size; rw [size_alloc1]; omega)
        have HNL : Hid ((L1.map Value.string).length + [nm].length ≤ 100000) := Lib.hid (by rw [List.length_map, List.length_singleton]; have := HLEN.out; omega)
        have HB7 : Hid (Below w2.heap.size w2 (wo.alloc (.cells #[.string nm] 9))) := Lib.hid (bthen HB.out (bnew wo _))
        go_wp2_with (at_builtin; refine wpList_pushS rfl _ _ rfl w2.heap.size _ (L1.map Value.string) rfl hO2.out wo.heap.size 1 1 [nm] rfl hC2.out rfl HNL.out HZ.out ?_)
        intro v' w3 hO3 hg3 hB3
        have HB3 : Hid (Below w2.heap.size w2 w3) := Lib.hid (HB7.out.trans hB3)
        have HO3 : Hid (SlO 9 w2.heap.size v' (XS.map Value.string) w3) := Lib.hid (by rw [HXN.out]; simpa using hO3)
        clear hO3 hg3 hB3 hC2 hO2 HZ HNL HB7 HO1
        clear p0 p1 p2 p3 p4
        have hp := five_below F2.out HB3.out z2
        obtain ⟨p0, p1, p2, p3, p4⟩ := hp
        clear p0 p1 p2
        go_wp2_with fail
        go_loopw [8, 10] (fun l c wr => v' = l ∧ c = .int .i64 0 ∧ w3 = wr) (fun _ _ _ => 0)
        case atStart => exact ⟨rfl, rfl, rfl⟩
        case round =>
          obtain ⟨rfl, rfl, rfl⟩ := hrel
          go_wp2_with fail
          go_ret
          exact ⟨v', rfl, HO3.out.up (Nat.le_of_lt z2), HB2.out.trans (HB3.out.mono (Nat.le_of_lt z2))⟩
      · obtain ⟨hs1, hs2, hs3⟩ := hs
        rw [hs1, hs2, hs3]
        have hzz : n2 = 0 := by rw [HN2.out, HZA.out hs3]; rfl
        subst hzz
        by_cases hd : dt.data.toList = []
        · obtain rfl := empty_of hd
          have HXN : Hid (XS = L1 ++ [(⟨#[45]⟩ : ByteArray)]) := Lib.hid (by rw [HXE.out]; simp [midW, hs1, hs2, HZA.out hs3, baL])
          have hC2 : Hid (SlC wo.heap.size ([(⟨#[45]⟩ : ByteArray)].map Value.string) (wo.alloc (.cells #[.string (⟨#[45]⟩ : ByteArray)] 9))) := Lib.hid (SlC.lit wo _ _)
          have hO2 : Hid (SlO 9 w2.heap.size u8 (L1.map Value.string) (wo.alloc (.cells #[.string (⟨#[45]⟩ : ByteArray)] 9))) := Lib.hid (HO1.out.below (bnew wo _))
          have HZ : Hid (w2.heap.size ≤ (wo.alloc (.cells #[.string (⟨#[45]⟩ : ByteArray)] 9)).heap.size) := Lib.hid (by have := HB.out.size; rw [size_alloc1]; omega)
          have HNL : Hid ((L1.map Value.string).length + [(⟨#[45]⟩ : ByteArray)].length ≤ 100000) := Lib.hid (by rw [List.length_map, List.length_singleton]; have := HLEN.out; omega)
          have HB7 : Hid (Below w2.heap.size w2 (wo.alloc (.cells #[.string (⟨#[45]⟩ : ByteArray)] 9))) := Lib.hid (bthen HB.out (bnew wo _))
          go_wp2_with (at_builtin; refine wpList_pushS rfl _ _ rfl w2.heap.size _ (L1.map Value.string) rfl hO2.out wo.heap.size 1 1 [(⟨#[45]⟩ : ByteArray)] rfl hC2.out rfl HNL.out HZ.out ?_)
          intro v' w3 hO3 hg3 hB3
          have HB3 : Hid (Below w2.heap.size w2 w3) := Lib.hid (HB7.out.trans hB3)
          have HO3 : Hid (SlO 9 w2.heap.size v' (XS.map Value.string) w3) := Lib.hid (by rw [HXN.out]; simpa using hO3)
          clear hO3 hg3 hB3 hC2 hO2 HZ HNL HB7 HO1
          clear p0 p1 p2 p3 p4
          have hp := five_below F2.out HB3.out z2
          obtain ⟨p0, p1, p2, p3, p4⟩ := hp
          clear p0 p1 p2
          go_wp2_with fail
          go_loopw [8, 10] (fun l c wr => v' = l ∧ c = .int .i64 0 ∧ w3 = wr) (fun _ _ _ => 0)
          case atStart => exact ⟨rfl, rfl, rfl⟩
          case round =>
            obtain ⟨rfl, rfl, rfl⟩ := hrel
            go_wp2_with fail
            go_ret
            exact ⟨v', rfl, HO3.out.up (Nat.le_of_lt z2), HB2.out.trans (HB3.out.mono (Nat.le_of_lt z2))⟩
        · have HXN : Hid (XS = L1 ++ [dt]) := Lib.hid (by rw [HXE.out]; simp [midW, hs1, hs2, HZA.out hs3, hd, baL_get])
          have d1 : ¬ dt.toList = [] := by rw [str_tl]; exact hd
          have d2 : (dt.toList == []) = false := by simpa using d1
          have d3 : dt.toList.isEmpty = false := by simpa using d1
          have hC2 : Hid (SlC wo.heap.size ([dt].map Value.string) (wo.alloc (.cells #[.string dt] 9))) := Lib.hid (SlC.lit wo _ _)
          have hO2 : Hid (SlO 9 w2.heap.size u8 (L1.map Value.string) (wo.alloc (.cells #[.string dt] 9))) := Lib.hid (HO1.out.below (bnew wo _))
          have HZ : Hid (w2.heap.size ≤ (wo.alloc (.cells #[.string dt] 9)).heap.size) := Lib.hid (by have := HB.out.size; rw [size_alloc1]; omega)
          have HNL : Hid ((L1.map Value.string).length + [dt].length ≤ 100000) := Lib.hid (by rw [List.length_map, List.length_singleton]; have := HLEN.out; omega)
          have HB7 : Hid (Below w2.heap.size w2 (wo.alloc (.cells #[.string dt] 9))) := Lib.hid (bthen HB.out (bnew wo _))
          go_wp2_with (at_builtin; refine wpList_pushS rfl _ _ rfl w2.heap.size _ (L1.map Value.string) rfl hO2.out wo.heap.size 1 1 [dt] rfl hC2.out rfl HNL.out HZ.out ?_)
          intro v' w3 hO3 hg3 hB3
          have HB3 : Hid (Below w2.heap.size w2 w3) := Lib.hid (HB7.out.trans hB3)
          have HO3 : Hid (SlO 9 w2.heap.size v' (XS.map Value.string) w3) := Lib.hid (by rw [HXN.out]; simpa using hO3)
          clear hO3 hg3 hB3 hC2 hO2 HZ HNL HB7 HO1
          clear p0 p1 p2 p3 p4
          have hp := five_below F2.out HB3.out z2
          obtain ⟨p0, p1, p2, p3, p4⟩ := hp
          clear p0 p1 p2
          go_wp2_with fail
          go_loopw [8, 10] (fun l c wr => v' = l ∧ c = .int .i64 0 ∧ w3 = wr) (fun _ _ _ => 0)
          case atStart => exact ⟨rfl, rfl, rfl⟩
          case round =>
            obtain ⟨rfl, rfl, rfl⟩ := hrel
            go_wp2_with fail
            go_ret
            exact ⟨v', rfl, HO3.out.up (Nat.le_of_lt z2), HB2.out.trans (HB3.out.mono (Nat.le_of_lt z2))⟩
      · obtain ⟨hs1, hs2, hs3⟩ := hs
        rw [hs1, hs2, hs3]
        have HXN : Hid (XS = L1 ++ asks.map askT) := Lib.hid (by rw [HXE.out]; simp [midW, hs1, hs2])
        go_wp2_with fail
        clear p0 p1 p2 p3 p4
        go_loopw [8, 10] (fun l c wr => ∃ i : Nat, i ≤ n2 ∧ c = .int .i64 (i : Int) ∧ SlO 9 w2.heap.size l ((L1 ++ (asks.take i).map askT).map Value.string) wr ∧ Below w2.heap.size w2 wr) (fun _ c _ => n2 - (intOf c).toNat)
        case atStart => exact ⟨0, by omega, rfl, by rw [List.take_zero, List.map_nil, List.append_nil]; exact HO1.out, HB.out⟩
        case round =>
          obtain ⟨i, hi, rfl, hO, hbw⟩ := hrel
          have hq := five_below F2.out hbw z2
          obtain ⟨p0, p1, p2, p3, p4⟩ := hq
          clear p0 p1 p2 p3
          by_cases hin : i < n2
          · have hii : (i : Int) < (n2 : Int) := by omega
            obtain ⟨⟨pa, pb⟩, hax⟩ : ∃ a, asks[i]? = some a := ⟨_, List.getElem?_eq_getElem (by rw [← HN2.out]; exact hin)⟩
            have hpp := HAB.out i (pa, pb) hax
            dsimp only at hpp
            obtain ⟨⟨k1, k2⟩, k3, k4⟩ := hpp
            obtain ⟨ad, rfl, had, ca, cb⟩ := AskAt.get (HA.out.below (HB2.out.trans (hbw.mono (Nat.le_of_lt z2)))) hax
            obtain ⟨m1, rfl⟩ : ∃ m : Nat, pa = (m : Int) := ⟨pa.toNat, by omega⟩
            obtain ⟨m2, rfl⟩ : ∃ m : Nat, pb = (m : Int) := ⟨pb.toNat, by omega⟩
            dsimp only at ca cb
            have HI1 := Lib.hid (rdig m1 (by omega))
            have HI2 := Lib.hid (rdig m2 (by omega))
            have hl1 := decS_len m1 (by omega)
            have hl2 := decS_len m2 (by omega)
            have htx := ask_text m1 m2
            generalize decS m1 = D1 at *
            generalize decS m2 = D2 at *
            obtain ⟨P1, e1, zz1, s1⟩ := add_mk D1 (⟨#[58]⟩ : ByteArray) 19 1 20 hl1 (Nat.le_refl _) (by decide) (by decide)
            obtain ⟨P2, e2, zz2, s2⟩ := add_mk P1 D2 20 19 39 zz1 hl2 (by decide) (by decide)
            have HTX : Hid (askT ((m1 : Int), (m2 : Int)) = P2) := Lib.hid (by rw [e2, e1]; exact htx)
            have hlen : (L1 ++ (asks.take i).map askT).length ≤ 130 := by have := HLEN.out; simp; omega
            have HLEN2 := Lib.hid hlen
            have HAX := Lib.hid hax
            have HK0 : Hid (KB w2 w2.heap.size w.heap.size ad (i * 2) n2 c2 (m1 : Int) (m2 : Int) u8 ((L1 ++ (asks.take i).map askT).map Value.string) wr) :=
              Lib.hid ⟨p4, ⟨ca, cb⟩, Nat.lt_of_lt_of_le z2 hbw.size, by rw [block_add']; exact Nat.lt_of_lt_of_le (Nat.lt_trans had z2) hbw.size, hO, hbw⟩
            clear k1 k2 k3 k4 hl1 hl2 htx e1 e2 zz1 zz2 hlen hax hO hbw had
            have HK : Hid (Keeps (KB w2 w2.heap.size w.heap.size ad (i * 2) n2 c2 (m1 : Int) (m2 : Int) u8 ((L1 ++ (asks.take i).map askT).map Value.string))) := Lib.hid kb
            have HCUR : Hid (KB w2 w2.heap.size w.heap.size ad (i * 2) n2 c2 (m1 : Int) (m2 : Int) u8 ((L1 ++ (asks.take i).map askT).map Value.string) wr.drew) := Lib.hid (by obtain ⟨a1, a2, a3, a4, a5, a6⟩ := HK0.out; exact ⟨a1, a2, a3, a4, a5, a6.drew⟩)
            go_upto_region 16 with (fail)
            go_region_law (first
              | (refine step_pushS1 rfl (.tmp 72) (.tmp 89) rfl w2.heap.size u8 ((L1 ++ (asks.take i).map askT).map Value.string) rfl ?hO wz.heap.size 1 P2 rfl ?hS ?hl ?hB ?_
                 case hO => exact HCUR.out.2.2.2.2.1.below (bnew wz _)
                 case hS => exact SlC.lit wz _ _
                 case hl => rw [List.length_map]; have := HLEN2.out; omega
                 case hB => rw [size_alloc1]; exact Nat.le_succ_of_le HCUR.out.2.2.2.2.2.size
                 intro v' w3 hO3 hg3 hB3
                 have HB3 : Hid (Below w2.heap.size w2 w3) := Lib.hid ((bthen HCUR.out.2.2.2.2.2 (bnew wz _)).trans hB3)
                 have HO3 := Lib.hid hO3
                 clear hO3 hg3 hB3)
              | (go_simp; go_at_call 41
                 first
                   | (with_reducible (refine (meets HK.out HI1.out _ HCUR.out).mono ?_))
                   | (with_reducible (refine (meets HK.out HI2.out _ HCUR.out).mono ?_))
                 rintro ez wz ⟨rfl, hz⟩
                 have HCUR := Lib.hid hz
                 obtain ⟨p4, ⟨ca, cb⟩, -⟩ := hz))
            all_goals clear p4 ca cb s1 s2 HI1 HI2 HK HCUR
            all_goals go_wp2_with fail
            all_goals exact ⟨⟨i + 1, by omega, by go_num, by rw [show L1 ++ (asks.take (i + 1)).map askT = (L1 ++ (asks.take i).map askT) ++ [P2] by rw [List.take_add_one, HAX.out, List.map_append, ← List.append_assoc]; exact congrArg (fun x => L1 ++ (asks.take i).map askT ++ [x]) HTX.out, List.map_append]; exact HO3.out, HB3.out⟩, by simp [intOf]; omega⟩
          · obtain rfl : i = n2 := by omega
            have HO3 : Hid (SlO 9 w2.heap.size u8 (XS.map Value.string) wr) := Lib.hid (by rw [HXN.out]; rw [List.take_of_length_le (by rw [← HN2.out]; exact Nat.le_refl _)] at hO; exact hO)
            have HB3 := Lib.hid hbw
            clear hO hbw
            go_wp2_with fail
            go_ret
            exact ⟨u8, rfl, HO3.out.up (Nat.le_of_lt z2), HB2.out.trans (HB3.out.mono (Nat.le_of_lt z2))⟩
      · obtain ⟨hs1, hs2, hs3⟩ := hs
        rw [hs1, hs2, hs3]
        have HXN : Hid (XS = L1) := Lib.hid (by rw [HXE.out]; simp [midW, hs1, hs2, HZA.out hs3])
        have hzz : n2 = 0 := by rw [HN2.out, HZA.out hs3]; rfl
        subst hzz
        have HO3 : Hid (SlO 9 w2.heap.size u8 (XS.map Value.string) wo) := Lib.hid (by rw [HXN.out]; exact HO1.out)
        have HB3 := HB
        clear p0 p1 p2 p3 p4
        have hp := five_below F2.out HB3.out z2
        obtain ⟨p0, p1, p2, p3, p4⟩ := hp
        clear p0 p2
        go_wp2_with fail
        go_loopw [8, 10] (fun l c wr => u8 = l ∧ c = .int .i64 0 ∧ wo = wr) (fun _ _ _ => 0)
        case atStart => exact ⟨rfl, rfl, rfl⟩
        case round =>
          obtain ⟨rfl, rfl, rfl⟩ := hrel
          go_wp2_with fail
          go_ret
          exact ⟨u8, rfl, HO3.out.up (Nat.le_of_lt z2), HB2.out.trans (HB3.out.mono (Nat.le_of_lt z2))⟩
end Go.Proofs.YtdpfcjhhabcheaaDoor

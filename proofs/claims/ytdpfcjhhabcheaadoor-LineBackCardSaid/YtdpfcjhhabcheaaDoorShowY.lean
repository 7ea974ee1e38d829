/-
  The contract of line.Show at an event that may be (under way). No condition. Own work.
-/
import Derived.Test.YtdpfcjhhabcheaaDoorShowN
import Derived.Test.YtdpfcjhhabcheaaDoorShowB
namespace Go.Proofs.YtdpfcjhhabcheaaDoor
open Go Go.RowKit

set_option maxRecDepth 100000 in
set_option maxHeartbeats 6400000 in
theorem show_yes (e : Ev) (v : Value) (s : Shp) (XS : List ByteArray) (hn : e.nums.length ≤ 64) (ha : e.asks.length ≤ 64) (hm : e.name.size ≤ 100000) (hok : evOk e = true) (hnb : ∀ (j : Nat) (p : Int), e.nums[j]? = some p → 0 ≤ p ∧ p ≤ 1099511627776) (hab : ∀ (j : Nat) (p : Int × Int), e.asks[j]? = some p → (0 ≤ p.1 ∧ p.1 ≤ 4294967295) ∧ 0 ≤ p.2 ∧ p.2 ≤ 4095) (hza : s.asks = false → e.asks = [])
    (ho : ofW e.word.data.toList = some s) (hxs : (showW e).map baL = XS) (hsz : ∀ x ∈ XS, x.size ≤ 100000) (hxl : XS.length ≤ 1000) (w : World) (ht : Tab w) (hv : EvAt w w.heap.size e v) :
    Calls Tryd.prog 22 #[v] w fun x w' => x = .returned (.tuple #[.string (joinS XS), .int .i64 0]) ∧ Below w.heap.size w w' := by
  have hC : ∀ W, Below w.heap.size w W → Calls Tryd.prog 24 #[v] W fun x w' => x = .returned (.int .i64 0) ∧ Below W.heap.size W w' := fun W hb => by
    have h := check_any e v (by omega) (by omega) hm W ((hv.below hb).up hb.size)
    rw [hok] at h
    exact h
  have HC := Lib.hid hC
  have hone := of_one ho
  rw [showB_eq ho] at hxs
  have hx0 : 0 < XS.length := by rw [← hxs]; simp
  have HJ : Hid (∀ (B : Nat) (v : Value) (w : World), SlO 9 B v (XS.map Value.string) w → Calls Tryd.prog 40 #[v, .string sBlank] w fun e w' => e = .returned (.string (joinS XS)) ∧ Below w.heap.size w w') :=
    Lib.hid fun B v w hO => join_any XS 100000 hsz hxl (by omega) hx0 w hO
  have HCL : Hid (∀ (B : Nat) (v : Value) (w : World), SlO 9 B v (XS.map Value.string) w → Calls Tryd.prog 47 #[v] w fun e w' => ∃ v', e = .returned v' ∧ SlO 9 w.heap.size v' (XS.map Value.string) w' ∧ Below w.heap.size w w') :=
    Lib.hid fun B v w hO => clone_any XS hxl hx0 w hO
  generalize joinS XS = R at *
  have HO := Lib.hid (of_any e.word)
  rw [str_tl, ho] at HO
  obtain ⟨A1, c1, A2, c2, rfl, hN, hA⟩ := hv
  have HN := Lib.hid hN
  have HA := Lib.hid hA
  have HT := Lib.hid ht
  have HNB := Lib.hid hnb
  have HONE := Lib.hid hone
  have HAB := Lib.hid hab
  have HZA := Lib.hid hza
  have HXE := Lib.hid hxs.symm
  clear hC hok ho hN hA ht hnb hone hab hza hxs hsz hxl hx0
  obtain ⟨wd, nums, nm, dt, asks⟩ := e
  dsimp only at *
  obtain ⟨L1, hL1⟩ : ∃ L1, L1 = wd :: nums.map fun n => decS n.toNat := ⟨_, rfl⟩
  rw [← hL1] at HXE
  have HL1 := Lib.hid hL1
  have hlen1 : L1.length ≤ 65 := by rw [hL1]; simp; omega
  have HLEN := Lib.hid hlen1
  clear hL1 hlen1
  go_enter Tryd.func22, Tryd.ntmps22
  go_wp2_with fail
  refine (HC.out _ (bnew w _)).mono ?_
  rintro e1 w1 ⟨rfl, hb1⟩
  have z1 := bsz hb1
  have f1 := five_row ((hb1.block w.heap.size (by simp)).trans (heap_alloc_new w _))
  have b1 := bthen (bnew w _) hb1
  have F1 := Lib.hid f1
  obtain ⟨p0, p1, p2, p3, p4⟩ := f1
  clear hb1
  go_wp2_with fail
  refine (HO.out _).mono ?_
  rintro e2 w2 ⟨rfl, hb2⟩
  dsimp only [ofV, shpV]
  have z2 : w.heap.size < w2.heap.size := Nat.lt_of_lt_of_le z1 hb2.size
  have f2 := five_below F1.out hb2 z1
  have b2 := bthen b1 hb2
  clear p0 p1 p2 p3 p4
  obtain ⟨n1, hn1⟩ : ∃ n1, n1 = nums.length := ⟨_, rfl⟩
  obtain ⟨n2, hn2⟩ : ∃ n2, n2 = asks.length := ⟨_, rfl⟩
  rw [← hn1] at hn
  rw [← hn2] at ha
  rw [← hn1, ← hn2] at f2 ⊢
  have HN1 := Lib.hid hn1
  have HN2 := Lib.hid hn2
  have F2 := Lib.hid f2
  have HB2 := Lib.hid b2
  clear hb2 b1 b2 hn1 hn2
  obtain ⟨p0, p1, p2, p3, p4⟩ := f2
  have S0 : Hid (SlO 9 (w2.heap.size + 1) (.slice (some ⟨w2.heap.size + 1, 0, none⟩) 1 1) (([wd] ++ (nums.take 0).map fun n => decS n.toNat).map Value.string) ((w2.alloc (.cells #[.int .i64 (s.least : Int), .int .i64 (s.most : Int), .bool s.name, .bool s.data, .bool s.asks] 80)).alloc (.cells #[.string wd] 9))) := Lib.hid (by
    have h := SlO.lit (w2.alloc (.cells #[.int .i64 (s.least : Int), .int .i64 (s.most : Int), .bool s.name, .bool s.data, .bool s.asks] 80)) 9 [Value.string wd] (show 1 ≤ maxLen by decide)
    rw [size_alloc1] at h
    exact h)
  have T0 : Hid (Tab w2) := Lib.hid (HT.out.below HB2.out)
  have hnk : ∀ (j : Nat) (p : Int), nums[j]? = some p → 0 ≤ p ∧ p ≤ 1099511627776 := HNB.out
  have HNK := Lib.hid hnk
  clear hnk
  go_wp2_with fail
  go_loopw [7, 29] (fun l c wr => ∃ j : Nat, j ≤ n1 ∧ c = .int .i64 (j : Int) ∧ SlO 9 (w2.heap.size + 1) l (([wd] ++ (nums.take j).map fun n => decS n.toNat).map Value.string) wr ∧ Blk wr w2.heap.size #[.int .i64 (s.least : Int), .int .i64 (s.most : Int), .bool s.name, .bool s.data, .bool s.asks] 80 ∧ Below w2.heap.size w2 wr) (fun _ c _ => n1 - (intOf c).toNat)
  case atStart => exact ⟨0, by omega, rfl, S0.out, (heap_alloc_old _ _ (by simp)).trans (heap_alloc_new w2 _), bthen (bnew w2 _) (bnew _ _)⟩
  case round =>
    obtain ⟨j, hj, rfl, hO, hX, hbw⟩ := hrel
    by_cases hjn : j < n1
    · have hjj : (j : Int) < (n1 : Int) := by omega
      obtain ⟨p, hp⟩ : ∃ p, nums[j]? = some p := ⟨_, List.getElem?_eq_getElem (by rw [← HN1.out]; exact hjn)⟩
      obtain ⟨k1, k2⟩ := HNK.out j p hp
      obtain ⟨m, rfl⟩ : ∃ m : Nat, p = (m : Int) := ⟨p.toNat, by omega⟩
      obtain ⟨ad, rfl, -, hc⟩ := NumAt.get (HN.out.below (HB2.out.trans (hbw.mono (Nat.le_of_lt z2)))) hp
      have HTr : Hid (Tab wr) := Lib.hid (T0.out.below hbw)
      have HIT := Lib.hid (itoa_any m (by omega) wr HTr.out)
      have hlen : ([wd] ++ (nums.take j).map fun n => decS n.toNat).length = j + 1 := by simp; have := HN1.out; omega
      have HLEN := Lib.hid hlen
      have HP := Lib.hid hp
      have HO1 := Lib.hid hO
      have HX := Lib.hid hX
      have HB := Lib.hid hbw
      clear k1 k2 hlen hp hO hX hbw p0 p1 p2 p3 p4
      go_wp2_with fail
      refine HIT.out.mono ?_
      rintro e7 w7 ⟨rfl, hb7⟩
      have HO2 : Hid (SlO 9 (w2.heap.size + 1) u7 (([wd] ++ (nums.take j).map fun n => decS n.toNat).map Value.string) (w7.alloc (.cells #[.string (decS m)] 9))) := Lib.hid ((HO1.out.below hb7).below (bnew w7 _))
      have HC2 : Hid (SlC w7.heap.size ([decS m].map Value.string) (w7.alloc (.cells #[.string (decS m)] 9))) := Lib.hid (SlC.lit w7 _ _)
      have HZ : Hid (w2.heap.size + 1 ≤ (w7.alloc (.cells #[.string (decS m)] 9)).heap.size) := Lib.hid (by have := HB.out.size; have := hb7.size; rw [size_alloc1]; omega)
      have HNL : Hid ((([wd] ++ (nums.take j).map fun n => decS n.toNat).map Value.string).length + [decS m].length ≤ 100000) := Lib.hid (by rw [List.length_map, HLEN.out]; simp; omega)
      have HX7 := Lib.hid ((heap_alloc_old w7 (.cells #[.string (decS m)] 9) (Nat.lt_of_lt_of_le HX.out.lt hb7.size)).trans ((hb7.block _ HX.out.lt).trans HX.out))
      have HB7 := Lib.hid (bthen (bthen HB.out hb7) (bnew w7 (.cells #[.string (decS m)] 9)))
      clear hb7
      go_wp2_with (at_builtin; refine wpList_pushS rfl _ _ rfl (w2.heap.size + 1) _ (([wd] ++ (nums.take j).map fun n => decS n.toNat).map Value.string) rfl HO2.out w7.heap.size 1 1 [decS m] rfl HC2.out rfl HNL.out HZ.out ?_)
      intro v' w3 hO3 hg3 hB3
      have HO3 := Lib.hid hO3
      have HX3 := Lib.hid ((hB3.block w2.heap.size (by omega)).trans HX7.out)
      have HB3 := Lib.hid (HB7.out.trans (hB3.mono (by omega)))
      clear hO3 hg3 hB3
      go_wp2_with fail
      exact ⟨⟨j + 1, by omega, by go_num, by rw [take_get1 nums j _ HP.out]; simpa using HO3.out, HX3.out, HB3.out⟩, by simp [intOf]; omega⟩
    · obtain rfl : j = n1 := by omega
      rename World => wo
      have HB := Lib.hid hbw
      have HX := Lib.hid hX
      have HO1 : Hid (SlO 9 (w2.heap.size + 1) u7 (L1.map Value.string) wo) := Lib.hid (by rw [HL1.out]; rw [List.take_of_length_le (by rw [← HN1.out]; exact Nat.le_refl _)] at hO; exact hO)
      clear hO hbw hX
      have hq := five_below F2.out HB.out z2
      obtain ⟨p0, p1, p2, p3, p4⟩ := hq
      rcases HONE.out with hs | hs | hs | hs
      · obtain ⟨hs1, hs2, hs3⟩ := hs
        rw [hs1, hs2, hs3]
        have c2 := HX.out.cell (i := 2) rfl
        rw [hs1] at c2
        have HXN : Hid (XS = L1 ++ [nm]) := Lib.hid (by rw [HXE.out]; simp [midW, hs1, HZA.out hs3, baL_get])
        have hzz : n2 = 0 := by rw [HN2.out, HZA.out hs3]; rfl
        subst hzz
        have hC2 : Hid (SlC wo.heap.size ([nm].map Value.string) (wo.alloc (.cells #[.string nm] 9))) := Lib.hid (SlC.lit wo _ _)
        have hO2 : Hid (SlO 9 (w2.heap.size + 1) u7 (L1.map Value.string) (wo.alloc (.cells #[.string nm] 9))) := Lib.hid (HO1.out.below (bnew wo _))
        have HZ : Hid (w2.heap.size + 1 ≤ (wo.alloc (.cells #[.string nm] 9)).heap.size) := Lib.hid (by have := HB.out.size; rw [size_alloc1]; omega)
        have HNL : Hid ((L1.map Value.string).length + [nm].length ≤ 100000) := Lib.hid (by rw [List.length_map, List.length_singleton]; have := HLEN.out; omega)
        have HB7 : Hid (Below w2.heap.size w2 (wo.alloc (.cells #[.string nm] 9))) := Lib.hid (bthen HB.out (bnew wo _))
        go_wp2_with (at_builtin; refine wpList_pushS rfl _ _ rfl (w2.heap.size + 1) _ (L1.map Value.string) rfl hO2.out wo.heap.size 1 1 [nm] rfl hC2.out rfl HNL.out HZ.out ?_)
        intro v' w3 hO3 hg3 hB3
        have HB3 : Hid (Below w2.heap.size w2 w3) := Lib.hid (HB7.out.trans (hB3.mono (by have := HB7.out.size; omega)))
        have HO3 : Hid (SlO 9 (w2.heap.size + 1) v' (XS.map Value.string) w3) := Lib.hid (by rw [HXN.out]; simpa using hO3)
        clear hO3 hg3 hB3 hC2 hO2 HZ HNL HB7 HO1
        have hp := five_below F2.out HB3.out z2
        obtain ⟨p0, p1, p2, p3, p4⟩ := hp
        clear p0 p1 p2 p3
        go_wp2_with fail
        go_loopw [7, 69] (fun l c wr => v' = l ∧ c = .int .i64 0 ∧ w3 = wr) (fun _ _ _ => 0)
        case atStart => exact ⟨rfl, rfl, rfl⟩
        case round =>
          obtain ⟨rfl, rfl, rfl⟩ := hrel
          go_wp2_with fail
          refine (HCL.out _ _ _ HO3.out).mono ?_
          rintro e8 w8 ⟨v8, rfl, hO8, hb8⟩
          have HO8 := Lib.hid hO8
          have HB8 := Lib.hid (bthen (HB2.out.trans (HB3.out.mono (Nat.le_of_lt z2))) hb8)
          clear hO8 hb8
          go_wp2_with fail
          refine (HJ.out _ _ _ HO8.out).mono ?_
          rintro e9 w9 ⟨rfl, hb9⟩
          have B9 := bthen HB8.out hb9
          clear hb9
          go_wp2_with fail
          go_ret2
          exact ⟨rfl, B9⟩
      · obtain ⟨hs1, hs2, hs3⟩ := hs
        rw [hs1, hs2, hs3]
        have c2 := HX.out.cell (i := 2) rfl
        have c3 := HX.out.cell (i := 3) rfl
        rw [hs1] at c2
        rw [hs2] at c3
        have hzz : n2 = 0 := by rw [HN2.out, HZA.out hs3]; rfl
        subst hzz
        by_cases hd : dt.data.toList = []
        · obtain rfl := empty_of hd
          have HXN : Hid (XS = L1 ++ [(⟨#[45]⟩ : ByteArray)]) := Lib.hid (by rw [HXE.out]; simp [midW, hs1, hs2, HZA.out hs3, baL])
          have hC2 : Hid (SlC wo.heap.size ([(⟨#[45]⟩ : ByteArray)].map Value.string) (wo.alloc (.cells #[.string (⟨#[45]⟩ : ByteArray)] 9))) := Lib.hid (SlC.lit wo _ _)
          have hO2 : Hid (SlO 9 (w2.heap.size + 1) u7 (L1.map Value.string) (wo.alloc (.cells #[.string (⟨#[45]⟩ : ByteArray)] 9))) := Lib.hid (HO1.out.below (bnew wo _))
          have HZ : Hid (w2.heap.size + 1 ≤ (wo.alloc (.cells #[.string (⟨#[45]⟩ : ByteArray)] 9)).heap.size) := Lib.hid (by have := HB.out.size; rw [size_alloc1]; omega)
          have HNL : Hid ((L1.map Value.string).length + [(⟨#[45]⟩ : ByteArray)].length ≤ 100000) := Lib.hid (by rw [List.length_map, List.length_singleton]; have := HLEN.out; omega)
          have HB7 : Hid (Below w2.heap.size w2 (wo.alloc (.cells #[.string (⟨#[45]⟩ : ByteArray)] 9))) := Lib.hid (bthen HB.out (bnew wo _))
          go_wp2_with (at_builtin; refine wpList_pushS rfl _ _ rfl (w2.heap.size + 1) _ (L1.map Value.string) rfl hO2.out wo.heap.size 1 1 [(⟨#[45]⟩ : ByteArray)] rfl hC2.out rfl HNL.out HZ.out ?_)
          intro v' w3 hO3 hg3 hB3
          have HB3 : Hid (Below w2.heap.size w2 w3) := Lib.hid (HB7.out.trans (hB3.mono (by have := HB7.out.size; omega)))
          have HO3 : Hid (SlO 9 (w2.heap.size + 1) v' (XS.map Value.string) w3) := Lib.hid (by rw [HXN.out]; simpa using hO3)
          clear hO3 hg3 hB3 hC2 hO2 HZ HNL HB7 HO1
          have hp := five_below F2.out HB3.out z2
          obtain ⟨p0, p1, p2, p3, p4⟩ := hp
          clear p0 p1 p2 p3
          go_wp2_with fail
          go_loopw [7, 69] (fun l c wr => v' = l ∧ c = .int .i64 0 ∧ w3 = wr) (fun _ _ _ => 0)
          case atStart => exact ⟨rfl, rfl, rfl⟩
          case round =>
            obtain ⟨rfl, rfl, rfl⟩ := hrel
            go_wp2_with fail
            refine (HCL.out _ _ _ HO3.out).mono ?_
            rintro e8 w8 ⟨v8, rfl, hO8, hb8⟩
            have HO8 := Lib.hid hO8
            have HB8 := Lib.hid (bthen (HB2.out.trans (HB3.out.mono (Nat.le_of_lt z2))) hb8)
            clear hO8 hb8
            go_wp2_with fail
            refine (HJ.out _ _ _ HO8.out).mono ?_
            rintro e9 w9 ⟨rfl, hb9⟩
            have B9 := bthen HB8.out hb9
            clear hb9
            go_wp2_with fail
            go_ret2
            exact ⟨rfl, B9⟩
        · have HXN : Hid (XS = L1 ++ [dt]) := Lib.hid (by rw [HXE.out]; simp [midW, hs1, hs2, HZA.out hs3, hd, baL_get])
          have d1 : ¬ dt.toList = [] := by rw [str_tl]; exact hd
          have d2 : (dt.toList == []) = false := by simpa using d1
          have d3 : dt.toList.isEmpty = false := by simpa using d1
          have hC2 : Hid (SlC wo.heap.size ([dt].map Value.string) (wo.alloc (.cells #[.string dt] 9))) := Lib.hid (SlC.lit wo _ _)
          have hO2 : Hid (SlO 9 (w2.heap.size + 1) u7 (L1.map Value.string) (wo.alloc (.cells #[.string dt] 9))) := Lib.hid (HO1.out.below (bnew wo _))
          have HZ : Hid (w2.heap.size + 1 ≤ (wo.alloc (.cells #[.string dt] 9)).heap.size) := Lib.hid (by have := HB.out.size; rw [size_alloc1]; omega)
          have HNL : Hid ((L1.map Value.string).length + [dt].length ≤ 100000) := Lib.hid (by rw [List.length_map, List.length_singleton]; have := HLEN.out; omega)
          have HB7 : Hid (Below w2.heap.size w2 (wo.alloc (.cells #[.string dt] 9))) := Lib.hid (bthen HB.out (bnew wo _))
          go_wp2_with (at_builtin; refine wpList_pushS rfl _ _ rfl (w2.heap.size + 1) _ (L1.map Value.string) rfl hO2.out wo.heap.size 1 1 [dt] rfl hC2.out rfl HNL.out HZ.out ?_)
          intro v' w3 hO3 hg3 hB3
          have HB3 : Hid (Below w2.heap.size w2 w3) := Lib.hid (HB7.out.trans (hB3.mono (by have := HB7.out.size; omega)))
          have HO3 : Hid (SlO 9 (w2.heap.size + 1) v' (XS.map Value.string) w3) := Lib.hid (by rw [HXN.out]; simpa using hO3)
          clear hO3 hg3 hB3 hC2 hO2 HZ HNL HB7 HO1
          have hp := five_below F2.out HB3.out z2
          obtain ⟨p0, p1, p2, p3, p4⟩ := hp
          clear p0 p1 p2 p3
          go_wp2_with fail
          go_loopw [7, 69] (fun l c wr => v' = l ∧ c = .int .i64 0 ∧ w3 = wr) (fun _ _ _ => 0)
          case atStart => exact ⟨rfl, rfl, rfl⟩
          case round =>
            obtain ⟨rfl, rfl, rfl⟩ := hrel
            go_wp2_with fail
            refine (HCL.out _ _ _ HO3.out).mono ?_
            rintro e8 w8 ⟨v8, rfl, hO8, hb8⟩
            have HO8 := Lib.hid hO8
            have HB8 := Lib.hid (bthen (HB2.out.trans (HB3.out.mono (Nat.le_of_lt z2))) hb8)
            clear hO8 hb8
            go_wp2_with fail
            refine (HJ.out _ _ _ HO8.out).mono ?_
            rintro e9 w9 ⟨rfl, hb9⟩
            have B9 := bthen HB8.out hb9
            clear hb9
            go_wp2_with fail
            go_ret2
            exact ⟨rfl, B9⟩
      · obtain ⟨hs1, hs2, hs3⟩ := hs
        rw [hs1, hs2, hs3]
        have c2 := HX.out.cell (i := 2) rfl
        have c3 := HX.out.cell (i := 3) rfl
        rw [hs1] at c2
        rw [hs2] at c3
        have HXN : Hid (XS = L1 ++ asks.map askT) := Lib.hid (by rw [HXE.out]; simp [midW, hs1, hs2])
        go_wp2_with fail
        go_loopw [7, 69] (fun l c wr => ∃ i : Nat, i ≤ n2 ∧ c = .int .i64 (i : Int) ∧ SlO 9 (w2.heap.size + 1) l ((L1 ++ (asks.take i).map askT).map Value.string) wr ∧ Below w2.heap.size w2 wr) (fun _ c _ => n2 - (intOf c).toNat)
        case atStart => exact ⟨0, by omega, rfl, by rw [List.take_zero, List.map_nil, List.append_nil]; exact HO1.out, HB.out⟩
        case round =>
          obtain ⟨i, hi, rfl, hO, hbw⟩ := hrel
          clear p0 p1 p2 p3 p4 c2 c3
          by_cases hin : i < n2
          · have hii : (i : Int) < (n2 : Int) := by omega
            obtain ⟨⟨pa, pb⟩, hax⟩ : ∃ a, asks[i]? = some a := ⟨_, List.getElem?_eq_getElem (by rw [← HN2.out]; exact hin)⟩
            have hpp := HAB.out i (pa, pb) hax
            dsimp only at hpp
            obtain ⟨⟨k1, k2⟩, k3, k4⟩ := hpp
            obtain ⟨ad, rfl, -, ca, cb⟩ := AskAt.get (HA.out.below (HB2.out.trans (hbw.mono (Nat.le_of_lt z2)))) hax
            obtain ⟨m1, rfl⟩ : ∃ m : Nat, pa = (m : Int) := ⟨pa.toNat, by omega⟩
            obtain ⟨m2, rfl⟩ : ∃ m : Nat, pb = (m : Int) := ⟨pb.toNat, by omega⟩
            dsimp only at ca cb
            have HI1 := Lib.hid (itoa_any m1 (by omega))
            have HI2 := Lib.hid (itoa_any m2 (by omega))
            have hl1 := decS_len m1 (by omega)
            have hl2 := decS_len m2 (by omega)
            have htx := ask_text m1 m2
            generalize decS m1 = D1 at *
            generalize decS m2 = D2 at *
            obtain ⟨P1, e1, zz1, s1⟩ := add_mk D1 (⟨#[58]⟩ : ByteArray) 19 1 20 hl1 (Nat.le_refl _) (by decide) (by decide)
            obtain ⟨P2, e2, zz2, s2⟩ := add_mk P1 D2 20 19 39 zz1 hl2 (by decide) (by decide)
            have HTX : Hid (askT ((m1 : Int), (m2 : Int)) = P2) := Lib.hid (by rw [e2, e1]; exact htx)
            have hlen : (L1 ++ (asks.take i).map askT).length ≤ 130 := by have := HLEN.out; simp; omega
            have HLEN2 := Lib.hid hlen
            have HAX := Lib.hid hax
            have HOI := Lib.hid hO
            have HBI := Lib.hid hbw
            have HTT : Hid (Tab wr) := Lib.hid (T0.out.below hbw)
            clear k1 k2 k3 k4 hl1 hl2 htx e1 e2 zz1 zz2 hlen hax hO hbw
            have HCUR : Hid (KA w2 (w2.heap.size + 1) wr.heap.size (m1 : Int) (m2 : Int) u7 ((L1 ++ (asks.take i).map askT).map Value.string) (wr.alloc (.cells #[.int .i64 (m1 : Int), .int .i64 (m2 : Int)] 78)).drew) :=
              Lib.hid ⟨⟨by show (wr.alloc _).cell? _ = _; rw [cell_of_row _ _ _ _ _ _ (heap_alloc_new wr _)]; rfl, by show (wr.alloc _).cell? _ = _; rw [cell_of_row _ _ _ _ _ _ (heap_alloc_new wr _)]; rfl⟩, by show _ < (wr.alloc _).heap.size; rw [size_alloc1]; omega, HOI.out.below (bnew wr _).drew, HTT.out.below (bnew wr _).drew, (bthen HBI.out (bnew wr _)).drew⟩
            have k0 := HCUR.out.1.1
            have k1 := HCUR.out.1.2
            have HK : Hid (Keeps (KA w2 (w2.heap.size + 1) wr.heap.size (m1 : Int) (m2 : Int) u7 ((L1 ++ (asks.take i).map askT).map Value.string))) := Lib.hid ka
            have HKT : Hid (∀ w', KA w2 (w2.heap.size + 1) wr.heap.size (m1 : Int) (m2 : Int) u7 ((L1 ++ (asks.take i).map askT).map Value.string) w' → Tab w') := Lib.hid fun _ h => h.2.2.2.1
            clear HOI HBI HTT
            go_upto_region 20 with (fail)
            clear ca cb
            go_region_law (first
              | (refine step_pushS1 rfl (.tmp 73) (.tmp 82) rfl (w2.heap.size + 1) u7 ((L1 ++ (asks.take i).map askT).map Value.string) rfl ?hO wz.heap.size 1 P2 rfl ?hS ?hl ?hB ?_
                 case hO => exact HCUR.out.2.2.1.below (bnew wz _)
                 case hS => exact SlC.lit wz _ _
                 case hl => rw [List.length_map]; have := HLEN2.out; omega
                 case hB => rw [size_alloc1]; exact Nat.succ_le_succ HCUR.out.2.2.2.2.size
                 intro v' w3 hO3 hg3 hB3
                 have HB3 : Hid (Below w2.heap.size w2 w3) := Lib.hid ((bthen HCUR.out.2.2.2.2 (bnew wz _)).trans (hB3.mono (Nat.le_succ _)))
                 have HO3 := Lib.hid hO3
                 clear hO3 hg3 hB3)
              | (go_simp; go_at_call 39
                 first
                   | (with_reducible (refine (meetsT HK.out HKT.out HI1.out _ HCUR.out).mono ?_))
                   | (with_reducible (refine (meetsT HK.out HKT.out HI2.out _ HCUR.out).mono ?_))
                 rintro ez wz ⟨rfl, hz⟩
                 have HCUR := Lib.hid hz
                 obtain ⟨⟨k0, k1⟩, -⟩ := hz))
            all_goals clear k0 k1 s1 s2 HI1 HI2 HK HKT HCUR
            all_goals go_wp2_with fail
            all_goals exact ⟨⟨i + 1, by omega, by go_num, by rw [show L1 ++ (asks.take (i + 1)).map askT = (L1 ++ (asks.take i).map askT) ++ [P2] by rw [List.take_add_one, HAX.out, List.map_append, ← List.append_assoc]; exact congrArg (fun x => L1 ++ (asks.take i).map askT ++ [x]) HTX.out, List.map_append]; exact HO3.out, HB3.out⟩, by simp [intOf]; omega⟩
          · obtain rfl : i = n2 := by omega
            have HO3 : Hid (SlO 9 (w2.heap.size + 1) u7 (XS.map Value.string) wr) := Lib.hid (by rw [HXN.out]; rw [List.take_of_length_le (by rw [← HN2.out]; exact Nat.le_refl _)] at hO; exact hO)
            have HB3 := Lib.hid hbw
            clear hO hbw
            go_wp2_with fail
            refine (HCL.out _ _ _ HO3.out).mono ?_
            rintro e8 w8 ⟨v8, rfl, hO8, hb8⟩
            have HO8 := Lib.hid hO8
            have HB8 := Lib.hid (bthen (HB2.out.trans (HB3.out.mono (Nat.le_of_lt z2))) hb8)
            clear hO8 hb8
            go_wp2_with fail
            refine (HJ.out _ _ _ HO8.out).mono ?_
            rintro e9 w9 ⟨rfl, hb9⟩
            have B9 := bthen HB8.out hb9
            clear hb9
            go_wp2_with fail
            go_ret2
            exact ⟨rfl, B9⟩
      · obtain ⟨hs1, hs2, hs3⟩ := hs
        rw [hs1, hs2, hs3]
        have c2 := HX.out.cell (i := 2) rfl
        have c3 := HX.out.cell (i := 3) rfl
        rw [hs1] at c2
        rw [hs2] at c3
        have HXN : Hid (XS = L1) := Lib.hid (by rw [HXE.out]; simp [midW, hs1, hs2, HZA.out hs3])
        have hzz : n2 = 0 := by rw [HN2.out, HZA.out hs3]; rfl
        subst hzz
        have HO3 : Hid (SlO 9 (w2.heap.size + 1) u7 (XS.map Value.string) wo) := Lib.hid (by rw [HXN.out]; exact HO1.out)
        have HB3 := HB
        clear p0 p1 p2 p3 p4
        have hp := five_below F2.out HB3.out z2
        obtain ⟨p0, p1, p2, p3, p4⟩ := hp
        clear p0 p2 p3
        go_wp2_with fail
        go_loopw [7, 69] (fun l c wr => u7 = l ∧ c = .int .i64 0 ∧ wo = wr) (fun _ _ _ => 0)
        case atStart => exact ⟨rfl, rfl, rfl⟩
        case round =>
          obtain ⟨rfl, rfl, rfl⟩ := hrel
          go_wp2_with fail
          refine (HCL.out _ _ _ HO3.out).mono ?_
          rintro e8 w8 ⟨v8, rfl, hO8, hb8⟩
          have HO8 := Lib.hid hO8
          have HB8 := Lib.hid (bthen (HB2.out.trans (HB3.out.mono (Nat.le_of_lt z2))) hb8)
          clear hO8 hb8
          go_wp2_with fail
          refine (HJ.out _ _ _ HO8.out).mono ?_
          rintro e9 w9 ⟨rfl, hb9⟩
          have B9 := bthen HB8.out hb9
          clear hb9
          go_wp2_with fail
          go_ret2
          exact ⟨rfl, B9⟩
end Go.Proofs.YtdpfcjhhabcheaaDoor

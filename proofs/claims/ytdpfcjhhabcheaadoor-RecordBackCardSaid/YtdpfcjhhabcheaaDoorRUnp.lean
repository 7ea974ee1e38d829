/-
  The contract of the reference's Unpack: the numbers of bytes. No condition. Own work.
-/
import Derived.Test.YtdpfcjhhabcheaaDoorRGet2
import Derived.Test.YtdpfcjhhabcheaaDoorSl
import Derived.Test.YtdpfcjhhabcheaaDoorCut
namespace Go.Proofs.YtdpfcjhhabcheaaDoor
open Go.RowKit

abbrev ivs (ns : List Nat) : List Value := ns.map fun n : Nat => Value.int .i64 (n : Int)
set_option maxRecDepth 100000 in
set_option maxHeartbeats 6400000 in
theorem runpack_any (ws : List Nat) (s : ByteArray) (gw cw : Nat) (hw : ∀ k ∈ ws, 1 ≤ k ∧ k ≤ 8) (hlen : ws.length ≤ 100) (w : World) (hgw : gw < w.heap.size)
    (cW : ∀ (j k : Nat), ws[j]? = some k → w.cell? ⟨gw, j, none⟩ = some (.int .i64 (k : Int))) :
    Calls Tryd.prog 44 #[.slice (some ⟨gw, 0, none⟩) ws.length cw, .string s] w fun e w' =>
      (match unpR ws s.data.toList with
        | some ns => ∃ v, e = .returned (.tuple #[v, .int .i64 0]) ∧ SlO 3 w.heap.size v (ivs ns) w'
        | none => e = .returned (.tuple #[.slice none 0 0, .int .i64 3])) ∧ Below w.heap.size w w' := by
  obtain ⟨R, hR⟩ : ∃ R, R = unpR ws s.data.toList := ⟨_, rfl⟩
  rw [← hR]
  obtain ⟨len, hl⟩ : ∃ n, n = ws.length := ⟨_, rfl⟩
  rw [← hl] at hlen ⊢
  have hs8 := sum_le8 ws hw
  have HW := Lib.hid hw
  have HL := Lib.hid hl
  have HR := Lib.hid hR
  have CW := Lib.hid cW
  have HS8 : Hid (ws.sum ≤ 8 * len) := Lib.hid (by rw [hl]; exact hs8)
  clear hw hl hR cW hs8
  go_enter Tryd.func44, Tryd.ntmps44
  go_wp2_with fail
  go_loopw [6, 7] (fun al c wr => ∃ i a : Nat, i ≤ len ∧ c = .int .i64 (i : Int) ∧ al = .int .i64 (a : Int) ∧ a = (ws.take i).sum ∧ w = wr) (fun _ c _ => len - (intOf c).toNat)
  case atStart => exact ⟨0, 0, by omega, rfl, rfl, rfl, rfl⟩
  case round =>
    obtain ⟨i, a, hil, rfl, rfl, ha, rfl⟩ := hrel
    by_cases hik : i < len
    · have hii : (i : Int) < (len : Int) := by omega
      obtain ⟨k, hk⟩ : ∃ k, ws[i]? = some k := ⟨ws[i]'(by rw [← HL.out]; exact hik), List.getElem?_eq_getElem _⟩
      obtain ⟨hk1, hk8⟩ := HW.out k (List.mem_of_getElem? hk)
      have c0 := CW.out i k hk
      have hal := sum_take_le ws i
      have h8 := HS8.out
      have g1 : ¬ (k : Int) < 1 := by omega
      have g2 : ¬ (8 : Int) < (k : Int) := by omega
      have hab : a ≤ 800 := by omega
      have hsum := sum_take_succ ws i k hk
      have HSM : Hid (a + k = (ws.take (i + 1)).sum) := Lib.hid (by rw [hsum, ha])
      clear ha hal h8 hsum hk
      go_wp2_with fail
      exact ⟨⟨i + 1, a + k, by omega, by go_num, by go_num, HSM.out, by first | rfl | trivial⟩, by simp [intOf]; omega⟩
    · have hi2 : len = i := by omega
      subst hi2
      rw [List.take_of_length_le (by rw [← HL.out]; exact Nat.le_refl _)] at ha
      have h8 := HS8.out
      by_cases hsz : ws.sum = s.size
      · have hsz2 : (s.size : Int) = (a : Int) := by omega
        have hsz3 : ((a : Int) != (s.size : Int)) = false := by simp [hsz2]
        have HR2 : Hid (R = unpO ws s.data.toList) := Lib.hid (by rw [HR.out, unpR, if_pos (by simpa using hsz)])
        have HSZ : Hid (s.size = ws.sum) := Lib.hid (by omega)
        have HSZ2 := Lib.hid hsz2
        clear hsz ha hsz2
        go_wp2_with fail
        clear hsz3
        go_loopw [8, 9, 10] (fun o at' c wr => ∃ (i a : Nat) (ns : List Nat), i ≤ len ∧ c = .int .i64 (i : Int) ∧ at' = .int .i64 (a : Int) ∧ a = (ws.take i).sum ∧ SlO 3 w.heap.size o (ivs ns) wr ∧ ns.length = i ∧ unpO ws s.data.toList = (unpO (ws.drop i) (s.data.toList.drop a)).map (ns ++ ·) ∧ Below w.heap.size w wr) (fun _ _ c _ => len - (intOf c).toNat)
        case atStart => exact ⟨0, 0, [], by omega, rfl, rfl, rfl, SlO.nil _ _ _, rfl, by simp, Below.refl _ _⟩
        case round =>
          obtain ⟨i, a, ns, hi, rfl, rfl, ha, hO, hnl, hq, hbw⟩ := hrel
          by_cases hik2 : i < len
          · have hii : (i : Int) < (len : Int) := by omega
            obtain ⟨k, hk⟩ : ∃ k, ws[i]? = some k := ⟨ws[i]'(by rw [← HL.out]; exact hik2), List.getElem?_eq_getElem _⟩
            obtain ⟨hk1, hk8⟩ := HW.out k (List.mem_of_getElem? hk)
            have c0 := (hbw.cell (p := ⟨gw, i, none⟩) hgw).trans (CW.out i k hk)
            have hsum := sum_take_succ ws i k hk
            have hal := sum_take_le ws (i + 1)
            have hd : ws.drop i = k :: ws.drop (i + 1) := by
              rw [List.drop_eq_getElem_cons (by rw [← HL.out]; exact hik2)]
              congr 1
              exact Option.some.inj ((List.getElem?_eq_getElem _).symm.trans hk)
            obtain ⟨p, hp⟩ : ∃ p, p = s.extract a (a + k) := ⟨_, rfl⟩
            have hss := HSZ.out
            have hpl : p.data.toList = (s.data.toList.drop a).take k := by
              rw [hp, ext_list, List.drop_take, show a + k - a = k from by omega]
            have hps : p.size = k := by rw [hp]; simp; omega
            rw [hd, unpO, ← hpl, List.drop_drop] at hq
            have hak : (a : Int) + (k : Int) = ((a + k : Nat) : Int) := by omega
            have b1 : ((a + k : Nat) : Int) ≤ (s.size : Int) := by omega
            have b2 : (a : Int) ≤ ((a + k : Nat) : Int) := by omega
            have b3 : (0 : Int) ≤ (a : Int) := by omega
            have haw : wrap64 ((a + k : Nat) : Int) = ((a + k : Nat) : Int) := by have := h8; unfold wrap64; omega
            have HSM : Hid (a + k = (ws.take (i + 1)).sum) := Lib.hid (by rw [hsum, ha])
            obtain ⟨m, hm⟩ : ∃ m, m = a + k := ⟨_, rfl⟩
            rw [← hm] at hp hak b1 b2 haw HSM hq
            have HM := Lib.hid hm
            have HQ := Lib.hid hq
            have HB := Lib.hid hbw
            have HO := Lib.hid hO
            have HNL := Lib.hid hnl
            have hpe : s.extract a m = p := hp.symm
            clear hq hbw hd hk ha hsum hal hss hpl hO hnl hm hp
            by_cases hg : numOk p.data.toList
            · have HG := Lib.hid (fun w => rget_yes p hg w)
              have HQ2 : Hid (unpO ws s.data.toList = (unpO (ws.drop (i + 1)) (s.data.toList.drop m)).map ((ns ++ [gt p.data.toList]) ++ ·)) := Lib.hid (by
                rw [HQ.out, if_pos hg, Option.map_map]
                congr 1
                funext x
                simp)
              clear HQ hg
              generalize gt p.data.toList = G at *
              go_wp2_with fail
              (with_reducible refine (HG.out _).mono ?_)
              rintro e w1 ⟨rfl, rfl⟩
              have hO2 : Hid (SlO 3 w.heap.size u8 (ivs ns) (wr.alloc (.cells #[.int .i64 (G : Int)] 3))) := Lib.hid (HO.out.below (bnew wr _))
              have hC2 : Hid (SlC wr.heap.size ([(G : Int)].map (Value.int .i64)) (wr.alloc (.cells #[.int .i64 (G : Int)] 3))) := Lib.hid (SlC.lit wr _ _)
              have hZ : Hid (w.heap.size ≤ (wr.alloc (.cells #[.int .i64 (G : Int)] 3)).heap.size) := Lib.hid (by have := HB.out.size; simp; omega)
              have hNL : Hid ((ivs ns).length + [(G : Int)].length ≤ 100000) := Lib.hid (by have := HNL.out; simp; omega)
              go_wp2_with (at_builtin; refine wpList_pushI rfl _ _ rfl w.heap.size _ (ivs ns) rfl hO2.out wr.heap.size 1 1 [(G : Int)] rfl hC2.out rfl hNL.out hZ.out ?_)
              intro v' w3 hO3 hg3 hB3
              have B3 := Lib.hid ((bthen HB.out (bnew wr _)).trans hB3)
              have O3 : Hid (SlO 3 w.heap.size v' (ivs (ns ++ [G])) w3) := Lib.hid (by rw [show ivs (ns ++ [G]) = ivs ns ++ [(G : Int)].map (Value.int .i64) from by simp [ivs]]; exact hO3)
              have c1 : w3.cell? ⟨gw, i, none⟩ = some (.int .i64 (k : Int)) := (hB3.cell (p := ⟨gw, i, none⟩) hgw).trans (((bnew wr (.cells #[.int .i64 (G : Int)] 3)).cell (p := ⟨gw, i, none⟩) (Nat.lt_of_lt_of_le hgw HB.out.size)).trans c0)
              clear hO3 hg3 hB3 c0
              go_wp2_with fail
              exact ⟨⟨i + 1, m, ns ++ [G], by omega, by go_num, by first | rfl | rw [haw], HSM.out, O3.out, by have := HNL.out; simp; omega, HQ2.out, B3.out⟩, by simp [intOf]; omega⟩
            · have HG := Lib.hid (fun w => rget_no p hg (by omega) (by omega) w)
              have hRn : R = none := by rw [HR2.out, HQ.out, if_neg hg]; rfl
              subst hRn
              clear hg HQ
              go_wp2_with fail
              (with_reducible refine (HG.out _).mono ?_)
              rintro e w1 ⟨rfl, rfl⟩
              go_wp2_with fail
              go_ret2
              exact ⟨rfl, HB.out⟩
          · have hi3 : len = i := by omega
            subst hi3
            have hRs : R = some ns := by
              rw [HR2.out, hq, List.drop_of_length_le (by rw [← HL.out]; exact Nat.le_refl _)]
              simp [unpO]
            subst hRs
            have HO := Lib.hid hO
            have HB := Lib.hid hbw
            clear hq hbw hO
            go_wp2_with fail
            go_ret2
            exact ⟨⟨_, rfl, HO.out⟩, HB.out⟩
      · have hRn : R = none := by rw [HR.out, unpR, if_neg (by simpa using hsz)]
        subst hRn
        have hsz3 : ((a : Int) != (s.size : Int)) = true := by simp; omega
        have hsz4 : ¬ (a : Int) = (s.size : Int) := by omega
        clear ha hsz
        go_wp2_with fail
        go_ret2
        exact ⟨rfl, Below.refl _ _⟩
end Go.Proofs.YtdpfcjhhabcheaaDoor

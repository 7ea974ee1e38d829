/-
  The contract of octet.Unpack: the numbers of bytes. No condition. Own work.
-/
import Derived.Test.YtdpfcjhhabcheaaDoorOct3
namespace Go.Proofs.YtdpfcjhhabcheaaDoor
open Go.RowKit

/-- The numbers of bytes, each in its width; none: one is none. -/
def unpO : List Nat → List UInt8 → Option (List Nat)
  | [], _ => some []
  | k :: ws, l => if numOk (l.take k) then (unpO ws (l.drop k)).map (gt (l.take k) :: ·) else none
theorem int_info4 : (Tryd.prog.info? 3).map (fun i => (i.zero, i.size, i.bytes)) = some (some (.int .i64 0), 1, 8) := by kernel_rfl
theorem get_no (s : ByteArray) (h : ¬ numOk s.data.toList) (h8 : s.size ≤ 8) (h1 : 1 ≤ s.size) (w : World) : Calls Tryd.prog 63 #[.string s] w fun e w' => e = .returned (.tuple #[.int .i64 0, .int .i64 3]) ∧ w = w' := by
  have hl : s.data.toList.length = s.size := by simp
  have hn8 : s.size = 8 := by
    rcases Nat.lt_or_ge s.size 8 with h' | h'
    · exact absurd ⟨by omega, by omega, fun e => by omega⟩ h
    · omega
  obtain ⟨c0, hc0⟩ : ∃ c, s.data.toList[0]? = some c := ⟨_, List.getElem?_eq_getElem (by omega)⟩
  have hx0 : ∀ W, (Instr.index 9 (.string s) (.int .i64 0)).run Tryd.prog W = .ok (.int .u8 ((c0.toNat : Nat) : Int)) W := str_idx s 0 c0 hc0
  have hc : (127 : Int) < ((c0.toNat : Nat) : Int) := by
    rcases Nat.lt_or_ge c0.toNat 128 with h' | h'
    · exact absurd ⟨by omega, by omega, fun _ => by rw [List.getD_eq_getElem?_getD, hc0]; exact h'⟩ h
    · omega
  have hne3 : ¬ s.toList = [] := by
    rw [ByteArray.toList_eq]
    intro h
    rw [h] at hc0
    cases hc0
  have hne4 : (s.toList == []) = false := by simpa using hne3
  have hne5 : s.toList.isEmpty = false := by
    cases h : s.toList with
    | nil => exact absurd h hne3
    | cons a b => rfl
  have hsz : (s.size : Int) = 8 := by omega
  clear h hl hc0
  go_enter Tryd.func63, Tryd.ntmps63
  go_wp2_with fail
  go_ret2
  exact ⟨rfl, rfl⟩
set_option maxHeartbeats 1600000 in
theorem ucut_any (b3 : Nat) (s : ByteArray) (k : Nat) (hk : k ≤ s.size) (w : World) (hc : w.cell? ⟨b3, 0, none⟩ = some (.string s)) (hf : w.frozen? ⟨b3, 0, none⟩ = false) :
    Calls Tryd.prog 62 #[.int .i64 (k : Int), .pointer (some ⟨b3, 0, none⟩)] w fun e w' => e = .returned (.string (s.extract 0 k)) ∧ w.setCell ⟨b3, 0, none⟩ (.string (s.extract k s.size)) = w' := by
  have h1 : (0 : Int) ≤ (k : Int) := by omega
  have h2 : (k : Int) ≤ (s.size : Int) := by omega
  go_enter Tryd.func62, Tryd.ntmps62
  go_wp2_with fail
  go_ret
  exact ⟨rfl, rfl⟩
theorem ucut_fid (args : Array Value) (W : World) : (callFunc 62 args).run Tryd.prog W = .ok (.enter 62 args) W := by rfl

theorem sum_take_succ (ws : List Nat) (i k : Nat) (h : ws[i]? = some k) : (ws.take (i + 1)).sum = (ws.take i).sum + k := by
  rw [List.take_add_one, h, List.sum_append]
  simp
theorem sum_take_le (ws : List Nat) (i : Nat) : (ws.take i).sum ≤ ws.sum := by
  have : ws.sum = (ws.take i).sum + (ws.drop i).sum := by rw [← List.sum_append, List.take_append_drop]
  omega
theorem sum_le8 (ws : List Nat) (h : ∀ k ∈ ws, 1 ≤ k ∧ k ≤ 8) : ws.sum ≤ 8 * ws.length := by
  induction ws with
  | nil => simp
  | cons k ws ih =>
    have h1 := (h k (by simp)).2
    have h2 := ih fun x hx => h x (by simp [hx])
    simp only [List.sum_cons, List.length_cons]
    omega
/-- What Unpack returns: the numbers, or none. -/
def unpR (ws : List Nat) (l : List UInt8) : Option (List Nat) := if ws.sum = l.length then unpO ws l else none
def nums (ns : List Nat) : List Value := ns.map fun n : Nat => Value.int .i64 (n : Int)

theorem own_base {w : World} {base base' : Nat} {e : TypeId} {size : Nat} {v : Value} {n : Nat} {xs : List Value} (h : w.ownsRow base e size v n xs) (hb : base' ≤ base) : w.ownsRow base' e size v n xs :=
  ⟨h.1, h.2.imp id fun ⟨g, cap, cur, h1, h2, h3⟩ => ⟨g, cap, cur, h1, by omega, h3⟩⟩
set_option maxRecDepth 100000 in
set_option maxHeartbeats 3200000 in
theorem unpack_any (ws : List Nat) (s : ByteArray) (gw cw : Nat) (hw : ∀ k ∈ ws, 1 ≤ k ∧ k ≤ 8) (hlen : ws.length ≤ 100) (w : World) (hgw : gw < w.heap.size)
    (cW : ∀ (j k : Nat), ws[j]? = some k → w.cell? ⟨gw, j, none⟩ = some (.int .i64 (k : Int))) :
    Calls Tryd.prog 42 #[.slice (some ⟨gw, 0, none⟩) ws.length cw, .string s] w fun e w' =>
      (match unpR ws s.data.toList with
        | some ns => ∃ v, e = .returned (.tuple #[v, .int .i64 0]) ∧ w'.ownsRow w.heap.size 3 1 v ns.length (nums ns)
        | none => e = .returned (.tuple #[.slice none 0 0, .int .i64 3])) ∧ Below w.heap.size w w' := by
  obtain ⟨R, hR⟩ : ∃ R, R = unpR ws s.data.toList := ⟨_, rfl⟩
  rw [← hR]
  obtain ⟨i0, hi, iz0, iz1, iz2⟩ := info_parts int_info4
  obtain ⟨len, hl⟩ : ∃ n, n = ws.length := ⟨_, rfl⟩
  rw [← hl] at hlen ⊢
  have hs8 := sum_le8 ws hw
  have HW := Lib.hid hw
  have HL := Lib.hid hl
  have HR := Lib.hid hR
  have CW := Lib.hid cW
  have HS8 : Hid (ws.sum ≤ 8 * len) := Lib.hid (by rw [hl]; exact hs8)
  clear hw hl hR cW hs8
  go_enter Tryd.func42, Tryd.ntmps42
  go_wp2_with fail
  go_loopw [6, 17] (fun al c wr => ∃ i a : Nat, i ≤ len ∧ c = .int .i64 (i : Int) ∧ al = .int .i64 (a : Int) ∧ a = (ws.take i).sum ∧ wr = w.alloc (.cells #[.string s] 9)) (fun _ c _ => len - (intOf c).toNat)
  case atStart => exact ⟨0, 0, by omega, rfl, rfl, rfl, rfl⟩
  case round =>
    obtain ⟨i, a, hil, rfl, rfl, ha, rfl⟩ := hrel
    by_cases hik : i < len
    · have hii : (i : Int) < (len : Int) := by omega
      obtain ⟨k, hk⟩ : ∃ k, ws[i]? = some k := ⟨ws[i]'(by rw [← HL.out]; exact hik), List.getElem?_eq_getElem _⟩
      obtain ⟨hk1, hk8⟩ := HW.out k (List.mem_of_getElem? hk)
      have c0 := ((bnew w (.cells #[.string s] 9)).cell (p := ⟨gw, i, none⟩) hgw).trans (CW.out i k hk)
      have hal := sum_take_le ws i
      have h8 := HS8.out
      have g1 : ¬ (k : Int) < 1 := by omega
      have g2 : ¬ (8 : Int) < (k : Int) := by omega
      have hab : a ≤ 800 := by omega
      have hsum := sum_take_succ ws i k hk
      have HSM : Hid (a + k = (ws.take (i + 1)).sum) := Lib.hid (by rw [hsum, ha])
      obtain ⟨W, hW⟩ : ∃ W, W = w.alloc (.cells #[.string s] 9) := ⟨_, rfl⟩
      rw [← hW] at c0 ⊢
      have HWW := Lib.hid hW
      clear hW ha hal h8 hsum hk
      go_wp2_with fail
      exact ⟨⟨i + 1, a + k, by omega, by go_num, by go_num, HSM.out, by first | exact HWW.out | trivial⟩, by simp [intOf]; omega⟩
    · have hi2 : len = i := by omega
      subst hi2
      rw [List.take_of_length_le (by rw [← HL.out]; exact Nat.le_refl _)] at ha
      have h8 := HS8.out
      obtain ⟨W, hW⟩ : ∃ W, W = w.alloc (.cells #[.string s] 9) := ⟨_, rfl⟩
      have hbW : Below w.heap.size w W := by rw [hW]; exact bnew w _
      have hc3 : W.cell? ⟨w.heap.size, 0, none⟩ = some (.string s) := by rw [hW, cell_of_row _ w.heap.size 0 _ _ (0, 0) (heap_alloc_new w _)]; rfl
      have hf3 : W.frozen? ⟨w.heap.size, 0, none⟩ = false := by rw [hW]; exact frozen_of_row _ w.heap.size 0 _ _ (heap_alloc_new w _)
      have hWs : W.heap.size = w.heap.size + 1 := by rw [hW]; simp
      have HH : Hid (W.heap[w.heap.size]? = some (.cells #[.string s] 9 (0, 0))) := Lib.hid (by rw [hW]; exact heap_alloc_new w _)
      rw [← hW]
      clear hW
      by_cases hsz : ws.sum = s.size
      · have hsz2 : (s.size : Int) = (a : Int) := by omega
        have hsz3 : ((s.size : Int) != (a : Int)) = false := by simp [hsz2]
        have HBW := Lib.hid hbW
        have HF3 := Lib.hid hf3
        have HC3 := Lib.hid hc3
        have HR2 : Hid (R = unpO ws s.data.toList) := Lib.hid (by rw [HR.out, unpR, if_pos (by simpa using hsz)])
        have hSl : s.data.toList.length = ws.sum := by simp [hsz]
        have HWS := Lib.hid hWs
        have HA := Lib.hid ha
        have hfid := ucut_fid
        clear hbW hf3 hWs ha
        go_wp2_with fail
        clear hc3
        go_loopw [10, 38] (fun o c wr => ∃ (i : Nat) (r : ByteArray) (ns : List Nat), i ≤ len ∧ c = .int .i64 (i : Int) ∧ wr.heap[w.heap.size]? = some (.cells #[.string r] 9 (0, 0)) ∧ r.data.toList = s.data.toList.drop (ws.take i).sum ∧
          wr.ownsRow (w.heap.size + 1) 3 1 o ns.length (nums ns) ∧ ns.length = i ∧ unpO ws s.data.toList = (unpO (ws.drop i) r.data.toList).map (ns ++ ·) ∧ Below w.heap.size w wr ∧ w.heap.size + 1 ≤ wr.heap.size) (fun _ c _ => len - (intOf c).toNat)
        case atStart => exact ⟨0, s, [], by omega, rfl, HH.out, by simp, World.ownsRow_nil _ _ _ _, rfl, by simp, HBW.out, by rw [HWS.out]; exact Nat.le_refl _⟩
        case round =>
          obtain ⟨i, r, ns, hil, rfl, hh, hr, hO, hnl, hq, hbw, hwz⟩ := hrel
          have hrl : r.size = ws.sum - (ws.take i).sum := by
            have := congrArg List.length hr
            rw [List.length_drop, hSl] at this
            simpa using this
          by_cases hik : i < len
          · have hii : (i : Int) < (len : Int) := by omega
            obtain ⟨k, hk⟩ : ∃ k, ws[i]? = some k := ⟨ws[i]'(by rw [← HL.out]; exact hik), List.getElem?_eq_getElem _⟩
            obtain ⟨hk1, hk8⟩ := HW.out k (List.mem_of_getElem? hk)
            have c0 := (hbw.cell (p := ⟨gw, i, none⟩) hgw).trans (CW.out i k hk)
            have hsum := sum_take_succ ws i k hk
            have hle := sum_take_le ws (i + 1)
            have hkr : k ≤ r.size := by omega
            have hcr : wr.cell? ⟨w.heap.size, 0, none⟩ = some (.string r) := by rw [cell_of_row _ _ _ _ _ _ hh]; rfl
            have hfr : wr.frozen? ⟨w.heap.size, 0, none⟩ = false := frozen_of_row _ _ _ _ _ hh
            have hd : ws.drop i = k :: ws.drop (i + 1) := by
              rw [List.drop_eq_getElem_cons (by rw [← HL.out]; exact hik)]
              congr 1
              exact Option.some.inj ((List.getElem?_eq_getElem _).symm.trans hk)
            rw [hd, unpO] at hq
            obtain ⟨p, hp⟩ : ∃ p : ByteArray, p = r.extract 0 k := ⟨_, rfl⟩
            obtain ⟨r2, hr2⟩ : ∃ r2 : ByteArray, r2 = r.extract k r.size := ⟨_, rfl⟩
            have hpl : p.data.toList = r.data.toList.take k := by
              rw [hp]
              simp only [ByteArray.data_extract, Array.toList_extract, List.extract_eq_take_drop, Nat.sub_zero, List.drop_zero]
            have hr2l : r2.data.toList = r.data.toList.drop k := by
              rw [hr2]
              simp only [ByteArray.data_extract, Array.toList_extract, List.extract_eq_take_drop]
              exact List.take_of_length_le (by simp)
            have hps : p.size = k := by
              have := congrArg List.length hpl
              rw [List.length_take] at this
              simp at this
              omega
            have HCUT := Lib.hid (ucut_any w.heap.size r k hkr wr hcr hfr)
            rw [← hp, ← hr2] at HCUT
            rw [← hpl, ← hr2l] at hq
            have hown : (wr.setCell ⟨w.heap.size, 0, none⟩ (.string r2)).ownsRow (w.heap.size + 1) 3 1 u10 ns.length (nums ns) :=
              hO.kept (row := some w.heap.size) ⟨rfl, rfl, rfl, by simp [World.setCell], fun q _ hq => Below.heap_setCell _ _ _ _ (fun e => hq (by simp [e]))⟩ (by
                cases hv : u10.ownBlock with
                | none => exact .inl rfl
                | some g => exact .inr (fun e => by have := (hO.lt g hv).1; injection e with e; omega))
            have hh2 : (wr.setCell ⟨w.heap.size, 0, none⟩ (.string r2)).heap[w.heap.size]? = some (.cells #[.string r2] 9 (0, 0)) := heap_setCell_same wr w.heap.size 0 _ _ (.string r2) hh
            have hb2 : Below w.heap.size w (wr.setCell ⟨w.heap.size, 0, none⟩ (.string r2)) := hbw.setCell (p := ⟨w.heap.size, 0, none⟩) (Nat.le_refl _) _
            have hz2 : (wr.setCell ⟨w.heap.size, 0, none⟩ (.string r2)).heap.size = wr.heap.size := by simp [World.setCell]
            have hrn : r2.data.toList = s.data.toList.drop (ws.take (i + 1)).sum := by rw [hr2l, hr, List.drop_drop, hsum]
            obtain ⟨W2, hW2⟩ : ∃ W2, W2 = wr.setCell ⟨w.heap.size, 0, none⟩ (.string r2) := ⟨_, rfl⟩
            rw [← hW2] at hown hh2 hb2 hz2 HCUT
            have HOWN := Lib.hid hown
            have HH2 := Lib.hid hh2
            have HB2 := Lib.hid hb2
            have HQ := Lib.hid hq
            have HRN := Lib.hid hrn
            have HZ2 : Hid (W2.heap.size = wr.heap.size) := Lib.hid hz2
            clear hown hh2 hb2 hq hrn hz2 hW2 hp hr2 hpl hr2l hcr hfr hd hsum hle hh hr hO hbw hk
            by_cases hg : numOk p.data.toList
            · have HG := Lib.hid (fun w => get_yes p hg w)
              have hnw : nums (ns ++ [gt p.data.toList]) = nums ns ++ [.int .i64 ((gt p.data.toList : Nat) : Int)] := by simp [nums]
              have HQ2 : Hid (unpO ws s.data.toList = (unpO (ws.drop (i + 1)) r2.data.toList).map ((ns ++ [gt p.data.toList]) ++ ·)) := Lib.hid (by
                rw [HQ.out, if_pos hg, Option.map_map]
                congr 1
                funext x
                simp)
              have hgl := numOk_lt hg
              clear HQ hg
              generalize gt p.data.toList = G at *
              have HNW := Lib.hid hnw
              have hO2 : Hid ((W2.alloc (.cells #[.int .i64 (G : Int)] 3)).ownsRow (w.heap.size + 1) 3 1 u10 ns.length (nums ns)) := Lib.hid (HOWN.out.alloc _)
              clear hnw
              go_wp2_with (first
                | (go_at_call 62; (with_reducible refine HCUT.out.mono ?_); rintro e w3 ⟨rfl, rfl⟩)
                | (go_at_call 63; (with_reducible refine (HG.out _).mono ?_); rintro e w4 ⟨rfl, rfl⟩)
                | (at_builtin; refine wpList_append_own _ rfl _ _ 41 rfl (w.heap.size + 1) 3 i0 (.int .i64 0) 1 8 Tryd.underlying41 hi iz0 iz1 iz2 rfl (by decide) _ _ _ rfl hO2.out ⟨W2.heap.size, 0, none⟩ 1 1 [.int .i64 (G : Int)] rfl rfl ?c1 ?c2 ?c3 ?c4 ?c5 ?_))
              case c1 => exact cell_one_new _ _ _
              case c2 => intro u hu; simp at hu; subst hu; rfl
              case c3 => unfold maxLen; omega
              case c4 => omega
              case c5 => have := HZ2.out; simp; omega
              intro v' w5 hO5 hg5 _
              have h3 : (W2.alloc (.cells #[.int .i64 (G : Int)] 3)).heap[w.heap.size]? = some (.cells #[.string r2] 9 (0, 0)) := ((bnew W2 _).block _ (lt_of_block HH2.out)).trans HH2.out
              have HH5 : Hid (w5.heap[w.heap.size]? = some (.cells #[.string r2] 9 (0, 0))) := Lib.hid ((hg5.block _ (lt_of_block h3) (fun e => by have := (HOWN.out.lt w.heap.size e.symm).1; omega)).trans h3)
              have hz5 := hg5.size
              have HB5 : Hid (Below w.heap.size w w5) := Lib.hid ((HB2.out.alloc (by have := HZ2.out; omega) _).grown hg5 (by have := HZ2.out; simp; omega) (fun q hq => by have := (HOWN.out.lt q hq).1; omega))
              have hz6 : w.heap.size + 1 ≤ w5.heap.size := by have := HZ2.out; simp at hz5; omega
              have HO5 : Hid (w5.ownsRow (w.heap.size + 1) 3 1 v' (ns.length + 1) (nums ns ++ [.int .i64 (G : Int)])) := Lib.hid (by first | exact hO5 | (rw [hnl]; exact hO5))
              clear hO5 hg5 hz5 h3
              go_wp2_with fail
              refine ⟨⟨i + 1, r2, ns ++ [G], by omega, by go_num, HH5.out, HRN.out, ?_, by simp [hnl], HQ2.out, HB5.out, hz6⟩, by simp [intOf]; omega⟩
              rw [HNW.out, List.length_append]
              exact HO5.out
            · have HG := Lib.hid (fun w => get_no p hg (by omega) (by omega) w)
              have hRn : R = none := by rw [HR2.out, HQ.out, if_neg hg]; rfl
              subst hRn
              clear hg HQ
              go_wp2_with (first
                | (go_at_call 62; (with_reducible refine HCUT.out.mono ?_); rintro e w3 ⟨rfl, rfl⟩)
                | (go_at_call 63; (with_reducible refine (HG.out _).mono ?_); rintro e w4 ⟨rfl, rfl⟩))
              go_ret2
              exact ⟨rfl, HB2.out⟩
          · have hi2 : i = len := by omega
            subst hi2
            have hRs : R = some ns := by
              rw [HR2.out, hq, List.drop_of_length_le (by rw [← HL.out]; exact Nat.le_refl _)]
              simp [unpO]
            subst hRs
            have HOWN := Lib.hid hO
            clear hq hh hr hO
            go_wp2_with fail
            go_ret2
            exact ⟨⟨u10, rfl, own_base (base := w.heap.size + 1) (by first | exact HOWN.out | (have h := HOWN.out; rw [hnl] at h; exact h)) (by omega)⟩, hbw⟩
      · have hsz2 : ¬ (s.size : Int) = (a : Int) := by omega
        have hsz3 : ((s.size : Int) != (a : Int)) = true := by simpa using hsz2
        have hRn : R = none := by rw [HR.out, unpR, if_neg (by simpa using hsz)]
        subst hRn
        clear ha
        go_wp2_with fail
        go_ret2
        exact ⟨rfl, hbW⟩
end Go.Proofs.YtdpfcjhhabcheaaDoor

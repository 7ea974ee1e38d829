/-
  The contract of the reference's ask. No condition. Own work.
-/
import Derived.Test.YtdpfcjhhabcheaaAsk
namespace Go.Proofs.Ytdpfcjhhabcheaa
open Go Go.RowKit

theorem find_of {c : UInt8} : ∀ {l : List UInt8} {i : Nat}, l[i]? = some c → (∀ (j : Nat) (d : UInt8), j < i → l[j]? = some d → d ≠ c) → findB c l = some i
  | [], i, h, _ => by simp at h
  | b :: l, 0, h, _ => by
    simp at h
    unfold findB
    rw [if_pos h]
  | b :: l, i + 1, h, ha => by
    have hb := ha 0 b (by omega) rfl
    unfold findB
    rw [if_neg hb, find_of (by simpa using h) (fun j d hj hd => ha (j + 1) d (by omega) (by simpa using hd))]
    rfl
theorem find_no {c : UInt8} {l : List UInt8} (ha : ∀ (j : Nat) (d : UInt8), l[j]? = some d → d ≠ c) : findB c l = none := by
  cases h : findB c l with
  | none => rfl
  | some i => exact absurd rfl (ha i c (find_lt h).2.1)
theorem results_cell1 {fn : Func} {p : Tmp} {ty : TypeId} (h : fn.results = #[.cell p ty]) (tmps : Array Value) (P : Program) (w : World) :
    (results fn tmps).run P w = ((asAddr (tmps.getD p undef)).run P w).andThen fun a w₁ => (loadVar ty a).run P w₁ := by
  simp only [results, h]
  simp [Sem.run_bind, Result.andThen]
/-- What the reference's ask tells: an epoch below 0: none. -/
def raskP (s : ByteArray) : Int × Int := match findB 58 s.data.toList with
  | some i => if 0 ≤ numR (s.extract 0 i).data.toList ∧ 0 ≤ numR (s.extract (i + 1) s.size).data.toList then (numR (s.extract 0 i).data.toList, numR (s.extract (i + 1) s.size).data.toList) else (-1, 0)
  | none => (-1, 0)
set_option maxRecDepth 100000 in
set_option maxHeartbeats 6400000 in
theorem rask_any (s : ByteArray) (hs : s.size ≤ 1000000) (w : World) : Calls Try.prog 18 #[.string s] w fun e w' => e = .returned (.agg #[.int .i64 (raskP s).1, .int .i64 (raskP s).2]) ∧ Below w.heap.size w w' := by
  obtain ⟨l, hl⟩ : ∃ l, l = s.data.toList := ⟨_, rfl⟩
  have hn : s.size = l.length := by rw [hl]; exact sz_list s
  have hidx : ∀ (i : Nat) (c : UInt8), l[i]? = some c → ∀ W, (Instr.index 9 (.string s) (.int .i64 (i : Int))).run Try.prog W = .ok (.int .u8 ((c.toNat : Nat) : Int)) W := fun i c h => str_idx s i c (by rw [← hl]; exact h)
  have HIX := Lib.hid hidx
  obtain ⟨n, hnn⟩ : ∃ n, n = l.length := ⟨_, rfl⟩
  have hsz : (s.size : Int) = (n : Int) := by omega
  have hn9 : n ≤ 1000000 := by omega
  have HN := Lib.hid hnn
  have HL := Lib.hid hl
  have HSN : Hid (s.size = n) := Lib.hid (by omega)
  obtain ⟨P1, P2, hP⟩ : ∃ a b, raskP s = (a, b) := ⟨_, _, rfl⟩
  rw [hP]
  have HP := Lib.hid hP
  dsimp only
  clear hl hidx hnn hn hs hP
  go_enter Try.func18, Try.ntmps18
  go_upto_region 1 with (fail)
  obtain ⟨W1, hW1⟩ : ∃ W1, W1 = w.alloc (.cells #[.int .i64 0, .int .i64 0] 39) := ⟨_, rfl⟩
  rw [← hW1]
  have r1 : W1.heap[w.heap.size]? = some (.cells #[.int .i64 0, .int .i64 0] 39 (0, 0)) := by rw [hW1]; exact heap_alloc_new w _
  have B1 := Lib.hid (show Below w.heap.size w W1 by rw [hW1]; exact bnew w _)
  have Z1 : Hid (w.heap.size < W1.heap.size) := Lib.hid (by rw [hW1]; simp)
  have R1 := Lib.hid r1
  clear hW1 r1
  go_wp2_with fail
  go_loopw [3] (fun c wr => ∃ i : Nat, i ≤ n ∧ c = .int .i64 (i : Int) ∧ (∀ (j : Nat) (d : UInt8), j < i → l[j]? = some d → d ≠ 58) ∧ W1 = wr) (fun c _ => n - (intOf c).toNat)
  case atStart => exact ⟨0, by omega, rfl, fun j d h => by omega, rfl⟩
  case round =>
    obtain ⟨i, hi, rfl, hall, rfl⟩ := hrel
    have HALL := Lib.hid hall
    clear hall
    by_cases hik : i < n
    · have hii : (i : Int) < (n : Int) := by omega
      obtain ⟨c, hc⟩ : ∃ c, l[i]? = some c := ⟨_, List.getElem?_eq_getElem (by rw [← HN.out]; exact hik)⟩
      have hix := HIX.out i c hc
      by_cases h58 : c = 58
      · have hcn : ((c.toNat : Nat) : Int) = 58 := by rw [h58]; rfl
        have hfind : findB 58 s.data.toList = some i := by rw [← HL.out]; exact find_of (by rw [hc, h58]) HALL.out
        have hPP := HP.out
        unfold raskP at hPP
        rw [hfind] at hPP
        dsimp only at hPP
        have H1 := Lib.hid (rnumber_any (s.extract 0 i))
        have H2 := Lib.hid (rnumber_any (s.extract (i + 1) s.size))
        generalize numR (s.extract 0 i).data.toList = x at *
        generalize numR (s.extract (i + 1) s.size).data.toList = y at *
        have b0 : (0 : Int) ≤ (i : Int) := by omega
        have b1 : (i : Int) ≤ (n : Int) := by omega
        have e1 : (i : Int) + 1 = ((i + 1 : Nat) : Int) := by omega
        have b2 : ((i + 1 : Nat) : Int) ≤ (n : Int) := by omega
        have b3 : (0 : Int) ≤ ((i + 1 : Nat) : Int) := by omega
        have hm64 : i + 1 < 9223372036854775808 := by omega
        rw [HSN.out] at H2
        obtain ⟨m, hm⟩ : ∃ m, m = i + 1 := ⟨_, rfl⟩
        rw [← hm] at e1 b2 b3 hm64 H2
        have e3 : IntKind.i64.wrap (m : Int) = (m : Int) := by rw [IntKind.wrap_i64]; omega
        have e2 : wrap64 (m : Int) = (m : Int) := w64n _ hm64
        have HSZ : Hid (s.size = n) := HSN
        have hsn : s.size = n := HSN.out
        clear hm hm64 hc h58 hfind
        go_wp2_with fail
        refine wp_region_txt (fun w' => W1.heap.size ≤ w'.heap.size ∧ Below w.heap.size w w' ∧ w'.heap[w.heap.size]? = some (.cells #[.int .i64 0, .int .i64 0] 39 (0, 0))) (by kernel_rfl) (by kernel_rfl) ⟨Nat.le_refl _, B1.out.drew, R1.out⟩ ?_
        have HK : Hid (Keeps (fun w' => W1.heap.size ≤ w'.heap.size ∧ Below w.heap.size w w' ∧ w'.heap[w.heap.size]? = some (.cells #[.int .i64 0, .int .i64 0] 39 (0, 0)))) := Lib.hid fun w1 w2 h hb => ⟨Nat.le_trans h.1 hb.size, bthen h.2.1 hb, (hb.block w.heap.size (by have := Z1.out; have := h.1; omega)).trans h.2.2⟩
        repeat (first
          | (refine text_skip (by rfl) ?_; simp only [Act.put, List.setIfInBounds_toArray, List.set_cons_zero, List.set_cons_succ])
          | (refine text_pure (v := ?_) (by rfl) (fun wx hS => ?_) ?_; rotate_left; (go_simp; with_reducible exact rfl); simp only [Act.put, List.setIfInBounds_toArray, List.set_cons_zero, List.set_cons_succ])
          | (refine text_call (v := ?_) (f := ?_) (args := ?_) (by rfl) (fun wx hS => ?_) (fun wx hS => ?_) ?_; rotate_left 3; (go_simp; constructor <;> with_reducible rfl)
             (first
               | with_reducible exact meets HK.out H1.out wx hS
               | with_reducible exact meets HK.out H2.out wx hS)
             simp only [Act.put, List.setIfInBounds_toArray, List.set_cons_zero, List.set_cons_succ]))
        refine text_nil (fun wx hS => ?_)
        obtain ⟨_, hB, hR⟩ := hS
        have c0 : wx.cell? ⟨w.heap.size, 0, none⟩ = some (.int .i64 0) := by rw [cell_of_row _ _ _ _ _ _ hR]; rfl
        have c1 : wx.cell? ⟨w.heap.size, 1, none⟩ = some (.int .i64 0) := by rw [cell_of_row _ _ _ _ _ _ hR]; rfl
        have f0 := frozen_of_row wx w.heap.size 0 _ _ hR
        have f1 := frozen_of_row wx w.heap.size 1 _ _ hR
        have HB := Lib.hid hB
        clear hB hR HP
        by_cases hx : 0 ≤ x
        · by_cases hy : 0 ≤ y
          · rw [if_pos ⟨hx, hy⟩] at hPP
            injection hPP with p1 p2
            subst p1 p2
            go_wp2_with fail
            refine bodyPost_ret (v := .agg #[.int .i64 x, .int .i64 y]) ?_ rfl ⟨rfl, ?_⟩
            · rw [results_cell1 rfl]; go_simp
            · exact (HB.out.setCell (Nat.le_refl _) _).setCell (Nat.le_refl _) _
          · rw [if_neg (fun h => hy h.2)] at hPP
            injection hPP with p1 p2
            subst p1 p2
            go_wp2_with fail
            refine bodyPost_ret (v := .agg #[.int .i64 (-1), .int .i64 0]) ?_ rfl ⟨rfl, ?_⟩
            · rw [results_cell1 rfl]; go_simp
            · exact (HB.out.setCell (Nat.le_refl _) _).setCell (Nat.le_refl _) _
        · rw [if_neg (fun h => hx h.1)] at hPP
          injection hPP with p1 p2
          subst p1 p2
          go_wp2_with fail
          refine bodyPost_ret (v := .agg #[.int .i64 (-1), .int .i64 0]) ?_ rfl ⟨rfl, ?_⟩
          · rw [results_cell1 rfl]; go_simp
          · exact (HB.out.setCell (Nat.le_refl _) _).setCell (Nat.le_refl _) _
      · have hcn : ¬ ((c.toNat : Nat) : Int) = 58 := fun e => h58 (UInt8.toNat_inj.1 (by rw [show ((58 : UInt8).toNat) = 58 from rfl]; omega))
        have hcb : (((c.toNat : Nat) : Int) == 58) = false := by simpa using hcn
        have HE := Lib.hid h58
        have HC := Lib.hid hc
        clear hc h58
        go_wp2_with fail
        exact ⟨⟨i + 1, by omega, by go_num, fun j d hj hd => by
          by_cases hji : j = i
          · subst hji
            have e := HC.out
            rw [hd] at e
            cases e
            exact HE.out
          · exact HALL.out j d (by omega) hd, by first | trivial | rfl⟩, by simp [intOf]; omega⟩
    · have hi2 : i = n := by omega
      subst hi2
      have hfind : findB 58 s.data.toList = none := by
        rw [← HL.out]
        exact find_no fun j d hd => HALL.out j d (by have := (List.getElem?_eq_some_iff.mp hd).1; have := HN.out; omega) hd
      have hPP := HP.out
      unfold raskP at hPP
      rw [hfind] at hPP
      dsimp only at hPP
      injection hPP with p1 p2
      subst p1 p2
      have hR := R1.out
      have c0 : W1.cell? ⟨w.heap.size, 0, none⟩ = some (.int .i64 0) := by rw [cell_of_row _ _ _ _ _ _ hR]; rfl
      have c1 : W1.cell? ⟨w.heap.size, 1, none⟩ = some (.int .i64 0) := by rw [cell_of_row _ _ _ _ _ _ hR]; rfl
      have f0 := frozen_of_row W1 w.heap.size 0 _ _ hR
      have f1 := frozen_of_row W1 w.heap.size 1 _ _ hR
      clear hR HP hfind
      go_wp2_with fail
      refine bodyPost_ret (v := .agg #[.int .i64 (-1), .int .i64 0]) ?_ rfl ⟨rfl, ?_⟩
      · rw [results_cell1 rfl]; go_simp
      · exact (B1.out.setCell (Nat.le_refl _) _).setCell (Nat.le_refl _) _
end Go.Proofs.Ytdpfcjhhabcheaa

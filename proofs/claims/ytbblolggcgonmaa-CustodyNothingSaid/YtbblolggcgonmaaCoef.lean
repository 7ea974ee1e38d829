/-
  The contract of custody.coefficient. No condition. Own work.
-/
import Derived.Test.YtbblolggcgonmaaValue
namespace Go.Proofs.Ytbblolggcgonmaa
open Go.RowKit

theorem pa_getD (p q : List UInt8) (i : Nat) : (pa p q).getD i 0 = p.getD i 0 ^^^ q.getD i 0 := by
  induction p generalizing q i with
  | nil => simp [pa]
  | cons c p ih =>
    cases q with
    | nil => simp [pa]
    | cons d q =>
      cases i with
      | zero => simp [pa]
      | succ i => simpa [pa] using ih q i
theorem getD_mapz (p : List UInt8) (f : UInt8 → UInt8) (h0 : f 0 = 0) (i : Nat) : (p.map f).getD i 0 = f (p.getD i 0) := by
  rw [List.getD_eq_getElem?_getD, List.getD_eq_getElem?_getD, List.getElem?_map]
  cases p[i]? with
  | none => simp [h0]
  | some c => rfl
/-- The next polynomial, its lower part through a rounds, its upper one through b. -/
def nx (P : List UInt8) (x f : UInt8) (a b q : Nat) : UInt8 := (if q < a then gm (gm (P.getD q 0) x) f else 0) ^^^ (if 1 ≤ q ∧ q ≤ b then gm (P.getD (q - 1) 0) f else 0)
def nxL (P : List UInt8) (x f : UInt8) (a b : Nat) : List UInt8 := (List.range (P.length + 1)).map (nx P x f a b)
theorem nxL_len (P : List UInt8) (x f : UInt8) (a b : Nat) : (nxL P x f a b).length = P.length + 1 := by simp [nxL]
theorem nxL_get (P : List UInt8) (x f : UInt8) (a b q : Nat) (h : q ≤ P.length) : (nxL P x f a b)[q]? = some (nx P x f a b q) := by
  unfold nxL; rw [List.getElem?_map, List.getElem?_range (by omega)]; rfl
theorem nxL_zero (P : List UInt8) (x f : UInt8) : nxL P x f 0 0 = List.replicate (P.length + 1) 0 := by
  unfold nxL
  refine List.eq_replicate_iff.mpr ⟨by simp, fun b hb => ?_⟩
  obtain ⟨q, _, rfl⟩ := List.mem_map.mp hb
  unfold nx
  rw [if_neg (by omega), if_neg (by omega)]; rfl
theorem nxL_end (P : List UInt8) (x f : UInt8) : nxL P x f P.length P.length = ml x f P := by
  apply List.ext_getElem?
  intro q
  by_cases h : q ≤ P.length
  · rw [nxL_get _ _ _ _ _ _ h]
    have hq : q < (ml x f P).length := by rw [ml_len]; omega
    have e : (ml x f P)[q]? = some ((ml x f P).getD q 0) := by rw [List.getD_eq_getElem?_getD, List.getElem?_eq_getElem hq]; rfl
    rw [e]
    congr 1
    unfold ml nx
    rw [pa_getD, getD_mapz P (fun c => gm (gm c x) f) (by simp [zero_gm])]
    congr 1
    · by_cases hl : q < P.length
      · rw [if_pos hl]
      · rw [if_neg hl, List.getD_eq_getElem?_getD, List.getElem?_eq_none (by omega)]; simp [zero_gm]
    · cases q with
      | zero => rw [if_neg (by omega)]; rfl
      | succ q =>
        rw [if_pos (by omega), List.getD_cons_succ, getD_mapz P (fun c => gm c f) (by simp [zero_gm])]
        rfl
  · rw [List.getElem?_eq_none (by rw [nxL_len]; omega), List.getElem?_eq_none (by rw [ml_len]; omega)]
theorem nx_low (P : List UInt8) (x f : UInt8) (k : Nat) : nx P x f (k + 1) k k = nx P x f k k k ^^^ gm (gm (P.getD k 0) x) f := by
  unfold nx
  rw [if_pos (show k < k + 1 by omega), if_neg (show ¬ k < k by omega), UInt8.zero_xor, UInt8.xor_comm]
theorem nx_high (P : List UInt8) (x f : UInt8) (k : Nat) : nx P x f (k + 1) (k + 1) (k + 1) = nx P x f (k + 1) k (k + 1) ^^^ gm (P.getD k 0) f := by
  unfold nx
  rw [if_neg (show ¬ k + 1 < k + 1 by omega), if_pos (show 1 ≤ k + 1 ∧ k + 1 ≤ k + 1 by omega), if_neg (show ¬ (1 ≤ k + 1 ∧ k + 1 ≤ k) by omega), UInt8.zero_xor, UInt8.zero_xor, UInt8.zero_xor]
  rfl
theorem nx_low_ne (P : List UInt8) (x f : UInt8) (k q : Nat) (h : q ≠ k) : nx P x f (k + 1) k q = nx P x f k k q := by
  unfold nx
  congr 1
  by_cases hq : q < k
  · rw [if_pos hq, if_pos (by omega)]
  · rw [if_neg hq, if_neg (by omega)]
theorem nx_high_ne (P : List UInt8) (x f : UInt8) (k q : Nat) (h : q ≠ k + 1) : nx P x f (k + 1) (k + 1) q = nx P x f (k + 1) k q := by
  unfold nx
  congr 1
  by_cases hq : 1 ≤ q ∧ q ≤ k
  · rw [if_pos hq, if_pos (by omega)]
  · rw [if_neg hq, if_neg (by omega)]

/-- What a block of bytes that nobody else writes holds. -/
abbrev Row (w : World) (g : Nat) (P : List UInt8) : Prop := Filled w g 5 P.length P (fun _ => True)

set_option maxRecDepth 100000 in
set_option maxHeartbeats 6400000 in
theorem coef_any (L : List Sh) (A : Option Addr) (cap i power : Nat) (w : World) (hA : ShAt w w.heap.size A L) (hlen : L.length ≤ 256) (hi : i < L.length) (hpw : power < L.length) :
    Calls Try.prog 48 #[.slice A L.length cap, .int .i64 (i : Int), .int .i64 (power : Int)] w fun e w' => e = .returned (bv ((lg ((places L).getD i 0) ((places L).eraseIdx i) [1]).getD power 0)) ∧ Below w.heap.size w w' := by
  obtain ⟨j0, hj, jz0, jz1, jz2⟩ := info_parts byte_info
  have hmk := fun n hn W => run_make_bytes (P := Try.prog) 72 5 j0 Try.underlying72 hj jz0 jz1 jz2 n hn W
  have HMK := Lib.hid hmk
  clear hmk hj jz0 jz1 jz2
  obtain ⟨p, hp⟩ : ∃ p, L[i]? = some p := ⟨L[i], List.getElem?_eq_getElem _⟩
  obtain ⟨xi, di⟩ := p
  have hxi : (places L).getD i 0 = xi := by unfold places; rw [List.getD_eq_getElem?_getD, List.getElem?_map, hp]; rfl
  rw [hxi]
  obtain ⟨R, hR⟩ : ∃ R, R = lg xi ((places L).eraseIdx i) [1] := ⟨_, rfl⟩
  rw [← hR]
  rw [← left_zero] at hR
  obtain ⟨len, hl⟩ : ∃ n, n = L.length := ⟨_, rfl⟩
  rw [← hl] at hlen hi hpw ⊢
  have HL := Lib.hid hl
  have HA := Lib.hid hA
  have HR := Lib.hid hR
  have HPI := Lib.hid hp
  clear hl hA hR hp hxi
  go_enter Try.func48, Try.ntmps48
  go_wp2_with fail
  go_loopw [7, 17] (fun o c wr => ∃ (j g : Nat) (P : List UInt8), j ≤ len ∧ c = .int .i64 j ∧ o = .slice (some ⟨g, 0, none⟩) P.length P.length ∧ P.length ≤ j + 1 ∧ R = lg xi (left (places L) i j) P ∧ Row wr g P ∧ w.heap.size ≤ g ∧ Below w.heap.size w wr) (fun _ c _ => len - (intOf c).toNat)
  case atStart =>
    refine ⟨0, w.heap.size, [1], Nat.zero_le _, rfl, rfl, by simp, HR.out, ?_, Nat.le_refl _, bnew _ _⟩
    refine ⟨#[.int .u8 1], heap_alloc_new w _, rfl, fun j c _ hj => ?_⟩
    match j with
    | 0 => simp at hj; subst hj; rfl
    | j + 1 => simp at hj
  case round =>
    obtain ⟨j, g, P, hjl, rfl, rfl, hPl, hv, hrow, hgb, hbw⟩ := hrel
    have HV := Lib.hid hv
    have HRow := Lib.hid hrow
    have hgl := hrow.lt
    clear hv hrow
    have hz := hbw.size
    obtain ⟨n, hn⟩ : ∃ n, n = P.length := ⟨_, rfl⟩
    rw [← hn] at hPl ⊢
    have HN := Lib.hid hn
    clear hn
    by_cases hlt : j < len
    · obtain ⟨p, hp⟩ : ∃ p, L[j]? = some p := ⟨L[j]'(by rw [← HL.out]; exact hlt), List.getElem?_eq_getElem _⟩
      obtain ⟨ad, rfl, hadl, c0, c1⟩ := (HA.out.below hbw).get hp
      obtain ⟨ad', had, hadl', d0, d1⟩ := (HA.out.below hbw).get HPI.out
      cases had
      obtain ⟨x, d⟩ := p
      have HX : Hid ((places L)[j]? = some x) := Lib.hid (by unfold places; rw [List.getElem?_map, hp]; rfl)
      simp only at c0 c1 d0 d1
      have hlti : (j : Int) < (len : Int) := by omega
      clear hp
      by_cases hji : j = i
      · subst hji
        go_wp2_with fail
        go_roundw
        case rel => exact ⟨j + 1, g, P, by omega, by go_num, by rw [HN.out], by have := HN.out; omega, by rw [HV.out, left_same HX.out], HRow.out.below (bnew _ _) hgl, hgb, hbw.alloc hz _⟩
        case measure => simp [intOf]; omega
      · have hne : ((j : Int) == (i : Int)) = false := by simp; omega
        have HJI := Lib.hid hji
        obtain ⟨y2, hy2⟩ : ∃ y, y = x ^^^ xi := ⟨_, rfl⟩
        have b2 := bxor x xi
        rw [← hy2] at b2
        have HY2 := Lib.hid hy2
        have hmk : ∀ W, (Instr.makeSlice 72 (.int .i64 ((n : Int) + 1)) (.int .i64 ((n : Int) + 1))).run Try.prog W = .ok (.slice (some ⟨W.heap.size, 0, none⟩) (n + 1) (n + 1)) (W.alloc (.cells (madeCells #[.int .u8 0] (n + 1)) 5)) := fun W => by
          have := HMK.out (n + 1) (by omega) W
          rw [show ((n + 1 : Nat) : Int) = (n : Int) + 1 from by omega] at this
          exact this
        obtain ⟨W2, hW2⟩ : ∃ W2, W2 = (wr.alloc (.cells #[.int .u8 ((x.toNat : Nat) : Int), .string d] 62)).alloc (.cells (madeCells #[.int .u8 0] (n + 1)) 5) := ⟨_, rfl⟩
        have k0 : W2.drew.cell? ⟨wr.heap.size, 0, none⟩ = some (.int .u8 ((x.toNat : Nat) : Int)) := by rw [hW2]; simp [go_sem]
        have hB2 : Below wr.heap.size wr W2 := by rw [hW2]; exact (bnew _ _).alloc (by simp) _
        have k2 : W2.drew.cell? (ad.add (i * 2)) = some (.int .u8 ((xi.toNat : Nat) : Int)) := (hB2.cell (p := ad.add (i * 2)) (by rw [block_add']; omega)).trans d0
        have hW2s : W2.heap.size = wr.heap.size + 2 := by rw [hW2]; simp
        have hnew : Row W2 (wr.heap.size + 1) (nxL P x (ov y2) 0 0) := by
          have h := Filled.made (wr.alloc (.cells #[.int .u8 ((x.toNat : Nat) : Int), .string d] 62)) 5 (n + 1)
          rw [← hW2] at h
          rw [nxL_zero]
          have e : (List.replicate (P.length + 1) (0 : UInt8)).length = n + 1 := by simp [HN.out]
          show Filled W2 (wr.heap.size + 1) 5 (List.replicate (P.length + 1) (0 : UInt8)).length _ _
          rw [e, ← HN.out]
          simpa using h
        have HW2 := Lib.hid hW2
        have HNew := Lib.hid hnew
        clear hW2 hnew d0 d1 hji hy2
        go_wp2_with fail
        rw [← HW2.out]
        refine wp_region_txt (Cells2 ⟨wr.heap.size, 0, none⟩ (ad.add (i * 2)) (.int .u8 ((x.toNat : Nat) : Int)) (.int .u8 ((xi.toNat : Nat) : Int)) W2.drew) (by kernel_rfl) (by kernel_rfl) ⟨k0, k2, rfl⟩ ?_
        repeat (first
          | (refine text_skip (by rfl) ?_; simp only [Act.put, List.setIfInBounds_toArray, List.set_cons_zero, List.set_cons_succ])
          | (refine text_pure (v := ?_) (by rfl) (fun wx hS => ?_) ?_; rotate_left; (go_simp; with_reducible exact rfl); simp only [Act.put, List.setIfInBounds_toArray, List.set_cons_zero, List.set_cons_succ])
          | (refine text_call (v := ?_) (f := ?_) (args := ?_) (by rfl) (fun wx hS => ?_) (fun wx hS => ?_) ?_; rotate_left 3; (go_simp; constructor <;> with_reducible rfl)
             (first
               | with_reducible exact meetsEq (over_any y2) wx hS)
             simp only [Act.put, List.setIfInBounds_toArray, List.set_cons_zero, List.set_cons_succ]))
        refine text_nil (fun wx hS => ?_)
        obtain ⟨_, _, rfl⟩ := hS
        obtain ⟨wo, hwo⟩ : ∃ wo, wo = wr.heap.size := ⟨_, rfl⟩
        obtain ⟨f, hf⟩ : ∃ f, f = ov y2 := ⟨_, rfl⟩
        have HBW : Hid (Below w.heap.size w W2) := Lib.hid (hbw.trans (hB2.mono hz))
        have HRW : Hid (Row W2 g P) := Lib.hid (HRow.out.below hB2 hgl)
        rw [← hf] at HNew ⊢
        rw [← hwo] at hgl hz k0 hW2s HNew ⊢
        have HF := Lib.hid hf
        clear hwo hmk hf hB2 hbw hadl hadl' c0 c1
        go_wp2_with fail
        go_loopw [40] (fun c wi => ∃ k : Nat, k ≤ n ∧ c = .int .i64 k ∧ Row wi (wo + 1) (nxL P x f k k) ∧ Row wi g P ∧ wi.cell? ⟨wo, 0, none⟩ = some (.int .u8 ((x.toNat : Nat) : Int)) ∧ Below w.heap.size w wi) (fun c _ => n - (intOf c).toNat)
        case atStart => exact ⟨0, Nat.zero_le _, rfl, HNew.out.drew, HRW.out.drew, k0, HBW.out.drew⟩
        case round =>
          clear k0 k2
          obtain ⟨k, hk, rfl, hnx, hrw, e0, hbi⟩ := hrel
          by_cases hkn : k < n
          · have hki : (k : Int) < (n : Int) := by omega
            have hki1 : (k : Int) < (n : Int) + 1 := by omega
            have hki2 : k < n + 1 := by omega
            have hki3 : IntKind.i64.wrap ((k : Int) + 1) = (k : Int) + 1 := by rw [IntKind.wrap_i64]; omega
            have hki4 : ((k : Int) + 1).toNat = k + 1 := by omega
            have hki5 : ((k : Int) + 1) < (n : Int) + 1 := by omega
            have hki6 : k + 1 < n + 1 := by omega
            have hki7 : (0 : Int) ≤ (k : Int) + 1 := by omega
            obtain ⟨c, hc⟩ : ∃ c, c = P.getD k 0 := ⟨_, rfl⟩
            have hcP : P[k]? = some c := by rw [hc, List.getD_eq_getElem?_getD, List.getElem?_eq_getElem (by have := HN.out; omega)]; rfl
            have g0 := hrw.get trivial hcP
            obtain ⟨o, ho⟩ : ∃ o, o = nx P x f k k k := ⟨_, rfl⟩
            have g1 : wr.cell? ⟨wo + 1, k, none⟩ = some (.int .u8 ((o.toNat : Nat) : Int)) := hnx.get trivial (by rw [nxL_get _ _ _ _ _ _ (by have := HN.out; omega), ho])
            have hz1 := hnx.frozen k
            have b1 := bxor o (gm (gm c x) f)
            obtain ⟨o2, ho2⟩ : ∃ o2, o2 = nx P x f (k + 1) k k := ⟨_, rfl⟩
            have e1 : o ^^^ gm (gm c x) f = o2 := by rw [ho2, nx_low, ← ho, ← hc]
            rw [e1] at b1
            obtain ⟨W3, hW3⟩ : ∃ W3, W3 = (wr.setCell ⟨wo + 1, k, none⟩ (.int .u8 ((o2.toNat : Nat) : Int))).drew := ⟨_, rfl⟩
            have hnx3 : Row W3 (wo + 1) (nxL P x f (k + 1) k) := by
              rw [hW3]
              have h := hnx
              show Filled _ _ _ (nxL P x f (k + 1) k).length _ _
              unfold Row at h
              rw [nxL_len] at h ⊢
              refine Filled.drew (h.upd (c := o2) (by have := HN.out; omega) ?_ (fun q _ hq => ⟨trivial, ?_⟩))
              · rw [nxL_get _ _ _ _ _ _ (by have := HN.out; omega), ho2]
              · by_cases hql : q ≤ P.length
                · rw [nxL_get _ _ _ _ _ _ hql, nxL_get _ _ _ _ _ _ hql, nx_low_ne _ _ _ _ _ hq]
                · rw [List.getElem?_eq_none (by rw [nxL_len]; omega), List.getElem?_eq_none (by rw [nxL_len]; omega)]
            have hrw3 : Row W3 g P := by rw [hW3]; exact (hrw.below (B := wo) (Below.setCell (Below.refl wo wr) (by simp) _) hgl).drew
            have e03 : W3.cell? ⟨wo, 0, none⟩ = some (.int .u8 ((x.toNat : Nat) : Int)) := by
              rw [hW3]
              refine Eq.trans (World.cell?_setCell_other _ _ _ _ ?_) e0
              intro e
              injection e with e
              omega
            have hbi3 : Below w.heap.size w W3 := by rw [hW3]; exact (hbi.setCell (by simp; omega) _).drew
            obtain ⟨o3, ho3⟩ : ∃ o, o = nx P x f (k + 1) k (k + 1) := ⟨_, rfl⟩
            have g3 : W3.cell? ⟨wo + 1, k + 1, none⟩ = some (.int .u8 ((o3.toNat : Nat) : Int)) := hnx3.get trivial (by rw [nxL_get _ _ _ _ _ _ (by have := HN.out; omega), ho3])
            have hz3 := hnx3.frozen (k + 1)
            have b3 := bxor o3 (gm c f)
            obtain ⟨o4, ho4⟩ : ∃ o, o = nx P x f (k + 1) (k + 1) (k + 1) := ⟨_, rfl⟩
            have e3 : o3 ^^^ gm c f = o4 := by rw [ho4, nx_high, ← ho3, ← hc]
            rw [e3] at b3
            have HW3 := Lib.hid hW3
            have HNX3 := Lib.hid hnx3
            have HRW3 := Lib.hid hrw3
            have HBI3 := Lib.hid hbi3
            have HO4 := Lib.hid ho4
            clear hW3 hnx3 hrw3 hbi3 ho3 ho4 e3
            have HC := Lib.hid hc
            have HNX := Lib.hid hnx
            have HRWi := Lib.hid hrw
            have HBI := Lib.hid hbi
            have HO2 := Lib.hid ho2
            clear hnx hrw hbi hc hcP ho ho2 e1
            go_wp2_with fail
            refine wp_region_tailN 12 (Cells2 ⟨wo + 1, k, none⟩ ⟨wo, 0, none⟩ (.int .u8 ((o.toNat : Nat) : Int)) (.int .u8 ((x.toNat : Nat) : Int)) wr.drew) (by kernel_rfl) (by kernel_rfl) (by kernel_rfl) ⟨g1, e0, rfl⟩ ?_
            simp only [List.take_succ_cons, List.take_zero, List.drop_succ_cons, List.drop_zero]
            repeat (first
              | (refine text_skip (by rfl) ?_; simp only [Act.put, List.setIfInBounds_toArray, List.set_cons_zero, List.set_cons_succ])
              | (refine text_pure (v := ?_) (by rfl) (fun wx hS => ?_) ?_; rotate_left; (go_simp; with_reducible exact rfl); simp only [Act.put, List.setIfInBounds_toArray, List.set_cons_zero, List.set_cons_succ])
              | (refine text_call (v := ?_) (f := ?_) (args := ?_) (by rfl) (fun wx hS => ?_) (fun wx hS => ?_) ?_; rotate_left 3; (go_simp; constructor <;> with_reducible rfl)
                 (first
                   | with_reducible exact meetsEq (mul_any c x) wx hS
                   | with_reducible exact meetsEq (mul_any (gm c x) f) wx hS)
                 simp only [Act.put, List.setIfInBounds_toArray, List.set_cons_zero, List.set_cons_succ]))
            refine text_nil (fun wx hS => ?_)
            obtain ⟨_, _, rfl⟩ := hS
            go_wp2_with fail
            rw [← HW3.out]
            refine wp_region_tailN 10 (Cells1 ⟨wo + 1, k + 1, none⟩ (.int .u8 ((o3.toNat : Nat) : Int)) W3.drew) (by kernel_rfl) (by kernel_rfl) (by kernel_rfl) ⟨g3, rfl⟩ ?_
            simp only [List.take_succ_cons, List.take_zero, List.drop_succ_cons, List.drop_zero]
            repeat (first
              | (refine text_skip (by rfl) ?_; simp only [Act.put, List.setIfInBounds_toArray, List.set_cons_zero, List.set_cons_succ])
              | (refine text_pure (v := ?_) (by rfl) (fun wx hS => ?_) ?_; rotate_left; (go_simp; with_reducible exact rfl); simp only [Act.put, List.setIfInBounds_toArray, List.set_cons_zero, List.set_cons_succ])
              | (refine text_call (v := ?_) (f := ?_) (args := ?_) (by rfl) (fun wx hS => ?_) (fun wx hS => ?_) ?_; rotate_left 3; (go_simp; constructor <;> with_reducible rfl)
                 (first
                   | with_reducible exact meetsEq (mul_any c f) wx hS)
                 simp only [Act.put, List.setIfInBounds_toArray, List.set_cons_zero, List.set_cons_succ]))
            refine text_nil (fun wx hS => ?_)
            obtain ⟨_, rfl⟩ := hS
            go_wp2_with fail
            refine ⟨⟨k + 1, by omega, by go_num, ?_, (HRW3.out.below (B := wo) (Below.setCell (Below.refl wo W3) (by simp) _) hgl).drew, ?_, (HBI3.out.setCell (by simp; omega) _).drew⟩, by simp [intOf]; omega⟩
            · have h := HNX3.out
              show Filled _ _ _ (nxL P x f (k + 1) (k + 1)).length _ _
              unfold Row at h
              rw [nxL_len] at h ⊢
              refine Filled.drew (h.upd (c := o4) (by have := HN.out; omega) ?_ (fun q _ hq => ⟨trivial, ?_⟩))
              · rw [nxL_get _ _ _ _ _ _ (by have := HN.out; omega), HO4.out]
              · by_cases hql : q ≤ P.length
                · rw [nxL_get _ _ _ _ _ _ hql, nxL_get _ _ _ _ _ _ hql, nx_high_ne _ _ _ _ _ hq]
                · rw [List.getElem?_eq_none (by rw [nxL_len]; omega), List.getElem?_eq_none (by rw [nxL_len]; omega)]
            · refine Eq.trans (World.cell?_setCell_other _ _ _ _ ?_) e03
              intro e
              injection e with e
              omega
          · have hkn' : k = n := by omega
            rw [hkn', HN.out, nxL_end] at hnx
            have hlm : (ml x f P).length = n + 1 := by rw [ml_len, HN.out]
            have HNX := Lib.hid hnx
            have HBI := Lib.hid hbi
            clear hnx hrw hbi e0
            go_wp2_with fail
            go_roundw
            case rel => exact ⟨j + 1, wo + 1, ml x f P, by omega, by go_num, by rw [hlm], by omega, by rw [HV.out, left_next HX.out HJI.out, lg, HF.out, HY2.out], HNX.out, by omega, HBI.out⟩
            case measure => simp [intOf]; omega
    · have hjl' : j = len := by omega
      have hlf : left (places L) i j = [] := left_end _ _ _ (by unfold places; rw [List.length_map, ← HL.out]; omega)
      have hv := HV.out
      rw [hlf, lg] at hv
      have hRl : R.length = len := by
        rw [HR.out, lg_len, left_zero, List.length_eraseIdx_of_lt (by unfold places; rw [List.length_map, ← HL.out]; exact hi)]
        unfold places; rw [List.length_map, ← HL.out]; simp; omega
      have hcP : P[power]? = some (R.getD power 0) := by
        rw [← hv, List.getD_eq_getElem?_getD, List.getElem?_eq_getElem (by omega)]; rfl
      have g0 := HRow.out.get trivial hcP
      have hpn : power < n := by rw [HN.out, ← hv, hRl]; exact hpw
      have hpni : (power : Int) < (n : Int) := by omega
      obtain ⟨r, hr⟩ : ∃ r, r = R.getD power 0 := ⟨_, rfl⟩
      rw [← hr] at g0
      have HRR := Lib.hid hr
      clear hlf hv hRl hcP hr
      go_wp2_with fail
      go_ret
      exact ⟨by rw [← HRR.out]; rfl, hbw⟩
end Go.Proofs.Ytbblolggcgonmaa

/-
  The contract of custody.value. No condition. Own work.
-/
import Derived.Test.YtbblolggcgonmaaWeight
namespace Go.Proofs.Ytbblolggcgonmaa
open Go.RowKit

theorem Filled.upd {w : World} {g n : Nat} {T : TypeId} {R R' : List UInt8} {D D' : Nat → Prop} (h : Filled w g T n R D) {i : Nat} {c : UInt8} (hi : i < n) (hc : R'[i]? = some c) (hD : ∀ j, D' j → j ≠ i → D j ∧ R'[j]? = R[j]?) :
    Filled (w.setCell ⟨g, i, none⟩ (bv c)) g T n R' D' := by
  obtain ⟨cs, h1, h2, h3⟩ := h
  refine ⟨cs.setIfInBounds i (bv c), by simp [World.setCell, Array.getElem?_modify, h1], by simpa using h2, fun j d hj hd => ?_⟩
  rw [Array.getElem?_setIfInBounds]
  by_cases hij : i = j
  · subst hij
    rw [if_pos rfl, if_pos (by omega)]
    rw [hc] at hd
    injection hd with hd
    rw [hd]
  · rw [if_neg hij]
    obtain ⟨h4, h5⟩ := hD j hj (fun e => hij e.symm)
    exact h3 j d h4 (by rw [← h5]; exact hd)
theorem Filled.get {w : World} {g n : Nat} {T : TypeId} {R : List UInt8} {D : Nat → Prop} (h : Filled w g T n R D) {i : Nat} {c : UInt8} (hD : D i) (hc : R[i]? = some c) : w.cell? ⟨g, i, none⟩ = some (bv c) := by
  obtain ⟨cs, h1, h2, h3⟩ := h
  simp only [World.cell?, h1]
  exact h3 i c hD hc
theorem Filled.drew {w : World} {g n : Nat} {T : TypeId} {R : List UInt8} {D : Nat → Prop} (h : Filled w g T n R D) : Filled w.drew g T n R D := h
theorem Filled.made (w : World) (T : TypeId) (n : Nat) : Filled (w.alloc (.cells (madeCells #[.int .u8 0] n) T)) w.heap.size T n (List.replicate n 0) (fun _ => True) := by
  refine ⟨madeCells #[.int .u8 0] n, heap_alloc_new w _, size_made _ _, fun j c _ hj => ?_⟩
  rw [List.getElem?_replicate] at hj
  by_cases hjn : j < n
  · rw [if_pos hjn] at hj
    injection hj with hj
    subst hj
    simp [madeCells, hjn, Nat.mod_one]
  · rw [if_neg hjn] at hj; cases hj

theorem ShAt.up {w w' : World} {B B' : Nat} {A : Option Addr} {L : List Sh} (h : ShAt w B A L) (hb : Below B w w') (hB : B ≤ B') : ShAt w' B' A L :=
  ⟨(ShAt.below h hb).len, fun hn => by
    obtain ⟨ad, e, hl, hc⟩ := (ShAt.below h hb).lies hn
    exact ⟨ad, e, Nat.lt_of_lt_of_le hl hB, hc⟩⟩
def places (L : List Sh) : List UInt8 := L.map (·.1)
def col (L : List Sh) (b : Nat) : List UInt8 := L.map fun p => p.2.data.toList.getD b 0
/-- What i shares count at byte b. -/
def part (L : List Sh) (t : UInt8) (i b : Nat) : UInt8 := xsum (fun q => gm (wg ((places L).getD q 0) t ((places L).eraseIdx q) 1) ((col L b).getD q 0)) i
theorem part_succ (L : List Sh) (t : UInt8) (i b : Nat) : part L t (i + 1) b = part L t i b ^^^ gm (wg ((places L).getD i 0) t ((places L).eraseIdx i) 1) ((col L b).getD i 0) := rfl
theorem part_lagr (L : List Sh) (t : UInt8) (b : Nat) : part L t L.length b = lagr (places L) (col L b) t := by
  unfold part lagr places
  rw [List.length_map]
def partL (L : List Sh) (t : UInt8) (n i : Nat) : List UInt8 := (List.range n).map (part L t i)
theorem partL_get (L : List Sh) (t : UInt8) (n i b : Nat) (h : b < n) : (partL L t n i)[b]? = some (part L t i b) := by
  unfold partL; rw [List.getElem?_map, List.getElem?_range h]; rfl
theorem partL_len (L : List Sh) (t : UInt8) (n i : Nat) : (partL L t n i).length = n := by simp [partL]
def valueL (L : List Sh) (t : UInt8) (n : Nat) : List UInt8 := (List.range n).map fun b => lagr (places L) (col L b) t
theorem valueL_eq (L : List Sh) (t : UInt8) (n : Nat) : valueL L t n = partL L t n L.length := by
  unfold valueL partL
  congr 1
  funext b
  exact (part_lagr L t b).symm
/-- The first b bytes of one row, the others of another one. -/
def mixL (A B : List UInt8) (b : Nat) : List UInt8 := A.take b ++ B.drop b
theorem mixL_get (A B : List UInt8) (b j : Nat) (hl : A.length = B.length) : (mixL A B b)[j]? = if j < b then A[j]? else B[j]? := by
  unfold mixL
  rw [List.getElem?_append, List.length_take]
  by_cases hb : b ≤ A.length
  · rw [Nat.min_eq_left hb]
    by_cases h : j < b
    · rw [if_pos h, if_pos h, List.getElem?_take, if_pos h]
    · rw [if_neg h, if_neg h, List.getElem?_drop, show b + (j - b) = j from by omega]
  · rw [Nat.min_eq_right (by omega), List.drop_of_length_le (by omega)]
    by_cases h : j < A.length
    · rw [if_pos h, if_pos (by omega), List.getElem?_take, if_pos (by omega)]
    · rw [if_neg h]
      by_cases h2 : j < b
      · rw [if_pos h2, List.getElem?_eq_none (by omega : A.length ≤ j)]; simp
      · rw [if_neg h2, List.getElem?_eq_none (by omega : B.length ≤ j)]; simp

set_option maxRecDepth 100000 in
set_option maxHeartbeats 6400000 in
theorem value_any (L : List Sh) (A : Option Addr) (cap : Nat) (t : UInt8) (n : Nat) (w : World) (hA : ShAt w w.heap.size A L) (hlen : L.length ≤ 1099511627776) (hne : 0 < L.length) (hn : ∀ p ∈ L, p.2.size = n) (hn64 : n ≤ 64) :
    Calls Try.prog 47 #[.slice A L.length cap, bv t] w fun e w' => e = .returned (.string ⟨(valueL L t n).toArray⟩) ∧ Below w.heap.size w w' := by
  obtain ⟨j0, hj, jz0, jz1, jz2⟩ := info_parts byte_info
  have hmk := fun W => run_make_bytes (P := Try.prog) 72 5 j0 Try.underlying72 hj jz0 jz1 jz2 n (by omega) W
  clear hj jz0 jz1 jz2
  obtain ⟨R, hR⟩ : ∃ R, R = valueL L t n := ⟨_, rfl⟩
  rw [← hR]
  obtain ⟨p0, hp0⟩ : ∃ p, L[0]? = some p := ⟨L[0], List.getElem?_eq_getElem _⟩
  have hd0 := hn p0 (List.mem_of_getElem? hp0)
  obtain ⟨ad, rfl, hadl, d0, d1⟩ := hA.get0 hp0
  obtain ⟨x0, dd⟩ := p0
  simp only at d0 d1 hd0
  have hlen' : L.length ≤ 1099511627776 := hlen
  have hw := fun i hi W h => weight_any L (some ad) cap i t W h hlen' hi
  obtain ⟨len, hl⟩ : ∃ n, n = L.length := ⟨_, rfl⟩
  rw [← hl] at hlen hne hw ⊢
  have HW := Lib.hid hw
  have HL := Lib.hid hl
  have HA := Lib.hid hA
  have HR := Lib.hid hR
  have HN := Lib.hid hn
  clear hl hA hR hn hw d0 hlen'
  have hne' : (0 : Int) < (len : Int) := by omega
  go_enter Try.func47, Try.ntmps47
  go_wp2_with fail
  clear hmk
  go_loopw [18] (fun c wr => ∃ i : Nat, i ≤ len ∧ c = .int .i64 i ∧ Filled wr w.heap.size 5 n (partL L t n i) (fun _ => True) ∧ Below w.heap.size w wr) (fun c _ => len - (intOf c).toNat)
  case atStart => exact ⟨0, Nat.zero_le _, rfl, by
    have e : partL L t n 0 = List.replicate n 0 := by
      unfold partL
      exact List.eq_replicate_iff.mpr ⟨by simp, fun b hb => by obtain ⟨_, _, rfl⟩ := List.mem_map.mp hb; rfl⟩
    rw [e]; exact Filled.made _ _ _, bnew _ _⟩
  case round =>
    obtain ⟨i, hi, rfl, hF, hbw⟩ := hrel
    by_cases hlt : i < len
    · obtain ⟨p, hp⟩ : ∃ p, L[i]? = some p := ⟨L[i]'(by rw [← HL.out]; exact hlt), List.getElem?_eq_getElem _⟩
      have hds := HN.out p (List.mem_of_getElem? hp)
      obtain ⟨ad', had, hadl', c0, c1⟩ := (HA.out.below hbw).get hp
      cases had
      obtain ⟨x, d⟩ := p
      simp only at c0 c1 hds
      have HF := Lib.hid hF
      have HP := Lib.hid hp
      have HB := Lib.hid hbw
      have hgl := hF.lt
      have hbz := hbw.size
      clear hF hp hbw
      go_wp2_with fail
      refine (HW.out i (by omega) _ (HA.out.up (HB.out.alloc hbz _) (by simp; omega))).mono ?_
      rintro e w1 ⟨rfl, hb1⟩
      obtain ⟨v, hv⟩ : ∃ v, v = wg ((L.map (·.1)).getD i 0) t ((L.map (·.1)).eraseIdx i) 1 := ⟨_, rfl⟩
      rw [← hv]
      have HV := Lib.hid hv
      clear hv
      have hz1 := hb1.size
      simp at hz1
      have k1 : w1.cell? ⟨wr.heap.size, 1, none⟩ = some (.string d) := (hb1.cell (p := ⟨wr.heap.size, 1, none⟩) (by simp)).trans (by simp [go_sem])
      have HF1 : Hid (Filled w1 w.heap.size 5 n (partL L t n i) (fun _ => True)) := Lib.hid ((HF.out.below (bnew wr _) (by omega)).below hb1 (by simp; omega))
      have HB1 : Hid (Below w.heap.size w w1) := Lib.hid ((HB.out.alloc hbz _).trans (hb1.mono (by simp; omega)))
      clear hb1
      obtain ⟨wo, hwo⟩ : ∃ wo, wo = wr.heap.size := ⟨_, rfl⟩
      rw [← hwo] at k1 hgl hbz hz1 ⊢
      clear hwo
      go_wp2_with fail
      go_loopw [29] (fun c wi => ∃ b : Nat, b ≤ n ∧ c = .int .i64 b ∧ Filled wi w.heap.size 5 n (mixL (partL L t n (i + 1)) (partL L t n i) b) (fun _ => True) ∧ Below w.heap.size w wi ∧ wi.cell? ⟨wo, 1, none⟩ = some (.string d)) (fun c _ => n - (intOf c).toNat)
      case atStart => exact ⟨0, Nat.zero_le _, rfl, HF1.out, HB1.out, k1⟩
      case round =>
        clear k1 c0 c1
        obtain ⟨b, hb, rfl, hF, hbi, k1⟩ := hrel
        by_cases hbn : b < n
        · have hbd : b < d.size := by omega
          have ho : w.heap.size < wo + 1 := by omega
          have hmix : (mixL (partL L t n (i + 1)) (partL L t n i) b)[b]? = some (part L t i b) := by
            rw [mixL_get _ _ _ _ (by rw [partL_len, partL_len]), if_neg (by omega), partL_get _ _ _ _ _ hbn]
          have hcell := hF.get trivial hmix
          have hfz := hF.frozen b
          have hpart : part L t (i + 1) b = part L t i b ^^^ gm v d[b] := by
            rw [part_succ, HV.out]
            have e : (col L b).getD i 0 = d[b] := by
              unfold col
              rw [List.getD_eq_getElem?_getD, List.getElem?_map, HP.out]
              show d.data.toList.getD b 0 = _
              rw [List.getD_eq_getElem?_getD, List.getElem?_eq_getElem (by simpa using hbd)]; rfl
            rw [e]; rfl
          obtain ⟨o, ho'⟩ : ∃ o, o = part L t i b := ⟨_, rfl⟩
          rw [← ho'] at hcell hpart
          have hx := bxor o (gm v d[b])
          rw [← hpart] at hx
          obtain ⟨o2, ho2⟩ : ∃ o, o = part L t (i + 1) b := ⟨_, rfl⟩
          rw [← ho2] at hx
          have HF2 := Lib.hid hF
          have HBi := Lib.hid hbi
          have HO2 := Lib.hid ho2
          clear hF hbi hmix hpart ho2 ho'
          go_wp2_with fail
          refine wp_region_tailN 12 (Cells2 ⟨w.heap.size, b, none⟩ ⟨wo, 1, none⟩ (.int .u8 ((o.toNat : Nat) : Int)) (.string d) wr.drew) (by kernel_rfl) (by kernel_rfl) (by kernel_rfl) ⟨hcell, k1, rfl⟩ ?_
          simp only [List.take_succ_cons, List.take_zero, List.drop_succ_cons, List.drop_zero]
          repeat (first
            | (refine text_skip (by rfl) ?_; simp only [Act.put, List.setIfInBounds_toArray, List.set_cons_zero, List.set_cons_succ])
            | (refine text_pure (v := ?_) (by rfl) (fun wx hS => ?_) ?_; rotate_left; (go_simp; with_reducible exact rfl); simp only [Act.put, List.setIfInBounds_toArray, List.set_cons_zero, List.set_cons_succ])
            | (refine text_call (v := ?_) (f := ?_) (args := ?_) (by rfl) (fun wx hS => ?_) (fun wx hS => ?_) ?_; rotate_left 3; (go_simp; constructor <;> with_reducible rfl)
               (first
                 | with_reducible exact meetsEq (mul_any v d[b]) wx hS)
               simp only [Act.put, List.setIfInBounds_toArray, List.set_cons_zero, List.set_cons_succ]))
          refine text_nil (fun wx hS => ?_)
          obtain ⟨_, _, rfl⟩ := hS
          go_wp2_with fail
          refine ⟨⟨b + 1, by omega, by go_num, ?_, (HBi.out.setCell (Nat.le_refl _) _).drew, ?_⟩, by simp [intOf]; omega⟩
          · refine (HF2.out.upd (c := o2) hbn ?_ (fun j _ hjb => ⟨trivial, ?_⟩)).drew
            · rw [mixL_get _ _ _ _ (by rw [partL_len, partL_len]), if_pos (by omega), partL_get _ _ _ _ _ hbn, HO2.out]
            · rw [mixL_get _ _ _ _ (by rw [partL_len, partL_len]), mixL_get _ _ _ _ (by rw [partL_len, partL_len])]
              by_cases hjl : j < b
              · rw [if_pos hjl, if_pos (by omega)]
              · rw [if_neg hjl, if_neg (by omega)]
          · show (wr.setCell _ _).cell? _ = _
            refine Eq.trans (World.cell?_setCell_other _ _ _ _ ?_) k1
            intro e
            injection e with e
            omega
        · have hbn' : b = n := by omega
          have hFn : Filled wr w.heap.size 5 n (partL L t n (i + 1)) (fun _ => True) := by
            have e : mixL (partL L t n (i + 1)) (partL L t n i) b = partL L t n (i + 1) := by
              unfold mixL
              rw [List.take_of_length_le (by rw [partL_len]; omega), List.drop_of_length_le (by rw [partL_len]; omega), List.append_nil]
            rw [← e]; exact hF
          have HFn := Lib.hid hFn
          have HBi := Lib.hid hbi
          clear hF hbi hFn k1
          go_wp2_with fail
          go_roundw
          case rel => exact ⟨i + 1, by omega, by go_num, HFn.out, HBi.out⟩
          case measure => simp [intOf]; omega
    · have hil : i = len := by omega
      rw [hil, HL.out, ← valueL_eq, ← HR.out] at hF
      have hcv := hF.str (P := Try.prog) (fun j hj => trivial) (by rw [HR.out]; simp [valueL]) n 72 5 9 Try.underlying72 Try.underlying5 Try.underlying9
      clear hF
      go_wp2_with fail
      go_ret
      exact ⟨rfl, hbw⟩
end Go.Proofs.Ytbblolggcgonmaa

/-
  The contract of custody.Noise. No condition. Own work.
-/
import Derived.Test.YtbblolggcgonmaaCoef
import Derived.Test.YtbblolggcgonmaaCustodyEnough
namespace Go.Proofs.Ytbblolggcgonmaa
open Go.RowKit

def coefV (L : List Sh) (pw i : Nat) : UInt8 := (lg ((places L).getD i 0) ((places L).eraseIdx i) [1]).getD pw 0
/-- What i shares count at byte b, of a power. -/
def part2 (L : List Sh) (pw i b : Nat) : UInt8 := xsum (fun q => gm (coefV L pw q) ((col L b).getD q 0)) i
theorem part2_succ (L : List Sh) (pw i b : Nat) : part2 L pw (i + 1) b = part2 L pw i b ^^^ gm (coefV L pw i) ((col L b).getD i 0) := rfl
theorem psum_getD (f : Nat → List UInt8) (n pw : Nat) : (psum f n).getD pw 0 = xsum (fun i => (f i).getD pw 0) n := by
  induction n with
  | zero => rfl
  | succ n ih => rw [psum, xsum, pa_getD, ih]
theorem part2_lagP (L : List Sh) (pw b : Nat) : part2 L pw L.length b = (lagP (places L) (col L b)).getD pw 0 := by
  unfold lagP part2
  rw [psum_getD]
  unfold places
  rw [List.length_map]
  congr 1
  funext i
  rw [getD_mapz _ (fun c => gm c ((col L b).getD i 0)) (by simp [zero_gm])]
  rfl
def part2L (L : List Sh) (pw n i : Nat) : List UInt8 := (List.range n).map (part2 L pw i)
theorem part2L_get (L : List Sh) (pw n i b : Nat) (h : b < n) : (part2L L pw n i)[b]? = some (part2 L pw i b) := by
  unfold part2L; rw [List.getElem?_map, List.getElem?_range h]; rfl
theorem part2L_len (L : List Sh) (pw n i : Nat) : (part2L L pw n i).length = n := by simp [part2L]
theorem part2L_zero (L : List Sh) (pw n : Nat) : part2L L pw n 0 = List.replicate n 0 := by
  unfold part2L
  exact List.eq_replicate_iff.mpr ⟨by simp, fun b hb => by obtain ⟨_, _, rfl⟩ := List.mem_map.mp hb; rfl⟩
/-- A power's row, and q of them. -/
def rowL (L : List Sh) (n pw : Nat) : List UInt8 := (List.range n).map fun b => (lagP (places L) (col L b)).getD pw 0
theorem rowL_eq (L : List Sh) (n pw : Nat) : rowL L n pw = part2L L pw n L.length := by
  unfold rowL part2L
  congr 1
  funext b
  exact (part2_lagP L pw b).symm
theorem rowL_len (L : List Sh) (n pw : Nat) : (rowL L n pw).length = n := by simp [rowL]
def noiseL (L : List Sh) (n q : Nat) : List UInt8 := ((List.range q).map fun j => rowL L n (j + 1)).flatten
theorem noiseL_succ (L : List Sh) (n q : Nat) : noiseL L n (q + 1) = noiseL L n q ++ rowL L n (q + 1) := by simp [noiseL, List.range_succ]
theorem noiseL_len (L : List Sh) (n q : Nat) : (noiseL L n q).length = q * n := by
  induction q with
  | zero => simp [noiseL]
  | succ q ih => rw [noiseL_succ, List.length_append, ih, rowL_len, Nat.succ_mul]

theorem noise_may (s : ByteArray) (L : List Sh) (A : Option Addr) (cap : Nat) (w : World) (hA : ShAt w w.heap.size A L) (hlen : L.length ≤ 1099511627776) (h : ¬ MayOk L) :
    Calls Try.prog 35 #[.string s, .slice A L.length cap] w fun e w' => e = .returned (.tuple #[.string ⟨#[]⟩, .int .i64 2]) ∧ Below w.heap.size w w' := by
  have hm := may_any L A cap w hA hlen
  rw [decide_eq_false h] at hm
  generalize L.length = len at *
  have HM := Lib.hid hm
  clear hm h hA
  go_enter Try.func35, Try.ntmps35
  go_wp2_with (go_at_call 46; (with_reducible refine HM.out.mono ?_); rintro e w1 ⟨rfl, hb1⟩)
  go_ret2
  exact ⟨rfl, hb1⟩
theorem noise_size (s : ByteArray) (L : List Sh) (A : Option Addr) (cap : Nat) (p0 : Sh) (w : World) (hA : ShAt w w.heap.size A L) (hlen : L.length < 255) (h : MayOk L) (hp0 : L[0]? = some p0) (hs : s.size ≠ p0.2.size) :
    Calls Try.prog 35 #[.string s, .slice A L.length cap] w fun e w' => e = .returned (.tuple #[.string ⟨#[]⟩, .int .i64 2]) ∧ Below w.heap.size w w' := by
  have hm := may_any L A cap w hA (by omega)
  rw [decide_eq_true h] at hm
  obtain ⟨ad, rfl, hadl, c0, c1⟩ := hA.get0 hp0
  have hne : ((s.size : Int) != (p0.2.size : Int)) = true := by simp; omega
  have hpos : 0 < L.length := (List.getElem?_eq_some_iff.mp hp0).1
  obtain ⟨x0, dd⟩ := p0
  simp only at c0 c1 hne
  generalize L.length = len at *
  have hlti : ¬ (255 : Int) ≤ (len : Int) := by omega
  have hposi : (0 : Int) < (len : Int) := by omega
  have HM := Lib.hid hm
  clear hm h hA hs hp0
  go_enter Try.func35, Try.ntmps35
  go_wp2_with (go_at_call 46; (with_reducible refine HM.out.mono ?_); rintro e w1 ⟨rfl, hb1⟩; have k1 := (hb1.cell (p := ⟨ad.block, ad.off + 1, none⟩) hadl).trans c1)
  go_ret2
  exact ⟨rfl, hb1⟩

theorem flat_cells {w : World} {B : Nat} {ad : Addr} {L : List Sh} (h : ShAt w B (some ad) L) : ∀ (j : Nat) (u : Value), (L.map shCells).flatten[j]? = some u → w.cell? (ad.add j) = some u := by
  intro j u hu
  have hl : j < L.length * 2 := by
    have := (List.getElem?_eq_some_iff.mp hu).1
    rw [List.length_flatten, List.map_map] at this
    have e : ∀ L : List Sh, (L.map (List.length ∘ shCells)).sum = L.length * 2 := by
      intro L
      induction L with
      | nil => rfl
      | cons p L ih => rw [List.map_cons, List.sum_cons, ih, List.length_cons]; show 2 + _ = _; omega
    rw [e] at this
    exact this
  have hq : j / 2 < L.length := by omega
  have hp := List.getElem?_eq_getElem hq
  obtain ⟨ad', e, _, hc⟩ := h.lies (by omega)
  cases e
  have h1 := (hc (j / 2) (shCells L[j / 2]) (by rw [List.getElem?_map, hp]; rfl)).2 (j % 2) (by omega)
  rw [show j / 2 * 2 + j % 2 = j from by omega] at h1
  have h2 := flat_get L (j / 2) (j % 2) L[j / 2] hp (by omega)
  rw [show j / 2 * 2 + j % 2 = j from by omega] at h2
  rw [h1, ← h2, hu]
theorem flat_one (L : List Sh) : ∀ u ∈ (L.map shCells).flatten, u.oneCell' = true := by
  intro u hu
  obtain ⟨cs, hcs, hu⟩ := List.mem_flatten.mp hu
  obtain ⟨p, _, rfl⟩ := List.mem_map.mp hcs
  simp [shCells] at hu
  rcases hu with rfl | rfl <;> rfl
theorem flat_len (L : List Sh) : (L.map shCells).flatten.length = L.length * 2 := by
  induction L with
  | nil => rfl
  | cons p L ih => rw [List.map_cons, List.flatten_cons, List.length_append, ih, List.length_cons]; show 2 + _ = _; omega

/-- 'string(out)' of a row of bytes that the call owns. -/
theorem own_str {w : World} {base : Nat} {v : Value} {n : Nat} {R : List UInt8} (h : w.ownsRow base 5 1 v n (R.map bv)) (hn : n = R.length) (h0 : 0 < n) : (convert 72 9 v).run Try.prog w = .ok (.string ⟨R.toArray⟩) w := by
  subst hn
  have h' := h
  obtain ⟨g, cap, rfl, _, _⟩ := h.form h0
  refine run_convert_bytes_back w 72 9 5 ⟨g, 0, none⟩ cap R Try.underlying72 Try.underlying5 Try.underlying9 fun j hj => ?_
  have ha : (⟨g, 0, none⟩ : Addr).add j = ⟨g, j, none⟩ := by unfold Addr.add; split <;> simp_all
  rw [ha, h'.cellAt j (by omega), List.getElem?_map, List.getElem?_eq_getElem hj]
  rfl

set_option maxRecDepth 100000 in
set_option maxHeartbeats 6400000 in
theorem noise_ok (s : ByteArray) (L : List Sh) (A : Option Addr) (cap : Nat) (w : World) (hA : ShAt w w.heap.size A L) (hlen : L.length < 255) (h : MayOk L) (hs : ∀ p ∈ L, p.2.size = s.size) :
    Calls Try.prog 35 #[.string s, .slice A L.length cap] w fun e w' => e = .returned (.tuple #[.string ⟨(noiseL ((0, s) :: L) s.size L.length).toArray⟩, .int .i64 0]) ∧ Below w.heap.size w w' := by
  obtain ⟨j0, hj, jz0, jz1, jz2⟩ := info_parts byte_info
  obtain ⟨i0, hi, iz0, iz1, iz2⟩ := info_parts share_info
  have HJ := Lib.hid hj
  have hm := may_any L A cap w hA (by omega)
  rw [decide_eq_true h] at hm
  have hsz : 1 ≤ s.size ∧ s.size ≤ 64 := by
    obtain ⟨p0, L', rfl, h1, h2, _⟩ := h
    have := hs p0 (by simp)
    omega
  have hmk := fun W => run_make_bytes (P := Try.prog) 72 5 j0 Try.underlying72 hj jz0 jz1 jz2 s.size (by omega) W
  obtain ⟨p0, hp0⟩ : ∃ p, L[0]? = some p := by
    obtain ⟨p0, L', rfl, _⟩ := h
    exact ⟨p0, rfl⟩
  have hpos : 0 < L.length := (List.getElem?_eq_some_iff.mp hp0).1
  have hs0 := hs p0 (List.mem_of_getElem? hp0)
  obtain ⟨ad, rfl, hadl, c0, c1⟩ := hA.get0 hp0
  have hne : ((s.size : Int) != (p0.2.size : Int)) = false := by simp; omega
  obtain ⟨x0, dd⟩ := p0
  simp only at c0 c1 hne hs0
  obtain ⟨len, hl⟩ : ∃ n, n = L.length := ⟨_, rfl⟩
  rw [← hl] at hm hlen hpos ⊢
  have hlti : ¬ (255 : Int) ≤ (len : Int) := by omega
  have hposi : (0 : Int) < (len : Int) := by omega
  have HL := Lib.hid hl
  have HM := Lib.hid hm
  have HA := Lib.hid hA
  have HS := Lib.hid hs
  have HMK := Lib.hid hmk
  clear hm h hA hs hp0 hl c0 hj hmk
  go_enter Try.func35, Try.ntmps35
  have hown0 : ∀ w1 : World, (w1.alloc (.cells #[.int .u8 0, .string s] 62)).ownsRow w1.heap.size 62 2 (.slice (some ⟨w1.heap.size, 0, none⟩) 1 1) 1 [.int .u8 0, .string s] := fun w1 =>
    World.ownsRow_lit (base := w1.heap.size) (e := 62) (size := 2) w1 #[.int .u8 0, .string s] 1 (Nat.le_refl _) (by unfold maxLen; omega) rfl
  go_wp2_with (first
    | (go_at_call 46; (with_reducible refine HM.out.mono ?_); rintro e w1 ⟨rfl, hb1⟩; have k1 := (hb1.cell (p := ⟨ad.block, ad.off + 1, none⟩) hadl).trans c1)
    | (at_builtin; refine wpList_append_own _ rfl _ _ 45 rfl w1.heap.size 62 i0 (.agg #[.int .u8 0, .string ⟨#[]⟩]) 2 24 Try.underlying45 hi iz0 iz1 iz2 rfl (by decide) _ _ _ rfl (hown0 w1) ad len cap (L.map shCells).flatten rfl ?l1 ?c1 ?c2 ?c3 ?c4 ?c5 ?_))
  case l1 => rw [flat_len, HL.out]
  case c1 => exact flat_cells (ShAt.below (HA.out.up hb1 hb1.size) (bnew w1 _))
  case c2 => exact flat_one L
  case c3 => unfold maxLen; omega
  case c4 => omega
  case c5 => simp
  intro v' w4 hown4 hgrow _
  have hB4 : Below w.heap.size w w4 := (hb1.alloc hb1.size _).grown hgrow (by simp; have := hb1.size; omega) (fun q hq => by have := (hown0 w1).lt q hq; have := hb1.size; omega)
  obtain ⟨A4, c4, rfl, hsh4⟩ := own_sh (L := (0, s) :: L) hown4 (by rw [List.length_cons, ← HL.out]; omega) rfl
  obtain ⟨m, hm⟩ : ∃ m, m = len + 1 := ⟨_, rfl⟩
  obtain ⟨ALL, hALL⟩ : ∃ X, X = ((0, s) :: L : List Sh) := ⟨_, rfl⟩
  have hAl : ALL.length = m := by rw [hALL, List.length_cons, ← HL.out, hm]
  have hAs : ∀ p ∈ ALL, p.2.size = s.size := by
    rw [hALL]
    intro p hp
    rcases List.mem_cons.mp hp with rfl | hp
    · rfl
    · exact HS.out p hp
  rw [← hALL] at hsh4
  rw [show 1 + len = m from by omega]
  have S4 := Lib.hid hsh4
  have HAS := Lib.hid hAs
  have HAL := Lib.hid hAl
  have HALL := Lib.hid hALL
  have hml : len < m ∧ m ≤ 255 := by omega
  obtain ⟨hml1, hml2⟩ := hml
  clear hown4 hgrow hsh4 hALL hAl hAs hown0 k1
  obtain ⟨z, hz⟩ : ∃ z, z = w4.heap.size := ⟨_, rfl⟩
  have hz4 : w.heap.size ≤ z := by rw [hz]; exact hB4.size
  rw [← hz] at S4
  have HZ := Lib.hid hz
  clear hz
  have HC : Hid (∀ A cap w (i pw : Nat), ShAt w w.heap.size A ALL → i < m → pw < m → Calls Try.prog 48 #[.slice A m cap, .int .i64 (i : Int), .int .i64 (pw : Int)] w fun e w' => e = .returned (bv (coefV ALL pw i)) ∧ Below w.heap.size w w') := Lib.hid (fun A cap w i pw h h1 h2 => by
    have := coef_any ALL A cap i pw w h (by have := HAL.out; omega) (by have := HAL.out; omega) (by have := HAL.out; omega)
    rw [HAL.out] at this
    exact this)
  have HMM := Lib.hid hm
  clear hm
  go_wp2_with fail
  go_loopw [7, 8] (fun o c wr => ∃ q : Nat, q ≤ len ∧ c = .int .i64 ((q : Int) + 1) ∧ wr.ownsRow z 5 1 o (q * s.size) ((noiseL ALL s.size q).map bv) ∧ Below z w4 wr) (fun _ c _ => len + 1 - (intOf c).toNat)
  case atStart => exact ⟨0, Nat.zero_le _, rfl, by rw [Nat.zero_mul]; exact World.ownsRow_nil _ _ _ _, Below.refl _ _⟩
  case round =>
    obtain ⟨q, hq, rfl, hown, hbw⟩ := hrel
    have hzr : z ≤ wr.heap.size := by rw [HZ.out]; exact hbw.size
    by_cases hlt : q < len
    · have hqm : (q : Int) + 1 < (m : Int) := by omega
      have hmk := HMK.out
      have HOwn := Lib.hid hown
      clear hown
      obtain ⟨wo, hwo⟩ : ∃ wo, wo = wr := ⟨_, rfl⟩
      rw [← hwo] at hbw hzr HOwn ⊢
      clear hwo
      go_wp2_with fail
      go_loopw [48] (fun c wi => ∃ i : Nat, i ≤ m ∧ c = .int .i64 i ∧ Filled wi wo.heap.size 5 s.size (part2L ALL (q + 1) s.size i) (fun _ => True) ∧ Below wo.heap.size wo wi) (fun c _ => m - (intOf c).toNat)
      case atStart => exact ⟨0, Nat.zero_le _, rfl, by rw [part2L_zero]; exact Filled.made _ _ _, bnew _ _⟩
      case round =>
        clear hmk
        obtain ⟨i, hi, rfl, hF, hbi⟩ := hrel
        have hbzi : Below z wo wr := hbi.mono hzr
        by_cases him : i < m
        · obtain ⟨p, hp⟩ : ∃ p, ALL[i]? = some p := ⟨ALL[i]'(by rw [HAL.out]; exact him), List.getElem?_eq_getElem _⟩
          have hds := HAS.out p (List.mem_of_getElem? hp)
          obtain ⟨a4, had, ha4l, b0, b1⟩ := (S4.out.below (hbw.trans hbzi)).get hp
          cases had
          obtain ⟨x, d⟩ := p
          simp only at b0 b1 hds
          have himi : (i : Int) < (m : Int) := by omega
          have HF := Lib.hid hF
          have HP := Lib.hid hp
          have HB := Lib.hid hbi
          have hgl := hF.lt
          have hbz := hbi.size
          have hcall := HC.out (some a4) c4 (wr.alloc (.cells #[.int .u8 ((x.toNat : Nat) : Int), .string d] 62)) i (q + 1) (S4.out.up ((hbw.trans hbzi).trans ((bnew wr _).mono (by omega))) (by simp; omega)) him (by omega)
          rw [show ((q + 1 : Nat) : Int) = (q : Int) + 1 from by omega] at hcall
          obtain ⟨v, hv⟩ : ∃ v, v = coefV ALL (q + 1) i := ⟨_, rfl⟩
          rw [← hv] at hcall
          have HV := Lib.hid hv
          have HCall := Lib.hid hcall
          clear hF hp hbi hv hcall hbzi
          go_wp2_with fail
          refine HCall.out.mono ?_
          rintro e w2 ⟨rfl, hb2⟩
          have hz2 := hb2.size
          simp at hz2
          have k2 : w2.cell? ⟨wr.heap.size, 1, none⟩ = some (.string d) := (hb2.cell (p := ⟨wr.heap.size, 1, none⟩) (by simp)).trans (by simp [go_sem])
          have HF2 : Hid (Filled w2 wo.heap.size 5 s.size (part2L ALL (q + 1) s.size i) (fun _ => True)) := Lib.hid ((HF.out.below (bnew wr _) (by omega)).below hb2 (by simp; omega))
          have HB2 : Hid (Below wo.heap.size wo w2) := Lib.hid ((HB.out.alloc hbz _).trans (hb2.mono (by simp; omega)))
          clear hb2 HCall
          obtain ⟨wu, hwu⟩ : ∃ wu, wu = wr.heap.size := ⟨_, rfl⟩
          rw [← hwu] at k2 hgl hbz hz2 ⊢
          clear hwu b0 b1
          go_wp2_with fail
          go_loopw [59] (fun c wi => ∃ b : Nat, b ≤ s.size ∧ c = .int .i64 b ∧ Filled wi wo.heap.size 5 s.size (mixL (part2L ALL (q + 1) s.size (i + 1)) (part2L ALL (q + 1) s.size i) b) (fun _ => True) ∧ Below wo.heap.size wo wi ∧ wi.cell? ⟨wu, 1, none⟩ = some (.string d)) (fun c _ => s.size - (intOf c).toNat)
          case atStart => exact ⟨0, Nat.zero_le _, rfl, HF2.out, HB2.out, k2⟩
          case round =>
            clear k2
            obtain ⟨b, hb, rfl, hF, hbi, k1⟩ := hrel
            by_cases hbn : b < s.size
            · have hbd : b < d.size := by omega
              have hbsi : (b : Int) < (s.size : Int) := by omega
              have hmix : (mixL (part2L ALL (q + 1) s.size (i + 1)) (part2L ALL (q + 1) s.size i) b)[b]? = some (part2 ALL (q + 1) i b) := by
                rw [mixL_get _ _ _ _ (by rw [part2L_len, part2L_len]), if_neg (by omega), part2L_get _ _ _ _ _ hbn]
              have hcell := hF.get trivial hmix
              have hfz := hF.frozen b
              have hpart : part2 ALL (q + 1) (i + 1) b = part2 ALL (q + 1) i b ^^^ gm v d[b] := by
                rw [part2_succ, HV.out]
                have e : (col ALL b).getD i 0 = d[b] := by
                  unfold col
                  rw [List.getD_eq_getElem?_getD, List.getElem?_map, HP.out]
                  show d.data.toList.getD b 0 = _
                  rw [List.getD_eq_getElem?_getD, List.getElem?_eq_getElem (by simpa using hbd)]; rfl
                rw [e]
              obtain ⟨o, ho'⟩ : ∃ o, o = part2 ALL (q + 1) i b := ⟨_, rfl⟩
              rw [← ho'] at hcell hpart
              have hx := bxor o (gm v d[b])
              rw [← hpart] at hx
              obtain ⟨o2, ho2⟩ : ∃ o, o = part2 ALL (q + 1) (i + 1) b := ⟨_, rfl⟩
              rw [← ho2] at hx
              have HF3 := Lib.hid hF
              have HBi := Lib.hid hbi
              have HO2 := Lib.hid ho2
              clear hF hbi hmix hpart ho2 ho'
              go_wp2_with fail
              refine wp_region_tailN 12 (Cells2 ⟨wo.heap.size, b, none⟩ ⟨wu, 1, none⟩ (.int .u8 ((o.toNat : Nat) : Int)) (.string d) wr.drew) (by kernel_rfl) (by kernel_rfl) (by kernel_rfl) ⟨hcell, k1, rfl⟩ ?_
              simp only [List.take_succ_cons, List.take_zero, List.drop_succ_cons, List.drop_zero]
              repeat (first
                | (refine text_skip (by rfl) ?_; simp only [Act.put, List.setIfInBounds_toArray, List.set_cons_zero, List.set_cons_succ])
                | (refine text_pure (v := ?_) (by rfl) (fun wx hS => ?_) ?_; rotate_left; (go_simp; with_reducible exact rfl); simp only [Act.put, List.setIfInBounds_toArray, List.set_cons_zero, List.set_cons_succ])
                | (refine text_call (v := ?_) (f := ?_) (args := ?_) (by rfl) (fun wx hS => ?_) (fun wx hS => ?_) ?_; rotate_left 3; (go_simp; constructor <;> with_reducible rfl)
                   (first
                     | with_reducible exact meetsEq (mul_any v d[b]) wx hS)
                   simp only [Act.put, List.setIfInBounds_toArray, List.set_cons_zero, List.set_cons_succ]))
              refine text_nil (fun wx hS => ?_)
              obtain ⟨_, _, rfl⟩ := hS
              go_wp2_with fail
              refine ⟨⟨b + 1, by omega, by go_num, ?_, (HBi.out.setCell (Nat.le_refl _) _).drew, ?_⟩, by simp [intOf]; omega⟩
              · refine (HF3.out.upd (c := o2) hbn ?_ (fun j _ hjb => ⟨trivial, ?_⟩)).drew
                · rw [mixL_get _ _ _ _ (by rw [part2L_len, part2L_len]), if_pos (by omega), part2L_get _ _ _ _ _ hbn, HO2.out]
                · rw [mixL_get _ _ _ _ (by rw [part2L_len, part2L_len]), mixL_get _ _ _ _ (by rw [part2L_len, part2L_len])]
                  by_cases hjl : j < b
                  · rw [if_pos hjl, if_pos (by omega)]
                  · rw [if_neg hjl, if_neg (by omega)]
              · refine Eq.trans (World.cell?_setCell_other _ _ _ _ ?_) k1
                intro e
                injection e with e
                omega
            · have hbn' : b = s.size := by omega
              have hFn : Filled wr wo.heap.size 5 s.size (part2L ALL (q + 1) s.size (i + 1)) (fun _ => True) := by
                have e : mixL (part2L ALL (q + 1) s.size (i + 1)) (part2L ALL (q + 1) s.size i) b = part2L ALL (q + 1) s.size (i + 1) := by
                  unfold mixL
                  rw [List.take_of_length_le (by rw [part2L_len]; omega), List.drop_of_length_le (by rw [part2L_len]; omega), List.append_nil]
                rw [← e]; exact hF
              have HFn := Lib.hid hFn
              have HBi := Lib.hid hbi
              clear hF hbi hFn k1
              go_wp2_with fail
              go_roundw
              case rel => exact ⟨i + 1, by omega, by go_num, HFn.out, HBi.out⟩
              case measure => simp [intOf]; omega
        · have him' : i = m := by omega
          rw [him', ← HAL.out, ← rowL_eq] at hF
          have HF := Lib.hid hF
          have HB := Lib.hid hbi
          have hbz := hbi.size
          obtain ⟨N, hN⟩ : ∃ N, N = q * s.size := ⟨_, rfl⟩
          have hNl : N ≤ 255 * 64 := by rw [hN]; exact Nat.mul_le_mul (by omega) (by omega)
          have hownI : wr.ownsRow z 5 1 u7 N ((noiseL ALL s.size q).map bv) := by rw [hN]; exact own_below HOwn.out hbi
          have HNN := Lib.hid hN
          clear hF hbi hbzi hN
          go_wp2_with (at_builtin; refine wpList_append_own _ rfl _ _ 72 rfl z 5 j0 (.int .u8 0) 1 1 Try.underlying72 HJ.out jz0 jz1 jz2 rfl (by decide) _ _ _ rfl hownI ⟨wo.heap.size, 0, none⟩ s.size s.size ((rowL ALL s.size (q + 1)).map bv) rfl ?l1 ?c1 ?c2 ?c3 ?c4 ?c5 ?_)
          case l1 => rw [List.length_map, rowL_len, Nat.mul_one]
          case c1 =>
            intro j u hu
            rw [List.getElem?_map] at hu
            have ha : (⟨wo.heap.size, 0, none⟩ : Addr).add j = ⟨wo.heap.size, j, none⟩ := by unfold Addr.add; split <;> simp_all
            rw [ha]
            cases hr : (rowL ALL s.size (q + 1))[j]? with
            | none => rw [hr] at hu; cases hu
            | some c =>
              rw [hr] at hu
              injection hu with hu
              subst hu
              exact HF.out.get trivial hr
          case c2 => intro u hu; obtain ⟨c, _, rfl⟩ := List.mem_map.mp hu; rfl
          case c3 => unfold maxLen; omega
          case c4 => omega
          case c5 => omega
          intro v' w5 hown5 hgrow5 _
          have hB5 : Below z wo w5 := (HB.out.mono hzr).grown hgrow5 (by omega) (fun k hk => (hownI.lt k hk).1)
          rw [← List.map_append, ← noiseL_succ, HNN.out, ← Nat.succ_mul] at hown5
          have HO5 := Lib.hid hown5
          clear hgrow5 hown5 hownI HOwn
          go_wp2_with fail
          go_roundw
          case rel => exact ⟨q + 1, by omega, by go_num, HO5.out, hbw.trans hB5⟩
          case measure => simp [intOf]; omega
    · have hql : q = len := by omega
      rw [hql] at hown
      have hcv := own_str hown (noiseL_len _ _ _).symm (Nat.mul_pos (by omega) (by omega))
      rw [HALL.out] at hcv
      have hmq : (m : Int) ≤ (q : Int) + 1 := by have := HMM.out; omega
      obtain ⟨RR, hRR⟩ : ∃ X, X = (⟨(noiseL ((0, s) :: L) s.size len).toArray⟩ : ByteArray) := ⟨_, rfl⟩
      rw [← hRR] at hcv
      have HRR := Lib.hid hRR
      clear hown hRR
      go_wp2_with fail
      go_ret2
      exact ⟨by rw [← HRR.out]; rfl, (hB4.trans (hbw.mono hz4))⟩
end Go.Proofs.Ytbblolggcgonmaa

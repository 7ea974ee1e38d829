/-
  CustodyNothing returns true for every secret and all shares, and leaves its arguments as they were. No condition.
-/
import Derived.Test.YtbblolggcgonmaaCustodyOnce
namespace Go.Proofs.Ytbblolggcgonmaa
open Go.RowKit Go.ChangeShapes Go.WideShapes Go.ChangeAt

/-! ### The plain law -/
theorem all_nodup {s : ByteArray} {L : List Sh} (h : MayOk L) : (places ((0, s) :: L)).Nodup := by
  obtain ⟨p0, L', rfl, _, _, hg⟩ := h
  unfold places
  rw [List.map_cons, List.nodup_cons]
  refine ⟨fun h => ?_, hg.2⟩
  obtain ⟨p, hp, e⟩ := List.mem_map.mp h
  exact (hg.1 p hp).1 e
theorem pe_zero (p : List UInt8) : pe p 0 = p.getD 0 0 := by
  cases p with
  | nil => rfl
  | cons c p => simp [pe, zero_gm]
theorem nothing_col (s : ByteArray) (L : List Sh) (h : MayOk L) (b : Nat) (hb : b < s.size) :
    colP s.data.toList (noiseL ((0, s) :: L) s.size L.length) s.size (L.length + 1) b = lagP (places ((0, s) :: L)) (col ((0, s) :: L) b) := by
  have hnd := all_nodup (s := s) h
  have hl : (lagP (places ((0, s) :: L)) (col ((0, s) :: L) b)).length = L.length + 1 := by rw [lagP_len]; simp [places]
  have hlb : b < s.data.toList.length := by simpa using hb
  apply List.ext_getElem?
  intro j
  by_cases hj : j < L.length + 1
  · rw [colP_get _ _ _ _ _ _ hj]
    have e : (lagP (places ((0, s) :: L)) (col ((0, s) :: L) b))[j]? = some ((lagP (places ((0, s) :: L)) (col ((0, s) :: L) b)).getD j 0) := by
      rw [List.getD_eq_getElem?_getD, List.getElem?_eq_getElem (by omega)]; rfl
    rw [e]
    congr 1
    by_cases h0 : j = 0
    · subst h0
      rw [if_pos rfl, ← pe_zero, pe_lagP]
      have := lagr_at (xs := places ((0, s) :: L)) (ys := col ((0, s) :: L) b) hnd (m := 0) (by simp [places])
      have e0 : (places ((0, s) :: L)).getD 0 0 = 0 := rfl
      rw [e0] at this
      rw [this]
      rfl
    · rw [if_neg h0, List.getD_eq_getElem?_getD, noiseL_get _ _ _ _ _ (by omega) hb]
      unfold rowL
      rw [List.getElem?_map, List.getElem?_range hb, show j - 1 + 1 = j from by omega]
      rfl
  · rw [List.getElem?_eq_none (by rw [colP_length]; omega), List.getElem?_eq_none (by omega)]
theorem nothing_share (s : ByteArray) (L : List Sh) (h : MayOk L) (hs : ∀ p ∈ L, p.2.size = s.size) (q : Nat) (p : Sh) (hp : L[q]? = some p) :
    p.2 = ⟨(shareL s.data.toList (noiseL ((0, s) :: L) s.size L.length) (L.length + 1) p.1).toArray⟩ := by
  have hnd := all_nodup (s := s) h
  have hps := hs p (List.mem_of_getElem? hp)
  apply ByteArray.ext
  apply Array.ext'
  show p.2.data.toList = shareL s.data.toList (noiseL ((0, s) :: L) s.size L.length) (L.length + 1) p.1
  unfold shareL
  apply List.ext_getElem?
  intro b
  have e1 : s.data.toList.length = s.size := by simp
  rw [e1]
  by_cases hb : b < s.size
  · rw [List.getElem?_map, List.getElem?_range hb]
    show _ = some (pe (colP s.data.toList (noiseL ((0, s) :: L) s.size L.length) s.size (L.length + 1) b) p.1)
    rw [nothing_col s L h b hb, pe_lagP]
    have hql : q < L.length := (List.getElem?_eq_some_iff.mp hp).1
    have := lagr_at (xs := places ((0, s) :: L)) (ys := col ((0, s) :: L) b) hnd (m := q + 1) (by simp [places]; exact hql)
    have hp' : ((0, s) :: L : List Sh)[q + 1]? = some p := by simpa using hp
    unfold places col at this
    rw [getD_map' _ _ (q + 1) p hp', getD_map' _ _ (q + 1) p hp'] at this
    show _ = some (lagr (((0, s) :: L : List Sh).map (·.1)) (((0, s) :: L : List Sh).map fun p => p.2.data.toList.getD b 0) p.1)
    rw [this, List.getD_eq_getElem?_getD, List.getElem?_eq_getElem (by simpa [hps] using hb)]
    rfl
  · rw [List.getElem?_eq_none (by simpa [hps] using hb), List.getElem?_eq_none (by simpa using hb)]
theorem sharesL_at (s n : List UInt8) (k m : Nat) (x : UInt8) (h0 : x ≠ 0) (hm : x.toNat ≤ m) : (sharesL s n k m)[x.toNat - 1]? = some (x, ⟨(shareL s n k x).toArray⟩) := by
  have h1 : 1 ≤ x.toNat := by
    rcases Nat.eq_zero_or_pos x.toNat with h | h
    · exact absurd (UInt8.toNat_inj.mp (by simpa using h)) h0
    · exact h
  unfold sharesL
  rw [List.getElem?_map, List.getElem?_range (by omega)]
  show some (UInt8.ofNat (x.toNat - 1 + 1), (⟨(shareL s n k (UInt8.ofNat (x.toNat - 1 + 1))).toArray⟩ : ByteArray)) = _
  have e : UInt8.ofNat (x.toNat - 1 + 1) = x := by rw [show x.toNat - 1 + 1 = x.toNat from by omega]; exact UInt8.ofNat_toNat
  rw [e]

/-! ### The walk -/
set_option maxRecDepth 100000 in
set_option maxHeartbeats 6400000 in
theorem nothing_few (s : ByteArray) (L : List Sh) (A : Option Addr) (cap : Nat) (w : World) (hA : ShAt w w.heap.size A L) :
    Calls Try.prog 10 #[.string s, .slice A L.length cap] w fun e w' => e = .returned (.bool true) ∧ Below w.heap.size w w' := by
  have HF := Lib.hid (few_any L A cap w hA)
  obtain ⟨len, hl⟩ : ∃ n, n = L.length := ⟨_, rfl⟩
  rw [← hl] at HF ⊢
  have HA := Lib.hid hA
  have HH := Lib.hid (fun (h : len ≤ 12) A cap w h' => shares_sh L len hl A cap w h' (by omega))
  have HM := Lib.hid (fun (h : len ≤ 12) A cap w h' => may_sh L len hl A cap w h' (by omega))
  have HL := Lib.hid hl
  clear hA hl
  go_enter Try.func10, Try.ntmps10
  go_wp2_with fail
  refine HF.out.mono ?_; rintro e w1 ⟨⟨b, rfl, hbt⟩, hb1⟩
  clear HF
  cases b with
  | false =>
    clear hbt
    go_wp2_with (go_at_call 23; (with_reducible refine (custody_alive _).mono ?_); rintro e w5 ⟨rfl, hb5⟩)
    go_ret
    exact ⟨rfl, bthen hb1 hb5⟩
  | true =>
    have h12 := hbt rfl
    clear hbt
    have SA1 := Lib.hid (HA.out.up hb1 hb1.size)
    by_cases h100 : 100 < s.size
    · go_wp2_with (go_at_call 23; (with_reducible refine (custody_alive _).mono ?_); rintro e w5 ⟨rfl, hb5⟩)
      go_ret
      exact ⟨rfl, bthen hb1 hb5⟩
    · by_cases hmay : MayOk L
      · obtain ⟨p0, hp0⟩ : ∃ p, L[0]? = some p := by
          obtain ⟨p0, L', rfl, _⟩ := hmay
          exact ⟨p0, rfl⟩
        have hpos : 0 < len := by rw [HL.out]; exact (List.getElem?_eq_some_iff.mp hp0).1
        obtain ⟨ad, rfl, hadl, c0, c1⟩ := HA.out.get0 hp0
        have hsz : 1 ≤ p0.2.size ∧ p0.2.size ≤ 64 ∧ ∀ p ∈ L, p.2.size = p0.2.size := by
          obtain ⟨q, L', rfl, h1, h2, hg⟩ := hmay
          obtain rfl : q = p0 := by simpa using hp0
          exact ⟨h1, h2, fun p hp => (hg.1 p hp).2⟩
        obtain ⟨hsz1, hsz2, hszL⟩ := hsz
        have hposi : (0 : Int) < (len : Int) := by omega
        have hm := HM.out h12
        rw [decide_eq_true hmay] at hm
        have HM2 := Lib.hid hm
        clear hm
        by_cases hss : s.size = p0.2.size
        · have hn := noise_ok s L (some ad) cap w1 SA1.out (by rw [← HL.out]; omega) hmay (fun p hp => (hszL p hp).trans hss.symm)
          rw [← HL.out] at hn
          obtain ⟨NO, hNO⟩ : ∃ X, X = (⟨(noiseL ((0, s) :: L) s.size len).toArray⟩ : ByteArray) := ⟨_, rfl⟩
          have hNl : NO.size = len * s.size := by
            rw [hNO]
            show (noiseL ((0, s) :: L) s.size len).toArray.size = _
            rw [List.size_toArray, noiseL_len]
          have hNd : NO.data.toList = noiseL ((0, s) :: L) s.size L.length := by rw [hNO, ← HL.out]
          have hSh : ∀ (q : Nat) (p : Sh), L[q]? = some p → p.1 ≠ 0 ∧ ∀ mm : Nat, p.1.toNat ≤ mm → (sharesL s.data.toList NO.data.toList (len + 1) mm)[p.1.toNat - 1]? = some p := by
            intro q p hp
            have h0 : p.1 ≠ 0 := by
              obtain ⟨q0, L', rfl, _, _, hg⟩ := hmay
              exact (hg.1 p (List.mem_of_getElem? hp)).1
            refine ⟨h0, fun mm hmm => ?_⟩
            rw [sharesL_at _ _ _ _ _ h0 hmm]
            have := nothing_share s L hmay (fun p hp => (hszL p hp).trans hss.symm) q p hp
            rw [hNd, HL.out, ← this]
          rw [← hNO] at hn
          obtain ⟨x0, dd⟩ := p0
          simp only at c1 hss hsz1 hsz2
          have hssb : ((s.size : Int) != (dd.size : Int)) = false := by simp; omega
          obtain ⟨N, hN⟩ : ∃ N, N = len * s.size := ⟨_, rfl⟩
          have hNi : (len : Int) * (s.size : Int) = (N : Int) := by rw [hN]; simp
          have hNb : N ≤ 12 * 64 := by rw [hN]; exact Nat.mul_le_mul h12 (by omega)
          rw [← hN] at hNl
          have hNNb : ((NO.size : Int) != (N : Int)) = false := by simp; omega
          have HSP := Lib.hid (fun mm (h1 : len + 1 ≤ mm) (h2 : mm ≤ 255) => split_yes s NO (len + 1) mm (by omega) (by omega) (by omega) h1 h2 (by rw [hNl, hN, Nat.add_sub_cancel]))
          have HN := Lib.hid hn
          have HSH := Lib.hid hSh
          have hs64 : s.size ≤ 64 := by omega
          clear hn hSh hNd hNO hN hmay hszL hp0 c0 hss hsz1 hsz2
          go_wp2_with fail
          refine HN.out.mono ?_; rintro e w2 ⟨rfl, hb2⟩
          have SA2 := Lib.hid (SA1.out.up hb2 hb2.size)
          go_wp2_with fail
          refine (HH.out h12 _ _ _ SA2.out).mono ?_; rintro e w3 ⟨⟨A3, c3, rfl, s3⟩, hb3⟩
          have SA3 := Lib.hid (SA2.out.up hb3 hb3.size)
          have S3 := Lib.hid s3
          clear s3
          go_wp2_with fail
          refine (HM2.out _ _ _ S3.out).mono ?_; rintro e w4 ⟨rfl, hb4⟩
          have SA4 := Lib.hid (SA3.out.up hb4 hb4.size)
          have k4 := (hb4.cell (p := ⟨ad.block, ad.off + 1, none⟩) (by have := hb1.size; have := hb2.size; have := hb3.size; simp; omega)).trans ((hb3.cell (p := ⟨ad.block, ad.off + 1, none⟩) (by have := hb1.size; have := hb2.size; simp; omega)).trans ((hb2.cell (p := ⟨ad.block, ad.off + 1, none⟩) (by have := hb1.size; simp; omega)).trans ((hb1.cell (p := ⟨ad.block, ad.off + 1, none⟩) hadl).trans c1)))
          have HBW4 := Lib.hid (bthen (bthen (bthen hb1 hb2) hb3) hb4)
          clear hb1 hb2 hb3 hb4
          go_wp2_with fail
          clear k4
          go_loopw [7, 55] (fun o c wr => ∃ j v : Nat, j ≤ len ∧ c = .int .i64 j ∧ o = .int .i64 (v : Int) ∧ v ≤ 255 ∧ (∀ (q : Nat) (p : Sh), q < j → L[q]? = some p → p.1.toNat ≤ v) ∧ Below w4.heap.size w4 wr) (fun _ c _ => len - (intOf c).toNat)
          case atStart => exact ⟨0, 0, Nat.zero_le _, rfl, rfl, by omega, fun q p hq => absurd hq (Nat.not_lt_zero q), Below.refl _ _⟩
          case round =>
            obtain ⟨j, v, hj, rfl, rfl, hv, hmx, hbw⟩ := hrel
            have HMX := Lib.hid hmx
            clear hmx
            have hz := hbw.size
            by_cases hlt : j < len
            · obtain ⟨p, hp⟩ : ∃ p, L[j]? = some p := ⟨L[j]'(by rw [← HL.out]; exact hlt), List.getElem?_eq_getElem _⟩
              obtain ⟨ad', had, hadl', c0, c1⟩ := (SA4.out.below hbw).get hp
              cases had
              obtain ⟨x, d⟩ := p
              simp only at c0 c1
              have hw1 := w64_byte x
              have hx255 := x.toNat_lt
              have hlti : (j : Int) < (len : Int) := by omega
              have HP := Lib.hid hp
              clear hp
              go_wp2_with fail
              refine ⟨⟨j + 1, max v x.toNat, by omega, by go_num, ?_, by omega, fun q p hq hp => ?_, hbw.alloc hz _⟩, by simp [intOf]; omega⟩
              · congr 1; split <;> omega
              · by_cases hqj : q = j
                · subst hqj
                  rw [HP.out] at hp
                  injection hp with hp
                  subst hp
                  exact Nat.le_max_right _ _
                · exact Nat.le_trans (HMX.out q p (by omega) hp) (Nat.le_max_left _ _)
            · have hjl : j = len := by omega
              obtain ⟨mm, hmm⟩ : ∃ mm, mm = max v (len + 1) := ⟨_, rfl⟩
              have hmi : (if (v : Int) < (len : Int) + 1 then (len : Int) + 1 else (v : Int)) = (mm : Int) := by split <;> omega
              have hmi2 : (if v < len + 1 then (len : Int) + 1 else (v : Int)) = (mm : Int) := by split <;> omega
              have hc := HSP.out mm (by omega) (by omega) wr
              rw [show ((len + 1 : Nat) : Int) = (len : Int) + 1 from by omega] at hc
              have HC := Lib.hid hc
              have HX : Hid (∀ (q : Nat) (p : Sh), L[q]? = some p → p.1.toNat ≤ mm) := Lib.hid (fun q p hp => by
                have := HMX.out q p (by rw [hjl, HL.out]; exact (List.getElem?_eq_some_iff.mp hp).1) hp
                omega)
              have SAr := Lib.hid (SA4.out.up hbw hz)
              have HBr := Lib.hid (bthen HBW4.out hbw)
              have hmb : mm ≤ 255 := by omega
              have HAll : Hid (∀ (q : Nat) (p : Sh), L[q]? = some p → p.1 ≠ 0 ∧ p.1.toNat ≤ mm ∧ (sharesL s.data.toList NO.data.toList (len + 1) mm)[p.1.toNat - 1]? = some p) := Lib.hid (fun q p hp => ⟨(HSH.out q p hp).1, HX.out q p hp, (HSH.out q p hp).2 mm (HX.out q p hp)⟩)
              clear hc hmm HSP HMX HX HSH hbw hz
              go_wp2_with fail
              refine HC.out.mono ?_; rintro e w5 ⟨⟨A5, c5, rfl, s5⟩, hb5⟩
              have S5 := Lib.hid s5
              have SA5 := Lib.hid (SAr.out.up hb5 hb5.size)
              have HB5 := Lib.hid (bthen HBr.out hb5)
              clear s5 hb5 HC
              obtain ⟨wo, hwo⟩ : ∃ wo, wo = w5 := ⟨_, rfl⟩
              rw [← hwo] at S5 SA5 HB5 ⊢
              clear hwo
              go_wp2_with fail
              go_loopw [94] (fun c wi => ∃ j : Nat, j ≤ len ∧ c = .int .i64 j ∧ Below wo.heap.size wo wi) (fun c _ => len - (intOf c).toNat)
              case atStart => exact ⟨0, Nat.zero_le _, rfl, Below.refl _ _⟩
              case round =>
                obtain ⟨j, hj, rfl, hbi⟩ := hrel
                by_cases hlt : j < len
                · obtain ⟨p, hp⟩ : ∃ p, L[j]? = some p := ⟨L[j]'(by rw [← HL.out]; exact hlt), List.getElem?_eq_getElem _⟩
                  obtain ⟨h0, hxm, hall⟩ := HAll.out j p hp
                  obtain ⟨ad', had, hadl', c0, c1⟩ := (SA5.out.below hbi).get hp
                  cases had
                  obtain ⟨bd, rfl, hbdl, b0, b1⟩ := (S5.out.below hbi).get hall
                  obtain ⟨x, d⟩ := p
                  simp only at c0 c1 b0 b1 h0 hxm
                  have hx1 : 1 ≤ x.toNat := by
                    rcases Nat.eq_zero_or_pos x.toNat with h | h
                    · exact absurd (UInt8.toNat_inj.mp (by simpa using h)) h0
                    · exact h
                  obtain ⟨y, hy⟩ : ∃ y, y = x.toNat - 1 := ⟨_, rfl⟩
                  rw [← hy] at b0 b1
                  have hyi : ((x.toNat : Int) - 1) = (y : Int) := by omega
                  have hyl : y < mm := by omega
                  have hyli : (y : Int) < (mm : Int) := by omega
                  have hlti : (j : Int) < (len : Int) := by omega
                  have hyw : ((x.toNat : Int) - 1) % 256 = (y : Int) := by have := x.toNat_lt; omega
                  have hyw2 : (y : Int) % 256 = (y : Int) := by have := x.toNat_lt; omega
                  have hyw3 : IntKind.u8.wrap (y : Int) = (y : Int) := by rw [IntKind.wrap_u8]; have := x.toNat_lt; omega
                  have hbz := hbi.size
                  obtain ⟨W1, hW1⟩ : ∃ W1, W1 = wr.alloc (.cells #[.int .u8 ((x.toNat : Nat) : Int), .string d] 62) := ⟨_, rfl⟩
                  have k0 : W1.drew.cell? ⟨wr.heap.size, 0, none⟩ = some (.int .u8 ((x.toNat : Nat) : Int)) := by rw [hW1]; simp [go_sem]
                  have k1 : W1.drew.cell? ⟨wr.heap.size, 1, none⟩ = some (.string d) := by rw [hW1]; simp [go_sem]
                  have q0 : W1.drew.cell? (bd.add (y * 2)) = some (.int .u8 ((x.toNat : Nat) : Int)) := by rw [hW1]; exact ((bnew wr _).cell (p := bd.add (y * 2)) (by rw [block_add']; omega)).trans b0
                  have q1 : W1.drew.cell? ⟨(bd.add (y * 2)).block, (bd.add (y * 2)).off + 1, none⟩ = some (.string d) := by rw [hW1]; exact ((bnew wr _).cell (p := ⟨(bd.add (y * 2)).block, (bd.add (y * 2)).off + 1, none⟩) (by rw [block_add']; omega)).trans b1
                  have HW1 := Lib.hid hW1
                  clear hW1 b0 b1 hall hp h0 hy
                  go_wp2_with fail
                  rw [← HW1.out]
                  refine wp_region_txt (Cells4 ⟨wr.heap.size, 0, none⟩ ⟨wr.heap.size, 1, none⟩ (bd.add (y * 2)) ⟨(bd.add (y * 2)).block, (bd.add (y * 2)).off + 1, none⟩ (.int .u8 ((x.toNat : Nat) : Int)) (.string d) (.int .u8 ((x.toNat : Nat) : Int)) (.string d) W1.drew) (by kernel_rfl) (by kernel_rfl) ⟨k0, k1, q0, q1, rfl⟩ ?_
                  repeat (first
                    | (refine text_skip (by rfl) ?_; simp only [Act.put, List.setIfInBounds_toArray, List.set_cons_zero, List.set_cons_succ])
                    | (refine text_pure (v := ?_) (by rfl) (fun wx hS => ?_) ?_; rotate_left; (go_simp; with_reducible exact rfl); simp only [Act.put, List.setIfInBounds_toArray, List.set_cons_zero, List.set_cons_succ]))
                  refine text_nil (fun wx hS => ?_)
                  obtain ⟨_, _, _, _, rfl⟩ := hS
                  go_wp2_with fail
                  go_roundw
                  case rel => exact ⟨j + 1, by omega, by go_num, by rw [HW1.out]; exact (hbi.alloc hbz _).drew⟩
                  case measure => simp [intOf]; omega
                · have hjl : j = len := by omega
                  have hb6 := bthen HB5.out hbi
                  go_wp2_with (go_at_call 23; (with_reducible refine (custody_alive _).mono ?_); rintro e w7 ⟨rfl, hb7⟩)
                  go_ret
                  exact ⟨rfl, bthen hb6 hb7⟩
        · have hn := noise_size s L (some ad) cap p0 w1 SA1.out (by rw [← HL.out]; omega) hmay hp0 hss
          rw [← HL.out] at hn
          have hssb : ((s.size : Int) != (p0.2.size : Int)) = true := by simp; omega
          obtain ⟨x0, dd⟩ := p0
          simp only at c1 hssb
          have HN := Lib.hid hn
          clear hn hmay hszL hp0 c0 hss
          go_wp2_with fail
          refine HN.out.mono ?_; rintro e w2 ⟨rfl, hb2⟩
          have SA2 := Lib.hid (SA1.out.up hb2 hb2.size)
          go_wp2_with fail
          refine (HH.out h12 _ _ _ SA2.out).mono ?_; rintro e w3 ⟨⟨A3, c3, rfl, s3⟩, hb3⟩
          have S3 := Lib.hid s3
          clear s3
          go_wp2_with fail
          refine (HM2.out _ _ _ S3.out).mono ?_; rintro e w4 ⟨rfl, hb4⟩
          have k4 := (hb4.cell (p := ⟨ad.block, ad.off + 1, none⟩) (by have := hb1.size; have := hb2.size; have := hb3.size; simp; omega)).trans ((hb3.cell (p := ⟨ad.block, ad.off + 1, none⟩) (by have := hb1.size; have := hb2.size; simp; omega)).trans ((hb2.cell (p := ⟨ad.block, ad.off + 1, none⟩) (by have := hb1.size; simp; omega)).trans ((hb1.cell (p := ⟨ad.block, ad.off + 1, none⟩) hadl).trans c1)))
          go_wp2_with (go_at_call 23; (with_reducible refine (custody_alive _).mono ?_); rintro e w5 ⟨rfl, hb5⟩)
          go_ret
          exact ⟨rfl, bthen (bthen (bthen (bthen hb1 hb2) hb3) hb4) hb5⟩
      · have hj := noise_may s L A cap w1 SA1.out (by rw [← HL.out]; omega) hmay
        rw [← HL.out] at hj
        have hm := HM.out h12
        rw [decide_eq_false hmay] at hm
        have HJ := Lib.hid hj
        have HM2 := Lib.hid hm
        clear hj hm hmay
        go_wp2_with fail
        refine HJ.out.mono ?_; rintro e w2 ⟨rfl, hb2⟩
        have SA2 := Lib.hid (SA1.out.up hb2 hb2.size)
        go_wp2_with fail
        refine (HH.out h12 _ _ _ SA2.out).mono ?_; rintro e w3 ⟨⟨A3, c3, rfl, s3⟩, hb3⟩
        have S3 := Lib.hid s3
        clear s3
        go_wp2_with fail
        refine (HM2.out _ _ _ S3.out).mono ?_; rintro e w4 ⟨rfl, hb4⟩
        go_wp2_with (go_at_call 23; (with_reducible refine (custody_alive _).mono ?_); rintro e w5 ⟨rfl, hb5⟩)
        go_ret
        exact ⟨rfl, bthen (bthen (bthen (bthen hb1 hb2) hb3) hb4) hb5⟩

set_option maxRecDepth 100000 in
theorem custodyNothing_lifted (os : Os) (started : os.Started) (H : Type) (enc : TypeId × Value → H) :
    ReturnsInHanded {} Try.checked os 10 .any (Rows.custodyNothingSpec.pre6 enc Try.prog Try.f10 [] false) (Rows.custodyNothingSpec.post enc Try.prog Try.f10 false true false false) := by
  refine LawKit.lifted (C := Try.checked) (tb := 4) own started (by kernel_rfl) Try.func10
    (ChangeSpec.witness6 (enc := enc) (C := Try.checked) false ⟨#[], #[.string ⟨#[]⟩, .slice none 0 0], []⟩ 8 (by kernel_rfl) (by kernel_rfl) (by kernel_rfl) (by kernel_rfl))
    laidOut (by kernel_rfl) rfl (fun ds h => by match ds, h with | [_, _], _ => rfl) rfl Try.underlying4 ?_
  intro W base args ds ps hval0 hA0 hlt hsz
  have hval : ∀ (j : Nat) t v, Try.f10.params[j]? = some t → args[j]? = some v → Value.okWide Try.prog W .any base t v := hval0
  have hA : DataW.TrodAll enc Try.prog W 0 (fun _ => true) true Try.f10.params.toList args.toList ds ps := hA0
  rw [Try.params10] at hA hval
  clear hval0 hA0
  obtain ⟨v0, vs0, d0, ds0, p0, q0, hargs, rfl, rfl, t0, r0⟩ := trodAll_cons hA
  obtain ⟨v1, vs1, d1, ds1, p1, q1, rfl, rfl, rfl, t1, r1⟩ := trodAll_cons r0
  obtain ⟨rfl, rfl, rfl⟩ := trodAll_nil r1
  obtain rfl : args = #[v0, v1] := by cases args; simp_all
  obtain ⟨s, rfl, -, -, w_s⟩ := Go.ChangeMaps.open_string Try.underlying9 (hval 0 _ v0 rfl rfl) t0
  have hv1 := hval 1 _ v1 rfl rfl
  exact by obtain ⟨A, c, L, rfl, hSh⟩ := open_sharesAt hv1 t1; exact nothing_few s L A c W hSh

theorem custodyNothing_holds : Rows.CustodyNothingSaid :=
  OpenClaim.holds_of_wide 10 Try.f10 rfl rfl rfl rfl rfl rfl rfl ⟨rfl, rfl, rfl, rfl, rfl⟩ rfl rfl rfl rfl rfl (by kernel_rfl) Try.func10 (by kernel_rfl)
    (of_decide_eq_true (by kernel_rfl)) (by unfold Func.isWrapper; first | (rw [if_pos (by decide +kernel)]; kernel_rfl) | (rw [if_neg (by decide +kernel)]; exact ⟨rfl, rfl⟩))
    (fun os started H enc _ => custodyNothing_lifted os started H enc)
#print axioms custodyNothing_holds

end Go.Proofs.Ytbblolggcgonmaa

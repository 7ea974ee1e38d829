/-
  The contract of the reference's Parse at a word that a row of places follows. No condition. Own work.
-/
import Derived.Test.YtdpfcjhhabcheaaRParse
namespace Go.Proofs.Ytdpfcjhhabcheaa
open Go Go.RowKit

set_option maxRecDepth 100000 in
set_option maxHeartbeats 6400000 in
theorem rparse_asks (sb : ByteArray) (hs : sb.size ≤ 90000) (x : List UInt8) (ws : List (List UInt8)) (s : Shp) (HX : wordsL sb.data.toList = x :: ws) (ho : ofW x = some s) (h0 : s.name = false ∧ s.data = false ∧ s.asks = true) (w : World) :
    Calls Try.prog 6 #[.string sb] w fun e w' => RRes (rShape s ⟨x.toArray⟩ ((ws.take s.most).map numR) (ws.drop s.most)) w' e ∧ Below w.heap.size w w' := by
  obtain ⟨P, hP⟩ : ∃ P, P = rShape s ⟨x.toArray⟩ ((ws.take s.most).map numR) (ws.drop s.most) := ⟨_, rfl⟩
  rw [← hP]
  have HP := Lib.hid hP
  have HFL := Lib.hid h0
  clear hP h0
  have h1 := rwords_any sb hs
  have hwl : (wordsL sb.data.toList).length ≤ 90000 := by have := words_len sb.data.toList; have := sz_list sb; omega
  have hwy : ∀ y ∈ wordsL sb.data.toList, y.length ≤ 90000 := fun y hy => by have := words_each sb.data.toList y hy; have := sz_list sb; omega
  obtain ⟨ws0, hws⟩ : ∃ ws0, ws0 = wordsL sb.data.toList := ⟨_, rfl⟩
  rw [← hws] at h1 hwl hwy HX
  have HWY := Lib.hid hwy
  clear hws hwy
  have H1 := Lib.hid h1
  clear h1
  go_enter Try.func6, Try.ntmps6
  go_wp2_with fail
  refine (H1.out _).mono ?_
  rintro e1 w1 ⟨⟨v, rfl, hO⟩, hb1⟩
  have b1 := bthen (bnew w _) hb1
  have z1 := bsz hb1
  have r1 : Blk w1 w.heap.size _ _ := (hb1.block w.heap.size (by simp)).trans (heap_alloc_new w _)
  have hv : WAt v ws0 w1.heap.size w1 := wat_of hO (by omega)
  clear hb1 hO
  subst HX
  have h2 := kindB_any x
  rw [ho] at h2
  have H2 := Lib.hid h2
  have hns := of_ns ho
  have hlm := of_lm ho
  have hsm := of_bounds ho
  have HNS := Lib.hid hns
  have HSM := Lib.hid hsm
  clear h2 hns hlm hsm ho
  obtain ⟨nw, hnw⟩ : ∃ nw, nw = ws.length := ⟨_, rfl⟩
  have HNW := Lib.hid hnw
  have hwl' : nw < 90000 := by rw [List.length_cons] at hwl; omega
  obtain ⟨a, cap, rfl, hcap, hmax, hc⟩ := hv
  obtain ⟨g, o, rfl, hg, hx⟩ := hc (by simp)
  have cx : w1.cell? ⟨g, o, none⟩ = some (.string ⟨x.toArray⟩) := hx 0 _ rfl
  have hvv : WAt (.slice (some ⟨g, o, none⟩) (x :: ws).length cap) (x :: ws) w1.heap.size w1 := ⟨_, _, rfl, hcap, hmax, fun _ => ⟨g, o, rfl, hg, hx⟩⟩
  have hst := rs_start (wd := ⟨x.toArray⟩) (Nat.le_refl _) hvv r1 b1
  have HST := Lib.hid hst
  clear hst hvv hx hc hcap hmax b1 r1
  rw [List.length_cons, ← hnw]
  clear hnw hwl
  have n1 : ¬ ((nw : Int) + 1) = 0 := by omega
  have n2 : ((((nw : Int) + 1) == 0) = false) := by simpa using n1
  have n3 : (0 : Int) < (nw : Int) + 1 := by omega
  go_wp2_with fail
  refine (H2.out _).mono ?_
  rintro e2 w2 ⟨rfl, hb2⟩
  have hs2 := HST.out.kept hb2
  rw [List.length_cons, ← HNW.out] at hs2
  have HS2 := Lib.hid hs2
  clear hs2 hb2 cx hg z1 HST H1 H2 n1 n2 n3
  dsimp only [kindV]
  go_wp2_with fail
  go_loopw [11] (fun c wr => ∃ (j : Nat) (vn : Value) (B2 : Nat), j ≤ nw ∧ j ≤ s.most ∧ c = .int .i64 ((j + 1 : Nat) : Int) ∧ RS w w.heap.size w1.heap.size B2 (.slice (some ⟨g, o, none⟩) (nw + 1) cap) vn (.slice none 0 0) (x :: ws) ⟨x.toArray⟩ ⟨#[]⟩ ⟨#[]⟩ ((ws.take j).map numR) [] wr) (fun c _ => 90001 - (intOf c).toNat)
  case atStart => exact ⟨0, _, _, by omega, by omega, rfl, HS2.out⟩
  case round =>
    obtain ⟨j, vn, B2, hj, hjm, rfl, hps⟩ := hrel
    rename World => wo
    clear HS2
    generalize w1.heap.size = E at *
    obtain ⟨an, cn, rfl⟩ := hps.hn.none_iff
    have hnl : (nC ((ws.take j).map numR)).length = j := by simp [nC]; have := HNW.out; omega
    rw [hnl] at hps
    obtain ⟨N, hN⟩ : ∃ N, N = (ws.take j).map numR := ⟨_, rfl⟩
    rw [← hN] at hps hnl
    have HN := Lib.hid hN
    have HNL0 := Lib.hid hnl
    have HPS := Lib.hid hps
    obtain ⟨⟨e0, e1, e2, e3, e4⟩, ⟨r0, r1, r2, r3, r4⟩, fE, fR⟩ := hps.cells
    have o6 := hps.o6
    have o2 := hps.o2
    have o1 := hps.o1
    have o7 := hps.o7
    have hjc : ((j + 1 : Nat) : Int) = (j : Int) + 1 := by omega
    rw [hjc]
    have k0 : (0 : Int) ≤ (j : Int) + 1 := by omega
    have kl : (0 : Int) ≤ (s.least : Int) := by omega
    clear hnl hps hN hjc
    by_cases hc : j < nw ∧ j < s.most
    · obtain ⟨hn, hm⟩ := hc
      obtain ⟨y, hy⟩ : ∃ y, ws[j]? = some y := ⟨_, List.getElem?_eq_getElem (by rw [← HNW.out]; exact hn)⟩
      obtain ⟨g', o', cap', hge, hgE, cy⟩ := HPS.out.word (j := j + 1) (y := y) (by simpa using hy)
      injection hge with hge1 hge2 hge3
      injection hge1 with hge1
      injection hge1 with hge4 hge5
      subst hge4 hge5
      have HY := Lib.hid hy
      have HNUM := Lib.hid (rnumber_any ⟨y.toArray⟩)
      have HPD := Lib.hid (HPS.out.kept (w' := wo.drew) (Below.refl _ _).drew)
      have hw1 : (j : Int) + 1 < (nw : Int) + 1 := by omega
      have hm1 : (j : Int) < (s.most : Int) := by omega
      have HW64 := Lib.hid (w64j j (by omega))
      have zE : E < wo.heap.size := HPS.out.hE.lt
      have hgo : g < wo.heap.size := by omega
      clear hge2 hge3 hy
      by_cases hl : j < s.least
      · have hl1 : (j : Int) < (s.least : Int) := by omega
        have hj9 : j + 1 ≤ 100000 := by omega
        have hw64 := HW64.out
        go_upto_region 8 with (fail)
        go_region_law (first
          | (go_simp; go_at_call 17
             refine (HNUM.out _).mono ?_
             rintro e7 w7 ⟨rfl, hb7⟩
             have h7 := HPD.out.kept hb7
             obtain ⟨⟨q0, q1, q2, q3, q4⟩, -, qf, -⟩ := h7.cells
             have z7 := h7.hE.lt)
          | (refine step_pushI rfl (.tmp 60) (.tmp 66) rfl (E + 1) (.slice an j cn) (nC N) rfl ?hO w7.heap.size 1 (numR y) rfl ?hS ?hl ?hB ?_
             case hO => exact h7.hn.below (bnew w7 _)
             case hS => exact SlC.lit w7 _ _
             case hl => rw [HNL0.out]; exact hj9
             case hB => rw [size_alloc']; exact Nat.le_succ_of_le z7
             intro v3 w6 hO3 hg3 hB3
             have hl3 : (nC (N ++ [numR y])).length = j + 1 := by rw [nC_snoc, List.length_append, HNL0.out]; rfl
             rw [← nC_snoc] at hO3
             obtain ⟨a3, c3, rfl⟩ := hO3.none_iff
             rw [hl3] at hO3 ⊢
             have hp3 := (h7.kept (bnew w7 _)).num hO3 hg3
             have hr := (h7.kept (bnew w7 _)).row hg3 (fun k hk => (World.ownsRow.lt h7.hn k hk).1)
             obtain ⟨-, -, hE6, -⟩ := hr
             have fE6 := fun i => hE6.fz i
             have e61 := hE6.cell (i := 1) (v := .slice an j cn) rfl
             have HP3 := Lib.hid hp3
             clear hO3 hg3 hB3 hp3 hl3 hE6))
        all_goals
          have HI0 := Lib.hid (And.intro (And.intro hn hm) (And.intro hwl' hjm))
          clear hw64 hw1 hm1 hj9 k0 kl hn hm hj hjm cy q0 q1 q2 q3 q4 e0 e1 e2 e3 e4 r0 r1 r2 r3 r4 fE fR qf z7 zE hgo hl1 hl
        all_goals go_wp2_with fail
        all_goals
          have hn := HI0.out.1.1
          have hm := HI0.out.1.2
          have hwl2 := HI0.out.2.1
          try rw [HW64.out]
          exact ⟨⟨j + 1, .slice a3 (j + 1) c3, _, by omega, by omega, by go_num, by rw [take_get1 ws j y HY.out, List.map_append, ← HN.out]; exact HP3.out⟩, by simp [intOf]; omega⟩
      · have hl1 : ¬ (j : Int) < (s.least : Int) := by omega
        have hl2 : (s.least : Int) < (s.most : Int) := by have := HNS.out; omega
        have hj9 : j + 1 ≤ 100000 := by omega
        have hw64 := HW64.out
        go_upto_region 8 with (fail)
        go_region_law (first
          | (go_simp; go_at_call 17
             refine (HNUM.out _).mono ?_
             rintro e7 w7 ⟨rfl, hb7⟩
             have h7 := HPD.out.kept hb7
             obtain ⟨⟨q0, q1, q2, q3, q4⟩, -, qf, -⟩ := h7.cells
             have z7 := h7.hE.lt)
          | (refine step_pushI rfl (.tmp 60) (.tmp 66) rfl (E + 1) (.slice an j cn) (nC N) rfl ?hO w7.heap.size 1 (numR y) rfl ?hS ?hl ?hB ?_
             case hO => exact h7.hn.below (bnew w7 _)
             case hS => exact SlC.lit w7 _ _
             case hl => rw [HNL0.out]; exact hj9
             case hB => rw [size_alloc']; exact Nat.le_succ_of_le z7
             intro v3 w6 hO3 hg3 hB3
             have hl3 : (nC (N ++ [numR y])).length = j + 1 := by rw [nC_snoc, List.length_append, HNL0.out]; rfl
             rw [← nC_snoc] at hO3
             obtain ⟨a3, c3, rfl⟩ := hO3.none_iff
             rw [hl3] at hO3 ⊢
             have hp3 := (h7.kept (bnew w7 _)).num hO3 hg3
             have hr := (h7.kept (bnew w7 _)).row hg3 (fun k hk => (World.ownsRow.lt h7.hn k hk).1)
             obtain ⟨-, -, hE6, -⟩ := hr
             have fE6 := fun i => hE6.fz i
             have e61 := hE6.cell (i := 1) (v := .slice an j cn) rfl
             have HP3 := Lib.hid hp3
             clear hO3 hg3 hB3 hp3 hl3 hE6))
        all_goals
          have HI0 := Lib.hid (And.intro (And.intro hn hm) (And.intro hwl' hjm))
          clear hw64 hw1 hm1 hj9 k0 kl hn hm hj hjm cy q0 q1 q2 q3 q4 e0 e1 e2 e3 e4 r0 r1 r2 r3 r4 fE fR qf z7 zE hgo hl1 hl
        all_goals go_wp2_with fail
        all_goals
          have hn := HI0.out.1.1
          have hm := HI0.out.1.2
          have hwl2 := HI0.out.2.1
          try rw [HW64.out]
          exact ⟨⟨j + 1, .slice a3 (j + 1) c3, _, by omega, by omega, by go_num, by rw [take_get1 ws j y HY.out, List.map_append, ← HN.out]; exact HP3.out⟩, by simp [intOf]; omega⟩
    · have hpn : P = rShape s ⟨x.toArray⟩ N (ws.drop j) := by
        rw [HP.out, HN.out]
        by_cases hjn : j < nw
        · obtain rfl : j = s.most := by omega
          rfl
        · rw [List.take_of_length_le (by rw [← HNW.out]; omega), List.take_of_length_le (by rw [← HNW.out]; omega), List.drop_of_length_le (by rw [← HNW.out]; omega), List.drop_of_length_le (by rw [← HNW.out]; omega)]
      have HPN := Lib.hid hpn
      have zE : E < wo.heap.size := HPS.out.hE.lt
      have HJ : Hid (¬ (j < nw ∧ j < s.most)) := Lib.hid hc
      clear hpn hc
      have hgoE : g < E := by
        obtain ⟨a5, cap5, h5, -, -, h6⟩ := HPS.out.hv
        obtain ⟨g5, o5, h7, h8, -⟩ := h6 (by simp)
        subst h7
        injection h5 with h9
        injection h9 with h9
        injection h9 with h9
        omega
      have hgo : g < wo.heap.size := by omega
      by_cases hn : j < nw
      · have hx1 : (j : Int) + 1 < (nw : Int) + 1 := by omega
        have hx2 : ¬ (j : Int) < (s.most : Int) := by have := HJ.out; omega
        obtain ⟨hname, hdata, hasks⟩ := HFL.out
        have HSZ : Hid ((ByteArray.mk #[]).size ≤ 100000 ∧ (ByteArray.mk #[]).size ≤ 1000000) := Lib.hid ⟨by decide, by decide⟩
        have HPA : Hid (P = rAsk s ⟨x.toArray⟩ N ⟨#[]⟩ ⟨#[]⟩ [] (ws.drop j)) := Lib.hid (by rw [HPN.out]; unfold rShape rAsk; rw [hname, hdata, hasks]; rfl)
        go_wp2_with fail
        go_loopw [11] (fun c wr => RL2 w w.heap.size E B2 (.slice (some ⟨g, o, none⟩) (nw + 1) cap) (.slice an j cn) s P nw x ws ⟨x.toArray⟩ ⟨#[]⟩ ⟨#[]⟩ N c wr) (fun c _ => 90001 - (intOf c).toNat)
        case atStart => exact RL2.mk j _ [] (by omega) (by simp) (by go_num) HPS.out HPA.out
        case round =>
          obtain ⟨i, va', asks', hi, hle, rfl, hq, hpa⟩ := hrel
          have HQ := Lib.hid hq
          have HLE := Lib.hid hle
          have hjc : ((i + 1 : Nat) : Int) = (i : Int) + 1 := by omega
          rw [hjc]
          clear hjc hq hle e0 e1 e2 e3 e4 r0 r1 r2 r3 r4 fE fR
          by_cases hin0 : i < nw
          · obtain ⟨y, hy⟩ : ∃ y, ws[i]? = some y := ⟨_, List.getElem?_eq_getElem (by rw [← HNW.out]; exact hin0)⟩
            have hpp : P = rAsk s ⟨x.toArray⟩ N ⟨#[]⟩ ⟨#[]⟩ (asks' ++ [raskL y]) (ws.drop (i + 1)) := by rw [hpa, drop_get1 ws i y hy]; unfold rAsk; rw [hasks]; simp
            have HPP := Lib.hid hpp
            have hys : (ByteArray.mk y.toArray).size ≤ 1000000 := by
              have e := HWY.out y (List.mem_cons_of_mem _ (List.mem_of_getElem? hy))
              rw [sz_list]
              simpa using Nat.le_trans e (by decide)
            have hask := rask_any ⟨y.toArray⟩ hys
            have hask2 : ∀ w, Calls Try.prog 18 #[.string ⟨y.toArray⟩] w fun e w' => e = .returned (.agg #[.int .i64 (raskL y).1, .int .i64 (raskL y).2]) ∧ Below w.heap.size w w' := hask
            generalize raskL y = pq at hask2 hpp HPP
            obtain ⟨pa, pb⟩ := pq
            dsimp only at hask2
            have HASK := Lib.hid hask2
            clear hask hask2 hpp hpa hys
            obtain ⟨g', o', cap', hge, hgE, cy⟩ := HQ.out.word (j := i + 1) (y := y) (by simpa using hy)
            injection hge with hge1 hge2 hge3
            injection hge1 with hge1
            injection hge1 with hge4 hge5
            subst hge4 hge5
            obtain ⟨ga, gc, hva, -⟩ := ask_at HQ.out.ha
            subst hva
            have h9 := HQ.out
            have HPD := Lib.hid (h9.kept (w' := wr.drew) (Below.refl _ _).drew)
            obtain ⟨⟨e0, e1, e2, e3, e4⟩, ⟨r0, r1, r2, r3, r4⟩, fE, fR⟩ := h9.cells
            have hw1 : (i : Int) + 1 < (nw : Int) + 1 := by omega
            have hk0 : (0 : Int) ≤ (i : Int) + 1 := by omega
            have HW64 := Lib.hid (w64j i (by omega))
            have zE : E < wr.heap.size := h9.hE.lt
            have hgo : g < wr.heap.size := by omega
            have hj9 : asks'.length + 1 ≤ 100000 := by have := HLE.out; omega
            have oB : E < B2 := h9.o6
            have hw64 := HW64.out
            clear hge2 hge3 hy h9
            go_upto_region 20 with (fail)
            go_region_law (first
              | (refine step_pushA rfl (.tmp 111) (.tmp 117) rfl B2 (.slice ga asks'.length gc) asks' rfl ?hO w7.heap.size 1 (pa, pb) rfl ?hS ?hl ?hB ?_
                 case hO => exact own_below h7.ha (bnew w7 _)
                 case hS => exact SlC.lit w7 _ _
                 case hl => exact hj9
                 case hB => rw [size_alloc']; exact Nat.le_succ_of_le zz7
                 intro v3 w6 hO3 hg3 hB3
                 obtain ⟨a3, c3, hv3, -⟩ := ask_at hO3
                 subst hv3
                 have hl3 : (asks' ++ [(pa, pb)]).length = asks'.length + 1 := by simp
                 rw [hl3] at hO3 ⊢
                 clear hl3
                 have hp3 := (h7.kept (bnew w7 _)).ask hO3 hg3
                 have hr := (h7.kept (bnew w7 _)).row hg3 (fun k hk => Nat.lt_of_lt_of_le oB (World.ownsRow.lt h7.ha k hk).1)
                 obtain ⟨-, -, hE6, -⟩ := hr
                 have fE6 := fun i => hE6.fz i
                 have e61 := hE6.cell (i := 4) (v := .slice ga asks'.length gc) rfl
                 have HP3 := Lib.hid hp3
                 clear hO3 hg3 hB3 hp3 hE6)
              | (go_simp; go_at_call 18
                 refine (HASK.out _).mono ?_
                 rintro e7 w7 ⟨rfl, hb7⟩
                 have h7 := HPD.out.kept hb7
                 obtain ⟨⟨q0, q1, q2, q3, q4⟩, -, qf, -⟩ := h7.cells
                 have z7 := h7.hE.lt
                 have zz7 := h7.o7))
            all_goals
              have HI0 := Lib.hid (And.intro hin0 hwl')
              clear hw1 hk0 hj9 oB k0 kl hin0 hi hx1 hx2 cy q0 q1 q2 q3 q4 e0 e1 e2 e3 e4 r0 r1 r2 r3 r4 fE fR qf z7 zz7 zE hgo
            all_goals go_wp2_with fail
            all_goals
              clear hw64
              have hin0 := HI0.out.1
              try rw [HW64.out]
              exact ⟨RL2.mk (i + 1) _ (asks' ++ [(pa, pb)]) (by omega) (by have := HLE.out; simp; omega) (by go_num) HP3.out HPP.out, by have := HI0.out.2; simp [intOf]; omega⟩
          · have hpe : P = rEnd ⟨x.toArray⟩ N ⟨#[]⟩ ⟨#[]⟩ asks' (ws.drop i) := by rw [hpa, List.drop_of_length_le (by rw [← HNW.out]; omega)]; unfold rAsk; rw [hasks]; simp
            have HE := Lib.hid hpe
            clear hpe hpa
            have hin : ¬ i < nw := by omega
            have hw1 : ¬ (i : Int) + 1 < (nw : Int) + 1 := by omega
            obtain ⟨ga, gc, hva, -⟩ := ask_at HQ.out.ha
            subst hva
            have h9 := HQ.out
            have hev := h9.ev (w' := wr) ⟨rfl, rfl, rfl, Nat.le_refl _, fun _ _ _ => rfl⟩
            have hck := rright_any ⟨⟨x.toArray⟩, N, ⟨#[]⟩, ⟨#[]⟩, asks'⟩ _ (by dsimp only; have := HNL0.out; simp [nC] at this; omega) (by dsimp only; have := HLE.out; omega) (by dsimp only; exact HSZ.out.1) (by dsimp only; exact HSZ.out.2) wr hev
            obtain ⟨q, hq⟩ : ∃ q, q = evOk ⟨⟨x.toArray⟩, N, ⟨#[]⟩, ⟨#[]⟩, asks'⟩ := ⟨_, rfl⟩
            rw [← hq] at hck
            have HCK := Lib.hid hck
            have HQQ := Lib.hid hq
            have HD : Hid (ws.drop i = []) := Lib.hid (List.drop_of_length_le (by rw [← HNW.out]; omega))
            obtain ⟨⟨e0, e1, e2, e3, e4⟩, ⟨r0, r1, r2, r3, r4⟩, fE, fR⟩ := h9.cells
            clear h9 hev hck hq
            go_wp2_with fail
            refine HCK.out.mono ?_
            rintro e8 w8 ⟨rfl, hb8⟩
            have h8 := HQ.out.kept hb8
            have HP8 := Lib.hid h8
            clear e0 e1 e2 e3 e4 r0 r1 r2 r3 r4 fE fR
            obtain ⟨⟨e0, e1, e2, e3, e4⟩, ⟨r0, r1, r2, r3, r4⟩, fE, fR⟩ := h8.cells
            clear h8 hb8 HCK
            cases q with
            | false =>
              obtain rfl : P = none := by rw [HE.out]; unfold rEnd; rw [if_neg]; rw [← HQQ.out]; simp
              have b9 := HP8.out.below
              go_wp2_with fail
              refine bodyPost_ret (v := .tuple #[EVal ⟨#[]⟩ (.slice none 0 0) ⟨#[]⟩ ⟨#[]⟩ (.slice none 0 0), .bool false]) ?_ rfl ⟨rfl, ?_⟩
              · rw [results_cell_tmp rfl]
                go_simp
              · exact (((((b9.setCell (Nat.le_refl _) _).setCell (Nat.le_refl _) _).setCell (Nat.le_refl _) _).setCell (Nat.le_refl _) _).setCell (Nat.le_refl _) _)
            | true =>
              obtain rfl : P = some ⟨⟨x.toArray⟩, N, ⟨#[]⟩, ⟨#[]⟩, asks'⟩ := by rw [HE.out]; unfold rEnd; rw [if_pos ⟨HD.out, HQQ.out.symm⟩]
              have b9 := HP8.out.below
              go_wp2_with fail
              refine bodyPost_ret (v := .tuple #[EVal ⟨x.toArray⟩ (.slice an j cn) ⟨#[]⟩ ⟨#[]⟩ (.slice ga asks'.length gc), .bool true]) ?_ rfl ⟨⟨_, rfl, HP8.out.ev (store5 HP8.out.hR _ _ _ _ _)⟩, ?_⟩
              · rw [results_cell_tmp rfl]
                go_simp
              · exact (((((b9.setCell (Nat.le_refl _) _).setCell (Nat.le_refl _) _).setCell (Nat.le_refl _) _).setCell (Nat.le_refl _) _).setCell (Nat.le_refl _) _)
      · have hx1 : ¬ (j : Int) + 1 < (nw : Int) + 1 := by omega
        obtain ⟨hname, hdata, hasks⟩ := HFL.out
        have HSZ : Hid ((ByteArray.mk #[]).size ≤ 100000 ∧ (ByteArray.mk #[]).size ≤ 1000000) := Lib.hid ⟨by decide, by decide⟩
        have HPA : Hid (P = rAsk s ⟨x.toArray⟩ N ⟨#[]⟩ ⟨#[]⟩ [] (ws.drop j)) := Lib.hid (by rw [HPN.out]; unfold rShape rAsk; rw [hname, hdata, hasks]; rfl)
        go_wp2_with fail
        have HEN : Hid (P = rEnd ⟨x.toArray⟩ N ⟨#[]⟩ ⟨#[]⟩ [] (ws.drop j)) := Lib.hid (by rw [HPA.out, List.drop_of_length_le (by rw [← HNW.out]; omega)]; unfold rAsk; split <;> rfl)
        go_loopw [11] (fun c wr => ∃ (i : Nat) (va : Value) (asks' : List (Int × Int)), i = j ∧ asks' = [] ∧ c = .int .i64 ((i + 1 : Nat) : Int) ∧ RS w w.heap.size E B2 (.slice (some ⟨g, o, none⟩) (nw + 1) cap) (.slice an j cn) va (x :: ws) ⟨x.toArray⟩ ⟨#[]⟩ ⟨#[]⟩ N asks' wr) (fun c _ => 90001 - (intOf c).toNat)
        case atStart => exact ⟨j, _, [], rfl, rfl, by go_num, HPS.out⟩
        case round =>
          obtain ⟨i, va', asks', hij, has, rfl, hq⟩ := hrel
          have HQ := Lib.hid hq
          have HLE : Hid (asks'.length ≤ i) := Lib.hid (by rw [has]; simp)
          have HE : Hid (P = rEnd ⟨x.toArray⟩ N ⟨#[]⟩ ⟨#[]⟩ asks' (ws.drop i)) := Lib.hid (by rw [has, hij]; exact HEN.out)
          have hin' : ¬ i < nw := by omega
          have hi9 : i ≤ nw := by omega
          have hjc : ((i + 1 : Nat) : Int) = (i : Int) + 1 := by omega
          rw [hjc]
          clear hjc hq has hij hx1 HEN e0 e1 e2 e3 e4 r0 r1 r2 r3 r4 fE fR
          have hin : ¬ i < nw := by omega
          have hw1 : ¬ (i : Int) + 1 < (nw : Int) + 1 := by omega
          obtain ⟨ga, gc, hva, -⟩ := ask_at HQ.out.ha
          subst hva
          have h9 := HQ.out
          have hev := h9.ev (w' := wr) ⟨rfl, rfl, rfl, Nat.le_refl _, fun _ _ _ => rfl⟩
          have hck := rright_any ⟨⟨x.toArray⟩, N, ⟨#[]⟩, ⟨#[]⟩, asks'⟩ _ (by dsimp only; have := HNL0.out; simp [nC] at this; omega) (by dsimp only; have := HLE.out; omega) (by dsimp only; exact HSZ.out.1) (by dsimp only; exact HSZ.out.2) wr hev
          obtain ⟨q, hq⟩ : ∃ q, q = evOk ⟨⟨x.toArray⟩, N, ⟨#[]⟩, ⟨#[]⟩, asks'⟩ := ⟨_, rfl⟩
          rw [← hq] at hck
          have HCK := Lib.hid hck
          have HQQ := Lib.hid hq
          have HD : Hid (ws.drop i = []) := Lib.hid (List.drop_of_length_le (by rw [← HNW.out]; omega))
          obtain ⟨⟨e0, e1, e2, e3, e4⟩, ⟨r0, r1, r2, r3, r4⟩, fE, fR⟩ := h9.cells
          clear h9 hev hck hq
          go_wp2_with fail
          refine HCK.out.mono ?_
          rintro e8 w8 ⟨rfl, hb8⟩
          have h8 := HQ.out.kept hb8
          have HP8 := Lib.hid h8
          clear e0 e1 e2 e3 e4 r0 r1 r2 r3 r4 fE fR
          obtain ⟨⟨e0, e1, e2, e3, e4⟩, ⟨r0, r1, r2, r3, r4⟩, fE, fR⟩ := h8.cells
          clear h8 hb8 HCK
          cases q with
          | false =>
            obtain rfl : P = none := by rw [HE.out]; unfold rEnd; rw [if_neg]; rw [← HQQ.out]; simp
            have b9 := HP8.out.below
            go_wp2_with fail
            refine bodyPost_ret (v := .tuple #[EVal ⟨#[]⟩ (.slice none 0 0) ⟨#[]⟩ ⟨#[]⟩ (.slice none 0 0), .bool false]) ?_ rfl ⟨rfl, ?_⟩
            · rw [results_cell_tmp rfl]
              go_simp
            · exact (((((b9.setCell (Nat.le_refl _) _).setCell (Nat.le_refl _) _).setCell (Nat.le_refl _) _).setCell (Nat.le_refl _) _).setCell (Nat.le_refl _) _)
          | true =>
            obtain rfl : P = some ⟨⟨x.toArray⟩, N, ⟨#[]⟩, ⟨#[]⟩, asks'⟩ := by rw [HE.out]; unfold rEnd; rw [if_pos ⟨HD.out, HQQ.out.symm⟩]
            have b9 := HP8.out.below
            go_wp2_with fail
            refine bodyPost_ret (v := .tuple #[EVal ⟨x.toArray⟩ (.slice an j cn) ⟨#[]⟩ ⟨#[]⟩ (.slice ga asks'.length gc), .bool true]) ?_ rfl ⟨⟨_, rfl, HP8.out.ev (store5 HP8.out.hR _ _ _ _ _)⟩, ?_⟩
            · rw [results_cell_tmp rfl]
              go_simp
            · exact (((((b9.setCell (Nat.le_refl _) _).setCell (Nat.le_refl _) _).setCell (Nat.le_refl _) _).setCell (Nat.le_refl _) _).setCell (Nat.le_refl _) _)
end Go.Proofs.Ytdpfcjhhabcheaa

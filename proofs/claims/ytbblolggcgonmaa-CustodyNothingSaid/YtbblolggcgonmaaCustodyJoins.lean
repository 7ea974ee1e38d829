/-
  CustodyJoins returns true for all shares, and leaves its argument as it was. No condition.
-/
import Derived.Test.YtbblolggcgonmaaRJoin
namespace Go.Proofs.Ytbblolggcgonmaa
open Go.RowKit Go.ChangeShapes Go.WideShapes Go.ChangeAt

theorem may_sh (L : List Sh) (len : Nat) (hl : len = L.length) (A : Option Addr) (cap : Nat) (w : World) (hA : ShAt w w.heap.size A L) (hlen : len ≤ 255) :
    Calls Try.prog 32 #[.slice A len cap] w fun e w' => e = .returned (.bool (decide (MayOk L))) ∧ Below w.heap.size w w' := by
  subst hl
  exact rmay_any L A cap w hA hlen
theorem joins_no (L : List Sh) (len : Nat) (hl : len = L.length) (A : Option Addr) (cap : Nat) (w : World) (hA : ShAt w w.heap.size A L) (h12 : len ≤ 12) (h : ¬ MayOk L) :
    Calls Try.prog 31 #[.slice A len cap] w fun e w' => e = .returned (.tuple #[.string ⟨#[]⟩, .int .i64 2]) ∧ Below w.heap.size w w' := by
  subst hl
  exact join_no L A cap w hA (by omega) h
theorem joins_yes (L : List Sh) (len : Nat) (hl : len = L.length) (A : Option Addr) (cap n : Nat) (w : World) (hA : ShAt w w.heap.size A L) (h12 : len ≤ 12) (h : MayOk L) (hn : ∀ p ∈ L, p.2.size = n) :
    Calls Try.prog 31 #[.slice A len cap] w fun e w' => e = .returned (.tuple #[.string ⟨(valueL L 0 n).toArray⟩, .int .i64 0]) ∧ Below w.heap.size w w' := by
  subst hl
  exact join_yes L A cap n w hA (by omega) h hn
theorem rjoins (L : List Sh) (len : Nat) (hl : len = L.length) (A : Option Addr) (cap n : Nat) (w : World) (hA : ShAt w w.heap.size A L) (h12 : len ≤ 12) (hne : 0 < len) (hn : ∀ p ∈ L, p.2.size = n) (hn64 : n ≤ 64) :
    Calls Try.prog 33 #[.slice A len cap] w fun e w' => e = .returned (.string ⟨(valueL L 0 n).toArray⟩) ∧ Below w.heap.size w w' := by
  subst hl
  exact rjoin_any L A cap n w hA (by omega) hne hn hn64

set_option maxRecDepth 100000 in
set_option maxHeartbeats 3200000 in
theorem joins_law (L : List Sh) (A : Option Addr) (cap : Nat) (w : World) (hA : ShAt w w.heap.size A L) :
    Calls Try.prog 7 #[.slice A L.length cap] w fun e w' => e = .returned (.bool true) ∧ Below w.heap.size w w' := by
  have HF := Lib.hid (few_any L A cap w hA)
  obtain ⟨len, hl⟩ : ∃ n, n = L.length := ⟨_, rfl⟩
  rw [← hl] at HF ⊢
  have HA := Lib.hid hA
  have HH := Lib.hid (fun (h : len ≤ 12) A cap w h' => shares_sh L len hl A cap w h' (by omega))
  have HM := Lib.hid (fun (h : len ≤ 12) A cap w h' => may_sh L len hl A cap w h' (by omega))
  have HL := Lib.hid hl
  clear hA hl
  go_enter Try.func7, Try.ntmps7
  go_wp2_with fail
  refine HF.out.mono ?_; rintro e w1 ⟨⟨b, rfl, hbt⟩, hb1⟩
  clear HF
  cases b with
  | false =>
    clear hbt
    go_wp2_with (go_at_call 23; (with_reducible refine (custody_alive _).mono ?_); rintro e w5 ⟨rfl, hb5⟩)
    go_ret
    exact ⟨rfl, bthen hb1 hb5⟩
  | true =>
    have h12 := hbt rfl
    clear hbt
    have SA1 := Lib.hid (HA.out.up hb1 hb1.size)
    by_cases hmay : MayOk L
    · obtain ⟨n, hn0, hn64, hn⟩ : ∃ n, 0 < len ∧ n ≤ 64 ∧ ∀ p ∈ L, p.2.size = n := by
        obtain ⟨p0, L', e, h1, h2, hg⟩ := hmay
        exact ⟨p0.2.size, by rw [HL.out, e]; simp, h2, fun p hp => (hg.1 p hp).2⟩
      have hj := joins_yes L len HL.out A cap n w1 SA1.out h12 hmay hn
      have hm := HM.out h12
      rw [decide_eq_true hmay] at hm
      have hr := fun A cap w h => rjoins L len HL.out A cap n w h h12 hn0 hn hn64
      generalize (⟨(valueL L 0 n).toArray⟩ : ByteArray) = R at *
      have HJ := Lib.hid hj
      have HM2 := Lib.hid hm
      have HR := Lib.hid hr
      clear hj hm hr hn hmay
      go_wp2_with fail
      refine HJ.out.mono ?_; rintro e w2 ⟨rfl, hb2⟩
      have SA2 := Lib.hid (SA1.out.up hb2 hb2.size)
      go_wp2_with fail
      refine (HH.out h12 _ _ _ SA2.out).mono ?_; rintro e w3 ⟨⟨A3, c3, rfl, s3⟩, hb3⟩
      have SA3 := Lib.hid (SA2.out.up hb3 hb3.size)
      have S3 := Lib.hid s3
      clear s3
      go_wp2_with fail
      refine (HM2.out _ _ _ S3.out).mono ?_; rintro e w4 ⟨rfl, hb4⟩
      have SA4 := Lib.hid (SA3.out.up hb4 hb4.size)
      go_wp2_with fail
      refine (HH.out h12 _ _ _ SA4.out).mono ?_; rintro e w5 ⟨⟨A5, c5, rfl, s5⟩, hb5⟩
      have S5 := Lib.hid s5
      clear s5
      go_wp2_with fail
      refine (HR.out _ _ _ S5.out).mono ?_; rintro e w6 ⟨rfl, hb6⟩
      go_wp2_with (go_at_call 23; (with_reducible refine (custody_alive _).mono ?_); rintro e w7 ⟨rfl, hb7⟩)
      go_ret
      exact ⟨rfl, bthen (bthen (bthen (bthen (bthen (bthen hb1 hb2) hb3) hb4) hb5) hb6) hb7⟩
    · have hj := joins_no L len HL.out A cap w1 SA1.out h12 hmay
      have hm := HM.out h12
      rw [decide_eq_false hmay] at hm
      have HJ := Lib.hid hj
      have HM2 := Lib.hid hm
      clear hj hm hmay
      go_wp2_with fail
      refine HJ.out.mono ?_; rintro e w2 ⟨rfl, hb2⟩
      have SA2 := Lib.hid (SA1.out.up hb2 hb2.size)
      go_wp2_with fail
      refine (HH.out h12 _ _ _ SA2.out).mono ?_; rintro e w3 ⟨⟨A3, c3, rfl, s3⟩, hb3⟩
      have S3 := Lib.hid s3
      clear s3
      go_wp2_with fail
      refine (HM2.out _ _ _ S3.out).mono ?_; rintro e w4 ⟨rfl, hb4⟩
      go_wp2_with (go_at_call 23; (with_reducible refine (custody_alive _).mono ?_); rintro e w5 ⟨rfl, hb5⟩)
      go_ret
      exact ⟨rfl, bthen (bthen (bthen (bthen hb1 hb2) hb3) hb4) hb5⟩

theorem open_sharesAt {H : Type} {enc : TypeId × Value → H} {W : World} {base : Nat} {v : Value} {d : DataW H} {ps : List MemPlace} (hval : Value.okWide Try.prog W .any base 45 v)
    (hd : DataW.Trod enc Try.prog W 0 (fun _ => true) true 45 v d ps) :
    ∃ (A : Option Addr) (c : Nat) (L : List Sh), v = .slice A L.length c ∧ ShAt W W.heap.size A L := by
  have hc : Try.prog.cellsOf 62 = 2 := by kernel_rfl
  have hci : Try.prog.cellsOf 5 = 1 := by kernel_rfl
  have hcs : Try.prog.cellsOf 9 = 1 := by kernel_rfl
  obtain ⟨A, n, c, X, rfl, h1, h2, h3, h4⟩ := open_rowsAt Try.underlying45 (by rw [hc]; omega) hval hd
  rw [hc] at h3
  obtain ⟨L, rfl⟩ := list_of shCells X (fun cs hcs' => by
    obtain ⟨fuel, y, hy⟩ := h4 cs hcs'
    obtain ⟨xs, n, _, _, hlen, hxs, hf⟩ := DataW.trod_struct Try.underlying62 hy
    rw [hc] at hlen
    match cs, hlen with
    | [c0, c1], _ =>
      match xs, hxs with
      | [y0, y1], _ =>
        have e0 := hf 0 _ rfl
        have e1 := hf 1 _ rfl
        change DataW.trod enc Try.prog W 0 (fun _ => true) true n 5 ((List.drop 0 [c0, c1]).take (Try.prog.cellsOf 5)) = _ at e0
        change DataW.trod enc Try.prog W 0 (fun _ => true) true n 9 ((List.drop 1 [c0, c1]).take (Try.prog.cellsOf 9)) = _ at e1
        rw [hci] at e0
        rw [hcs] at e1
        obtain ⟨k, hk, hw⟩ := DataW.trod_int Try.underlying5 e0
        obtain ⟨s, hs, _⟩ := DataW.trod_string Try.underlying9 e1
        simp at hk hs
        obtain ⟨x, rfl⟩ := byte_of (byte_bd hw.2)
        exact ⟨(x, s), by rw [hk, hs]; rfl⟩)
  have hn : n = L.length := by have := h3.len; simp at this; exact this.symm
  subst hn
  exact ⟨A, c, L, rfl, h3⟩

set_option maxRecDepth 100000 in
theorem custodyJoins_lifted (os : Os) (started : os.Started) (H : Type) (enc : TypeId × Value → H) :
    ReturnsInHanded {} Try.checked os 7 .any (Rows.custodyJoinsSpec.pre6 enc Try.prog Try.f7 [] false) (Rows.custodyJoinsSpec.post enc Try.prog Try.f7 false true false false) := by
  refine LawKit.lifted (C := Try.checked) (tb := 4) own started (by kernel_rfl) Try.func7
    (ChangeSpec.witness6 (enc := enc) (C := Try.checked) false ⟨#[], #[.slice none 0 0], []⟩ 8 (by kernel_rfl) (by kernel_rfl) (by kernel_rfl) (by kernel_rfl))
    laidOut (by kernel_rfl) rfl (fun ds h => by match ds, h with | [_], _ => rfl) rfl Try.underlying4 ?_
  intro W base args ds ps hval0 hA0 hlt hsz
  have hval : ∀ (j : Nat) t v, Try.f7.params[j]? = some t → args[j]? = some v → Value.okWide Try.prog W .any base t v := hval0
  have hA : DataW.TrodAll enc Try.prog W 0 (fun _ => true) true Try.f7.params.toList args.toList ds ps := hA0
  rw [Try.params7] at hA hval
  clear hval0 hA0
  obtain ⟨v0, vs0, d0, ds0, p0, q0, hargs, rfl, rfl, t0, r0⟩ := trodAll_cons hA
  obtain ⟨rfl, rfl, rfl⟩ := trodAll_nil r0
  obtain rfl : args = #[v0] := by cases args; simp_all
  have hv0 := hval 0 _ v0 rfl rfl
  exact by obtain ⟨A, c, L, rfl, hSh⟩ := open_sharesAt hv0 t0; exact joins_law L A c W hSh

theorem custodyJoins_holds : Rows.CustodyJoinsSaid :=
  OpenClaim.holds_of_wide 7 Try.f7 rfl rfl rfl rfl rfl rfl rfl ⟨rfl, rfl, rfl, rfl, rfl⟩ rfl rfl rfl rfl rfl (by kernel_rfl) Try.func7 (by kernel_rfl)
    (of_decide_eq_true (by kernel_rfl)) (by unfold Func.isWrapper; first | (rw [if_pos (by decide +kernel)]; kernel_rfl) | (rw [if_neg (by decide +kernel)]; exact ⟨rfl, rfl⟩))
    (fun os started H enc _ => custodyJoins_lifted os started H enc)
#print axioms custodyJoins_holds

end Go.Proofs.Ytbblolggcgonmaa

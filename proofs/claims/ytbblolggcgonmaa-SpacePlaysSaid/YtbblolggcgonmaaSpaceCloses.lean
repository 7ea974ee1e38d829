/-
  SpaceCloses returns true for every shape and every row of closings, and leaves its arguments as they were. No condition.
-/
import Derived.Test.YtbblolggcgonmaaSpace
import Derived.Test.YtbblolggcgonmaaRows2
import Derived.Test.YtbblolggcgonmaaGeomOpen
namespace Go.Proofs.Ytbblolggcgonmaa
open Go.RowKit Go.ChangeShapes Go.WideShapes Go.ChangeAt

theorem open_boolsAt {H : Type} {enc : TypeId × Value → H} {W : World} {base : Nat} {v : Value} {d : DataW H} {ps : List MemPlace} (hval : Value.okWide Try.prog W .any base 24 v)
    (hd : DataW.Trod enc Try.prog W 0 (fun _ => true) true 24 v d ps) :
    ∃ (A : Option Addr) (n c : Nat) (bs : List Bool), v = .slice A n c ∧ n ≤ c ∧ c ≤ maxLen ∧ RowsAt W W.heap.size A n 1 (bs.map fun b => [Value.bool b]) := by
  have hc : Try.prog.cellsOf 4 = 1 := by kernel_rfl
  obtain ⟨A, n, c, X, rfl, h1, h2, h3, h4⟩ := open_rowsAt Try.underlying24 (by rw [hc]; omega) hval hd
  rw [hc] at h3
  obtain ⟨bs, rfl⟩ := list_of (fun b => [Value.bool b]) X (fun cs hcs => by
    obtain ⟨fuel, y, hy⟩ := h4 cs hcs
    obtain ⟨b, hb, _⟩ := DataW.trod_bool Try.underlying4 hy
    exact ⟨b, hb⟩)
  exact ⟨A, n, c, bs, rfl, h1, h2, h3⟩

/-- A space of a shape that lies in a box, in the midst of the law: so many are taken. -/
structure Mids (w : World) (b l f : Int) (g : Nat) (u : Int) (wr : World) : Prop where
  u0 : 0 ≤ u
  u1 : u ≤ dataV b l f
  at_ : SpcAt wr g b l f u true
  low : Below (w.heap.size + 1) (w.alloc (.cells #[.int .i64 b, .int .i64 l, .int .i64 f] 23)) wr
  gl : w.heap.size + 1 ≤ g
  hl : w.heap.size + 1 ≤ wr.heap.size
theorem Mids.takes {w wr w' : World} {b l f u u' : Int} {g : Nat} (h : Mids w b l f g u wr) (k : Takes wr g b l f u' w') (h0 : 0 ≤ u') (h1 : u' ≤ dataV b l f) : Mids w b l f g u' w' :=
  ⟨h0, h1, k.2, k.below h.low h.hl h.gl, h.gl, Nat.le_trans h.hl k.1.size⟩
theorem Mids.below {w wr w' : World} {b l f u : Int} {g : Nat} (h : Mids w b l f g u wr) (hb : Below wr.heap.size wr w') : Mids w b l f g u w' :=
  ⟨h.u0, h.u1, h.at_.below hb, h.low.trans (hb.mono h.hl), h.gl, Nat.le_trans h.hl hb.size⟩
theorem Mids.old {w wr : World} {b l f u : Int} {g : Nat} (h : Mids w b l f g u wr) : Below w.heap.size w wr := (bnew _ _).trans (h.low.mono (by omega))
theorem Mids.box {w wr : World} {b l f u : Int} {g : Nat} (h : Mids w b l f g u wr) : wr.cell? ⟨w.heap.size, 0, none⟩ = some (.int .i64 b) ∧ wr.cell? ⟨w.heap.size, 1, none⟩ = some (.int .i64 l) ∧ wr.cell? ⟨w.heap.size, 2, none⟩ = some (.int .i64 f) := by
  refine ⟨?_, ?_, ?_⟩ <;> rw [h.low.cell (by simp)] <;> simp [go_sem]

set_option maxRecDepth 100000 in
set_option maxHeartbeats 3200000 in
theorem space_closes (b l f : Int) (hg : GOk b l f) (A : Option Addr) (len cap : Nat) (bs : List Bool) (w : World) (hA : RowsAt w w.heap.size A len 1 (bs.map fun b => [Value.bool b])) (hlen : len ≤ 2000) :
    Calls Try.prog 3 #[GVal b l f, .slice A len cap] w fun e w' => e = .returned (.bool true) ∧ Below w.heap.size w w' := by
  have hbd := dataV_bd b l f
  have HN := Lib.hid (snew_yes b l f 0 hg (by omega) (by omega))
  have hd := ref_data b l f
  have HO := fun g u => Lib.hid (sopen_at g b l f u hg)
  have HU := fun g u => Lib.hid (sused_at g b l f u hg)
  have HTY := fun g u h0 hr => Lib.hid (stake_yes g b l f u h0 hg hr)
  have HTN := fun g u hr => Lib.hid (stake_no g b l f u hg hr)
  have HCY := fun g u h0 hr => Lib.hid (sclose_yes g b l f u h0 hg hr)
  have HCN := fun g u hr => Lib.hid (sclose_no g b l f u hg hr)
  have hM : ∀ g wr u, Mids w b l f g u wr → 0 ≤ u ∧ u ≤ dataV b l f := fun g wr u h => ⟨h.u0, h.u1⟩
  obtain ⟨d, hdd⟩ : ∃ d, d = dataV b l f := ⟨_, rfl⟩
  rw [← hdd] at hd hbd HO HTY HTN HCY HCN hM
  have HD := Lib.hid hd
  have HDD := Lib.hid hdd
  have HA := Lib.hid hA
  have HO' := Lib.hid HO
  have HU' := Lib.hid HU
  have HTY' := Lib.hid HTY
  have HTN' := Lib.hid HTN
  have HCY' := Lib.hid HCY
  have HCN' := Lib.hid HCN
  have HM := Lib.hid hM
  obtain ⟨hd0, hd1⟩ := hbd
  clear hd hdd hA HO HU HTY HTN HCY HCN hg hM
  go_enter Try.func3, Try.ntmps3
  go_wp2_with fail
  refine (HN.out _).mono ?_; rintro e w0 ⟨g, rfl, hgl, hs0, hb0⟩
  have hm0 : Mids w b l f g 0 w0 := ⟨by omega, by rw [← HDD.out]; omega, hs0, hb0.mono (by simp), by simpa using hgl, by have := hb0.size; simpa using this⟩
  have HM0 := Lib.hid hm0
  clear hm0 hs0 hb0 hgl HN
  go_wp2_with fail
  go_loopw [7, 34] (fun nx c wr => ∃ (j : Nat) (u : Int), j ≤ len ∧ c = .int .i64 j ∧ nx = .int .i64 u ∧ Mids w b l f g u wr) (fun _ c _ => len - (intOf c).toNat)
  case atStart => exact ⟨0, 0, Nat.zero_le _, rfl, rfl, HM0.out⟩
  case round =>
    obtain ⟨j, u, hj, rfl, rfl, hm⟩ := hrel
    obtain ⟨u0, u1⟩ := HM.out _ _ _ hm
    have HMid := Lib.hid hm
    clear hm HM0
    by_cases hjl : j < len
    · obtain ⟨ad, rfl, hadl, hcs⟩ := (HA.out.below HMid.out.old).lies (by omega)
      obtain ⟨cl, hcl⟩ : ∃ cl, bs[j]? = some cl := by
        have := HA.out.len
        rw [List.length_map] at this
        exact ⟨bs[j]'(by omega), List.getElem?_eq_getElem (by omega)⟩
      have hcell := (hcs j [.bool cl] (by rw [List.getElem?_map, hcl]; rfl)).2 0 (by omega)
      rw [show j * 1 + 0 = j from by omega, show [Value.bool cl][0]? = some (.bool cl) from rfl] at hcell
      have t1 := Lib.hid ((HO'.out g u).out wr HMid.out.at_)
      clear hcs hadl hcl
      cases cl
      · by_cases hr : u < d - 1
        · go_wp2_with fail
          refine t1.out.mono ?_; rintro e w1 ⟨rfl, hb1⟩
          have hm1 := Lib.hid (HMid.out.below hb1)
          have t2 := Lib.hid ((HTY'.out g u u0 (by unfold roomV; rw [if_pos ⟨u0, hr⟩]; omega)).out w1 hm1.out.at_)
          clear hb1 t1 HMid
          go_wp2_with fail
          refine t2.out.mono ?_; rintro e w2 ⟨rfl, k2⟩
          have hm2 := Lib.hid (hm1.out.takes k2 (by omega) (by rw [← HDD.out]; omega))
          clear k2 t2 hm1
          go_wp2_with fail
          go_roundw
          case rel => exact ⟨j + 1, u + 1, by omega, by go_num, rfl, hm2.out⟩
          case measure => simp [intOf]; omega
        · have hr' : d - 1 ≤ u := by omega
          go_wp2_with fail
          refine t1.out.mono ?_; rintro e w1 ⟨rfl, hb1⟩
          have hm1 := Lib.hid (HMid.out.below hb1)
          have t2 := Lib.hid ((HTN'.out g u (by unfold roomV; rw [if_neg (by omega)])).out w1 hm1.out.at_)
          clear hb1 t1 HMid
          go_wp2_with fail
          refine t2.out.mono ?_; rintro e w2 ⟨rfl, k2⟩
          have hm2 := Lib.hid (hm1.out.takes k2 (by omega) (by rw [← HDD.out]; omega))
          clear k2 t2 hm1
          go_wp2_with fail
          go_roundw
          case rel => exact ⟨j + 1, u, by omega, by go_num, rfl, hm2.out⟩
          case measure => simp [intOf]; omega
      · by_cases hr : u < d
        · go_wp2_with fail
          refine t1.out.mono ?_; rintro e w1 ⟨rfl, hb1⟩
          have hm1 := Lib.hid (HMid.out.below hb1)
          have t2 := Lib.hid ((HCY'.out g u u0 hr).out w1 hm1.out.at_)
          clear hb1 t1 HMid
          go_wp2_with fail
          refine t2.out.mono ?_; rintro e w2 ⟨rfl, k2⟩
          have hm2 := Lib.hid (hm1.out.takes k2 (by omega) (by rw [← HDD.out]; omega))
          clear k2 t2 hm1
          go_wp2_with fail
          go_roundw
          case rel => exact ⟨j + 1, u + 1, by omega, by go_num, rfl, hm2.out⟩
          case measure => simp [intOf]; omega
        · have hr' : d ≤ u := by omega
          go_wp2_with fail
          refine t1.out.mono ?_; rintro e w1 ⟨rfl, hb1⟩
          have hm1 := Lib.hid (HMid.out.below hb1)
          have t2 := Lib.hid ((HCN'.out g u hr').out w1 hm1.out.at_)
          clear hb1 t1 HMid
          go_wp2_with fail
          refine t2.out.mono ?_; rintro e w2 ⟨rfl, k2⟩
          have hm2 := Lib.hid (hm1.out.takes k2 (by omega) (by rw [← HDD.out]; omega))
          clear k2 t2 hm1
          go_wp2_with fail
          go_roundw
          case rel => exact ⟨j + 1, u, by omega, by go_num, rfl, hm2.out⟩
          case measure => simp [intOf]; omega
    · have hjl' : j = len := by omega
      go_wp2_with fail
      obtain ⟨wo, hwo⟩ : ∃ wo, wo = wr := ⟨_, rfl⟩
      subst hwo
      go_loopw [7] (fun nx wr => ∃ u : Int, nx = .int .i64 u ∧ Mids w b l f g u wr) (fun nx _ => (d - intOf nx).toNat)
      case atStart => exact ⟨u, rfl, HMid.out⟩
      case round =>
        obtain ⟨x, rfl, hm⟩ := hrel
        obtain ⟨x0, x1⟩ := HM.out _ _ _ hm
        clear HMid u0 u1 hj hjl hjl'
        have HMid := Lib.hid hm
        have t1 := Lib.hid ((HO'.out g x).out wr hm.at_)
        clear hm
        by_cases hr : x < d
        · go_wp2_with fail
          refine t1.out.mono ?_; rintro e w1 ⟨rfl, hb1⟩
          have hm1 := Lib.hid (HMid.out.below hb1)
          have t2 := Lib.hid ((HCY'.out g x x0 hr).out w1 hm1.out.at_)
          clear hb1 t1 HMid
          go_wp2_with fail
          refine t2.out.mono ?_; rintro e w2 ⟨rfl, k2⟩
          have hm2 := hm1.out.takes k2 (by omega) (by rw [← HDD.out]; omega)
          obtain ⟨q0, q1, q2⟩ := hm2.box
          have HM2 := Lib.hid hm2
          clear k2 t2 hm1 hm2
          go_wp2_with (go_at_call 17; refine (HD.out _).mono ?_; rintro e w3 ⟨rfl, hb3⟩)
          go_roundw
          case rel => exact ⟨x + 1, rfl, HM2.out.below hb3⟩
          case measure => simp [intOf]; omega
        · have hr' : x = d := by omega
          subst hr'
          go_wp2_with fail
          refine t1.out.mono ?_; rintro e w1 ⟨rfl, hb1⟩
          have hm1 := Lib.hid (HMid.out.below hb1)
          have t2 := Lib.hid ((HCN'.out g x (by omega)).out w1 hm1.out.at_)
          clear hb1 t1 HMid
          go_wp2_with fail
          refine t2.out.mono ?_; rintro e w2 ⟨rfl, k2⟩
          have hm2 := Lib.hid (hm1.out.takes k2 (by omega) (by rw [← HDD.out]; omega))
          have t3 := Lib.hid ((HTN'.out g x (by unfold roomV; rw [if_neg (by omega)])).out w2 hm2.out.at_)
          clear k2 t2 hm1
          go_wp2_with fail
          refine t3.out.mono ?_; rintro e w3 ⟨rfl, k3⟩
          have hm3 := hm2.out.takes k3 (by omega) (by rw [← HDD.out]; omega)
          obtain ⟨q0, q1, q2⟩ := hm3.box
          have HM3 := Lib.hid hm3
          clear k3 t3 hm2 hm3
          go_wp2_with (first
            | (go_at_call 17; refine (HD.out _).mono ?_; rintro e w4 ⟨rfl, hb4⟩; have hm4 := Lib.hid (HM3.out.below hb4))
            | (go_at_call 18; refine ((HU'.out g x).out _ hm4.out.at_).mono ?_; rintro e w' ⟨rfl, rfl⟩)
            | (go_at_call 13; refine (space_alive _).mono ?_; rintro e w5 ⟨rfl, hb5⟩))
          go_ret
          exact ⟨ret_bool (by simp), bthen hm4.out.old hb5⟩

set_option maxHeartbeats 800000 in
theorem space_closes_else (b l f : Int) (A : Option Addr) (len cap : Nat) (h : ¬ GOk b l f ∨ (GOk b l f ∧ 2000 < len)) (_hc : len ≤ cap) (_hm : cap ≤ 9223372036854775807) (w : World) :
    Calls Try.prog 3 #[GVal b l f, .slice A len cap] w fun e w' => e = .returned (.bool true) ∧ Below w.heap.size w w' := by
  rcases h with hg | ⟨hg, hl⟩
  · have HN := Lib.hid (snew_no b l f 0 (fun h => hg h.1))
    clear hg
    go_enter Try.func3, Try.ntmps3
    go_wp2_with (first
      | (go_at_call 12; refine (HN.out _).mono ?_; rintro e w1 ⟨rfl, hb1⟩)
      | (go_at_call 13; refine (space_alive _).mono ?_; rintro e w5 ⟨rfl, hb5⟩))
    go_ret
    exact ⟨rfl, bthen (bthen (bnew _ _) hb1) hb5⟩
  · have hbd := dataV_bd b l f
    have HN := Lib.hid (snew_yes b l f 0 hg (by omega) (by omega))
    clear hg hbd
    go_enter Try.func3, Try.ntmps3
    go_wp2_with (first
      | (go_at_call 12; refine (HN.out _).mono ?_; rintro e w1 ⟨g, rfl, _, _, hb1⟩)
      | (go_at_call 13; refine (space_alive _).mono ?_; rintro e w5 ⟨rfl, hb5⟩))
    go_ret
    exact ⟨rfl, bthen (bthen (bnew _ _) hb1) hb5⟩

theorem space_closes_any (b l f : Int) (A : Option Addr) (len cap : Nat) (bs : List Bool) (w : World) (hA : RowsAt w w.heap.size A len 1 (bs.map fun b => [Value.bool b])) (hc : len ≤ cap) (hm : cap ≤ maxLen) :
    Calls Try.prog 3 #[GVal b l f, .slice A len cap] w fun e w' => e = .returned (.bool true) ∧ Below w.heap.size w w' := by
  by_cases hg : GOk b l f
  · by_cases hl : len ≤ 2000
    · exact space_closes b l f hg A len cap bs w hA hl
    · exact space_closes_else b l f A len cap (.inr ⟨hg, by omega⟩) hc hm w
  · exact space_closes_else b l f A len cap (.inl hg) hc hm w

set_option maxRecDepth 100000 in
theorem spaceCloses_lifted (os : Os) (started : os.Started) (H : Type) (enc : TypeId × Value → H) :
    ReturnsInHanded {} Try.checked os 3 .any (Rows.spaceClosesSpec.pre6 enc Try.prog Try.f3 [] false) (Rows.spaceClosesSpec.post enc Try.prog Try.f3 false true false false) := by
  refine LawKit.lifted (C := Try.checked) (tb := 4) own started (by kernel_rfl) Try.func3
    (ChangeSpec.witness6 (enc := enc) (C := Try.checked) false ⟨#[], #[GVal 0 0 0, .slice none 0 0], []⟩ 8 (by kernel_rfl) (by kernel_rfl) (by kernel_rfl) (by kernel_rfl))
    laidOut (by kernel_rfl) rfl (fun ds h => by match ds, h with | [_, _], _ => rfl) rfl Try.underlying4 ?_
  intro W base args ds ps hval0 hA0 hlt hsz
  have hval : ∀ (j : Nat) t v, Try.f3.params[j]? = some t → args[j]? = some v → Value.okWide Try.prog W .any base t v := hval0
  have hA : DataW.TrodAll enc Try.prog W 0 (fun _ => true) true Try.f3.params.toList args.toList ds ps := hA0
  rw [Try.params3] at hA hval
  clear hval0 hA0
  obtain ⟨v0, vs0, d0, ds0, p0, q0, hargs, rfl, rfl, t0, r0⟩ := trodAll_cons hA
  obtain ⟨v1, vs1, d1, ds1, p1, q1, rfl, rfl, rfl, t1, r1⟩ := trodAll_cons r0
  obtain ⟨rfl, rfl, rfl⟩ := trodAll_nil r1
  obtain rfl : args = #[v0, v1] := by cases args; simp_all
  obtain ⟨b, l, f, rfl⟩ := open_geo (hval 0 _ v0 rfl rfl) t0
  have hv1 := hval 1 _ v1 rfl rfl
  exact by obtain ⟨A, n, c, bs, rfl, hn, hc, hA⟩ := open_boolsAt hv1 t1; exact space_closes_any b l f A n c bs W hA hn hc

theorem spaceCloses_holds : Rows.SpaceClosesSaid :=
  OpenClaim.holds_of_wide 3 Try.f3 rfl rfl rfl rfl rfl rfl rfl ⟨rfl, rfl, rfl, rfl, rfl⟩ rfl rfl rfl rfl rfl (by kernel_rfl) Try.func3 (by kernel_rfl)
    (of_decide_eq_true (by kernel_rfl)) (by unfold Func.isWrapper; first | (rw [if_pos (by decide +kernel)]; kernel_rfl) | (rw [if_neg (by decide +kernel)]; exact ⟨rfl, rfl⟩))
    (fun os started H enc _ => spaceCloses_lifted os started H enc)
#print axioms spaceCloses_holds

end Go.Proofs.Ytbblolggcgonmaa

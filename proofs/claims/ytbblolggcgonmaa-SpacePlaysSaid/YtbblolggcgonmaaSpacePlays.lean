/-
  SpacePlays returns true for every shape, every number that are taken and all acts, and leaves its arguments as they were. No condition.
-/
import Derived.Test.YtbblolggcgonmaaSpaceCloses
namespace Go.Proofs.Ytbblolggcgonmaa
open Go.RowKit Go.ChangeShapes Go.WideShapes Go.ChangeAt

theorem open_actsAt {H : Type} {enc : TypeId × Value → H} {W : World} {base : Nat} {v : Value} {d : DataW H} {ps : List MemPlace} (hval : Value.okWide Try.prog W .any base 35 v)
    (hd : DataW.Trod enc Try.prog W 0 (fun _ => true) true 35 v d ps) :
    ∃ (A : Option Addr) (n c : Nat) (acs : List (Int × Int)), v = .slice A n c ∧ n ≤ c ∧ c ≤ maxLen ∧ RowsAt W W.heap.size A n 2 (acs.map fun x => [Value.int .i64 x.1, Value.int .i64 x.2]) := by
  have hc : Try.prog.cellsOf 38 = 2 := by kernel_rfl
  have hci : Try.prog.cellsOf 3 = 1 := by kernel_rfl
  obtain ⟨A, n, c, X, rfl, h1, h2, h3, h4⟩ := open_rowsAt Try.underlying35 (by rw [hc]; omega) hval hd
  rw [hc] at h3
  obtain ⟨acs, rfl⟩ := list_of (fun x : Int × Int => [Value.int .i64 x.1, Value.int .i64 x.2]) X (fun cs hcs => by
    obtain ⟨fuel, y, hy⟩ := h4 cs hcs
    obtain ⟨xs, n, _, _, hlen, hxs, hf⟩ := DataW.trod_struct Try.underlying38 hy
    rw [hc] at hlen
    match cs, hlen with
    | [c0, c1], _ =>
      match xs, hxs with
      | [y0, y1], _ =>
        have e0 := hf 0 _ rfl
        have e1 := hf 1 _ rfl
        change DataW.trod enc Try.prog W 0 (fun _ => true) true n 3 ((List.drop 0 [c0, c1]).take (Try.prog.cellsOf 3)) = _ at e0
        change DataW.trod enc Try.prog W 0 (fun _ => true) true n 3 ((List.drop 1 [c0, c1]).take (Try.prog.cellsOf 3)) = _ at e1
        rw [hci] at e0 e1
        obtain ⟨k, hk, _⟩ := DataW.trod_int Try.underlying3 e0
        obtain ⟨m, hm, _⟩ := DataW.trod_int Try.underlying3 e1
        simp at hk hm
        exact ⟨(k, m), by rw [hk, hm]⟩)
  exact ⟨A, n, c, acs, rfl, h1, h2, h3⟩

/-- An act in a block of its own. -/
structure ActAt (w : World) (h : Nat) (K N : Int) : Prop where
  c0 : w.cell? ⟨h, 0, none⟩ = some (.int .i64 K)
  c1 : w.cell? ⟨h, 1, none⟩ = some (.int .i64 N)
  lt : h < w.heap.size
theorem ActAt.below {w w' : World} {h : Nat} {K N : Int} (a : ActAt w h K N) (hb : Below w.heap.size w w') : ActAt w' h K N :=
  ⟨(hb.cell a.lt).trans a.c0, (hb.cell a.lt).trans a.c1, Nat.lt_of_lt_of_le a.lt hb.size⟩
theorem ActAt.takes {w w' : World} {h g : Nat} {K N b l f u : Int} (a : ActAt w h K N) (k : Takes w g b l f u w') (hne : h ≠ g) : ActAt w' h K N :=
  ⟨(k.cell (p := ⟨h, 0, none⟩) a.lt hne).trans a.c0, (k.cell (p := ⟨h, 1, none⟩) a.lt hne).trans a.c1, Nat.lt_of_lt_of_le a.lt k.1.size⟩

theorem ActAt.new (w : World) (K N : Int) : ActAt (w.alloc (.cells #[.int .i64 K, .int .i64 N] 38)) w.heap.size K N := ⟨by simp [go_sem], by simp [go_sem], by simp⟩
/-- What the last test of a round keeps. -/
abbrev MidS (w : World) (b l f : Int) (g : Nat) (u : Int) (w' : World) : Prop :=
  w'.cell? ⟨w.heap.size, 0, none⟩ = some (.int .i64 b) ∧ w'.cell? ⟨w.heap.size, 1, none⟩ = some (.int .i64 l) ∧ w'.cell? ⟨w.heap.size, 2, none⟩ = some (.int .i64 f) ∧ Mids w b l f g u w'
section
variable {P : Program} {w : World} {g : Nat} {b l f u : Int}
theorem MidS.mk {w' : World} (h : Mids w b l f g u w') : MidS w b l f g u w' := ⟨h.box.1, h.box.2.1, h.box.2.2, h⟩
theorem MidS.keeps : Keeps (MidS w b l f g u) := fun _ _ h hb => MidS.mk (h.2.2.2.below hb)
theorem MidS.arm {fn : FuncId} {args : Array Value} {v : Value} (hc : ∀ w, SpcAt w g b l f u true → Calls P fn args w fun e w' => e = .returned v ∧ w = w') (w' : World) (hS : MidS w b l f g u w') :
    Calls P fn args w' fun e w'' => e = .returned v ∧ MidS w b l f g u w'' := (hc w' hS.2.2.2.at_).mono fun _ _ ⟨he, hw⟩ => ⟨he, hw ▸ hS⟩
theorem MidS.armB {fn : FuncId} {args : Array Value} {v : Value} (hc : ∀ w, SpcAt w g b l f u true → Calls P fn args w fun e w' => e = .returned v ∧ Below w.heap.size w w') (w' : World) (hS : MidS w b l f g u w') :
    Calls P fn args w' fun e w'' => e = .returned v ∧ MidS w b l f g u w'' := (hc w' hS.2.2.2.at_).mono fun _ _ ⟨he, hb⟩ => ⟨he, MidS.keeps _ _ hS hb⟩
end

set_option maxRecDepth 100000 in
set_option maxHeartbeats 6400000 in
theorem space_plays (b l f u00 : Int) (hg : GOk b l f) (hu0 : 0 ≤ u00) (hu1 : u00 ≤ dataV b l f) (A : Option Addr) (len cap : Nat) (acs : List (Int × Int)) (w : World) (hA : RowsAt w w.heap.size A len 2 (acs.map fun x => [Value.int .i64 x.1, Value.int .i64 x.2])) (hlen : len ≤ 200) :
    Calls Try.prog 4 #[GVal b l f, .int .i64 u00, .slice A len cap] w fun e w' => e = .returned (.bool true) ∧ Below w.heap.size w w' := by
  have hbd := dataV_bd b l f
  have HN := Lib.hid (snew_yes b l f u00 hg hu0 hu1)
  have hd := ref_data b l f
  have hrt := ref_right b l f
  rw [decide_eq_true hg] at hrt
  have HRT := Lib.hid hrt
  have HRR := Lib.hid (ref_room b l f)
  have HO := Lib.hid (fun g u => sopen_at g b l f u hg)
  have HR := Lib.hid (fun g u => sroom_at g b l f u hg)
  have HU := Lib.hid (fun g u => sused_at g b l f u hg)
  have HTY := Lib.hid (fun g u h0 hr => stake_yes g b l f u h0 hg hr)
  have HTN := Lib.hid (fun g u hr => stake_no g b l f u hg hr)
  have HCY := Lib.hid (fun g u h0 hr => sclose_yes g b l f u h0 hg hr)
  have HCN := Lib.hid (fun g u hr => sclose_no g b l f u hg hr)
  have HBY := Lib.hid (fun g u n h0 h1 => sback_yes g b l f u n hg h0 h1)
  have HBN := Lib.hid (fun g u n hn => sback_no g b l f u n hg hn)
  have hM : ∀ g wr u, Mids w b l f g u wr → 0 ≤ u ∧ u ≤ dataV b l f := fun g wr u h => ⟨h.u0, h.u1⟩
  obtain ⟨d, hdd⟩ : ∃ d, d = dataV b l f := ⟨_, rfl⟩
  rw [← hdd] at hd hbd HO HTY HTN HCY HCN hM HRR HR hu1
  have HD := Lib.hid hd
  have HDD := Lib.hid hdd
  have HA := Lib.hid hA
  have HM := Lib.hid hM
  obtain ⟨hd0, hd1⟩ := hbd
  clear hd hdd hA hg hM hrt
  go_enter Try.func4, Try.ntmps4
  go_wp2_with fail
  refine (HN.out _).mono ?_; rintro e w0 ⟨g, rfl, hgl, hs0, hb0⟩
  have hm0 : Mids w b l f g u00 w0 := ⟨hu0, by rw [← HDD.out]; omega, hs0, hb0.mono (by simp), by simpa using hgl, by have := hb0.size; simpa using this⟩
  obtain ⟨q0, q1, q2⟩ := hm0.box
  have HM0 := Lib.hid hm0
  clear hm0 hs0 hb0 hgl HN
  go_wp2_with (first
    | (go_at_call 19; refine (HRT.out _).mono ?_; rintro e w1 ⟨rfl, hb1⟩; have HM1 := Lib.hid (HM0.out.below hb1); obtain ⟨r0, r1, r2⟩ := HM1.out.box)
    | (go_at_call 17; refine (HD.out _).mono ?_; rintro e w2 ⟨rfl, hb2⟩; have HM2 := Lib.hid (HM1.out.below hb2)))
  go_loopw [1, 54] (fun nx c wr => ∃ (j : Nat) (u : Int), j ≤ len ∧ c = .int .i64 j ∧ nx = .int .i64 u ∧ Mids w b l f g u wr) (fun _ c _ => len - (intOf c).toNat)
  case atStart => exact ⟨0, u00, Nat.zero_le _, rfl, rfl, HM2.out⟩
  case round =>
    obtain ⟨j, u, hj, rfl, rfl, hm⟩ := hrel
    obtain ⟨u0, u1⟩ := HM.out _ _ _ hm
    have HMid := Lib.hid hm
    clear hm HM0 HM1 HM2 hb1 hb2 q0 q1 q2 r0 r1 r2
    by_cases hjl : j < len
    · obtain ⟨ad, rfl, hadl, hcs⟩ := (HA.out.below HMid.out.old).lies (by omega)
      obtain ⟨⟨K, N⟩, hcl⟩ : ∃ x, acs[j]? = some x := by
        have := HA.out.len
        rw [List.length_map] at this
        exact ⟨acs[j]'(by omega), List.getElem?_eq_getElem (by omega)⟩
      have hcx := (hcs j [.int .i64 K, .int .i64 N] (by rw [List.getElem?_map, hcl]; rfl)).2
      have hcell0 := hcx 0 (by omega)
      have hcell1 := hcx 1 (by omega)
      rw [show j * 2 + 0 = j * 2 from by omega, show [Value.int .i64 K, Value.int .i64 N][0]? = some (.int .i64 K) from rfl] at hcell0
      rw [← add_add', show [Value.int .i64 K, Value.int .i64 N][1]? = some (.int .i64 N) from rfl] at hcell1
      have hcell1' : wr.cell? ⟨(ad.add (j * 2)).block, (ad.add (j * 2)).off + 1, none⟩ = some (.int .i64 N) := hcell1
      clear hcs hadl hcl hcx hcell1
      by_cases hK1 : K = 1
      · subst hK1
        by_cases hr : u < d - 1
        · have hr' : roomV d u = d - 1 - u := by unfold roomV; rw [if_pos ⟨u0, hr⟩]
          have HRV := Lib.hid hr'
          clear hr'
          have hrn : 1 ≤ d - 1 - u := by omega
          have t1 := Lib.hid (HTY.out g u u0 (by rw [HRV.out]; omega) (wr.alloc (.cells #[.int .i64 1, .int .i64 N] 38)) (HMid.out.below (bnew _ _)).at_)
          go_wp2_with fail
          refine t1.out.mono ?_; rintro e w2 ⟨rfl, k2⟩
          have hm2 := (HMid.out.below (bnew wr (.cells #[.int .i64 1, .int .i64 N] 38))).takes k2 (by omega) (by rw [← HDD.out]; omega)
          have ac2 := (ActAt.new wr 1 N).takes k2 (Ne.symm (Nat.ne_of_lt HMid.out.at_.lt))
          obtain ⟨q0, q1, q2⟩ := hm2.box
          have a0 := ac2.c0; have a1 := ac2.c1
          have hmx := Lib.hid hm2
          have acx := Lib.hid ac2
          clear hm2 ac2 k2 t1 hcell0 hcell1'
          go_wp2_with fail
          refine (HRR.out u (d - 1 - u) HRV.out _).mono ?_; rintro e w3 ⟨rfl, hb3⟩
          have hm3 := hmx.out.below hb3
          have ac3 := acx.out.below hb3
          clear hmx acx q0 q1 q2 a0 a1
          obtain ⟨q0, q1, q2⟩ := hm3.box
          have a0 := ac3.c0; have a1 := ac3.c1
          have hmx := Lib.hid hm3
          clear hm3 ac3 hb3
          go_wp2_with fail
          refine wp_region_txt (MidS w b l f g (u + 1)) (by kernel_rfl) (by kernel_rfl) (MidS.mk (hmx.out.below (Below.refl _ _).drew)) ?_
          have HK : Hid (Keeps (MidS w b l f g (u + 1))) := Lib.hid MidS.keeps
          clear q0 q1 q2 a0 a1
          repeat (first
            | (refine text_skip (by rfl) ?_; simp only [Act.put, List.setIfInBounds_toArray, List.set_cons_zero, List.set_cons_succ])
            | (refine text_pure (v := ?_) (by rfl) (fun wx hS => ?_) ?_; rotate_left; (go_simp; with_reducible exact rfl); simp only [Act.put, List.setIfInBounds_toArray, List.set_cons_zero, List.set_cons_succ])
            | (refine text_call (v := ?_) (f := ?_) (args := ?_) (by rfl) (fun wx hS => ?_) (fun wx hS => ?_) ?_; rotate_left 3; (go_simp; constructor <;> with_reducible rfl)
               (first
                 | with_reducible exact MidS.arm (HU.out g (u + 1)) wx hS
                 | with_reducible exact MidS.armB (HR.out g (u + 1)) wx hS
                 | with_reducible exact meets HK.out (HRR.out (u + 1) _ rfl) wx hS
                 | with_reducible exact MidS.armB (HO.out g (u + 1)) wx hS
                 | with_reducible exact meets HK.out HD.out wx hS)
               simp only [Act.put, List.setIfInBounds_toArray, List.set_cons_zero, List.set_cons_succ]))
          refine text_nil (fun wx hS => ?_)
          obtain ⟨_, _, _, hmz⟩ := hS
          have HMZ := Lib.hid hmz
          clear hmz
          go_wp2_with fail
          go_roundw
          case rel => exact ⟨j + 1, u + 1, by omega, by go_num, rfl, HMZ.out⟩
          case measure => simp [intOf]; omega
        · have hr' : roomV d u = 0 := by unfold roomV; rw [if_neg (by omega)]
          have HRV := Lib.hid hr'
          clear hr'
          have hrn : d - 1 ≤ u := by omega
          have t1 := Lib.hid (HTN.out g u HRV.out (wr.alloc (.cells #[.int .i64 1, .int .i64 N] 38)) (HMid.out.below (bnew _ _)).at_)
          go_wp2_with fail
          refine t1.out.mono ?_; rintro e w2 ⟨rfl, k2⟩
          have hm2 := (HMid.out.below (bnew wr (.cells #[.int .i64 1, .int .i64 N] 38))).takes k2 (by omega) (by rw [← HDD.out]; omega)
          have ac2 := (ActAt.new wr 1 N).takes k2 (Ne.symm (Nat.ne_of_lt HMid.out.at_.lt))
          obtain ⟨q0, q1, q2⟩ := hm2.box
          have a0 := ac2.c0; have a1 := ac2.c1
          have hmx := Lib.hid hm2
          have acx := Lib.hid ac2
          clear hm2 ac2 k2 t1 hcell0 hcell1'
          go_wp2_with fail
          refine (HRR.out u 0 HRV.out _).mono ?_; rintro e w3 ⟨rfl, hb3⟩
          have hm3 := hmx.out.below hb3
          have ac3 := acx.out.below hb3
          clear hmx acx q0 q1 q2 a0 a1
          obtain ⟨q0, q1, q2⟩ := hm3.box
          have a0 := ac3.c0; have a1 := ac3.c1
          have hmx := Lib.hid hm3
          clear hm3 ac3 hb3
          go_wp2_with fail
          refine wp_region_txt (MidS w b l f g (u)) (by kernel_rfl) (by kernel_rfl) (MidS.mk (hmx.out.below (Below.refl _ _).drew)) ?_
          have HK : Hid (Keeps (MidS w b l f g (u))) := Lib.hid MidS.keeps
          clear q0 q1 q2 a0 a1
          repeat (first
            | (refine text_skip (by rfl) ?_; simp only [Act.put, List.setIfInBounds_toArray, List.set_cons_zero, List.set_cons_succ])
            | (refine text_pure (v := ?_) (by rfl) (fun wx hS => ?_) ?_; rotate_left; (go_simp; with_reducible exact rfl); simp only [Act.put, List.setIfInBounds_toArray, List.set_cons_zero, List.set_cons_succ])
            | (refine text_call (v := ?_) (f := ?_) (args := ?_) (by rfl) (fun wx hS => ?_) (fun wx hS => ?_) ?_; rotate_left 3; (go_simp; constructor <;> with_reducible rfl)
               (first
                 | with_reducible exact MidS.arm (HU.out g (u)) wx hS
                 | with_reducible exact MidS.armB (HR.out g (u)) wx hS
                 | with_reducible exact meets HK.out (HRR.out (u) _ rfl) wx hS
                 | with_reducible exact MidS.armB (HO.out g (u)) wx hS
                 | with_reducible exact meets HK.out HD.out wx hS)
               simp only [Act.put, List.setIfInBounds_toArray, List.set_cons_zero, List.set_cons_succ]))
          refine text_nil (fun wx hS => ?_)
          obtain ⟨_, _, _, hmz⟩ := hS
          have HMZ := Lib.hid hmz
          clear hmz
          go_wp2_with fail
          go_roundw
          case rel => exact ⟨j + 1, u, by omega, by go_num, rfl, HMZ.out⟩
          case measure => simp [intOf]; omega
      · have hk1 : (K == 1) = false := by simp [hK1]
        clear hK1
        by_cases hK2 : K = 2
        · subst hK2
          by_cases hr : u < d
          · have hne : (u == d) = false := by simp; omega
            have t1 := Lib.hid (HCY.out g u u0 hr (wr.alloc (.cells #[.int .i64 2, .int .i64 N] 38)) (HMid.out.below (bnew _ _)).at_)
            go_wp2_with fail
            refine t1.out.mono ?_; rintro e w2 ⟨rfl, k2⟩
            have hm2 := (HMid.out.below (bnew wr (.cells #[.int .i64 2, .int .i64 N] 38))).takes k2 (by omega) (by rw [← HDD.out]; omega)
            have ac2 := (ActAt.new wr 2 N).takes k2 (Ne.symm (Nat.ne_of_lt HMid.out.at_.lt))
            obtain ⟨q0, q1, q2⟩ := hm2.box
            have a0 := ac2.c0; have a1 := ac2.c1
            have hmx := Lib.hid hm2
            have acx := Lib.hid ac2
            clear hm2 ac2 k2 t1 hcell0 hcell1'
            go_wp2_with fail
            refine (HD.out _).mono ?_; rintro e w3 ⟨rfl, hb3⟩
            have hm3 := hmx.out.below hb3
            have ac3 := acx.out.below hb3
            clear hmx acx q0 q1 q2 a0 a1
            obtain ⟨q0, q1, q2⟩ := hm3.box
            have a0 := ac3.c0; have a1 := ac3.c1
            have hmx := Lib.hid hm3
            clear hm3 ac3 hb3
            go_wp2_with fail
            refine wp_region_txt (MidS w b l f g (u + 1)) (by kernel_rfl) (by kernel_rfl) (MidS.mk (hmx.out.below (Below.refl _ _).drew)) ?_
            have HK : Hid (Keeps (MidS w b l f g (u + 1))) := Lib.hid MidS.keeps
            clear q0 q1 q2 a0 a1
            repeat (first
              | (refine text_skip (by rfl) ?_; simp only [Act.put, List.setIfInBounds_toArray, List.set_cons_zero, List.set_cons_succ])
              | (refine text_pure (v := ?_) (by rfl) (fun wx hS => ?_) ?_; rotate_left; (go_simp; with_reducible exact rfl); simp only [Act.put, List.setIfInBounds_toArray, List.set_cons_zero, List.set_cons_succ])
              | (refine text_call (v := ?_) (f := ?_) (args := ?_) (by rfl) (fun wx hS => ?_) (fun wx hS => ?_) ?_; rotate_left 3; (go_simp; constructor <;> with_reducible rfl)
                 (first
                   | with_reducible exact MidS.arm (HU.out g (u + 1)) wx hS
                   | with_reducible exact MidS.armB (HR.out g (u + 1)) wx hS
                   | with_reducible exact meets HK.out (HRR.out (u + 1) _ rfl) wx hS
                   | with_reducible exact MidS.armB (HO.out g (u + 1)) wx hS
                   | with_reducible exact meets HK.out HD.out wx hS)
                 simp only [Act.put, List.setIfInBounds_toArray, List.set_cons_zero, List.set_cons_succ]))
            refine text_nil (fun wx hS => ?_)
            obtain ⟨_, _, _, hmz⟩ := hS
            have HMZ := Lib.hid hmz
            clear hmz
            go_wp2_with fail
            go_roundw
            case rel => exact ⟨j + 1, u + 1, by omega, by go_num, rfl, HMZ.out⟩
            case measure => simp [intOf]; omega
          · have hud : u = d := by omega
            subst hud
            have t1 := Lib.hid (HCN.out g u (by omega) (wr.alloc (.cells #[.int .i64 2, .int .i64 N] 38)) (HMid.out.below (bnew _ _)).at_)
            go_wp2_with fail
            refine t1.out.mono ?_; rintro e w2 ⟨rfl, k2⟩
            have hm2 := (HMid.out.below (bnew wr (.cells #[.int .i64 2, .int .i64 N] 38))).takes k2 (by omega) (by rw [← HDD.out]; omega)
            have ac2 := (ActAt.new wr 2 N).takes k2 (Ne.symm (Nat.ne_of_lt HMid.out.at_.lt))
            obtain ⟨q0, q1, q2⟩ := hm2.box
            have a0 := ac2.c0; have a1 := ac2.c1
            have hmx := Lib.hid hm2
            have acx := Lib.hid ac2
            clear hm2 ac2 k2 t1 hcell0 hcell1'
            go_wp2_with fail
            refine (HD.out _).mono ?_; rintro e w3 ⟨rfl, hb3⟩
            have hm3 := hmx.out.below hb3
            have ac3 := acx.out.below hb3
            clear hmx acx q0 q1 q2 a0 a1
            obtain ⟨q0, q1, q2⟩ := hm3.box
            have a0 := ac3.c0; have a1 := ac3.c1
            have hmx := Lib.hid hm3
            clear hm3 ac3 hb3
            go_wp2_with fail
            refine wp_region_txt (MidS w b l f g (u)) (by kernel_rfl) (by kernel_rfl) (MidS.mk (hmx.out.below (Below.refl _ _).drew)) ?_
            have HK : Hid (Keeps (MidS w b l f g (u))) := Lib.hid MidS.keeps
            clear q0 q1 q2 a0 a1
            repeat (first
              | (refine text_skip (by rfl) ?_; simp only [Act.put, List.setIfInBounds_toArray, List.set_cons_zero, List.set_cons_succ])
              | (refine text_pure (v := ?_) (by rfl) (fun wx hS => ?_) ?_; rotate_left; (go_simp; with_reducible exact rfl); simp only [Act.put, List.setIfInBounds_toArray, List.set_cons_zero, List.set_cons_succ])
              | (refine text_call (v := ?_) (f := ?_) (args := ?_) (by rfl) (fun wx hS => ?_) (fun wx hS => ?_) ?_; rotate_left 3; (go_simp; constructor <;> with_reducible rfl)
                 (first
                   | with_reducible exact MidS.arm (HU.out g (u)) wx hS
                   | with_reducible exact MidS.armB (HR.out g (u)) wx hS
                   | with_reducible exact meets HK.out (HRR.out (u) _ rfl) wx hS
                   | with_reducible exact MidS.armB (HO.out g (u)) wx hS
                   | with_reducible exact meets HK.out HD.out wx hS)
                 simp only [Act.put, List.setIfInBounds_toArray, List.set_cons_zero, List.set_cons_succ]))
            refine text_nil (fun wx hS => ?_)
            obtain ⟨_, _, _, hmz⟩ := hS
            have HMZ := Lib.hid hmz
            clear hmz
            go_wp2_with fail
            go_roundw
            case rel => exact ⟨j + 1, u, by omega, by go_num, rfl, HMZ.out⟩
            case measure => simp [intOf]; omega
        · have hk2 : (K == 2) = false := by simp [hK2]
          clear hK2
          by_cases hn0 : N < 0
          · have t1 := Lib.hid (HBN.out g u N (.inl hn0) (wr.alloc (.cells #[.int .i64 K, .int .i64 N] 38)) (HMid.out.below (bnew _ _)).at_)
            go_wp2_with fail
            refine t1.out.mono ?_; rintro e w2 ⟨rfl, k2⟩
            have hm2 := (HMid.out.below (bnew wr (.cells #[.int .i64 K, .int .i64 N] 38))).takes k2 (by omega) (by rw [← HDD.out]; omega)
            have ac2 := (ActAt.new wr K N).takes k2 (Ne.symm (Nat.ne_of_lt HMid.out.at_.lt))
            obtain ⟨q0, q1, q2⟩ := hm2.box
            have a0 := ac2.c0; have a1 := ac2.c1
            have hmx := Lib.hid hm2
            have acx := Lib.hid ac2
            clear hm2 ac2 k2 t1 hcell0 hcell1'
            go_wp2_with fail
            refine wp_region_txt (MidS w b l f g (u)) (by kernel_rfl) (by kernel_rfl) (MidS.mk (hmx.out.below (Below.refl _ _).drew)) ?_
            have HK : Hid (Keeps (MidS w b l f g (u))) := Lib.hid MidS.keeps
            clear q0 q1 q2 a0 a1
            repeat (first
              | (refine text_skip (by rfl) ?_; simp only [Act.put, List.setIfInBounds_toArray, List.set_cons_zero, List.set_cons_succ])
              | (refine text_pure (v := ?_) (by rfl) (fun wx hS => ?_) ?_; rotate_left; (go_simp; with_reducible exact rfl); simp only [Act.put, List.setIfInBounds_toArray, List.set_cons_zero, List.set_cons_succ])
              | (refine text_call (v := ?_) (f := ?_) (args := ?_) (by rfl) (fun wx hS => ?_) (fun wx hS => ?_) ?_; rotate_left 3; (go_simp; constructor <;> with_reducible rfl)
                 (first
                   | with_reducible exact MidS.arm (HU.out g (u)) wx hS
                   | with_reducible exact MidS.armB (HR.out g (u)) wx hS
                   | with_reducible exact meets HK.out (HRR.out (u) _ rfl) wx hS
                   | with_reducible exact MidS.armB (HO.out g (u)) wx hS
                   | with_reducible exact meets HK.out HD.out wx hS)
                 simp only [Act.put, List.setIfInBounds_toArray, List.set_cons_zero, List.set_cons_succ]))
            refine text_nil (fun wx hS => ?_)
            obtain ⟨_, _, _, hmz⟩ := hS
            have HMZ := Lib.hid hmz
            clear hmz
            go_wp2_with fail
            go_roundw
            case rel => exact ⟨j + 1, u, by omega, by go_num, rfl, HMZ.out⟩
            case measure => simp [intOf]; omega
          · by_cases hn1 : u < N
            · have t1 := Lib.hid (HBN.out g u N (.inr hn1) (wr.alloc (.cells #[.int .i64 K, .int .i64 N] 38)) (HMid.out.below (bnew _ _)).at_)
              go_wp2_with fail
              refine t1.out.mono ?_; rintro e w2 ⟨rfl, k2⟩
              have hm2 := (HMid.out.below (bnew wr (.cells #[.int .i64 K, .int .i64 N] 38))).takes k2 (by omega) (by rw [← HDD.out]; omega)
              have ac2 := (ActAt.new wr K N).takes k2 (Ne.symm (Nat.ne_of_lt HMid.out.at_.lt))
              obtain ⟨q0, q1, q2⟩ := hm2.box
              have a0 := ac2.c0; have a1 := ac2.c1
              have hmx := Lib.hid hm2
              have acx := Lib.hid ac2
              clear hm2 ac2 k2 t1 hcell0 hcell1'
              go_wp2_with fail
              refine wp_region_txt (MidS w b l f g (u)) (by kernel_rfl) (by kernel_rfl) (MidS.mk (hmx.out.below (Below.refl _ _).drew)) ?_
              have HK : Hid (Keeps (MidS w b l f g (u))) := Lib.hid MidS.keeps
              clear q0 q1 q2 a0 a1
              repeat (first
                | (refine text_skip (by rfl) ?_; simp only [Act.put, List.setIfInBounds_toArray, List.set_cons_zero, List.set_cons_succ])
                | (refine text_pure (v := ?_) (by rfl) (fun wx hS => ?_) ?_; rotate_left; (go_simp; with_reducible exact rfl); simp only [Act.put, List.setIfInBounds_toArray, List.set_cons_zero, List.set_cons_succ])
                | (refine text_call (v := ?_) (f := ?_) (args := ?_) (by rfl) (fun wx hS => ?_) (fun wx hS => ?_) ?_; rotate_left 3; (go_simp; constructor <;> with_reducible rfl)
                   (first
                     | with_reducible exact MidS.arm (HU.out g (u)) wx hS
                     | with_reducible exact MidS.armB (HR.out g (u)) wx hS
                     | with_reducible exact meets HK.out (HRR.out (u) _ rfl) wx hS
                     | with_reducible exact MidS.armB (HO.out g (u)) wx hS
                     | with_reducible exact meets HK.out HD.out wx hS)
                   simp only [Act.put, List.setIfInBounds_toArray, List.set_cons_zero, List.set_cons_succ]))
              refine text_nil (fun wx hS => ?_)
              obtain ⟨_, _, _, hmz⟩ := hS
              have HMZ := Lib.hid hmz
              clear hmz
              go_wp2_with fail
              go_roundw
              case rel => exact ⟨j + 1, u, by omega, by go_num, rfl, HMZ.out⟩
              case measure => simp [intOf]; omega
            · have hn2 : 0 ≤ N := by omega
              have hn3 : N ≤ u := by omega
              clear hn0 hn1
              have t1 := Lib.hid (HBY.out g u N hn2 hn3 (wr.alloc (.cells #[.int .i64 K, .int .i64 N] 38)) (HMid.out.below (bnew _ _)).at_)
              go_wp2_with fail
              refine t1.out.mono ?_; rintro e w2 ⟨rfl, k2⟩
              have hm2 := (HMid.out.below (bnew wr (.cells #[.int .i64 K, .int .i64 N] 38))).takes k2 (by omega) (by rw [← HDD.out]; omega)
              have ac2 := (ActAt.new wr K N).takes k2 (Ne.symm (Nat.ne_of_lt HMid.out.at_.lt))
              obtain ⟨q0, q1, q2⟩ := hm2.box
              have a0 := ac2.c0; have a1 := ac2.c1
              have hmx := Lib.hid hm2
              have acx := Lib.hid ac2
              clear hm2 ac2 k2 t1 hcell0 hcell1'
              go_wp2_with fail
              refine wp_region_txt (MidS w b l f g (N)) (by kernel_rfl) (by kernel_rfl) (MidS.mk (hmx.out.below (Below.refl _ _).drew)) ?_
              have HK : Hid (Keeps (MidS w b l f g (N))) := Lib.hid MidS.keeps
              clear q0 q1 q2 a0 a1
              repeat (first
                | (refine text_skip (by rfl) ?_; simp only [Act.put, List.setIfInBounds_toArray, List.set_cons_zero, List.set_cons_succ])
                | (refine text_pure (v := ?_) (by rfl) (fun wx hS => ?_) ?_; rotate_left; (go_simp; with_reducible exact rfl); simp only [Act.put, List.setIfInBounds_toArray, List.set_cons_zero, List.set_cons_succ])
                | (refine text_call (v := ?_) (f := ?_) (args := ?_) (by rfl) (fun wx hS => ?_) (fun wx hS => ?_) ?_; rotate_left 3; (go_simp; constructor <;> with_reducible rfl)
                   (first
                     | with_reducible exact MidS.arm (HU.out g (N)) wx hS
                     | with_reducible exact MidS.armB (HR.out g (N)) wx hS
                     | with_reducible exact meets HK.out (HRR.out (N) _ rfl) wx hS
                     | with_reducible exact MidS.armB (HO.out g (N)) wx hS
                     | with_reducible exact meets HK.out HD.out wx hS)
                   simp only [Act.put, List.setIfInBounds_toArray, List.set_cons_zero, List.set_cons_succ]))
              refine text_nil (fun wx hS => ?_)
              obtain ⟨_, _, _, hmz⟩ := hS
              have HMZ := Lib.hid hmz
              clear hmz
              go_wp2_with fail
              go_roundw
              case rel => exact ⟨j + 1, N, by omega, by go_num, rfl, HMZ.out⟩
              case measure => simp [intOf]; omega
    · have hjl' : j = len := by omega
      go_wp2_with (go_at_call 13; refine (space_alive _).mono ?_; rintro e w5 ⟨rfl, hb5⟩)
      go_ret
      exact ⟨rfl, bthen HMid.out.old hb5⟩

set_option maxRecDepth 100000 in
set_option maxHeartbeats 800000 in
theorem space_plays_else (b l f u : Int) (A : Option Addr) (len cap : Nat) (h : 200 < len ∨ (len ≤ 200 ∧ ¬ (GOk b l f ∧ 0 ≤ u ∧ u ≤ dataV b l f))) (_hc : len ≤ cap) (_hm : cap ≤ 9223372036854775807) (w : World) :
    Calls Try.prog 4 #[GVal b l f, .int .i64 u, .slice A len cap] w fun e w' => e = .returned (.bool true) ∧ Below w.heap.size w w' := by
  rcases h with hl | ⟨hl, hg⟩
  · go_enter Try.func4, Try.ntmps4
    go_wp2_with (go_at_call 13; refine (space_alive _).mono ?_; rintro e w5 ⟨rfl, hb5⟩)
    go_ret
    exact ⟨rfl, bthen (bnew _ _) hb5⟩
  · have HN := Lib.hid (snew_no b l f u hg)
    have hd := ref_data b l f
    have hrt := ref_right b l f
    have hc : ¬ GOk b l f ∨ (GOk b l f ∧ u < 0) ∨ (GOk b l f ∧ 0 ≤ u ∧ dataV b l f < u) := by
      by_cases a : GOk b l f
      · by_cases b : u < 0
        · exact .inr (.inl ⟨a, b⟩)
        · exact .inr (.inr ⟨a, by omega, by have : ¬ (0 ≤ u ∧ u ≤ dataV _ l f) := fun x => hg ⟨a, x⟩; omega⟩)
      · exact .inl a
    generalize dataV b l f = d at *
    have HD := Lib.hid hd
    clear hd hg
    rcases hc with hg | ⟨hg, hu⟩ | ⟨hg, hu0, hu⟩
    all_goals
      first
        | (rw [decide_eq_true hg] at hrt)
        | (rw [decide_eq_false hg] at hrt)
      have HRT := Lib.hid hrt
      clear hrt hg
      go_enter Try.func4, Try.ntmps4
      go_wp2_with fail
      refine (HN.out _).mono ?_; rintro e w1 ⟨rfl, hb1⟩
      obtain ⟨hc1, hf1⟩ := bcell hb1
      have hz1 := bsz hb1
      have HB := Lib.hid (bthen (bnew _ _) hb1)
      go_wp2_with (first
        | (go_at_call 19; refine (HRT.out _).mono ?_; rintro e w2 ⟨rfl, hb2⟩; have hB2 := bthen hb1 hb2; obtain ⟨hc2, hf2⟩ := bcell hB2; have hz2 := bsz hB2; have HB2 := Lib.hid (bthen HB.out hb2); clear HB; have HB := HB2; clear HB2)
        | (go_at_call 17; refine (HD.out _).mono ?_; rintro e w3 ⟨rfl, hb3⟩; have HB2 := Lib.hid (bthen HB.out hb3); clear HB; have HB := HB2; clear HB2)
        | (go_at_call 13; refine (space_alive _).mono ?_; rintro e w5 ⟨rfl, hb5⟩))
      go_ret
      exact ⟨ret_bool (by simp), bthen HB.out hb5⟩

theorem space_plays_any (b l f u : Int) (A : Option Addr) (len cap : Nat) (acs : List (Int × Int)) (w : World) (hA : RowsAt w w.heap.size A len 2 (acs.map fun x => [Value.int .i64 x.1, Value.int .i64 x.2])) (hc : len ≤ cap) (hm : cap ≤ maxLen) :
    Calls Try.prog 4 #[GVal b l f, .int .i64 u, .slice A len cap] w fun e w' => e = .returned (.bool true) ∧ Below w.heap.size w w' := by
  by_cases hl : len ≤ 200
  · by_cases hg : GOk b l f ∧ 0 ≤ u ∧ u ≤ dataV b l f
    · exact space_plays b l f u hg.1 hg.2.1 hg.2.2 A len cap acs w hA hl
    · exact space_plays_else b l f u A len cap (.inr ⟨hl, hg⟩) hc hm w
  · exact space_plays_else b l f u A len cap (.inl (by omega)) hc hm w

set_option maxRecDepth 100000 in
theorem spacePlays_lifted (os : Os) (started : os.Started) (H : Type) (enc : TypeId × Value → H) :
    ReturnsInHanded {} Try.checked os 4 .any (Rows.spacePlaysSpec.pre6 enc Try.prog Try.f4 [] false) (Rows.spacePlaysSpec.post enc Try.prog Try.f4 false true false false) := by
  refine LawKit.lifted (C := Try.checked) (tb := 4) own started (by kernel_rfl) Try.func4
    (ChangeSpec.witness6 (enc := enc) (C := Try.checked) false ⟨#[], #[GVal 0 0 0, .int .i64 0, .slice none 0 0], []⟩ 8 (by kernel_rfl) (by kernel_rfl) (by kernel_rfl) (by kernel_rfl))
    laidOut (by kernel_rfl) rfl (fun ds h => by match ds, h with | [_, _, _], _ => rfl) rfl Try.underlying4 ?_
  intro W base args ds ps hval0 hA0 hlt hsz
  have hval : ∀ (j : Nat) t v, Try.f4.params[j]? = some t → args[j]? = some v → Value.okWide Try.prog W .any base t v := hval0
  have hA : DataW.TrodAll enc Try.prog W 0 (fun _ => true) true Try.f4.params.toList args.toList ds ps := hA0
  rw [Try.params4] at hA hval
  clear hval0 hA0
  obtain ⟨v0, vs0, d0, ds0, p0, q0, hargs, rfl, rfl, t0, r0⟩ := trodAll_cons hA
  obtain ⟨v1, vs1, d1, ds1, p1, q1, rfl, rfl, rfl, t1, r1⟩ := trodAll_cons r0
  obtain ⟨v2, vs2, d2, ds2, p2, q2, rfl, rfl, rfl, t2, r2⟩ := trodAll_cons r1
  obtain ⟨rfl, rfl, rfl⟩ := trodAll_nil r2
  obtain rfl : args = #[v0, v1, v2] := by cases args; simp_all
  obtain ⟨b, l, f, rfl⟩ := open_geo (hval 0 _ v0 rfl rfl) t0
  obtain ⟨u, rfl, -, -, w_u⟩ := open_int Try.underlying3 (hval 1 _ v1 rfl rfl) t1
  have hv2 := hval 2 _ v2 rfl rfl
  exact by obtain ⟨A, n, c, acs, rfl, hn, hc, hA⟩ := open_actsAt hv2 t2; exact space_plays_any b l f u A n c acs W hA hn hc

theorem spacePlays_holds : Rows.SpacePlaysSaid :=
  OpenClaim.holds_of_wide 4 Try.f4 rfl rfl rfl rfl rfl rfl rfl ⟨rfl, rfl, rfl, rfl, rfl⟩ rfl rfl rfl rfl rfl (by kernel_rfl) Try.func4 (by kernel_rfl)
    (of_decide_eq_true (by kernel_rfl)) (by unfold Func.isWrapper; first | (rw [if_pos (by decide +kernel)]; kernel_rfl) | (rw [if_neg (by decide +kernel)]; exact ⟨rfl, rfl⟩))
    (fun os started H enc _ => spacePlays_lifted os started H enc)
#print axioms spacePlays_holds

end Go.Proofs.Ytbblolggcgonmaa

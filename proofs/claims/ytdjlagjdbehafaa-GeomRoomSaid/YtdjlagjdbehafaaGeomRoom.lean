/-
  GeomRoom returns true for every shape and every number, and leaves its arguments as they were. No condition.
-/
import Derived.Test.YtdjlagjdbehafaaGeom
import Derived.Test.YtdjlagjdbehafaaLawKit
import Derived.Lib.SmallJoins
namespace Go.Proofs.Ytdjlagjdbehafaa
open Go.RowKit Go.ChangeShapes Go.WideShapes Go.ChangeAt Go.Joins

set_option maxHeartbeats 400000 in
theorem geom_alive (w : World) : Calls Try.prog 14 #[] w fun e w' => e = .returned (.bool true) ∧ Below w.heap.size w w' := by
  have hok : GOk 8 10 0 := by unfold GOk; omega
  have hd := data_any 8 10 0
  have hr := room_any 8 10 0 0 3 (by rw [dataV_yes hok]; rfl)
  rw [dataV_yes hok] at hd
  have HD := Lib.hid hd
  have HR := Lib.hid hr
  clear hd hr hok
  go_enter Try.func14, Try.ntmps14
  go_wp2_with (first
    | (go_at_call 15; refine (HD.out _).mono ?_; rintro e w1 ⟨rfl, hb1⟩; obtain ⟨hc1, hf1⟩ := bcell hb1)
    | (go_at_call 13; refine (HR.out _).mono ?_; rintro e w2 ⟨rfl, hb2⟩)
    | (go_at_call 21; refine (super_any 3 _).mono ?_; rintro e w3 ⟨rfl, rfl⟩)
    | (go_at_call 22; refine (key_any 4 _).mono ?_; rintro e w3 ⟨rfl, rfl⟩))
  go_ret
  exact ⟨rfl, bthen (bthen (bnew _ _) hb1) hb2⟩

set_option maxHeartbeats 800000 in
theorem geom_room (b l f u : Int) (hu1 : -9223372036854775808 ≤ u) (hu2 : u ≤ 9223372036854775807) (w : World) :
    Calls Try.prog 3 #[GVal b l f, .int .i64 u] w fun e w' => e = .returned (.bool true) ∧ Below w.heap.size w w' := by
  obtain ⟨h0, h1⟩ := dataV_bd b l f
  by_cases hp : 0 ≤ u ∧ u < dataV b l f - 1
  · obtain ⟨n, hn⟩ : ∃ n, n = dataV b l f - 1 - u := ⟨_, rfl⟩
    have hr0 := room_any b l f u n (by rw [roomV, if_pos hp, hn])
    have hr1 := room_any b l f (u + 1) (n - 1) (by unfold roomV; split <;> omega)
    have hr2 := room_any b l f (u + n) 0 (by unfold roomV; split <;> omega)
    have hd := data_any b l f
    obtain ⟨hp1, hp2⟩ := hp
    have e : dataV b l f = u + n + 1 := by omega
    rw [e] at hd h0 h1 hp2
    have hn0 : 1 ≤ n := by omega
    have hn1 : n ≤ 1020 := by omega
    have hn2 : u ≤ 1020 := by omega
    clear e hn
    have c1 : (n == 0) = false := by rw [beq_eq_false_iff_ne]; omega
    have HR0 := Lib.hid hr0
    have HR1 := Lib.hid hr1
    have HR2 := Lib.hid hr2
    have HD := Lib.hid hd
    clear hr0 hr1 hr2 hd
    go_enter Try.func3, Try.ntmps3
    go_wp2_with (first
      | (go_at_call 13; (with_reducible refine (HR0.out _).mono ?_); rintro e w1 ⟨rfl, hb1⟩; obtain ⟨hc1, hf1⟩ := bcell hb1)
      | (go_at_call 13; (with_reducible refine (HR1.out _).mono ?_); rintro e w2 ⟨rfl, hb2⟩; have hB2 := bthen hb1 hb2; obtain ⟨hc2, hf2⟩ := bcell hB2)
      | (go_at_call 13; (with_reducible refine (HR2.out _).mono ?_); rintro e w3 ⟨rfl, hb3⟩; have hB3 := bthen hB2 hb3; obtain ⟨hc3, hf3⟩ := bcell hB3)
      | (go_at_call 15; (with_reducible refine (HD.out _).mono ?_); rintro e w4 ⟨rfl, hb4⟩; have hB4 := bthen hB3 hb4)
      | (go_at_call 14; (with_reducible refine (geom_alive _).mono ?_); rintro e w5 ⟨rfl, hb5⟩))
    go_ret
    exact ⟨ret_bool (by simp), bthen (bthen (bnew _ _) hB4) hb5⟩
  · have hr0 := room_any b l f u 0 (by rw [roomV, if_neg hp])
    have HR0 := Lib.hid hr0
    clear hr0 hp
    go_enter Try.func3, Try.ntmps3
    go_wp2_with (first
      | (go_at_call 13; (with_reducible refine (HR0.out _).mono ?_); rintro e w1 ⟨rfl, hb1⟩; obtain ⟨hc1, hf1⟩ := bcell hb1)
      | (go_at_call 14; (with_reducible refine (geom_alive _).mono ?_); rintro e w5 ⟨rfl, hb5⟩))
    all_goals go_ret
    all_goals exact ⟨rfl, bthen (bthen (bnew _ _) hb1) hb5⟩

theorem own : ownKnob Try.prog.godebug = none := by kernel_rfl
theorem laidOut : laidOutB Try.prog = true := by kernel_rfl

/-- What 'open_int' hands over of an int. -/
theorem int_bd {x : Int} (h : (Lit.int .i64 x).wf = true) : -9223372036854775808 ≤ x ∧ x ≤ 9223372036854775807 := by
  simpa [Lit.wf, IntKind.min, IntKind.max, IntKind.signed, IntKind.bits] using h

/-- A shape that comes in. -/
theorem open_geo {H : Type} {enc : TypeId × Value → H} {w : World} {base b0 : Nat} {spare : Nat → Bool} {held : Bool} {r : Reach} {v : Value} {d : DataW H} {p : List MemPlace}
    (hv : Value.okWide Try.prog w r b0 23 v) (h : DataW.Trod enc Try.prog w base spare held 23 v d p) : ∃ b l f : Int, v = GVal b l f := by
  obtain ⟨c0, c1, c2, y0, y1, y2, m, rfl, rfl, rfl, h0, h1, h2⟩ := open_agg3 Try.underlying23 (by kernel_rfl) (by kernel_rfl) hv h
  obtain ⟨b, e0, _, _⟩ := DataW.trod_int Try.underlying3 h0
  obtain ⟨l, e1, _, _⟩ := DataW.trod_int Try.underlying3 h1
  obtain ⟨f, e2, _, _⟩ := DataW.trod_int Try.underlying3 h2
  simp at e0 e1 e2
  subst e0 e1 e2
  exact ⟨b, l, f, rfl⟩

set_option maxRecDepth 100000 in
theorem geomRoom_lifted (os : Os) (started : os.Started) (H : Type) (enc : TypeId × Value → H) :
    ReturnsInHanded {} Try.checked os 3 .any (Rows.geomRoomSpec.pre6 enc Try.prog Try.f3 [] false) (Rows.geomRoomSpec.post enc Try.prog Try.f3 false true false false) := by
  refine LawKit.lifted (C := Try.checked) (tb := 4) own started (by kernel_rfl) Try.func3
    (ChangeSpec.witness6 (enc := enc) (C := Try.checked) false ⟨#[], #[GVal 0 0 0, .int .i64 0], []⟩ 8 (by kernel_rfl) (by kernel_rfl) (by kernel_rfl) (by kernel_rfl))
    laidOut (by kernel_rfl) rfl (fun ds h => by match ds, h with | [_, _], _ => rfl) rfl Try.underlying4 ?_
  intro W base args ds ps hval0 hA0 _ _
  have hval : ∀ (j : Nat) t v, Try.f3.params[j]? = some t → args[j]? = some v → Value.okWide Try.prog W .any base t v := hval0
  have hA : DataW.TrodAll enc Try.prog W 0 (fun _ => true) true Try.f3.params.toList args.toList ds ps := hA0
  rw [Try.params3] at hA hval
  obtain ⟨v0, v1, d0, d1, p0, p1, rfl, rfl, rfl, h0, h1⟩ := trodAll_two hA
  obtain ⟨b, l, f, rfl⟩ := open_geo (hval 0 _ v0 rfl rfl) h0
  obtain ⟨u, rfl, rfl, rfl, wu⟩ := open_int Try.underlying3 (hval 1 _ v1 rfl rfl) h1
  exact geom_room b l f u (int_bd wu).1 (int_bd wu).2 W

theorem geomRoom_holds : Rows.GeomRoomSaid :=
  OpenClaim.holds_of_wide 3 Try.f3 rfl rfl rfl rfl rfl rfl rfl ⟨rfl, rfl, rfl, rfl, rfl⟩ rfl rfl rfl rfl rfl (by kernel_rfl) Try.func3 (by kernel_rfl)
    (of_decide_eq_true (by kernel_rfl)) (by unfold Func.isWrapper; first | (rw [if_pos (by decide +kernel)]; kernel_rfl) | (rw [if_neg (by decide +kernel)]; exact ⟨rfl, rfl⟩))
    (fun os started H enc _ => geomRoom_lifted os started H enc)
#print axioms geomRoom_holds

end Go.Proofs.Ytdjlagjdbehafaa

/-
  ClockTicks returns true for every time, all times that it is told and any time to be past, and leaves its arguments as they were. No condition.
-/
import Derived.Test.YtdjlagjdbehafaaClock
import Derived.Test.YtdjlagjdbehafaaInts
namespace Go.Proofs.Ytdjlagjdbehafaa
open Go.RowKit Go.ChangeShapes Go.WideShapes Go.ChangeAt

/-- The clock's loop, round by round: what holds at its head. -/
def tickRel (past : Int) (w : World) (len g : Nat) (now was c : Value) (wr : World) : Prop :=
  ∃ (j : Nat) (n : Int) (b : Bool), j ≤ len ∧ c = .int .i64 j ∧ now = .int .i64 n ∧ was = .bool b ∧ 0 ≤ n ∧ n ≤ 1099511627776 ∧ (b = true → past ≤ n) ∧ ClkAt wr g true n ∧ Below w.heap.size w wr

theorem clk_step {past t n : Int} {w wr : World} {len g j : Nat} (h : ClkAt wr g true n) (hB : Below w.heap.size w wr) (hg : w.heap.size ≤ g) (h0 : 0 ≤ t) (h1 : t ≤ 1099511627776) (hj : j + 1 ≤ len) (b : Bool) (hb : b = true → past ≤ t) :
    tickRel past w len g (.int .i64 t) (.bool b) (.int .i64 ((j : Int) + 1)) (wr.setCell ⟨g, 1, none⟩ (.int .i64 t)) :=
  ⟨j + 1, t, b, hj, by go_num, rfl, rfl, h0, h1, hb, h.set t, hB.setCell hg _⟩
theorem clk_stay {past n : Int} {w wr : World} {len g j : Nat} (h : ClkAt wr g true n) (hB : Below w.heap.size w wr) (h0 : 0 ≤ n) (h1 : n ≤ 1099511627776) (hj : j + 1 ≤ len) (b : Bool) (hb : b = true → past ≤ n) :
    tickRel past w len g (.int .i64 n) (.bool b) (.int .i64 ((j : Int) + 1)) wr :=
  ⟨j + 1, n, b, hj, by go_num, rfl, rfl, h0, h1, hb, h, hB⟩

set_option maxRecDepth 100000 in
set_option maxHeartbeats 4000000 in
theorem clock_ticks (now past : Int) (A : Option Addr) (len cap : Nat) (zs : List Int) (w : World) (hz : IntsAt w w.heap.size A len zs) (_hc0 : len ≤ cap) (_hc1 : cap ≤ maxLen) :
    Calls Try.prog 6 #[.int .i64 now, .slice A len cap, .int .i64 past] w fun e w' => e = .returned (.bool true) ∧ Below w.heap.size w w' := by
  by_cases hl : 1000 < len
  · unfold maxLen at _hc1
    clear hz
    go_enter Try.func6, Try.ntmps6
    go_wp2_with (go_at_call 23; refine (clock_alive _).mono ?_; rintro e w1 ⟨rfl, hb⟩)
    go_ret
    exact ⟨rfl, hb⟩
  · have hl1 : len ≤ 1000 := by omega
    clear hl _hc0 _hc1
    by_cases hn : now < 0 ∨ 1099511627776 < now
    · have HN := Lib.hid (fun w => new_no now w hn)
      have h' : now < 0 ∨ (0 ≤ now ∧ 1099511627776 < now) := by omega
      clear hz hn
      rcases h' with a | ⟨a, b⟩
      all_goals
        go_enter Try.func6, Try.ntmps6
        go_wp2_with (first
          | (go_at_call 24; (refine (HN.out _).mono ?_); rintro e w' ⟨rfl, rfl⟩)
          | (go_at_call 23; refine (clock_alive _).mono ?_; rintro e w1 ⟨rfl, hb⟩))
        go_ret
        exact ⟨rfl, hb⟩
    · have hn0 : 0 ≤ now := by omega
      have hn1 : now ≤ 1099511627776 := by omega
      have HN := Lib.hid (fun w => new_yes now w hn0 hn1)
      have HZ := Lib.hid hz
      have hck := ClkAt.new w true now
      have HCK := Lib.hid hck
      clear hn hz hck
      go_enter Try.func6, Try.ntmps6
      go_wp2_with (go_at_call 24; (refine (HN.out _).mono ?_); rintro e w' ⟨rfl, rfl⟩)
      go_loopw [0, 9, 45] (tickRel past w len w.heap.size) (fun _ _ c _ => len - (intOf c).toNat)
      case atStart => exact ⟨0, now, false, Nat.zero_le _, rfl, rfl, rfl, hn0, hn1, by simp, HCK.out, bnew _ _⟩
      case round =>
        obtain ⟨j, n, b, hj, rfl, rfl, rfl, h0, h1, hbp, hclk, hB⟩ := hrel
        have HB := Lib.hid hB
        have HC := Lib.hid hclk
        have HBP := Lib.hid hbp
        clear hB hclk hbp HCK HN hn0 hn1
        by_cases hjl : j < len
        · obtain ⟨ad, hA, hadl, hcs⟩ := (HZ.out.below HB.out).lies (by omega)
          subst hA
          have hcell := hcs j hjl
          obtain ⟨t, ht⟩ : ∃ t, t = zs.getD j 0 := ⟨_, rfl⟩
          rw [← ht] at hcell
          clear hcs ht hadl
          by_cases hy : 0 ≤ t ∧ t ≤ 1099511627776 ∧ n ≤ t
          · obtain ⟨hy0, hy1, hy2⟩ := hy
            have HT := Lib.hid (tick_yes w.heap.size n t wr HC.out hy0 hy1 hy2)
            have HC2 := Lib.hid (HC.out.set t)
            have hw2 : Hid (∀ b', (b' = true → past ≤ t) → tickRel past w len w.heap.size (.int .i64 t) (.bool b') (.int .i64 ((j : Int) + 1)) (wr.setCell ⟨w.heap.size, 1, none⟩ (.int .i64 t))) :=
              Lib.hid fun b' hb' => clk_step HC.out HB.out (Nat.le_refl _) hy0 hy1 (by omega) b' hb'
            generalize hwx : wr.setCell ⟨w.heap.size, 1, none⟩ (.int .i64 t) = wx at HT HC2 hw2
            clear hwx
            by_cases hp : past ≤ t
            · cases b
              all_goals
                clear HBP
                go_wp2_with (first
                  | (go_at_call 25; refine HT.out.mono ?_; rintro e w' ⟨rfl, rfl⟩)
                  | (go_at_call 26; refine (now_at _ _ _ _ HC2.out).mono ?_; rintro e w' ⟨rfl, rfl⟩)
                  | (go_at_call 27; refine (past_at _ _ _ past _ HC2.out).mono ?_; rintro e w' ⟨rfl, rfl⟩))
                go_roundw
                case rel => exact hw2.out _ (by simp [hp])
                case measure => simp [intOf]; omega
            · have hb : b = false := by
                cases b
                · rfl
                · exact absurd (HBP.out rfl) (by omega)
              subst hb
              clear HBP
              go_wp2_with (first
                | (go_at_call 25; refine HT.out.mono ?_; rintro e w' ⟨rfl, rfl⟩)
                | (go_at_call 26; refine (now_at _ _ _ _ HC2.out).mono ?_; rintro e w' ⟨rfl, rfl⟩)
                | (go_at_call 27; refine (past_at _ _ _ past _ HC2.out).mono ?_; rintro e w' ⟨rfl, rfl⟩))
              go_roundw
              case rel => exact hw2.out _ (by simp; try omega)
              case measure => simp [intOf]; omega
          · have hsplit : (t < 0 ∧ tickV n t = 2) ∨ (0 ≤ t ∧ 1099511627776 < t ∧ tickV n t = 2) ∨ (0 ≤ t ∧ t ≤ 1099511627776 ∧ t < n ∧ tickV n t = 11) := by
              unfold tickV
              split <;> (try split) <;> omega
            have htn := tick_no w.heap.size n t wr HC.out (by omega)
            clear hy
            by_cases hp : past ≤ n
            · have hw2 : Hid (∀ b', tickRel past w len w.heap.size (.int .i64 n) (.bool b') (.int .i64 ((j : Int) + 1)) wr) := Lib.hid fun b' => clk_stay HC.out HB.out h0 h1 (by omega) b' (fun _ => hp)
              clear HBP HB
              rcases hsplit with ⟨a1, a2⟩ | ⟨a1, a3, a2⟩ | ⟨a1, a3, a4, a2⟩
              all_goals
                rw [a2] at htn
                have HT := Lib.hid htn
                clear htn a2
                cases b
                all_goals
                  go_wp2_with (first
                    | (go_at_call 25; refine HT.out.mono ?_; rintro e w' ⟨rfl, rfl⟩)
                    | (go_at_call 26; refine (now_at _ _ _ _ HC.out).mono ?_; rintro e w' ⟨rfl, rfl⟩)
                    | (go_at_call 27; refine (past_at _ _ _ past _ HC.out).mono ?_; rintro e w' ⟨rfl, rfl⟩))
                  go_roundw
                  case rel => exact hw2.out _
                  case measure => simp [intOf]; omega
            · have hb : b = false := by
                cases b
                · rfl
                · exact absurd (HBP.out rfl) (by omega)
              subst hb
              have hw2 : Hid (∀ b', (b' = true → past ≤ n) → tickRel past w len w.heap.size (.int .i64 n) (.bool b') (.int .i64 ((j : Int) + 1)) wr) := Lib.hid fun b' hb' => clk_stay HC.out HB.out h0 h1 (by omega) b' hb'
              clear HBP HB
              rcases hsplit with ⟨a1, a2⟩ | ⟨a1, a3, a2⟩ | ⟨a1, a3, a4, a2⟩
              all_goals
                rw [a2] at htn
                have HT := Lib.hid htn
                clear htn a2
                go_wp2_with (first
                  | (go_at_call 25; refine HT.out.mono ?_; rintro e w' ⟨rfl, rfl⟩)
                  | (go_at_call 26; refine (now_at _ _ _ _ HC.out).mono ?_; rintro e w' ⟨rfl, rfl⟩)
                  | (go_at_call 27; refine (past_at _ _ _ past _ HC.out).mono ?_; rintro e w' ⟨rfl, rfl⟩))
                go_roundw
                case rel => exact hw2.out _ (by simp)
                case measure => simp [intOf]; omega
        · have hjl' : j = len := by omega
          subst hjl'
          go_wp2_with (first
            | (go_at_call 26; refine (now_at _ _ _ _ HC.out).mono ?_; rintro e w' ⟨rfl, rfl⟩)
            | (go_at_call 23; refine (clock_alive _).mono ?_; rintro e w1 ⟨rfl, hb⟩))
          go_ret
          exact ⟨ret_bool (by simp), bthen HB.out hb⟩

set_option maxRecDepth 100000 in
theorem clockTicks_lifted (os : Os) (started : os.Started) (H : Type) (enc : TypeId × Value → H) :
    ReturnsInHanded {} Try.checked os 6 .any (Rows.clockTicksSpec.pre6 enc Try.prog Try.f6 [] false) (Rows.clockTicksSpec.post enc Try.prog Try.f6 false true false false) := by
  refine LawKit.lifted (C := Try.checked) (tb := 4) own started (by kernel_rfl) Try.func6
    (ChangeSpec.witness6 (enc := enc) (C := Try.checked) false ⟨#[], #[.int .i64 0, .slice none 0 0, .int .i64 0], []⟩ 8 (by kernel_rfl) (by kernel_rfl) (by kernel_rfl) (by kernel_rfl))
    laidOut (by kernel_rfl) rfl (fun ds h => by match ds, h with | [_, _, _], _ => rfl) rfl Try.underlying4 ?_
  intro W base args ds ps hval0 hA0 hlt hsz
  have hval : ∀ (j : Nat) t v, Try.f6.params[j]? = some t → args[j]? = some v → Value.okWide Try.prog W .any base t v := hval0
  have hA : DataW.TrodAll enc Try.prog W 0 (fun _ => true) true Try.f6.params.toList args.toList ds ps := hA0
  rw [Try.params6] at hA hval
  clear hval0 hA0
  obtain ⟨v0, vs0, d0, ds0, p0, q0, hargs, rfl, rfl, t0, r0⟩ := trodAll_cons hA
  obtain ⟨v1, vs1, d1, ds1, p1, q1, rfl, rfl, rfl, t1, r1⟩ := trodAll_cons r0
  obtain ⟨v2, vs2, d2, ds2, p2, q2, rfl, rfl, rfl, t2, r2⟩ := trodAll_cons r1
  obtain ⟨rfl, rfl, rfl⟩ := trodAll_nil r2
  obtain rfl : args = #[v0, v1, v2] := by cases args; simp_all
  obtain ⟨now, rfl, -, -, w_now⟩ := open_int Try.underlying3 (hval 0 _ v0 rfl rfl) t0
  have hv1 := hval 1 _ v1 rfl rfl
  obtain ⟨past, rfl, -, -, w_past⟩ := open_int Try.underlying3 (hval 2 _ v2 rfl rfl) t2
  exact by obtain ⟨A, n, c, zs, rfl, hn, hc, hz⟩ := open_intsAt hv1 t1 (fun p hp => hlt p (by simp [hp])); exact clock_ticks now past A n c zs W hz hn hc

theorem clockTicks_holds : Rows.ClockTicksSaid :=
  OpenClaim.holds_of_wide 6 Try.f6 rfl rfl rfl rfl rfl rfl rfl ⟨rfl, rfl, rfl, rfl, rfl⟩ rfl rfl rfl rfl rfl (by kernel_rfl) Try.func6 (by kernel_rfl)
    (of_decide_eq_true (by kernel_rfl)) (by unfold Func.isWrapper; first | (rw [if_pos (by decide +kernel)]; kernel_rfl) | (rw [if_neg (by decide +kernel)]; exact ⟨rfl, rfl⟩))
    (fun os started H enc _ => clockTicks_lifted os started H enc)
#print axioms clockTicks_holds

end Go.Proofs.Ytdjlagjdbehafaa

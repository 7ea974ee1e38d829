/-
  GeomTells returns true for every shape and every two numbers, and leaves its arguments as they were. No condition.
-/
import Derived.Test.YtdjlagjdbehafaaGeomLaw
import Derived.Test.YtdjlagjdbehafaaText
namespace Go.Proofs.Ytdjlagjdbehafaa
open Go.RowKit Go.ChangeShapes Go.WideShapes Go.ChangeAt

theorem keep3 {g B : Nat} {w W w1 : World} {v0 v1 v2 : Value} (h : W.cell? ⟨g, 0, none⟩ = some v0 ∧ W.cell? ⟨g, 1, none⟩ = some v1 ∧ W.cell? ⟨g, 2, none⟩ = some v2 ∧ g < W.heap.size ∧ B ≤ W.heap.size ∧ Below B w W)
    (hb : Below W.heap.size W w1) : w1.cell? ⟨g, 0, none⟩ = some v0 ∧ w1.cell? ⟨g, 1, none⟩ = some v1 ∧ w1.cell? ⟨g, 2, none⟩ = some v2 ∧ g < w1.heap.size ∧ B ≤ w1.heap.size ∧ Below B w w1 :=
  ⟨(hb.cell h.2.2.2.1).trans h.1, (hb.cell h.2.2.2.1).trans h.2.1, (hb.cell h.2.2.2.1).trans h.2.2.1, Nat.lt_of_lt_of_le h.2.2.2.1 hb.size, Nat.le_trans h.2.2.2.2.1 hb.size, h.2.2.2.2.2.trans (hb.mono h.2.2.2.2.1)⟩

set_option maxHeartbeats 1600000 in
theorem geom_tells (b l f i u : Int) (hi3 : -9223372036854775808 ≤ i) (hi4 : i ≤ 9223372036854775807) (w : World) :
    Calls Try.prog 4 #[GVal b l f, .int .i64 i, .int .i64 u] w fun e w' => e = .returned (.bool true) ∧ Below w.heap.size w w' := by
  have hd := data_any b l f
  have hd' := ref_data b l f
  have hr1 := room_any b l f u _ rfl
  have hr2 := ref_room b l f u _ rfl
  have hbd := dataV_bd b l f
  have hr := ref_right b l f
  have hpy := place_yes b l f i
  have hpn := place_no b l f i
  have hcy := check_yes b l f
  have hcn := check_no b l f
  have hdn := dataV_no (b := b) (l := l) (f := f)
  generalize roomV (dataV b l f) u = n at *
  generalize dataV b l f = d at *
  obtain ⟨hd0, hd1⟩ := hbd
  have HD := Lib.hid hd
  have HD' := Lib.hid hd'
  have HR1 := Lib.hid hr1
  have HR2 := Lib.hid hr2
  clear hd hd' hr1 hr2
  by_cases hg : GOk b l f
  · have HC := Lib.hid (hcy hg)
    rw [decide_eq_true hg] at hr
    have HR := Lib.hid hr
    clear hcy hcn hr hdn hg
    by_cases hi : 0 ≤ i ∧ i < d
    · have HP := Lib.hid (hpy hi.1 hi.2)
      obtain ⟨hi1, hi2⟩ := hi
      clear hpy hpn
      go_enter Try.func4, Try.ntmps4
      go_wp2_with (first
        | (go_at_call 16; (with_reducible refine (HP.out _).mono ?_); rintro e w1 ⟨rfl, hb1⟩; obtain ⟨hc1, hf1⟩ := bcell hb1; have hw1 := hb1)
        | (go_at_call 17; (with_reducible refine (HD'.out _).mono ?_); rintro e w1 ⟨rfl, hb2⟩; have hB2 := bthen hb1 hb2; clear hc1 hf1 hb1 hw1; have hb1 := hB2; obtain ⟨hc1, hf1⟩ := bcell hb1))
      have hsz : w.heap.size < w1.heap.size := by have := hb1.size; simp at this; omega
      have hB := bthen (bnew _ _) hb1
      have q0 : w1.cell? ⟨w.heap.size, 0, none⟩ = some (.int .i64 b) := by simp [go_sem, hc1]
      have q1 : w1.cell? ⟨w.heap.size, 1, none⟩ = some (.int .i64 l) := by simp [go_sem, hc1]
      have q2 : w1.cell? ⟨w.heap.size, 2, none⟩ = some (.int .i64 f) := by simp [go_sem, hc1]
      clear hb1 hc1 hf1
      refine wp_region_txt (fun w' => w'.cell? ⟨w.heap.size, 0, none⟩ = some (.int .i64 b) ∧ w'.cell? ⟨w.heap.size, 1, none⟩ = some (.int .i64 l) ∧ w'.cell? ⟨w.heap.size, 2, none⟩ = some (.int .i64 f) ∧ w.heap.size < w'.heap.size ∧ w.heap.size ≤ w'.heap.size ∧ Below w.heap.size w w')
        (by kernel_rfl) (by kernel_rfl) ⟨q0, q1, q2, hsz, Nat.le_of_lt hsz, hB.drew⟩ ?_
      have HK : Hid (Keeps (fun w' => w'.cell? ⟨w.heap.size, 0, none⟩ = some (.int .i64 b) ∧ w'.cell? ⟨w.heap.size, 1, none⟩ = some (.int .i64 l) ∧ w'.cell? ⟨w.heap.size, 2, none⟩ = some (.int .i64 f) ∧ w.heap.size < w'.heap.size ∧ w.heap.size ≤ w'.heap.size ∧ Below w.heap.size w w')) := Lib.hid fun _ _ h hb => keep3 h hb
      repeat (first
        | (refine text_skip (by rfl) ?_; simp only [Act.put, List.setIfInBounds_toArray, List.set_cons_zero, List.set_cons_succ])
        | (refine text_pure (v := ?_) (by rfl) (fun wx hS => ?_) ?_; rotate_left; (go_simp; with_reducible exact rfl); simp only [Act.put, List.setIfInBounds_toArray, List.set_cons_zero, List.set_cons_succ])
        | (refine text_call (v := ?_) (f := ?_) (args := ?_) (by rfl) (fun wx hS => ?_) (fun wx hS => ?_) ?_; rotate_left 3; (go_simp; constructor <;> with_reducible rfl)
           (first
             | with_reducible exact meets HK.out HC.out wx hS
             | with_reducible exact meets HK.out HR.out wx hS
             | with_reducible exact meets HK.out HD.out wx hS
             | with_reducible exact meets HK.out HD'.out wx hS
             | with_reducible exact meets HK.out HR1.out wx hS
             | with_reducible exact meets HK.out HR2.out wx hS
             | with_reducible exact meets HK.out geom_alive wx hS)
           simp only [Act.put, List.setIfInBounds_toArray, List.set_cons_zero, List.set_cons_succ]))
      refine text_nil (fun wx hS => ?_)
      go_wp2
      go_ret
      exact ⟨ret_bool (by simp), hS.2.2.2.2.2⟩
    · have HP := Lib.hid (hpn hi)
      clear hpy hpn
      by_cases hi5 : i < 0
      · clear hi
        go_enter Try.func4, Try.ntmps4
        go_wp2_with (first
          | (go_at_call 16; (with_reducible refine (HP.out _).mono ?_); rintro e w1 ⟨rfl, hb1⟩; obtain ⟨hc1, hf1⟩ := bcell hb1; have hw1 := hb1)
          | (go_at_call 17; (with_reducible refine (HD'.out _).mono ?_); rintro e w1 ⟨rfl, hb2⟩; have hB2 := bthen hb1 hb2; clear hc1 hf1 hb1 hw1; have hb1 := hB2; obtain ⟨hc1, hf1⟩ := bcell hb1))
        have hsz : w.heap.size < w1.heap.size := by have := hb1.size; simp at this; omega
        have hB := bthen (bnew _ _) hb1
        have q0 : w1.cell? ⟨w.heap.size, 0, none⟩ = some (.int .i64 b) := by simp [go_sem, hc1]
        have q1 : w1.cell? ⟨w.heap.size, 1, none⟩ = some (.int .i64 l) := by simp [go_sem, hc1]
        have q2 : w1.cell? ⟨w.heap.size, 2, none⟩ = some (.int .i64 f) := by simp [go_sem, hc1]
        clear hb1 hc1 hf1
        refine wp_region_txt (fun w' => w'.cell? ⟨w.heap.size, 0, none⟩ = some (.int .i64 b) ∧ w'.cell? ⟨w.heap.size, 1, none⟩ = some (.int .i64 l) ∧ w'.cell? ⟨w.heap.size, 2, none⟩ = some (.int .i64 f) ∧ w.heap.size < w'.heap.size ∧ w.heap.size ≤ w'.heap.size ∧ Below w.heap.size w w')
          (by kernel_rfl) (by kernel_rfl) ⟨q0, q1, q2, hsz, Nat.le_of_lt hsz, hB.drew⟩ ?_
        have HK : Hid (Keeps (fun w' => w'.cell? ⟨w.heap.size, 0, none⟩ = some (.int .i64 b) ∧ w'.cell? ⟨w.heap.size, 1, none⟩ = some (.int .i64 l) ∧ w'.cell? ⟨w.heap.size, 2, none⟩ = some (.int .i64 f) ∧ w.heap.size < w'.heap.size ∧ w.heap.size ≤ w'.heap.size ∧ Below w.heap.size w w')) := Lib.hid fun _ _ h hb => keep3 h hb
        repeat (first
          | (refine text_skip (by rfl) ?_; simp only [Act.put, List.setIfInBounds_toArray, List.set_cons_zero, List.set_cons_succ])
          | (refine text_pure (v := ?_) (by rfl) (fun wx hS => ?_) ?_; rotate_left; (go_simp; with_reducible exact rfl); simp only [Act.put, List.setIfInBounds_toArray, List.set_cons_zero, List.set_cons_succ])
          | (refine text_call (v := ?_) (f := ?_) (args := ?_) (by rfl) (fun wx hS => ?_) (fun wx hS => ?_) ?_; rotate_left 3; (go_simp; constructor <;> with_reducible rfl)
             (first
               | with_reducible exact meets HK.out HC.out wx hS
               | with_reducible exact meets HK.out HR.out wx hS
               | with_reducible exact meets HK.out HD.out wx hS
               | with_reducible exact meets HK.out HD'.out wx hS
               | with_reducible exact meets HK.out HR1.out wx hS
               | with_reducible exact meets HK.out HR2.out wx hS
               | with_reducible exact meets HK.out geom_alive wx hS)
             simp only [Act.put, List.setIfInBounds_toArray, List.set_cons_zero, List.set_cons_succ]))
        refine text_nil (fun wx hS => ?_)
        go_wp2
        go_ret
        exact ⟨ret_bool (by simp), hS.2.2.2.2.2⟩
      · have hi6 : d ≤ i := by omega
        clear hi
        go_enter Try.func4, Try.ntmps4
        go_wp2_with (first
          | (go_at_call 16; (with_reducible refine (HP.out _).mono ?_); rintro e w1 ⟨rfl, hb1⟩; obtain ⟨hc1, hf1⟩ := bcell hb1; have hw1 := hb1)
          | (go_at_call 17; (with_reducible refine (HD'.out _).mono ?_); rintro e w1 ⟨rfl, hb2⟩; have hB2 := bthen hb1 hb2; clear hc1 hf1 hb1 hw1; have hb1 := hB2; obtain ⟨hc1, hf1⟩ := bcell hb1))
        have hsz : w.heap.size < w1.heap.size := by have := hb1.size; simp at this; omega
        have hB := bthen (bnew _ _) hb1
        have q0 : w1.cell? ⟨w.heap.size, 0, none⟩ = some (.int .i64 b) := by simp [go_sem, hc1]
        have q1 : w1.cell? ⟨w.heap.size, 1, none⟩ = some (.int .i64 l) := by simp [go_sem, hc1]
        have q2 : w1.cell? ⟨w.heap.size, 2, none⟩ = some (.int .i64 f) := by simp [go_sem, hc1]
        clear hb1 hc1 hf1
        refine wp_region_txt (fun w' => w'.cell? ⟨w.heap.size, 0, none⟩ = some (.int .i64 b) ∧ w'.cell? ⟨w.heap.size, 1, none⟩ = some (.int .i64 l) ∧ w'.cell? ⟨w.heap.size, 2, none⟩ = some (.int .i64 f) ∧ w.heap.size < w'.heap.size ∧ w.heap.size ≤ w'.heap.size ∧ Below w.heap.size w w')
          (by kernel_rfl) (by kernel_rfl) ⟨q0, q1, q2, hsz, Nat.le_of_lt hsz, hB.drew⟩ ?_
        have HK : Hid (Keeps (fun w' => w'.cell? ⟨w.heap.size, 0, none⟩ = some (.int .i64 b) ∧ w'.cell? ⟨w.heap.size, 1, none⟩ = some (.int .i64 l) ∧ w'.cell? ⟨w.heap.size, 2, none⟩ = some (.int .i64 f) ∧ w.heap.size < w'.heap.size ∧ w.heap.size ≤ w'.heap.size ∧ Below w.heap.size w w')) := Lib.hid fun _ _ h hb => keep3 h hb
        repeat (first
          | (refine text_skip (by rfl) ?_; simp only [Act.put, List.setIfInBounds_toArray, List.set_cons_zero, List.set_cons_succ])
          | (refine text_pure (v := ?_) (by rfl) (fun wx hS => ?_) ?_; rotate_left; (go_simp; with_reducible exact rfl); simp only [Act.put, List.setIfInBounds_toArray, List.set_cons_zero, List.set_cons_succ])
          | (refine text_call (v := ?_) (f := ?_) (args := ?_) (by rfl) (fun wx hS => ?_) (fun wx hS => ?_) ?_; rotate_left 3; (go_simp; constructor <;> with_reducible rfl)
             (first
               | with_reducible exact meets HK.out HC.out wx hS
               | with_reducible exact meets HK.out HR.out wx hS
               | with_reducible exact meets HK.out HD.out wx hS
               | with_reducible exact meets HK.out HD'.out wx hS
               | with_reducible exact meets HK.out HR1.out wx hS
               | with_reducible exact meets HK.out HR2.out wx hS
               | with_reducible exact meets HK.out geom_alive wx hS)
             simp only [Act.put, List.setIfInBounds_toArray, List.set_cons_zero, List.set_cons_succ]))
        refine text_nil (fun wx hS => ?_)
        go_wp2
        go_ret
        exact ⟨ret_bool (by simp), hS.2.2.2.2.2⟩
  · have HC := Lib.hid (hcn hg)
    rw [decide_eq_false hg] at hr
    have HR := Lib.hid hr
    obtain rfl := hdn hg
    have HP := Lib.hid (hpn (by omega))
    clear hcy hcn hr hdn hg hpy hpn hd0 hd1
    by_cases hi5 : i < 0
    · go_enter Try.func4, Try.ntmps4
      go_wp2_with (first
        | (go_at_call 16; (with_reducible refine (HP.out _).mono ?_); rintro e w1 ⟨rfl, hb1⟩; obtain ⟨hc1, hf1⟩ := bcell hb1; have hw1 := hb1)
        | (go_at_call 17; (with_reducible refine (HD'.out _).mono ?_); rintro e w1 ⟨rfl, hb2⟩; have hB2 := bthen hb1 hb2; clear hc1 hf1 hb1 hw1; have hb1 := hB2; obtain ⟨hc1, hf1⟩ := bcell hb1))
      have hsz : w.heap.size < w1.heap.size := by have := hb1.size; simp at this; omega
      have hB := bthen (bnew _ _) hb1
      have q0 : w1.cell? ⟨w.heap.size, 0, none⟩ = some (.int .i64 b) := by simp [go_sem, hc1]
      have q1 : w1.cell? ⟨w.heap.size, 1, none⟩ = some (.int .i64 l) := by simp [go_sem, hc1]
      have q2 : w1.cell? ⟨w.heap.size, 2, none⟩ = some (.int .i64 f) := by simp [go_sem, hc1]
      clear hb1 hc1 hf1
      refine wp_region_txt (fun w' => w'.cell? ⟨w.heap.size, 0, none⟩ = some (.int .i64 b) ∧ w'.cell? ⟨w.heap.size, 1, none⟩ = some (.int .i64 l) ∧ w'.cell? ⟨w.heap.size, 2, none⟩ = some (.int .i64 f) ∧ w.heap.size < w'.heap.size ∧ w.heap.size ≤ w'.heap.size ∧ Below w.heap.size w w')
        (by kernel_rfl) (by kernel_rfl) ⟨q0, q1, q2, hsz, Nat.le_of_lt hsz, hB.drew⟩ ?_
      have HK : Hid (Keeps (fun w' => w'.cell? ⟨w.heap.size, 0, none⟩ = some (.int .i64 b) ∧ w'.cell? ⟨w.heap.size, 1, none⟩ = some (.int .i64 l) ∧ w'.cell? ⟨w.heap.size, 2, none⟩ = some (.int .i64 f) ∧ w.heap.size < w'.heap.size ∧ w.heap.size ≤ w'.heap.size ∧ Below w.heap.size w w')) := Lib.hid fun _ _ h hb => keep3 h hb
      repeat (first
        | (refine text_skip (by rfl) ?_; simp only [Act.put, List.setIfInBounds_toArray, List.set_cons_zero, List.set_cons_succ])
        | (refine text_pure (v := ?_) (by rfl) (fun wx hS => ?_) ?_; rotate_left; (go_simp; with_reducible exact rfl); simp only [Act.put, List.setIfInBounds_toArray, List.set_cons_zero, List.set_cons_succ])
        | (refine text_call (v := ?_) (f := ?_) (args := ?_) (by rfl) (fun wx hS => ?_) (fun wx hS => ?_) ?_; rotate_left 3; (go_simp; constructor <;> with_reducible rfl)
           (first
             | with_reducible exact meets HK.out HC.out wx hS
             | with_reducible exact meets HK.out HR.out wx hS
             | with_reducible exact meets HK.out HD.out wx hS
             | with_reducible exact meets HK.out HD'.out wx hS
             | with_reducible exact meets HK.out HR1.out wx hS
             | with_reducible exact meets HK.out HR2.out wx hS
             | with_reducible exact meets HK.out geom_alive wx hS)
           simp only [Act.put, List.setIfInBounds_toArray, List.set_cons_zero, List.set_cons_succ]))
      refine text_nil (fun wx hS => ?_)
      go_wp2
      go_ret
      exact ⟨ret_bool (by simp), hS.2.2.2.2.2⟩
    · have hi6 : 0 ≤ i := by omega
      go_enter Try.func4, Try.ntmps4
      go_wp2_with (first
        | (go_at_call 16; (with_reducible refine (HP.out _).mono ?_); rintro e w1 ⟨rfl, hb1⟩; obtain ⟨hc1, hf1⟩ := bcell hb1; have hw1 := hb1)
        | (go_at_call 17; (with_reducible refine (HD'.out _).mono ?_); rintro e w1 ⟨rfl, hb2⟩; have hB2 := bthen hb1 hb2; clear hc1 hf1 hb1 hw1; have hb1 := hB2; obtain ⟨hc1, hf1⟩ := bcell hb1))
      have hsz : w.heap.size < w1.heap.size := by have := hb1.size; simp at this; omega
      have hB := bthen (bnew _ _) hb1
      have q0 : w1.cell? ⟨w.heap.size, 0, none⟩ = some (.int .i64 b) := by simp [go_sem, hc1]
      have q1 : w1.cell? ⟨w.heap.size, 1, none⟩ = some (.int .i64 l) := by simp [go_sem, hc1]
      have q2 : w1.cell? ⟨w.heap.size, 2, none⟩ = some (.int .i64 f) := by simp [go_sem, hc1]
      clear hb1 hc1 hf1
      refine wp_region_txt (fun w' => w'.cell? ⟨w.heap.size, 0, none⟩ = some (.int .i64 b) ∧ w'.cell? ⟨w.heap.size, 1, none⟩ = some (.int .i64 l) ∧ w'.cell? ⟨w.heap.size, 2, none⟩ = some (.int .i64 f) ∧ w.heap.size < w'.heap.size ∧ w.heap.size ≤ w'.heap.size ∧ Below w.heap.size w w')
        (by kernel_rfl) (by kernel_rfl) ⟨q0, q1, q2, hsz, Nat.le_of_lt hsz, hB.drew⟩ ?_
      have HK : Hid (Keeps (fun w' => w'.cell? ⟨w.heap.size, 0, none⟩ = some (.int .i64 b) ∧ w'.cell? ⟨w.heap.size, 1, none⟩ = some (.int .i64 l) ∧ w'.cell? ⟨w.heap.size, 2, none⟩ = some (.int .i64 f) ∧ w.heap.size < w'.heap.size ∧ w.heap.size ≤ w'.heap.size ∧ Below w.heap.size w w')) := Lib.hid fun _ _ h hb => keep3 h hb
      repeat (first
        | (refine text_skip (by rfl) ?_; simp only [Act.put, List.setIfInBounds_toArray, List.set_cons_zero, List.set_cons_succ])
        | (refine text_pure (v := ?_) (by rfl) (fun wx hS => ?_) ?_; rotate_left; (go_simp; with_reducible exact rfl); simp only [Act.put, List.setIfInBounds_toArray, List.set_cons_zero, List.set_cons_succ])
        | (refine text_call (v := ?_) (f := ?_) (args := ?_) (by rfl) (fun wx hS => ?_) (fun wx hS => ?_) ?_; rotate_left 3; (go_simp; constructor <;> with_reducible rfl)
           (first
             | with_reducible exact meets HK.out HC.out wx hS
             | with_reducible exact meets HK.out HR.out wx hS
             | with_reducible exact meets HK.out HD.out wx hS
             | with_reducible exact meets HK.out HD'.out wx hS
             | with_reducible exact meets HK.out HR1.out wx hS
             | with_reducible exact meets HK.out HR2.out wx hS
             | with_reducible exact meets HK.out geom_alive wx hS)
           simp only [Act.put, List.setIfInBounds_toArray, List.set_cons_zero, List.set_cons_succ]))
      refine text_nil (fun wx hS => ?_)
      go_wp2
      go_ret
      exact ⟨ret_bool (by simp), hS.2.2.2.2.2⟩

set_option maxRecDepth 100000 in
theorem geomTells_lifted (os : Os) (started : os.Started) (H : Type) (enc : TypeId × Value → H) :
    ReturnsInHanded {} Try.checked os 4 .any (Rows.geomTellsSpec.pre6 enc Try.prog Try.f4 [] false) (Rows.geomTellsSpec.post enc Try.prog Try.f4 false true false false) := by
  refine LawKit.lifted (C := Try.checked) (tb := 4) own started (by kernel_rfl) Try.func4
    (ChangeSpec.witness6 (enc := enc) (C := Try.checked) false ⟨#[], #[GVal 0 0 0, .int .i64 0, .int .i64 0], []⟩ 8 (by kernel_rfl) (by kernel_rfl) (by kernel_rfl) (by kernel_rfl))
    laidOut (by kernel_rfl) rfl (fun ds h => by match ds, h with | [_, _, _], _ => rfl) rfl Try.underlying4 ?_
  intro W base args ds ps hval0 hA0 hlt hsz
  have hval : ∀ (j : Nat) t v, Try.f4.params[j]? = some t → args[j]? = some v → Value.okWide Try.prog W .any base t v := hval0
  have hA : DataW.TrodAll enc Try.prog W 0 (fun _ => true) true Try.f4.params.toList args.toList ds ps := hA0
  rw [Try.params4] at hA hval
  clear hval0 hA0
  obtain ⟨v0, vs0, d0, ds0, p0, q0, hargs, rfl, rfl, t0, r0⟩ := trodAll_cons hA
  obtain ⟨v1, vs1, d1, ds1, p1, q1, rfl, rfl, rfl, t1, r1⟩ := trodAll_cons r0
  obtain ⟨v2, vs2, d2, ds2, p2, q2, rfl, rfl, rfl, t2, r2⟩ := trodAll_cons r1
  obtain ⟨rfl, rfl, rfl⟩ := trodAll_nil r2
  obtain rfl : args = #[v0, v1, v2] := by cases args; simp_all
  obtain ⟨b, l, f, rfl⟩ := open_geo (hval 0 _ v0 rfl rfl) t0
  obtain ⟨i, rfl, -, -, w_i⟩ := open_int Try.underlying3 (hval 1 _ v1 rfl rfl) t1
  obtain ⟨u, rfl, -, -, w_u⟩ := open_int Try.underlying3 (hval 2 _ v2 rfl rfl) t2
  exact geom_tells b l f i u (int_bd w_i).1 (int_bd w_i).2 W

theorem geomTells_holds : Rows.GeomTellsSaid :=
  OpenClaim.holds_of_wide 4 Try.f4 rfl rfl rfl rfl rfl rfl rfl ⟨rfl, rfl, rfl, rfl, rfl⟩ rfl rfl rfl rfl rfl (by kernel_rfl) Try.func4 (by kernel_rfl)
    (of_decide_eq_true (by kernel_rfl)) (by unfold Func.isWrapper; first | (rw [if_pos (by decide +kernel)]; kernel_rfl) | (rw [if_neg (by decide +kernel)]; exact ⟨rfl, rfl⟩))
    (fun os started H enc _ => geomTells_lifted os started H enc)
#print axioms geomTells_holds

end Go.Proofs.Ytdjlagjdbehafaa

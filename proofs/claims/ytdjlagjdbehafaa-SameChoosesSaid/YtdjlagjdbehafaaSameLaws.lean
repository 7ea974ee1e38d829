/-
  SameTells, SameChooses and SameThree return true for every input, and leave their arguments as they were. No condition.
-/
import Derived.Test.YtdjlagjdbehafaaSame2
import Derived.Test.YtdjlagjdbehafaaLawKit
namespace Go.Proofs.Ytdjlagjdbehafaa
open Go.RowKit Go.ChangeShapes Go.WideShapes Go.ChangeAt

set_option maxHeartbeats 800000 in
theorem same_alive (w : World) : Calls Try.prog 29 #[] w fun e w' => e = .returned (.bool true) ∧ Below w.heap.size w w' := by
  have h1 := bit_any ⟨#[97, 98]⟩ ⟨#[97, 98]⟩ (by decide) (by decide)
  have h2 := choose_any 0 ⟨#[97, 98]⟩ ⟨#[99, 100]⟩ (by decide) (by decide)
  have h3 := less_any ⟨#[97, 98]⟩ ⟨#[97, 99]⟩ (by decide) (by decide)
  have h4 := any_any ⟨#[0, 1]⟩ (by decide)
  rw [show num _ = 1 from rfl] at h1
  rw [show chooseV 0 ⟨#[97, 98]⟩ ⟨#[99, 100]⟩ = ⟨#[99, 100]⟩ from rfl] at h2
  rw [show num _ = 1 from rfl] at h3
  rw [show (if ∀ c ∈ (⟨#[0, 1]⟩ : ByteArray).data.toList, c = 0 then (0 : Int) else 1) = 1 from rfl] at h4
  have H1 := Lib.hid h1
  have H2 := Lib.hid h2
  have H3 := Lib.hid h3
  have H4 := Lib.hid h4
  clear h1 h2 h3 h4
  go_enter Try.func29, Try.ntmps29
  go_wp2_with (first
    | (go_at_call 35; refine (H1.out _).mono ?_; rintro e w1 ⟨rfl, hb1⟩)
    | (go_at_call 30; refine (H2.out _).mono ?_; rintro e w2 ⟨rfl, hb2⟩)
    | (go_at_call 34; refine (H3.out _).mono ?_; rintro e w3 ⟨rfl, hb3⟩)
    | (go_at_call 31; refine (H4.out _).mono ?_; rintro e w4 ⟨rfl, hb4⟩))
  go_ret
  exact ⟨ret_bool (by simp), bthen (bthen (bthen hb1 hb2) hb3) hb4⟩

theorem bytesLess_three : ∀ (A B : List UInt8), A.length = B.length → A ≠ B → (Op.bytesLess A B = true ∧ Op.bytesLess B A = false) ∨ (Op.bytesLess A B = false ∧ Op.bytesLess B A = true)
  | [], [], _, h => absurd rfl h
  | x :: A, y :: B, hl, hne => by
    by_cases hxy : x = y
    · subst hxy
      have ih := bytesLess_three A B (by simpa using hl) (fun h => hne (by rw [h]))
      have hi : ¬ x < x := UInt8.lt_irrefl x
      simpa [Op.bytesLess, hi] using ih
    · have h1 : (x == y) = false := by simp [hxy]
      have h2 : (y == x) = false := by simp [Ne.symm hxy]
      have h3 : x.toNat ≠ y.toNat := fun h => hxy (UInt8.toNat_inj.1 h)
      rcases Nat.lt_or_gt_of_ne h3 with h | h
      · left
        have a1 : x < y := h
        have a2 : ¬ y < x := fun h' => by have : y.toNat < x.toNat := h'; omega
        simp [Op.bytesLess, a1, a2, h2]
      · right
        have a1 : y < x := h
        have a2 : ¬ x < y := fun h' => by have : x.toNat < y.toNat := h'; omega
        simp [Op.bytesLess, a1, a2, h1]
theorem number_t (w : World) : Calls Try.prog 32 #[.bool true] w fun e w' => e = .returned (.int .i64 1) ∧ w = w' := number_any true w
theorem number_f (w : World) : Calls Try.prog 32 #[.bool false] w fun e w' => e = .returned (.int .i64 0) ∧ w = w' := number_any false w
theorem data_eq (a : ByteArray) : a.data.toList = a.toList := (ByteArray.toList_eq a).symm

set_option maxHeartbeats 1600000 in
theorem same_tells (a b : ByteArray) (ha : a.size ≤ 5000) (hb : b.size ≤ 5000) (w : World) :
    Calls Try.prog 11 #[.string a, .string b] w fun e w' => e = .returned (.bool true) ∧ Below w.heap.size w w' := by
  have hm : ∀ n : Nat, n ≤ 5000 → n ≤ maxLen := fun n h => by unfold maxLen; omega
  have h1 := bit_any a b (hm _ ha) (hm _ hb)
  have h2 := equal_any a b (hm _ ha) (hm _ hb)
  have h3 := less_any a b (by omega) (by omega)
  rw [data_eq, data_eq] at h1 h2 h3
  clear hm
  by_cases hE : a.toList = b.toList
  · have hab : a = b := bytes_inj (by rw [data_eq, data_eq]; exact hE)
    subst hab
    rw [num, if_pos rfl] at h1
    rw [decide_eq_true rfl] at h2
    rw [bytesLess_irrefl, num, if_neg (by simp)] at h3
    have hlt := bytesLess_irrefl a.toList
    have H1 := Lib.hid h1
    have H2 := Lib.hid h2
    have H3 := Lib.hid h3
    clear h1 h2 h3 hE hb
    go_enter Try.func11, Try.ntmps11
    go_wp2_with (first
      | (go_at_call 35; (with_reducible refine (H1.out _).mono ?_); rintro e w1 ⟨rfl, hb1⟩)
      | (go_at_call 36; (with_reducible refine (H2.out _).mono ?_); rintro e w2 ⟨rfl, hb2⟩)
      | (go_at_call 34; (with_reducible refine (H3.out _).mono ?_); rintro e w3 ⟨rfl, hb3⟩)
      | (go_at_call 32; (with_reducible refine (number_t _).mono ?_); rintro e w' ⟨rfl, rfl⟩)
      | (go_at_call 32; (with_reducible refine (number_f _).mono ?_); rintro e w' ⟨rfl, rfl⟩)
      | (go_at_call 29; (with_reducible refine (same_alive _).mono ?_); rintro e w4 ⟨rfl, hb4⟩))
    go_ret
    exact ⟨ret_bool (by simp), bthen (bthen (bthen hb1 hb2) hb3) hb4⟩
  · rw [num, if_neg hE] at h1
    rw [decide_eq_false hE] at h2
    have heq : (a.toList == b.toList) = false := by simp [hE]
    obtain ⟨v, hv⟩ : ∃ v, v = Op.bytesLess a.toList b.toList := ⟨_, rfl⟩
    rw [← hv] at h3
    have hlt := hv.symm
    have H1 := Lib.hid h1
    have H2 := Lib.hid h2
    clear h1 h2 hE hv
    by_cases hs : a.size = b.size
    · rw [num_congr (show (a.size = b.size ∧ v = true) ↔ v = true from ⟨fun h => h.2, fun h => ⟨hs, h⟩⟩)] at h3
      have hne : ((a.size : Int) == b.size) = true := by simp [hs]
      clear hs
      cases v
      all_goals
        simp only [num, if_true, Bool.false_eq_true, if_false] at h3
        have H3 := Lib.hid h3
        clear h3
        go_enter Try.func11, Try.ntmps11
        go_wp2_with (first
          | (go_at_call 35; (with_reducible refine (H1.out _).mono ?_); rintro e w1 ⟨rfl, hb1⟩)
          | (go_at_call 36; (with_reducible refine (H2.out _).mono ?_); rintro e w2 ⟨rfl, hb2⟩)
          | (go_at_call 34; (with_reducible refine (H3.out _).mono ?_); rintro e w3 ⟨rfl, hb3⟩)
          | (go_at_call 32; (with_reducible refine (number_t _).mono ?_); rintro e w' ⟨rfl, rfl⟩)
          | (go_at_call 32; (with_reducible refine (number_f _).mono ?_); rintro e w' ⟨rfl, rfl⟩)
          | (go_at_call 29; (with_reducible refine (same_alive _).mono ?_); rintro e w4 ⟨rfl, hb4⟩))
        go_ret
        exact ⟨ret_bool (by simp), bthen (bthen (bthen hb1 hb2) hb3) hb4⟩
    · rw [num, if_neg (fun h => hs h.1)] at h3
      have hne : ((a.size : Int) == b.size) = false := by simp; omega
      have H3 := Lib.hid h3
      clear hs h3 hlt
      go_enter Try.func11, Try.ntmps11
      go_wp2_with (first
        | (go_at_call 35; (with_reducible refine (H1.out _).mono ?_); rintro e w1 ⟨rfl, hb1⟩)
        | (go_at_call 36; (with_reducible refine (H2.out _).mono ?_); rintro e w2 ⟨rfl, hb2⟩)
        | (go_at_call 34; (with_reducible refine (H3.out _).mono ?_); rintro e w3 ⟨rfl, hb3⟩)
        | (go_at_call 32; (with_reducible refine (number_t _).mono ?_); rintro e w' ⟨rfl, rfl⟩)
        | (go_at_call 32; (with_reducible refine (number_f _).mono ?_); rintro e w' ⟨rfl, rfl⟩)
        | (go_at_call 29; (with_reducible refine (same_alive _).mono ?_); rintro e w4 ⟨rfl, hb4⟩))
      go_ret
      exact ⟨ret_bool (by simp), bthen (bthen (bthen hb1 hb2) hb3) hb4⟩

set_option maxHeartbeats 400000 in
theorem same_tells_big (a b : ByteArray) (h : 5000 < a.size ∨ (a.size ≤ 5000 ∧ 5000 < b.size)) (ha : a.size ≤ 9223372036854775807) (hb : b.size ≤ 9223372036854775807) (w : World) :
    Calls Try.prog 11 #[.string a, .string b] w fun e w' => e = .returned (.bool true) ∧ Below w.heap.size w w' := by
  rcases h with h | ⟨h1, h2⟩
  all_goals
    go_enter Try.func11, Try.ntmps11
    go_wp2_with (go_at_call 29; (with_reducible refine (same_alive _).mono ?_); rintro e w4 ⟨rfl, hb4⟩)
    go_ret
    exact ⟨rfl, hb4⟩
theorem same_tells_any (a b : ByteArray) (ha : a.size ≤ maxLen) (hb : b.size ≤ maxLen) (w : World) :
    Calls Try.prog 11 #[.string a, .string b] w fun e w' => e = .returned (.bool true) ∧ Below w.heap.size w w' := by
  by_cases h : a.size ≤ 5000 ∧ b.size ≤ 5000
  · exact same_tells a b h.1 h.2 w
  · exact same_tells_big a b (by omega) ha hb w

set_option maxRecDepth 100000 in
theorem sameTells_lifted (os : Os) (started : os.Started) (H : Type) (enc : TypeId × Value → H) :
    ReturnsInHanded {} Try.checked os 11 .any (Rows.sameTellsSpec.pre6 enc Try.prog Try.f11 [] false) (Rows.sameTellsSpec.post enc Try.prog Try.f11 false true false false) := by
  refine LawKit.lifted (C := Try.checked) (tb := 4) own started (by kernel_rfl) Try.func11
    (ChangeSpec.witness6 (enc := enc) (C := Try.checked) false ⟨#[], #[.string ⟨#[]⟩, .string ⟨#[]⟩], []⟩ 8 (by kernel_rfl) (by kernel_rfl) (by kernel_rfl) (by kernel_rfl))
    laidOut (by kernel_rfl) rfl (fun ds h => by match ds, h with | [_, _], _ => rfl) rfl Try.underlying4 ?_
  intro W base args ds ps hval0 hA0 hlt hsz
  have hval : ∀ (j : Nat) t v, Try.f11.params[j]? = some t → args[j]? = some v → Value.okWide Try.prog W .any base t v := hval0
  have hA : DataW.TrodAll enc Try.prog W 0 (fun _ => true) true Try.f11.params.toList args.toList ds ps := hA0
  rw [Try.params11] at hA hval
  clear hval0 hA0
  obtain ⟨v0, vs0, d0, ds0, p0, q0, hargs, rfl, rfl, t0, r0⟩ := trodAll_cons hA
  obtain ⟨v1, vs1, d1, ds1, p1, q1, rfl, rfl, rfl, t1, r1⟩ := trodAll_cons r0
  obtain ⟨rfl, rfl, rfl⟩ := trodAll_nil r1
  obtain rfl : args = #[v0, v1] := by cases args; simp_all
  obtain ⟨a, rfl, -, -, w_a⟩ := Go.ChangeMaps.open_string Try.underlying9 (hval 0 _ v0 rfl rfl) t0
  obtain ⟨b, rfl, -, -, w_b⟩ := Go.ChangeMaps.open_string Try.underlying9 (hval 1 _ v1 rfl rfl) t1
  exact same_tells_any a b w_a w_b W

theorem sameTells_holds : Rows.SameTellsSaid :=
  OpenClaim.holds_of_wide 11 Try.f11 rfl rfl rfl rfl rfl rfl rfl ⟨rfl, rfl, rfl, rfl, rfl⟩ rfl rfl rfl rfl rfl (by kernel_rfl) Try.func11 (by kernel_rfl)
    (of_decide_eq_true (by kernel_rfl)) (by unfold Func.isWrapper; first | (rw [if_pos (by decide +kernel)]; kernel_rfl) | (rw [if_neg (by decide +kernel)]; exact ⟨rfl, rfl⟩))
    (fun os started H enc _ => sameTells_lifted os started H enc)
#print axioms sameTells_holds

set_option maxHeartbeats 1600000 in
theorem same_three (a b : ByteArray) (ha : a.size ≤ 5000) (hab : a.size = b.size) (w : World) :
    Calls Try.prog 10 #[.string a, .string b] w fun e w' => e = .returned (.bool true) ∧ Below w.heap.size w w' := by
  have hm : ∀ n : Nat, n ≤ 5000 → n ≤ maxLen := fun n h => by unfold maxLen; omega
  have h1 := bit_any a b (hm _ ha) (hm _ (by omega))
  have h2 := less_any a b (by omega) (by omega)
  have h3 := less_any b a (by omega) (by omega)
  rw [num_congr (show (a.size = b.size ∧ Op.bytesLess a.data.toList b.data.toList = true) ↔ Op.bytesLess a.data.toList b.data.toList = true from ⟨fun h => h.2, fun h => ⟨hab, h⟩⟩)] at h2
  rw [num_congr (show (b.size = a.size ∧ Op.bytesLess b.data.toList a.data.toList = true) ↔ Op.bytesLess b.data.toList a.data.toList = true from ⟨fun h => h.2, fun h => ⟨hab.symm, h⟩⟩)] at h3
  have h4 := fun c => choose_any c a b (by omega) (by omega)
  simp only [chooseV, if_pos hab] at h4
  have hne : ((b.size : Int) == a.size) = true := by simp [hab]
  have hne' : ((b.size : Int) != a.size) = false := by simp [hab]
  by_cases hE : a.data.toList = b.data.toList
  · obtain rfl := bytes_inj hE
    rw [num, if_pos rfl] at h1
    rw [bytesLess_irrefl, num, if_neg (by simp)] at h2 h3
    have h5 := h4 1
    simp only [show (1 : Int) % 2 = 1 from rfl, show ((1 : Int) = 0) = False from by simp, if_false] at h5
    have H1 := Lib.hid h1
    have H2 := Lib.hid h2
    have H5 := Lib.hid h5
    clear h1 h2 h3 h4 h5 hE hab hm
    go_enter Try.func10, Try.ntmps10
    go_upto_region 3 with (fail)
    refine wp_region_seq (fun w' => Below w.heap.size w w') (Below.refl _ _) ?_
    have HK : Hid (Keeps (fun w' => Below w.heap.size w w')) := Lib.hid fun _ _ h hb => bthen h hb
    repeat (first
      | (refine text_skip (by rfl) ?_; simp only [Act.put, List.setIfInBounds_toArray, List.set_cons_zero, List.set_cons_succ])
      | (refine text_pure (v := ?_) (by rfl) (fun wx hS => ?_) ?_; rotate_left; (go_simp; with_reducible exact rfl); simp only [Act.put, List.setIfInBounds_toArray, List.set_cons_zero, List.set_cons_succ])
      | (refine text_call (v := ?_) (f := ?_) (args := ?_) (by rfl) (fun wx hS => ?_) (fun wx hS => ?_) ?_; rotate_left 3; (go_simp; constructor <;> with_reducible rfl)
         (first
           | with_reducible exact meets HK.out H1.out wx hS
           | with_reducible exact meets HK.out H2.out wx hS
           | with_reducible exact meets HK.out H5.out wx hS
           | with_reducible exact meets HK.out same_alive wx hS)
         simp only [Act.put, List.setIfInBounds_toArray, List.set_cons_zero, List.set_cons_succ]))
    refine text_nil (fun wx hS => ?_)
    go_wp2
    go_ret
    exact ⟨ret_bool (by first | (simp; done) | (simp <;> rfl)), hS⟩
  · rw [num, if_neg hE] at h1
    have h5 := h4 0
    simp only [show (0 : Int) % 2 = 0 from rfl, if_true] at h5
    have htri : (Op.bytesLess a.data.toList b.data.toList = true ∧ Op.bytesLess b.data.toList a.data.toList = false) ∨ (Op.bytesLess a.data.toList b.data.toList = false ∧ Op.bytesLess b.data.toList a.data.toList = true) :=
      bytesLess_three _ _ (by simpa using hab) hE
    have H1 := Lib.hid h1
    have H5 := Lib.hid h5
    clear h1 h4 h5 hE hab hm
    rcases htri with ⟨e1, e2⟩ | ⟨e1, e2⟩
    all_goals
      rw [e1] at h2
      rw [e2] at h3
      simp only [num, if_true, Bool.false_eq_true, if_false] at h2 h3
      have H2 := Lib.hid h2
      have H3 := Lib.hid h3
      clear h2 h3 e1 e2
      go_enter Try.func10, Try.ntmps10
      go_upto_region 3 with (fail)
      refine wp_region_seq (fun w' => Below w.heap.size w w') (Below.refl _ _) ?_
      have HK : Hid (Keeps (fun w' => Below w.heap.size w w')) := Lib.hid fun _ _ h hb => bthen h hb
      repeat (first
        | (refine text_skip (by rfl) ?_; simp only [Act.put, List.setIfInBounds_toArray, List.set_cons_zero, List.set_cons_succ])
        | (refine text_pure (v := ?_) (by rfl) (fun wx hS => ?_) ?_; rotate_left; (go_simp; with_reducible exact rfl); simp only [Act.put, List.setIfInBounds_toArray, List.set_cons_zero, List.set_cons_succ])
        | (refine text_call (v := ?_) (f := ?_) (args := ?_) (by rfl) (fun wx hS => ?_) (fun wx hS => ?_) ?_; rotate_left 3; (go_simp; constructor <;> with_reducible rfl)
           (first
             | with_reducible exact meets HK.out H1.out wx hS
             | with_reducible exact meets HK.out H2.out wx hS
             | with_reducible exact meets HK.out H3.out wx hS
             | with_reducible exact meets HK.out H5.out wx hS
             | with_reducible exact meets HK.out same_alive wx hS)
           simp only [Act.put, List.setIfInBounds_toArray, List.set_cons_zero, List.set_cons_succ]))
      refine text_nil (fun wx hS => ?_)
      go_wp2
      go_ret
      exact ⟨ret_bool (by first | (simp; done) | (simp <;> rfl)), hS⟩

set_option maxHeartbeats 400000 in
theorem same_three_else (a b : ByteArray) (h : 5000 < a.size ∨ (a.size ≤ 5000 ∧ a.size ≠ b.size)) (_ha : a.size ≤ 9223372036854775807) (_hb : b.size ≤ 9223372036854775807) (w : World) :
    Calls Try.prog 10 #[.string a, .string b] w fun e w' => e = .returned (.bool true) ∧ Below w.heap.size w w' := by
  rcases h with h | ⟨h1, h2⟩
  · go_enter Try.func10, Try.ntmps10
    go_wp2_with (go_at_call 29; (with_reducible refine (same_alive _).mono ?_); rintro e w4 ⟨rfl, hb4⟩)
    go_ret
    exact ⟨rfl, hb4⟩
  · have hne : ((b.size : Int) == a.size) = false := by simp; omega
    have hne' : ((b.size : Int) != a.size) = true := by simp; omega
    clear h2
    go_enter Try.func10, Try.ntmps10
    go_wp2_with (go_at_call 29; (with_reducible refine (same_alive _).mono ?_); rintro e w4 ⟨rfl, hb4⟩)
    go_ret
    exact ⟨rfl, hb4⟩
theorem same_three_any (a b : ByteArray) (ha : a.size ≤ maxLen) (hb : b.size ≤ maxLen) (w : World) :
    Calls Try.prog 10 #[.string a, .string b] w fun e w' => e = .returned (.bool true) ∧ Below w.heap.size w w' := by
  by_cases h : a.size ≤ 5000 ∧ a.size = b.size
  · exact same_three a b h.1 h.2 w
  · exact same_three_else a b (by omega) ha hb w

set_option maxRecDepth 100000 in
theorem sameThree_lifted (os : Os) (started : os.Started) (H : Type) (enc : TypeId × Value → H) :
    ReturnsInHanded {} Try.checked os 10 .any (Rows.sameThreeSpec.pre6 enc Try.prog Try.f10 [] false) (Rows.sameThreeSpec.post enc Try.prog Try.f10 false true false false) := by
  refine LawKit.lifted (C := Try.checked) (tb := 4) own started (by kernel_rfl) Try.func10
    (ChangeSpec.witness6 (enc := enc) (C := Try.checked) false ⟨#[], #[.string ⟨#[]⟩, .string ⟨#[]⟩], []⟩ 8 (by kernel_rfl) (by kernel_rfl) (by kernel_rfl) (by kernel_rfl))
    laidOut (by kernel_rfl) rfl (fun ds h => by match ds, h with | [_, _], _ => rfl) rfl Try.underlying4 ?_
  intro W base args ds ps hval0 hA0 hlt hsz
  have hval : ∀ (j : Nat) t v, Try.f10.params[j]? = some t → args[j]? = some v → Value.okWide Try.prog W .any base t v := hval0
  have hA : DataW.TrodAll enc Try.prog W 0 (fun _ => true) true Try.f10.params.toList args.toList ds ps := hA0
  rw [Try.params10] at hA hval
  clear hval0 hA0
  obtain ⟨v0, vs0, d0, ds0, p0, q0, hargs, rfl, rfl, t0, r0⟩ := trodAll_cons hA
  obtain ⟨v1, vs1, d1, ds1, p1, q1, rfl, rfl, rfl, t1, r1⟩ := trodAll_cons r0
  obtain ⟨rfl, rfl, rfl⟩ := trodAll_nil r1
  obtain rfl : args = #[v0, v1] := by cases args; simp_all
  obtain ⟨a, rfl, -, -, w_a⟩ := Go.ChangeMaps.open_string Try.underlying9 (hval 0 _ v0 rfl rfl) t0
  obtain ⟨b, rfl, -, -, w_b⟩ := Go.ChangeMaps.open_string Try.underlying9 (hval 1 _ v1 rfl rfl) t1
  exact same_three_any a b w_a w_b W

theorem sameThree_holds : Rows.SameThreeSaid :=
  OpenClaim.holds_of_wide 10 Try.f10 rfl rfl rfl rfl rfl rfl rfl ⟨rfl, rfl, rfl, rfl, rfl⟩ rfl rfl rfl rfl rfl (by kernel_rfl) Try.func10 (by kernel_rfl)
    (of_decide_eq_true (by kernel_rfl)) (by unfold Func.isWrapper; first | (rw [if_pos (by decide +kernel)]; kernel_rfl) | (rw [if_neg (by decide +kernel)]; exact ⟨rfl, rfl⟩))
    (fun os started H enc _ => sameThree_lifted os started H enc)
#print axioms sameThree_holds

set_option maxHeartbeats 1600000 in
theorem same_chooses (bit : Int) (a b : ByteArray) (ha : a.size ≤ 5000) (hb : b.size ≤ 5000) (w : World) :
    Calls Try.prog 9 #[.int .i64 bit, .string a, .string b] w fun e w' => e = .returned (.bool true) ∧ Below w.heap.size w w' := by
  have hm : ∀ n : Nat, n ≤ 5000 → n ≤ maxLen := fun n h => by unfold maxLen; omega
  have h1 := choose_any bit a b (by omega) (by omega)
  have h2 := any_any a (hm _ ha)
  have h3 := noughts_any a.size (by omega)
  have hbit := and1_i64 bit
  have hz : (a.toList == (⟨(List.replicate a.size (0 : UInt8)).toArray⟩ : ByteArray).toList) = decide (∀ c ∈ a.data.toList, c = 0) := by
    rw [← data_eq, ← data_eq, Bool.eq_iff_iff]
    simp only [beq_iff_eq, decide_eq_true_eq]
    constructor
    · intro h c hc
      rw [h] at hc
      exact (List.mem_replicate.1 (show c ∈ List.replicate a.size 0 from hc)).2
    · intro h
      exact List.eq_replicate_iff.2 ⟨by simp, h⟩
  generalize (⟨(List.replicate a.size (0 : UInt8)).toArray⟩ : ByteArray) = nt at *
  clear hm
  have H3 := Lib.hid h3
  clear h3
  by_cases hZ : ∀ c ∈ a.data.toList, c = 0
  all_goals
    first
      | (rw [if_pos hZ] at h2; rw [decide_eq_true hZ] at hz)
      | (rw [if_neg hZ] at h2; rw [decide_eq_false hZ] at hz)
    have H2 := Lib.hid h2
    clear h2 hZ
    by_cases hab : a.size = b.size
    · have hne : ((a.size : Int) != b.size) = false := by simp [hab]
      rcases (show bit % 2 = 0 ∨ bit % 2 = 1 by omega) with hb2 | hb2
      all_goals
        simp only [chooseV, if_pos hab, hb2, if_true, show ((1 : Int) = 0) = False from by simp, if_false] at h1
        have hbit' := hbit.trans hb2
        have H1 := Lib.hid h1
        clear h1 hbit hab hb2
        go_enter Try.func9, Try.ntmps9
        go_upto_region 8 with (fail)
        refine wp_region_seq (fun w' => Below w.heap.size w w') (Below.refl _ _) ?_
        have HK : Hid (Keeps (fun w' => Below w.heap.size w w')) := Lib.hid fun _ _ h hb => bthen h hb
        repeat (first
          | (refine text_skip (by rfl) ?_; simp only [Act.put, List.setIfInBounds_toArray, List.set_cons_zero, List.set_cons_succ])
          | (refine text_pure (v := ?_) (by rfl) (fun wx hS => ?_) ?_; rotate_left; (go_simp; with_reducible exact rfl); simp only [Act.put, List.setIfInBounds_toArray, List.set_cons_zero, List.set_cons_succ])
          | (refine text_call (v := ?_) (f := ?_) (args := ?_) (by rfl) (fun wx hS => ?_) (fun wx hS => ?_) ?_; rotate_left 3; (go_simp; constructor <;> with_reducible rfl)
             (first
               | with_reducible exact meets HK.out H1.out wx hS
               | with_reducible exact meets HK.out H2.out wx hS
               | with_reducible exact meets HK.out H3.out wx hS
               | with_reducible exact meetsEq number_t wx hS
               | with_reducible exact meetsEq number_f wx hS
               | with_reducible exact meets HK.out same_alive wx hS)
             simp only [Act.put, List.setIfInBounds_toArray, List.set_cons_zero, List.set_cons_succ]))
        refine text_nil (fun wx hS => ?_)
        go_wp2
        go_ret
        exact ⟨ret_bool (by simp), hS⟩
    · have hne : ((a.size : Int) != b.size) = true := by simp; omega
      simp only [chooseV, if_neg hab] at h1
      have H1 := Lib.hid h1
      have hb2 : bits .and .i64 bit 1 = 0 ∨ bits .and .i64 bit 1 = 1 := by omega
      clear h1 hbit hab
      rcases hb2 with hb2 | hb2
      all_goals
        go_enter Try.func9, Try.ntmps9
        go_upto_region 8 with (fail)
        refine wp_region_seq (fun w' => Below w.heap.size w w') (Below.refl _ _) ?_
        have HK : Hid (Keeps (fun w' => Below w.heap.size w w')) := Lib.hid fun _ _ h hb => bthen h hb
        repeat (first
          | (refine text_skip (by rfl) ?_; simp only [Act.put, List.setIfInBounds_toArray, List.set_cons_zero, List.set_cons_succ])
          | (refine text_pure (v := ?_) (by rfl) (fun wx hS => ?_) ?_; rotate_left; (go_simp; with_reducible exact rfl); simp only [Act.put, List.setIfInBounds_toArray, List.set_cons_zero, List.set_cons_succ])
          | (refine text_call (v := ?_) (f := ?_) (args := ?_) (by rfl) (fun wx hS => ?_) (fun wx hS => ?_) ?_; rotate_left 3; (go_simp; constructor <;> with_reducible rfl)
             (first
               | with_reducible exact meets HK.out H1.out wx hS
               | with_reducible exact meets HK.out H2.out wx hS
               | with_reducible exact meets HK.out H3.out wx hS
               | with_reducible exact meetsEq number_t wx hS
               | with_reducible exact meetsEq number_f wx hS
               | with_reducible exact meets HK.out same_alive wx hS)
             simp only [Act.put, List.setIfInBounds_toArray, List.set_cons_zero, List.set_cons_succ]))
        refine text_nil (fun wx hS => ?_)
        go_wp2
        go_ret
        exact ⟨ret_bool (by simp), hS⟩

set_option maxHeartbeats 400000 in
theorem same_chooses_big (bit : Int) (a b : ByteArray) (h : 5000 < a.size ∨ (a.size ≤ 5000 ∧ 5000 < b.size)) (_ha : a.size ≤ 9223372036854775807) (_hb : b.size ≤ 9223372036854775807) (w : World) :
    Calls Try.prog 9 #[.int .i64 bit, .string a, .string b] w fun e w' => e = .returned (.bool true) ∧ Below w.heap.size w w' := by
  rcases h with h | ⟨h1, h2⟩
  all_goals
    go_enter Try.func9, Try.ntmps9
    go_wp2_with (go_at_call 29; (with_reducible refine (same_alive _).mono ?_); rintro e w4 ⟨rfl, hb4⟩)
    go_ret
    exact ⟨rfl, hb4⟩
theorem same_chooses_any (bit : Int) (a b : ByteArray) (ha : a.size ≤ maxLen) (hb : b.size ≤ maxLen) (w : World) :
    Calls Try.prog 9 #[.int .i64 bit, .string a, .string b] w fun e w' => e = .returned (.bool true) ∧ Below w.heap.size w w' := by
  by_cases h : a.size ≤ 5000 ∧ b.size ≤ 5000
  · exact same_chooses bit a b h.1 h.2 w
  · exact same_chooses_big bit a b (by omega) ha hb w

set_option maxRecDepth 100000 in
theorem sameChooses_lifted (os : Os) (started : os.Started) (H : Type) (enc : TypeId × Value → H) :
    ReturnsInHanded {} Try.checked os 9 .any (Rows.sameChoosesSpec.pre6 enc Try.prog Try.f9 [] false) (Rows.sameChoosesSpec.post enc Try.prog Try.f9 false true false false) := by
  refine LawKit.lifted (C := Try.checked) (tb := 4) own started (by kernel_rfl) Try.func9
    (ChangeSpec.witness6 (enc := enc) (C := Try.checked) false ⟨#[], #[.int .i64 0, .string ⟨#[]⟩, .string ⟨#[]⟩], []⟩ 8 (by kernel_rfl) (by kernel_rfl) (by kernel_rfl) (by kernel_rfl))
    laidOut (by kernel_rfl) rfl (fun ds h => by match ds, h with | [_, _, _], _ => rfl) rfl Try.underlying4 ?_
  intro W base args ds ps hval0 hA0 hlt hsz
  have hval : ∀ (j : Nat) t v, Try.f9.params[j]? = some t → args[j]? = some v → Value.okWide Try.prog W .any base t v := hval0
  have hA : DataW.TrodAll enc Try.prog W 0 (fun _ => true) true Try.f9.params.toList args.toList ds ps := hA0
  rw [Try.params9] at hA hval
  clear hval0 hA0
  obtain ⟨v0, vs0, d0, ds0, p0, q0, hargs, rfl, rfl, t0, r0⟩ := trodAll_cons hA
  obtain ⟨v1, vs1, d1, ds1, p1, q1, rfl, rfl, rfl, t1, r1⟩ := trodAll_cons r0
  obtain ⟨v2, vs2, d2, ds2, p2, q2, rfl, rfl, rfl, t2, r2⟩ := trodAll_cons r1
  obtain ⟨rfl, rfl, rfl⟩ := trodAll_nil r2
  obtain rfl : args = #[v0, v1, v2] := by cases args; simp_all
  obtain ⟨bit, rfl, -, -, w_bit⟩ := open_int Try.underlying3 (hval 0 _ v0 rfl rfl) t0
  obtain ⟨a, rfl, -, -, w_a⟩ := Go.ChangeMaps.open_string Try.underlying9 (hval 1 _ v1 rfl rfl) t1
  obtain ⟨b, rfl, -, -, w_b⟩ := Go.ChangeMaps.open_string Try.underlying9 (hval 2 _ v2 rfl rfl) t2
  exact same_chooses_any bit a b w_a w_b W

theorem sameChooses_holds : Rows.SameChoosesSaid :=
  OpenClaim.holds_of_wide 9 Try.f9 rfl rfl rfl rfl rfl rfl rfl ⟨rfl, rfl, rfl, rfl, rfl⟩ rfl rfl rfl rfl rfl (by kernel_rfl) Try.func9 (by kernel_rfl)
    (of_decide_eq_true (by kernel_rfl)) (by unfold Func.isWrapper; first | (rw [if_pos (by decide +kernel)]; kernel_rfl) | (rw [if_neg (by decide +kernel)]; exact ⟨rfl, rfl⟩))
    (fun os started H enc _ => sameChooses_lifted os started H enc)
#print axioms sameChooses_holds

end Go.Proofs.Ytdjlagjdbehafaa

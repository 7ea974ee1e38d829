/-
  CustodySplits returns true for every secret, every two numbers, every noise and every byte, and leaves its arguments as they were. No condition.
-/
import Derived.Test.YtbblolggcgonmaaShLaw
import Derived.Test.YtbblolggcgonmaaCustodyOver
namespace Go.Proofs.Ytbblolggcgonmaa
open Go.RowKit Go.ChangeShapes Go.WideShapes Go.ChangeAt

theorem own_sh {w : World} {base n : Nat} {e : TypeId} {v : Value} {L : List Sh} {xs : List Value} (h : w.ownsRow base e 2 v n xs) (hn : n = L.length) (hx : xs = (L.map shCells).flatten) : ∃ A cap, v = .slice A n cap ∧ ShAt w w.heap.size A L := by
  by_cases h0 : n = 0
  · obtain ⟨_, h2⟩ := h
    subst h0
    have hL : L = [] := List.eq_nil_of_length_eq_zero hn.symm
    subst hL
    rcases h2 with ⟨rfl, _⟩ | ⟨g, cp, cur, rfl, _⟩
    · exact ⟨none, 0, rfl, ⟨rfl, fun h => absurd h (by simp)⟩⟩
    · exact ⟨_, cp, rfl, ⟨rfl, fun h => absurd h (by simp)⟩⟩
  · have h' := h
    obtain ⟨g, cp, rfl, _, hgl⟩ := h.form (by omega)
    exact ⟨_, cp, rfl, ShAt.own h' hn hx hgl⟩

theorem no_cases {s n : ByteArray} {k m : Int} (h : ¬ SOk s n k m) : (s.size < 1 ∨ 64 < s.size) ∨ ((1 ≤ s.size ∧ s.size ≤ 64) ∧ (k < 1 ∨ (1 ≤ k ∧ m < k) ∨ (1 ≤ k ∧ k ≤ m ∧ 255 < m))) ∨ ((1 ≤ s.size ∧ s.size ≤ 64) ∧ 1 ≤ k ∧ k ≤ m ∧ m ≤ 255 ∧ (n.size : Int) ≠ (k - 1) * s.size) := by
  unfold SOk at h
  by_cases h1 : 1 ≤ s.size
  · by_cases h2 : s.size ≤ 64
    · by_cases h3 : 1 ≤ k
      · by_cases h4 : k ≤ m
        · by_cases h5 : m ≤ 255
          · exact .inr (.inr ⟨⟨h1, h2⟩, h3, h4, h5, fun h6 => h ⟨h1, h2, h3, h4, h5, h6⟩⟩)
          · exact .inr (.inl ⟨⟨h1, h2⟩, .inr (.inr ⟨h3, h4, by omega⟩)⟩)
        · exact .inr (.inl ⟨⟨h1, h2⟩, .inr (.inl ⟨h3, by omega⟩)⟩)
      · exact .inr (.inl ⟨⟨h1, h2⟩, .inl (by omega)⟩)
    · exact .inl (.inr (by omega))
  · exact .inl (.inl (by omega))

theorem split_no (s n : ByteArray) (k m : Int) (h : ¬ SOk s n k m) (hsm : s.size ≤ maxLen) (hnm : n.size ≤ maxLen) (w : World) :
    Calls Try.prog 24 #[.string s, .int .i64 k, .int .i64 m, .string n] w fun e w' => e = .returned (.tuple #[.slice none 0 0, .int .i64 2]) ∧ Below w.heap.size w w' := by
  rcases no_cases h with h | ⟨⟨h1, h2⟩, h⟩ | ⟨⟨h1, h2⟩, h3, h4, h5, h6⟩
  · exact split_short s n k m h hsm hnm w
  · exact split_odd s n k m h1 h2 h w
  · obtain ⟨k, rfl⟩ : ∃ q : Nat, k = q := ⟨k.toNat, by omega⟩
    refine split_noise s n k m h1 h2 (by omega) h4 h5 (fun e => h6 ?_) w
    rw [e, show (k : Int) - 1 = ((k - 1 : Nat) : Int) from by omega]; simp
theorem rsplit_no (s n : ByteArray) (k m : Int) (h : ¬ SOk s n k m) (hsm : s.size ≤ maxLen) (hnm : n.size ≤ maxLen) (w : World) :
    Calls Try.prog 25 #[.string s, .int .i64 k, .int .i64 m, .string n] w fun e w' => e = .returned (.tuple #[.slice none 0 0, .bool false]) ∧ Below w.heap.size w w' := by
  rcases no_cases h with h | ⟨⟨h1, h2⟩, h⟩ | ⟨⟨h1, h2⟩, h3, h4, h5, h6⟩
  · exact rsplit_short s n k m h hsm hnm w
  · exact rsplit_odd s n k m h1 h2 h w
  · obtain ⟨k, rfl⟩ : ∃ q : Nat, k = q := ⟨k.toNat, by omega⟩
    refine rsplit_noise s n k m h1 h2 (by omega) h4 h5 (fun e => h6 ?_) w
    rw [e, show (k : Int) - 1 = ((k - 1 : Nat) : Int) from by omega]; simp
theorem yes_nat {s n : ByteArray} {k m : Int} (h : SOk s n k m) : ∃ k' m' : Nat, k = k' ∧ m = m' ∧ 1 ≤ s.size ∧ s.size ≤ 64 ∧ 1 ≤ k' ∧ k' ≤ m' ∧ m' ≤ 255 ∧ n.size = (k' - 1) * s.size := by
  obtain ⟨h1, h2, h3, h4, h5, h6⟩ := h
  refine ⟨k.toNat, m.toNat, by omega, by omega, h1, h2, by omega, by omega, by omega, ?_⟩
  obtain ⟨k, rfl⟩ : ∃ q : Nat, k = q := ⟨k.toNat, by omega⟩
  rw [show (k : Int) - 1 = ((k - 1 : Nat) : Int) from by omega] at h6
  simpa using (by exact_mod_cast h6 : n.size = (k - 1) * s.size)
/-- The shares of a secret that may be split. -/
theorem split_yes (s n : ByteArray) (k m : Nat) (h1 : 1 ≤ s.size) (h2 : s.size ≤ 64) (hk : 1 ≤ k) (hkm : k ≤ m) (hm : m ≤ 255) (hn : n.size = (k - 1) * s.size) (w : World) :
    Calls Try.prog 24 #[.string s, .int .i64 (k : Int), .int .i64 (m : Int), .string n] w fun e w' => (∃ A cap, e = .returned (.tuple #[.slice A m cap, .int .i64 0]) ∧ ShAt w' w'.heap.size A (sharesL s.data.toList n.data.toList k m)) ∧ Below w.heap.size w w' :=
  (split_ok s n k m h1 h2 hk hkm hm hn w).mono fun e w' ⟨⟨v, he, ho⟩, hb⟩ => by
    obtain ⟨A, cap, rfl, hs⟩ := own_sh ho (sharesL_len _ _ _ _).symm (sharesV_eq _ _ _ _)
    exact ⟨⟨A, cap, he, hs⟩, hb⟩
theorem rsplit_yes (s n : ByteArray) (k m : Nat) (h1 : 1 ≤ s.size) (h2 : s.size ≤ 64) (hk : 1 ≤ k) (hkm : k ≤ m) (hm : m ≤ 255) (hn : n.size = (k - 1) * s.size) (w : World) :
    Calls Try.prog 25 #[.string s, .int .i64 (k : Int), .int .i64 (m : Int), .string n] w fun e w' => (∃ A cap, e = .returned (.tuple #[.slice A m cap, .bool true]) ∧ ShAt w' w'.heap.size A (sharesL s.data.toList n.data.toList k m)) ∧ Below w.heap.size w w' :=
  (rsplit_ok s n k m h1 h2 hk hkm hm hn w).mono fun e w' ⟨⟨v, he, ho⟩, hb⟩ => by
    obtain ⟨A, cap, rfl, hs⟩ := own_sh ho (sharesL_len _ _ _ _).symm (sharesV_eq _ _ _ _)
    exact ⟨⟨A, cap, he, hs⟩, hb⟩
theorem shares_sh (L : List Sh) (len : Nat) (hl : len = L.length) (A : Option Addr) (cap : Nat) (w : World) (hA : ShAt w w.heap.size A L) (hlen : len ≤ 1099511627776) :
    Calls Try.prog 27 #[.slice A len cap] w fun e w' => (∃ A cap, e = .returned (.slice A len cap) ∧ ShAt w' w'.heap.size A L) ∧ Below w.heap.size w w' := by
  subst hl
  exact (shares_any L A cap w hA hlen).mono fun e w' ⟨⟨v, he, ho⟩, hb⟩ => by
    obtain ⟨A, cap, rfl, hs⟩ := own_sh ho rfl rfl
    exact ⟨⟨A, cap, he, hs⟩, hb⟩
theorem same_sh (L : List Sh) (len : Nat) (hl : len = L.length) (A B : Option Addr) (ca cb : Nat) (w : World) (hA : ShAt w w.heap.size A L) (hB : ShAt w w.heap.size B L) (hlen : len ≤ 1099511627776) :
    Calls Try.prog 26 #[.slice A len ca, .slice B len cb] w fun e w' => e = .returned (.bool true) ∧ Below w.heap.size w w' := by
  subst hl
  exact same_eq L A B ca cb w hA hB hlen

theorem splits_guard (s n : ByteArray) (k m : Int) (a : UInt8) (h : 100 < s.size ∨ (s.size ≤ 100 ∧ 12 < m ∧ m ≤ 255) ∨ (s.size ≤ 100 ∧ ¬ (12 < m ∧ m ≤ 255) ∧ 1000 < n.size)) (w : World) :
    Calls Try.prog 6 #[.string s, .int .i64 k, .int .i64 m, .string n, bv a] w fun e w' => e = .returned (.bool true) ∧ Below w.heap.size w w' := by
  rcases h with h | ⟨h1, h2, h3⟩ | ⟨h1, h2, h3⟩
  · go_enter Try.func6, Try.ntmps6
    go_wp2_with (go_at_call 23; (with_reducible refine (custody_alive _).mono ?_); rintro e w5 ⟨rfl, hb5⟩)
    go_ret
    exact ⟨rfl, hb5⟩
  · go_enter Try.func6, Try.ntmps6
    go_wp2_with (go_at_call 23; (with_reducible refine (custody_alive _).mono ?_); rintro e w5 ⟨rfl, hb5⟩)
    go_ret
    exact ⟨rfl, hb5⟩
  · by_cases h12 : 12 < m
    · have h255 : 255 < m := by omega
      go_enter Try.func6, Try.ntmps6
      go_wp2_with (go_at_call 23; (with_reducible refine (custody_alive _).mono ?_); rintro e w5 ⟨rfl, hb5⟩)
      go_ret
      exact ⟨rfl, hb5⟩
    · go_enter Try.func6, Try.ntmps6
      go_wp2_with (go_at_call 23; (with_reducible refine (custody_alive _).mono ?_); rintro e w5 ⟨rfl, hb5⟩)
      go_ret
      exact ⟨rfl, hb5⟩

set_option maxRecDepth 100000 in
set_option maxHeartbeats 3200000 in
theorem splits_refused (s n : ByteArray) (k m : Int) (a : UInt8) (h1 : s.size ≤ 100) (h2 : m ≤ 12 ∨ 255 < m) (h3 : n.size ≤ 1000) (h : ¬ SOk s n k m) (w : World) :
    Calls Try.prog 6 #[.string s, .int .i64 k, .int .i64 m, .string n, bv a] w fun e w' => e = .returned (.bool true) ∧ Below w.heap.size w w' := by
  have HS := Lib.hid (split_no s n k m h (by unfold maxLen; omega) (by unfold maxLen; omega))
  have HR := Lib.hid (rsplit_no s n k m h (by unfold maxLen; omega) (by unfold maxLen; omega))
  have HH := Lib.hid (fun w => shares_sh [] 0 rfl none 0 w ⟨rfl, fun h => absurd h (by simp)⟩ (by omega))
  have HO := Lib.hid (fun w => over_any a w)
  have HRO := Lib.hid (fun w => rover_u8 a w)
  have hw1 := w64_byte a
  have hw2 := w64_byte (ov a)
  generalize ov a = b at *
  clear h
  rcases h2 with h2 | h2
  all_goals
    go_enter Try.func6, Try.ntmps6
    go_wp2_with fail
    refine (HS.out _).mono ?_; rintro e w1 ⟨rfl, hb1⟩
    go_wp2_with fail
    refine (HR.out _).mono ?_; rintro e w2 ⟨rfl, hb2⟩
    go_wp2_with fail
    refine (HH.out _).mono ?_; rintro e w3 ⟨⟨A, cap, rfl, hsh⟩, hb3⟩
    go_wp2_with fail
    refine (same_sh [] 0 rfl A none cap 0 _ hsh ⟨rfl, fun h => absurd h (by simp)⟩ (by omega)).mono ?_; rintro e w4 ⟨rfl, hb4⟩
    clear hsh
    go_wp2_with (first
      | (go_at_call 28; (with_reducible refine (HO.out _).mono ?_); rintro e w6 ⟨rfl, rfl⟩)
      | (go_at_call 29; (with_reducible refine (HRO.out _).mono ?_); rintro e w6 ⟨rfl, rfl⟩)
      | (go_at_call 23; (with_reducible refine (custody_alive _).mono ?_); rintro e w5 ⟨rfl, hb5⟩))
    go_ret
    exact ⟨rfl, bthen (bthen (bthen (bthen hb1 hb2) hb3) hb4) hb5⟩

set_option maxRecDepth 100000 in
set_option maxHeartbeats 3200000 in
theorem splits_done (s n : ByteArray) (k m : Nat) (a : UInt8) (h1 : 1 ≤ s.size) (h2 : s.size ≤ 64) (hk : 1 ≤ k) (hkm : k ≤ m) (hm : m ≤ 12) (hn : n.size = (k - 1) * s.size) (hn3 : n.size ≤ 1000) (w : World) :
    Calls Try.prog 6 #[.string s, .int .i64 (k : Int), .int .i64 (m : Int), .string n, bv a] w fun e w' => e = .returned (.bool true) ∧ Below w.heap.size w w' := by
  have HS := Lib.hid (split_yes s n k m h1 h2 hk hkm (by omega) hn)
  have HR := Lib.hid (rsplit_yes s n k m h1 h2 hk hkm (by omega) hn)
  obtain ⟨L, hL⟩ : ∃ L, L = sharesL s.data.toList n.data.toList k m := ⟨_, rfl⟩
  rw [← hL] at HS HR
  have hLl : m = L.length := by rw [hL, sharesL_len]
  have HH := Lib.hid (fun A cap w h => shares_sh L m hLl A cap w h (by omega))
  have HE := Lib.hid (fun A B ca cb w h h' => same_sh L m hLl A B ca cb w h h' (by omega))
  have HO := Lib.hid (fun w => over_any a w)
  have HRO := Lib.hid (fun w => rover_u8 a w)
  have hw1 := w64_byte a
  have hw2 := w64_byte (ov a)
  generalize ov a = b at *
  clear hL hLl hn
  go_enter Try.func6, Try.ntmps6
  go_wp2_with fail
  refine (HS.out _).mono ?_; rintro e w1 ⟨⟨A1, c1, rfl, s1⟩, hb1⟩
  have S1 := Lib.hid s1
  clear s1
  go_wp2_with fail
  refine (HR.out _).mono ?_; rintro e w2 ⟨⟨A2, c2, rfl, s2⟩, hb2⟩
  have S2 := Lib.hid s2
  clear s2
  go_wp2_with fail
  refine (HH.out _ _ _ (S1.out.up hb2 hb2.size)).mono ?_; rintro e w3 ⟨⟨A3, c3, rfl, s3⟩, hb3⟩
  have S3 := Lib.hid s3
  clear s3
  go_wp2_with fail
  refine (HE.out _ _ _ _ _ S3.out (S2.out.up hb3 hb3.size)).mono ?_; rintro e w4 ⟨rfl, hb4⟩
  go_wp2_with (first
    | (go_at_call 28; (with_reducible refine (HO.out _).mono ?_); rintro e w6 ⟨rfl, rfl⟩)
    | (go_at_call 29; (with_reducible refine (HRO.out _).mono ?_); rintro e w6 ⟨rfl, rfl⟩)
    | (go_at_call 23; (with_reducible refine (custody_alive _).mono ?_); rintro e w5 ⟨rfl, hb5⟩))
  go_ret
  exact ⟨rfl, bthen (bthen (bthen (bthen hb1 hb2) hb3) hb4) hb5⟩

theorem splits_any (s n : ByteArray) (k m a : Int) (ha : 0 ≤ a ∧ a ≤ 255) (w : World) :
    Calls Try.prog 6 #[.string s, .int .i64 k, .int .i64 m, .string n, .int .u8 a] w fun e w' => e = .returned (.bool true) ∧ Below w.heap.size w w' := by
  obtain ⟨a, rfl⟩ := byte_of ha
  by_cases h1 : s.size ≤ 100
  · by_cases h2 : 12 < m ∧ m ≤ 255
    · exact splits_guard s n k m a (.inr (.inl ⟨h1, h2⟩)) w
    · by_cases h3 : n.size ≤ 1000
      · by_cases h : SOk s n k m
        · have h5 : m ≤ 255 := h.2.2.2.2.1
          obtain ⟨k, m, rfl, rfl, p1, p2, p3, p4, p5, p6⟩ := yes_nat h
          exact splits_done s n k m a p1 p2 p3 p4 (by omega) p6 h3 w
        · exact splits_refused s n k m a h1 (by omega) h3 h w
      · exact splits_guard s n k m a (.inr (.inr ⟨h1, h2, by omega⟩)) w
  · exact splits_guard s n k m a (.inl (by omega)) w

set_option maxRecDepth 100000 in
theorem custodySplits_lifted (os : Os) (started : os.Started) (H : Type) (enc : TypeId × Value → H) :
    ReturnsInHanded {} Try.checked os 6 .any (Rows.custodySplitsSpec.pre6 enc Try.prog Try.f6 [] false) (Rows.custodySplitsSpec.post enc Try.prog Try.f6 false true false false) := by
  refine LawKit.lifted (C := Try.checked) (tb := 4) own started (by kernel_rfl) Try.func6
    (ChangeSpec.witness6 (enc := enc) (C := Try.checked) false ⟨#[], #[.string ⟨#[]⟩, .int .i64 0, .int .i64 0, .string ⟨#[]⟩, .int .u8 0], []⟩ 8 (by kernel_rfl) (by kernel_rfl) (by kernel_rfl) (by kernel_rfl))
    laidOut (by kernel_rfl) rfl (fun ds h => by match ds, h with | [_, _, _, _, _], _ => rfl) rfl Try.underlying4 ?_
  intro W base args ds ps hval0 hA0 hlt hsz
  have hval : ∀ (j : Nat) t v, Try.f6.params[j]? = some t → args[j]? = some v → Value.okWide Try.prog W .any base t v := hval0
  have hA : DataW.TrodAll enc Try.prog W 0 (fun _ => true) true Try.f6.params.toList args.toList ds ps := hA0
  rw [Try.params6] at hA hval
  clear hval0 hA0
  obtain ⟨v0, vs0, d0, ds0, p0, q0, hargs, rfl, rfl, t0, r0⟩ := trodAll_cons hA
  obtain ⟨v1, vs1, d1, ds1, p1, q1, rfl, rfl, rfl, t1, r1⟩ := trodAll_cons r0
  obtain ⟨v2, vs2, d2, ds2, p2, q2, rfl, rfl, rfl, t2, r2⟩ := trodAll_cons r1
  obtain ⟨v3, vs3, d3, ds3, p3, q3, rfl, rfl, rfl, t3, r3⟩ := trodAll_cons r2
  obtain ⟨v4, vs4, d4, ds4, p4, q4, rfl, rfl, rfl, t4, r4⟩ := trodAll_cons r3
  obtain ⟨rfl, rfl, rfl⟩ := trodAll_nil r4
  obtain rfl : args = #[v0, v1, v2, v3, v4] := by cases args; simp_all
  obtain ⟨s, rfl, -, -, w_s⟩ := Go.ChangeMaps.open_string Try.underlying9 (hval 0 _ v0 rfl rfl) t0
  obtain ⟨k, rfl, -, -, w_k⟩ := open_int Try.underlying3 (hval 1 _ v1 rfl rfl) t1
  obtain ⟨m, rfl, -, -, w_m⟩ := open_int Try.underlying3 (hval 2 _ v2 rfl rfl) t2
  obtain ⟨n, rfl, -, -, w_n⟩ := Go.ChangeMaps.open_string Try.underlying9 (hval 3 _ v3 rfl rfl) t3
  obtain ⟨a, rfl, -, -, w_a⟩ := open_int Try.underlying5 (hval 4 _ v4 rfl rfl) t4
  exact splits_any s n k m a (byte_bd w_a) W

theorem custodySplits_holds : Rows.CustodySplitsSaid :=
  OpenClaim.holds_of_wide 6 Try.f6 rfl rfl rfl rfl rfl rfl rfl ⟨rfl, rfl, rfl, rfl, rfl⟩ rfl rfl rfl rfl rfl (by kernel_rfl) Try.func6 (by kernel_rfl)
    (of_decide_eq_true (by kernel_rfl)) (by unfold Func.isWrapper; first | (rw [if_pos (by decide +kernel)]; kernel_rfl) | (rw [if_neg (by decide +kernel)]; exact ⟨rfl, rfl⟩))
    (fun os started H enc _ => custodySplits_lifted os started H enc)
#print axioms custodySplits_holds

end Go.Proofs.Ytbblolggcgonmaa

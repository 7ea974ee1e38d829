/-
  CustodyOnce returns true for every secret, every two numbers and every noise, and leaves its arguments as they were. No condition.
-/
import Derived.Test.YtbblolggcgonmaaNoise
namespace Go.Proofs.Ytbblolggcgonmaa
open Go.RowKit Go.ChangeShapes Go.WideShapes Go.ChangeAt

/-! ### The plain law -/
theorem sub_may (s n : ByteArray) (k m : Nat) (M : List Sh) (hsub : M.Sublist (sharesL s.data.toList n.data.toList k m)) (hM : 0 < M.length) (hm : m ≤ 255) (h1 : 1 ≤ s.size) (h2 : s.size ≤ 64) : MayOk M ∧ ∀ p ∈ M, p.2.size = s.size := by
  have hmem : ∀ p ∈ M, p.1 ≠ 0 ∧ p.2 = ⟨(shareL s.data.toList n.data.toList k p.1).toArray⟩ := fun p hp => sharesL_mem hm (hsub.subset hp)
  have hsz : ∀ p ∈ M, p.2.size = s.size := fun p hp => by
    rw [(hmem p hp).2]
    show (shareL s.data.toList n.data.toList k p.1).toArray.size = _
    simp [shareL]
  have hnd : (M.map (·.1)).Nodup := List.Nodup.sublist (hsub.map _) (sharesL_nodup hm)
  refine ⟨?_, hsz⟩
  cases M with
  | nil => simp at hM
  | cons p0 L' =>
    have e := hsz p0 (by simp)
    exact ⟨p0, L', rfl, by omega, by omega, fun p hp => ⟨(hmem p hp).1, by rw [hsz p hp, e]⟩, hnd⟩
theorem noiseL_get (L : List Sh) (n q j b : Nat) (hj : j < q) (hb : b < n) : (noiseL L n q)[j * n + b]? = (rowL L n (j + 1))[b]? := by
  induction q with
  | zero => omega
  | succ q ih =>
    rw [noiseL_succ, List.getElem?_append, noiseL_len]
    by_cases h : j = q
    · subst h
      rw [if_neg (by omega), show j * n + b - j * n = b from by omega]
    · have hl : j * n + b < q * n := by
        have : (j + 1) * n ≤ q * n := Nat.mul_le_mul_right _ (by omega)
        rw [Nat.add_mul, Nat.one_mul] at this
        omega
      rw [if_pos hl, ih (by omega)]
theorem colP_getD (s n : List UInt8) (size k i j : Nat) (h : j < k) : (colP s n size k i).getD j 0 = if j = 0 then s.getD i 0 else n.getD ((j - 1) * size + i) 0 := by
  rw [List.getD_eq_getElem?_getD, colP_get s n size k i j h]; rfl
theorem once_plain (s n : ByteArray) (k m : Nat) (M : List Sh) (hsub : M.Sublist (sharesL s.data.toList n.data.toList k m)) (hM : M.length + 1 = k) (hm : m ≤ 255) (h1 : 1 ≤ s.size) (hn : n.size = (k - 1) * s.size) :
    noiseL ((0, s) :: M) s.size M.length = n.data.toList := by
  have hmem : ∀ p ∈ M, p.1 ≠ 0 ∧ p.2 = ⟨(shareL s.data.toList n.data.toList k p.1).toArray⟩ := fun p hp => sharesL_mem hm (hsub.subset hp)
  have hnd : (M.map (·.1)).Nodup := List.Nodup.sublist (hsub.map _) (sharesL_nodup hm)
  have hnd0 : (places ((0, s) :: M)).Nodup := by
    unfold places
    rw [List.map_cons, List.nodup_cons]
    refine ⟨fun h => ?_, hnd⟩
    obtain ⟨p, hp, e⟩ := List.mem_map.mp h
    exact (hmem p hp).1 e
  have hlag : ∀ b, b < s.size → lagP (places ((0, s) :: M)) (col ((0, s) :: M) b) = colP s.data.toList n.data.toList s.size k b := by
    intro b hb
    have hl : b < s.data.toList.length := by simpa using hb
    refine lagP_eq hnd0 (by rw [colP_length]; unfold places; rw [List.length_map, List.length_cons]; exact hM.symm) ?_
    intro q hq
    unfold places at hq
    rw [List.length_map] at hq
    have hp := List.getElem?_eq_getElem hq
    unfold col places
    rw [getD_map' _ _ q _ hp, getD_map' _ _ q _ hp]
    cases q with
    | zero =>
      show s.data.toList.getD b 0 = pe _ 0
      have hg := colP_get s.data.toList n.data.toList s.size k b 0 (by omega)
      rw [if_pos rfl] at hg
      have := pe_drop hg 0
      rw [List.drop_zero] at this
      rw [this, zero_gm, UInt8.xor_zero]
    | succ q =>
      have hqm : q < M.length := by simpa using hq
      show (M[q]).2.data.toList.getD b 0 = pe _ (M[q]).1
      rw [(hmem M[q] (List.getElem_mem hqm)).2]
      show (shareL s.data.toList n.data.toList k M[q].1).getD b 0 = _
      unfold shareL
      rw [List.getD_eq_getElem?_getD, List.getElem?_map, List.getElem?_range hl]
      simp
  apply List.ext_getElem?
  intro t
  by_cases ht : t < M.length * s.size
  · have hq : t / s.size < M.length := Nat.div_lt_of_lt_mul (by rw [Nat.mul_comm]; exact ht)
    have hb : t % s.size < s.size := Nat.mod_lt _ (by omega)
    have e : t = t / s.size * s.size + t % s.size := by rw [Nat.mul_comm]; exact (Nat.div_add_mod t s.size).symm
    have hg := noiseL_get ((0, s) :: M) s.size M.length (t / s.size) (t % s.size) hq hb
    rw [← e] at hg
    rw [hg]
    unfold rowL
    rw [List.getElem?_map, List.getElem?_range hb]
    show some ((lagP (places ((0, s) :: M)) (col ((0, s) :: M) (t % s.size))).getD (t / s.size + 1) 0) = _
    rw [hlag _ hb, colP_getD _ _ _ _ _ _ (by rw [← hM]; exact Nat.succ_lt_succ hq), if_neg (Nat.succ_ne_zero _), Nat.add_sub_cancel, ← e, List.getD_eq_getElem?_getD]
    have htl : t < n.data.toList.length := by
      have : n.data.toList.length = n.size := by simp
      rw [this, hn, ← hM, Nat.add_sub_cancel]; exact ht
    rw [List.getElem?_eq_getElem htl]
    rfl
  · rw [List.getElem?_eq_none (by rw [noiseL_len]; omega), List.getElem?_eq_none]
    have : n.data.toList.length = n.size := by simp
    rw [this, hn, ← hM, Nat.add_sub_cancel]; omega

/-! ### The walk -/
theorem once_refused (s n : ByteArray) (k m : Int) (h : ¬ SOk s n k m) (hsm : s.size ≤ maxLen) (hnm : n.size ≤ maxLen) (w : World) :
    Calls Try.prog 11 #[.string s, .int .i64 k, .int .i64 m, .string n] w fun e w' => e = .returned (.bool true) ∧ Below w.heap.size w w' := by
  have HS := Lib.hid (split_no s n k m h hsm hnm)
  clear h
  go_enter Try.func11, Try.ntmps11
  go_wp2_with fail
  refine (HS.out _).mono ?_; rintro e w1 ⟨rfl, hb1⟩
  go_wp2_with (go_at_call 23; (with_reducible refine (custody_alive _).mono ?_); rintro e w5 ⟨rfl, hb5⟩)
  go_ret
  exact ⟨rfl, bthen hb1 hb5⟩
theorem once_many (s n : ByteArray) (k m : Nat) (h1 : 1 ≤ s.size) (h2 : s.size ≤ 64) (hk : 1 ≤ k) (hkm : k ≤ m) (hm : m ≤ 255) (hn : n.size = (k - 1) * s.size) (h12 : 12 < m ∨ (m ≤ 12 ∧ k < 2)) (w : World) :
    Calls Try.prog 11 #[.string s, .int .i64 (k : Int), .int .i64 (m : Int), .string n] w fun e w' => e = .returned (.bool true) ∧ Below w.heap.size w w' := by
  have HS := Lib.hid (split_yes s n k m h1 h2 hk hkm hm hn)
  clear hn
  rcases h12 with h12 | ⟨h12, h13⟩
  · have h12' : (12 : Int) < (m : Int) := by omega
    go_enter Try.func11, Try.ntmps11
    go_wp2_with fail
    refine (HS.out _).mono ?_; rintro e w1 ⟨⟨A1, c1, rfl, s1⟩, hb1⟩
    clear s1
    go_wp2_with (go_at_call 23; (with_reducible refine (custody_alive _).mono ?_); rintro e w5 ⟨rfl, hb5⟩)
    go_ret
    exact ⟨rfl, bthen hb1 hb5⟩
  · have h12' : ¬ (12 : Int) < (m : Int) := by omega
    have h13' : (k : Int) < 2 := by omega
    go_enter Try.func11, Try.ntmps11
    go_wp2_with fail
    refine (HS.out _).mono ?_; rintro e w1 ⟨⟨A1, c1, rfl, s1⟩, hb1⟩
    clear s1
    go_wp2_with (go_at_call 23; (with_reducible refine (custody_alive _).mono ?_); rintro e w5 ⟨rfl, hb5⟩)
    go_ret
    exact ⟨rfl, bthen hb1 hb5⟩

set_option maxRecDepth 100000 in
set_option maxHeartbeats 6400000 in
theorem once_done (s n : ByteArray) (k m : Nat) (h1 : 1 ≤ s.size) (h2 : s.size ≤ 64) (hk : 2 ≤ k) (hkm : k ≤ m) (hm : m ≤ 12) (hn : n.size = (k - 1) * s.size) (w : World) :
    Calls Try.prog 11 #[.string s, .int .i64 (k : Int), .int .i64 (m : Int), .string n] w fun e w' => e = .returned (.bool true) ∧ Below w.heap.size w w' := by
  have HS := Lib.hid (split_room s n k m h1 h2 (by omega) hkm (by omega) hn)
  obtain ⟨L, hL⟩ : ∃ L, L = sharesL s.data.toList n.data.toList k m := ⟨_, rfl⟩
  have hLl : L.length = m := by rw [hL, sharesL_len]
  have hdl : (L.drop (m - k + 1)).length = k - 1 := by rw [List.length_drop, hLl]; omega
  have hP : ∀ A cap w, ShAt w w.heap.size A (L.drop (m - k + 1)) → Calls Try.prog 35 #[.string s, .slice A (k - 1) cap] w fun e w' => e = .returned (.tuple #[.string n, .int .i64 0]) ∧ Below w.heap.size w w' := by
    intro A cap w hA
    have hs : (L.drop (m - k + 1)).Sublist (sharesL s.data.toList n.data.toList k m) := by rw [hL]; exact List.drop_sublist _ _
    obtain ⟨p1, p2⟩ := sub_may s n k m _ hs (by rw [hdl]; omega) (by omega) h1 h2
    have := noise_ok s _ A cap w hA (by rw [hdl]; omega) p1 p2
    rw [once_plain s n k m _ hs (by rw [hdl]; omega) (by omega) h1 hn, hdl] at this
    exact this
  rw [← hL] at HS
  have HP := Lib.hid hP
  clear hL hP hLl hn hdl
  have hkm2 : decide (m < k) = false := by simp; omega
  have hk2 : ¬ (k : Int) < 2 := by omega
  have hm12 : ¬ (12 : Int) < (m : Int) := by omega
  go_enter Try.func11, Try.ntmps11
  go_wp2_with fail
  refine (HS.out _).mono ?_; rintro e w1 ⟨⟨ad, c1, rfl, hc1, hc2, s1⟩, hb1⟩
  have hc1' : (m : Int) ≤ (c1 : Int) := by omega
  have S1 := Lib.hid s1
  clear s1
  go_wp2_with fail
  rw [show m - (m - k + 1) = k - 1 from by omega]
  refine (HP.out _ _ _ (ShAt.drop S1.out (m - k + 1))).mono ?_; rintro e w2 ⟨rfl, hb2⟩
  go_wp2_with (go_at_call 23; (with_reducible refine (custody_alive _).mono ?_); rintro e w5 ⟨rfl, hb5⟩)
  go_ret
  exact ⟨rfl, bthen (bthen hb1 hb2) hb5⟩

theorem once_any (s n : ByteArray) (k m : Int) (hsm : s.size ≤ maxLen) (hnm : n.size ≤ maxLen) (w : World) :
    Calls Try.prog 11 #[.string s, .int .i64 k, .int .i64 m, .string n] w fun e w' => e = .returned (.bool true) ∧ Below w.heap.size w w' := by
  by_cases h : SOk s n k m
  · obtain ⟨k, m, rfl, rfl, p1, p2, p3, p4, p5, p6⟩ := yes_nat h
    by_cases h12 : m ≤ 12
    · by_cases hk2 : 2 ≤ k
      · exact once_done s n k m p1 p2 hk2 p4 h12 p6 w
      · exact once_many s n k m p1 p2 p3 p4 p5 p6 (.inr ⟨h12, by omega⟩) w
    · exact once_many s n k m p1 p2 p3 p4 p5 p6 (.inl (by omega)) w
  · exact once_refused s n k m h hsm hnm w

set_option maxRecDepth 100000 in
theorem custodyOnce_lifted (os : Os) (started : os.Started) (H : Type) (enc : TypeId × Value → H) :
    ReturnsInHanded {} Try.checked os 11 .any (Rows.custodyOnceSpec.pre6 enc Try.prog Try.f11 [] false) (Rows.custodyOnceSpec.post enc Try.prog Try.f11 false true false false) := by
  refine LawKit.lifted (C := Try.checked) (tb := 4) own started (by kernel_rfl) Try.func11
    (ChangeSpec.witness6 (enc := enc) (C := Try.checked) false ⟨#[], #[.string ⟨#[]⟩, .int .i64 0, .int .i64 0, .string ⟨#[]⟩], []⟩ 8 (by kernel_rfl) (by kernel_rfl) (by kernel_rfl) (by kernel_rfl))
    laidOut (by kernel_rfl) rfl (fun ds h => by match ds, h with | [_, _, _, _], _ => rfl) rfl Try.underlying4 ?_
  intro W base args ds ps hval0 hA0 hlt hsz
  have hval : ∀ (j : Nat) t v, Try.f11.params[j]? = some t → args[j]? = some v → Value.okWide Try.prog W .any base t v := hval0
  have hA : DataW.TrodAll enc Try.prog W 0 (fun _ => true) true Try.f11.params.toList args.toList ds ps := hA0
  rw [Try.params11] at hA hval
  clear hval0 hA0
  obtain ⟨v0, vs0, d0, ds0, p0, q0, hargs, rfl, rfl, t0, r0⟩ := trodAll_cons hA
  obtain ⟨v1, vs1, d1, ds1, p1, q1, rfl, rfl, rfl, t1, r1⟩ := trodAll_cons r0
  obtain ⟨v2, vs2, d2, ds2, p2, q2, rfl, rfl, rfl, t2, r2⟩ := trodAll_cons r1
  obtain ⟨v3, vs3, d3, ds3, p3, q3, rfl, rfl, rfl, t3, r3⟩ := trodAll_cons r2
  obtain ⟨rfl, rfl, rfl⟩ := trodAll_nil r3
  obtain rfl : args = #[v0, v1, v2, v3] := by cases args; simp_all
  obtain ⟨s, rfl, -, -, w_s⟩ := Go.ChangeMaps.open_string Try.underlying9 (hval 0 _ v0 rfl rfl) t0
  obtain ⟨k, rfl, -, -, w_k⟩ := open_int Try.underlying3 (hval 1 _ v1 rfl rfl) t1
  obtain ⟨m, rfl, -, -, w_m⟩ := open_int Try.underlying3 (hval 2 _ v2 rfl rfl) t2
  obtain ⟨n, rfl, -, -, w_n⟩ := Go.ChangeMaps.open_string Try.underlying9 (hval 3 _ v3 rfl rfl) t3
  exact once_any s n k m w_s w_n W

theorem custodyOnce_holds : Rows.CustodyOnceSaid :=
  OpenClaim.holds_of_wide 11 Try.f11 rfl rfl rfl rfl rfl rfl rfl ⟨rfl, rfl, rfl, rfl, rfl⟩ rfl rfl rfl rfl rfl (by kernel_rfl) Try.func11 (by kernel_rfl)
    (of_decide_eq_true (by kernel_rfl)) (by unfold Func.isWrapper; first | (rw [if_pos (by decide +kernel)]; kernel_rfl) | (rw [if_neg (by decide +kernel)]; exact ⟨rfl, rfl⟩))
    (fun os started H enc _ => custodyOnce_lifted os started H enc)
#print axioms custodyOnce_holds

end Go.Proofs.Ytbblolggcgonmaa

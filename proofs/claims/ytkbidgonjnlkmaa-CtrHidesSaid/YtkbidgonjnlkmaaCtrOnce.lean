/-
  CtrOnce returns true for every key and every two counters. No condition.
-/
import Derived.Test.YtkbidgonjnlkmaaThree
import Derived.Test.YtkbidgonjnlkmaaEnc2
import Derived.Test.YtkbidgonjnlkmaaInv
import Derived.Test.YtkbidgonjnlkmaaLawKit
namespace Go.Proofs.Ytkbidgonjnlkmaa
open Go.RowKit Go.ChangeShapes Go.WideShapes Go.ChangeAt

/-- A counter's bytes. -/
def cntB (e s i : Nat) : List UInt8 := be 117 1 ++ (be 0 3 ++ (be e 4 ++ (be s 4 ++ (be i 4 ++ []))))
def inW (x : Int) : Prop := 0 ≤ x ∧ x < 4294967296
theorem cntB_len (e s i : Nat) : (cntB e s i).length = 16 := by simp [cntB, be_len]
theorem packO_pos {k : Nat} {n : Int} {L : List (Nat × Int)} {r : List UInt8} (h : 0 ≤ n ∧ n < 2 ^ (8 * k)) (hL : packO L = some r) : packO ((k, n) :: L) = some (be n.toNat k ++ r) := by
  rw [packO, if_pos h, hL]; rfl
theorem packO_neg {k : Nat} {n : Int} {L : List (Nat × Int)} (h : ¬ (0 ≤ n ∧ n < 2 ^ (8 * k))) : packO ((k, n) :: L) = none := by rw [packO, if_neg h]
theorem packO_none {k : Nat} {n : Int} {L : List (Nat × Int)} (hL : packO L = none) : packO ((k, n) :: L) = none := by
  rw [packO, hL]
  split <;> rfl
theorem cnt_good (e s i : Nat) (he : e < 4294967296) (hs : s < 4294967296) (hi : i < 4294967296) : packR (cntL e s i) = .tuple #[.string ⟨(cntB e s i).toArray⟩, .int .i64 0] := by
  have h : packO (cntL e s i) = some (cntB e s i) := packO_pos (by decide) (packO_pos (by decide) (packO_pos (by omega) (packO_pos (by omega) (packO_pos (by omega) rfl))))
  rw [packR, h]
theorem cnt_bad (e s i : Int) (h : ¬ (inW e ∧ inW s ∧ inW i)) : packR (cntL e s i) = .tuple #[.string ⟨#[]⟩, .int .i64 2] := by
  have h : packO (cntL e s i) = none := by
    unfold cntL
    unfold inW at h
    refine packO_none (packO_none ?_)
    by_cases h1 : 0 ≤ e ∧ e < 4294967296
    · refine packO_none ?_
      by_cases h2 : 0 ≤ s ∧ s < 4294967296
      · exact packO_none (packO_neg fun h3 => h ⟨h1, h2, h3⟩)
      · exact packO_neg h2
    · exact packO_neg h1
  rw [packR, h]
/-- Bytes tell their number. -/
theorem be_mod (m n : Nat) : ∀ k : Nat, be m k = be n k → m % 2 ^ (8 * k) = n % 2 ^ (8 * k)
  | 0, _ => by simp [Nat.mod_one]
  | k + 1, h => by
    simp only [be, List.cons.injEq] at h
    have ih := be_mod m n k h.2
    have h1 : m / 2 ^ (8 * k) % 256 = n / 2 ^ (8 * k) % 256 := by
      have := congrArg UInt8.toNat h.1
      rwa [UInt8.toNat_ofNat', UInt8.toNat_ofNat'] at this
    rw [show 8 * (k + 1) = 8 * k + 8 from by omega, Nat.pow_add, Nat.mod_mul, Nat.mod_mul, ih, show (2 : Nat) ^ 8 = 256 from rfl, h1]
theorem be_inj (k m n : Nat) (h : be m k = be n k) (hm : m < 2 ^ (8 * k)) (hn : n < 2 ^ (8 * k)) : m = n := by
  have := be_mod m n k h
  rwa [Nat.mod_eq_of_lt hm, Nat.mod_eq_of_lt hn] at this
theorem cntB_inj {e s i e' s' i' : Nat} (h : cntB e s i = cntB e' s' i') (he : e < 4294967296) (hs : s < 4294967296) (hi : i < 4294967296) (he' : e' < 4294967296) (hs' : s' < 4294967296) (hi' : i' < 4294967296) : e = e' ∧ s = s' ∧ i = i' := by
  unfold cntB at h
  have h1 := (List.append_inj h (by simp [be_len])).2
  have h2 := (List.append_inj h1 (by simp [be_len])).2
  obtain ⟨q1, h3⟩ := List.append_inj h2 (by simp [be_len])
  obtain ⟨q2, h4⟩ := List.append_inj h3 (by simp [be_len])
  obtain ⟨q3, _⟩ := List.append_inj h4 (by simp [be_len])
  exact ⟨be_inj 4 _ _ q1 he he', be_inj 4 _ _ q2 hs hs', be_inj 4 _ _ q3 hi hi'⟩

theorem ctr_alive (w : World) : Calls Try.prog 28 #[] w fun e w' => e = .returned (.bool true) ∧ Below w.heap.size w w' := by
  have HC := Lib.hid (count_any 1 2 3 (by decide) (by decide) (by decide))
  have e : packR (cntL 1 2 3) = .tuple #[.string ⟨#[117, 0, 0, 0, 0, 0, 0, 1, 0, 0, 0, 2, 0, 0, 0, 3]⟩, .int .i64 0] := by
    have := cnt_good 1 2 3 (by decide) (by decide) (by decide)
    exact this.trans rfl
  rw [e] at HC
  clear e
  go_enter Try.func28, Try.ntmps28
  go_wp2_with (go_at_call 27; (with_reducible refine (HC.out _).mono ?_); rintro e w1 ⟨rfl, hb1⟩)
  go_ret
  exact ⟨rfl, hb1⟩
theorem encV_inj {K X Y : List UInt8} (hX : X.length = 16) (hY : Y.length = 16) (h : encV K X = encV K Y) : X = Y := by
  rw [← dec_enc K X hX, h, dec_enc K Y hY]

set_option maxHeartbeats 1600000 in
theorem once_good (key : ByteArray) (a b c x y z : Int) (S T : List UInt8) (q : Bool) (hS : S.length = 16) (hT : T.length = 16) (hq : S = T ↔ q = true)
    (hEQ : ∀ w, (Op.equalIn 10000 48 (.agg #[.int .i64 a, .int .i64 b, .int .i64 c]) (.agg #[.int .i64 x, .int .i64 y, .int .i64 z])).run Try.prog w = .ok q w)
    (H1 : Hid (∀ w, Calls Try.prog 27 #[.int .i64 a, .int .i64 b, .int .i64 c] w fun r w' => r = .returned (.tuple #[.string ⟨S.toArray⟩, .int .i64 0]) ∧ Below w.heap.size w w'))
    (H2 : Hid (∀ w, Calls Try.prog 27 #[.int .i64 x, .int .i64 y, .int .i64 z] w fun r w' => r = .returned (.tuple #[.string ⟨T.toArray⟩, .int .i64 0]) ∧ Below w.heap.size w w')) (w : World) :
    Calls Try.prog 8 #[.string key, .agg #[.int .i64 a, .int .i64 b, .int .i64 c], .agg #[.int .i64 x, .int .i64 y, .int .i64 z]] w fun e w' => e = .returned (.bool true) ∧ Below w.heap.size w w' := by
  obtain ⟨X, f, H3, Y, H4, hXY⟩ : ∃ (X : ByteArray) (f : Int), Hid (∀ w, Calls Try.prog 13 #[.string key, .string ⟨S.toArray⟩] w fun e w' => e = .returned (.tuple #[.string X, .int .i64 f]) ∧ Below w.heap.size w w') ∧
      ∃ Y : ByteArray, Hid (∀ w, Calls Try.prog 13 #[.string key, .string ⟨T.toArray⟩] w fun e w' => e = .returned (.tuple #[.string Y, .int .i64 f]) ∧ Below w.heap.size w w') ∧ (f = 0 → (X.toList == Y.toList) = q) := by
    by_cases hk : key.size = 16
    · refine ⟨_, 0, Lib.hid fun w => encrypt_any key ⟨S.toArray⟩ hk (by simp [ByteArray.size, hS]) w, _, Lib.hid fun w => encrypt_any key ⟨T.toArray⟩ hk (by simp [ByteArray.size, hT]) w, fun _ => ?_⟩
      rw [ByteArray.toList_eq, ByteArray.toList_eq, Bool.eq_iff_iff, beq_iff_eq, ← hq]
      simp only
      exact ⟨fun h => encV_inj hS hT h, fun h => by rw [h]⟩
    · exact ⟨_, 2, Lib.hid fun w => encrypt_bad key ⟨S.toArray⟩ (.inl hk) w, _, Lib.hid fun w => encrypt_bad key ⟨T.toArray⟩ (.inl hk) w, fun h => by cases h⟩
  have hst : ((⟨S.toArray⟩ : ByteArray).toList == (⟨T.toArray⟩ : ByteArray).toList) = q := by
    rw [ByteArray.toList_eq, ByteArray.toList_eq, Bool.eq_iff_iff, beq_iff_eq, ← hq]
  generalize (⟨S.toArray⟩ : ByteArray) = U at *
  generalize (⟨T.toArray⟩ : ByteArray) = V at *
  clear hS hT hq
  go_enter Try.func8, Try.ntmps8
  go_wp2_with fail
  refine (H1.out _).mono ?_
  rintro e w1 ⟨rfl, hb1⟩
  have b1 : Below w.heap.size w w1 := bthen ((bnew w _).alloc (by simp) _) hb1
  have hz1 := hb1.size
  simp at hz1
  have k0 : w1.cell? ⟨w.heap.size + 1, 0, none⟩ = some (.int .i64 x) := (hb1.cell (p := ⟨w.heap.size + 1, 0, none⟩) (by simp)).trans (by simp [go_sem])
  have k1 : w1.cell? ⟨w.heap.size + 1, 1, none⟩ = some (.int .i64 y) := (hb1.cell (p := ⟨w.heap.size + 1, 1, none⟩) (by simp)).trans (by simp [go_sem])
  have k2 : w1.cell? ⟨w.heap.size + 1, 2, none⟩ = some (.int .i64 z) := (hb1.cell (p := ⟨w.heap.size + 1, 2, none⟩) (by simp)).trans (by simp [go_sem])
  have r1 : w1.heap[w.heap.size]? = some (.cells #[.int .i64 a, .int .i64 b, .int .i64 c] 48 (0, 0)) := (hb1.block _ (by simp; omega)).trans (((bnew _ _).block _ (by simp)).trans (heap_alloc_new w _))
  have r2 : w1.heap[w.heap.size + 1]? = some (.cells #[.int .i64 x, .int .i64 y, .int .i64 z] 48 (0, 0)) := (hb1.block _ (by simp)).trans (by
    have := heap_alloc_new (w.alloc (.cells #[.int .i64 a, .int .i64 b, .int .i64 c] 48)) (.cells #[.int .i64 x, .int .i64 y, .int .i64 z] 48)
    simpa using this)
  clear hb1
  go_wp2_with fail
  refine (H2.out _).mono ?_
  rintro e w2 ⟨rfl, hb2⟩
  have b2 := bthen b1 hb2
  rw [← hb2.block _ (by omega)] at r1 r2
  have hz2 := hb2.size
  clear hb2
  go_wp2_with fail
  refine (H3.out _).mono ?_
  rintro e w3 ⟨rfl, hb3⟩
  have b3 := bthen b2 hb3
  rw [← hb3.block _ (by omega)] at r1 r2
  have hz3 := hb3.size
  clear hb3
  go_wp2_with fail
  refine (H4.out _).mono ?_
  rintro e w4 ⟨rfl, hb4⟩
  have b4 := bthen b3 hb4
  rw [← hb4.block _ (by omega)] at r1 r2
  clear hb4 k0 k1 k2
  have c0 : w4.cell? ⟨w.heap.size, 0, none⟩ = some (.int .i64 a) := by rw [cell_of_row _ _ _ _ _ _ r1]; rfl
  have c1 : w4.cell? ⟨w.heap.size, 1, none⟩ = some (.int .i64 b) := by rw [cell_of_row _ _ _ _ _ _ r1]; rfl
  have c2 : w4.cell? ⟨w.heap.size, 2, none⟩ = some (.int .i64 c) := by rw [cell_of_row _ _ _ _ _ _ r1]; rfl
  have d0 : w4.cell? ⟨w.heap.size + 1, 0, none⟩ = some (.int .i64 x) := by rw [cell_of_row _ _ _ _ _ _ r2]; rfl
  have d1 : w4.cell? ⟨w.heap.size + 1, 1, none⟩ = some (.int .i64 y) := by rw [cell_of_row _ _ _ _ _ _ r2]; rfl
  have d2 : w4.cell? ⟨w.heap.size + 1, 2, none⟩ = some (.int .i64 z) := by rw [cell_of_row _ _ _ _ _ _ r2]; rfl
  clear r1 r2
  by_cases hf : f = 0
  · subst hf
    have hxy := hXY rfl
    go_wp2_with (go_at_call 28; (with_reducible refine (ctr_alive _).mono ?_); rintro e w5 ⟨rfl, hb5⟩)
    go_ret
    exact ⟨rfl, bthen b4 hb5⟩
  · have hf2 : (f == 0) = false := by simp [hf]
    go_wp2_with (go_at_call 28; (with_reducible refine (ctr_alive _).mono ?_); rintro e w5 ⟨rfl, hb5⟩)
    go_ret
    exact ⟨rfl, bthen b4 hb5⟩
set_option maxHeartbeats 1600000 in
theorem once_law (key : ByteArray) (a b c x y z : Int) (ha : a ≤ 9223372036854775807) (hb : b ≤ 9223372036854775807) (hc : c ≤ 9223372036854775807) (hx : x ≤ 9223372036854775807) (hy : y ≤ 9223372036854775807) (hz : z ≤ 9223372036854775807) (w : World) :
    Calls Try.prog 8 #[.string key, V3 a b c, V3 x y z] w fun e w' => e = .returned (.bool true) ∧ Below w.heap.size w w' := by
  have H1 := Lib.hid (count_any a b c ha hb hc)
  have H2 := Lib.hid (count_any x y z hx hy hz)
  unfold V3
  by_cases h1 : inW a ∧ inW b ∧ inW c
  · by_cases h2 : inW x ∧ inW y ∧ inW z
    · obtain ⟨an, rfl⟩ : ∃ n : Nat, a = (n : Int) := ⟨a.toNat, by have := h1.1.1; omega⟩
      obtain ⟨bn, rfl⟩ : ∃ n : Nat, b = (n : Int) := ⟨b.toNat, by have := h1.2.1.1; omega⟩
      obtain ⟨cn, rfl⟩ : ∃ n : Nat, c = (n : Int) := ⟨c.toNat, by have := h1.2.2.1; omega⟩
      obtain ⟨xn, rfl⟩ : ∃ n : Nat, x = (n : Int) := ⟨x.toNat, by have := h2.1.1; omega⟩
      obtain ⟨yn, rfl⟩ : ∃ n : Nat, y = (n : Int) := ⟨y.toNat, by have := h2.2.1.1; omega⟩
      obtain ⟨zn, rfl⟩ : ∃ n : Nat, z = (n : Int) := ⟨z.toNat, by have := h2.2.2.1; omega⟩
      unfold inW at h1 h2
      rw [cnt_good an bn cn (by omega) (by omega) (by omega)] at H1
      rw [cnt_good xn yn zn (by omega) (by omega) (by omega)] at H2
      have hEQ := fun w => eq_three an bn cn xn yn zn w
      unfold V3 at hEQ
      obtain ⟨q, hq⟩ : ∃ q, q = decide ((an : Int) = xn ∧ (bn : Int) = yn ∧ (cn : Int) = zn) := ⟨_, rfl⟩
      have hcq : (cntB an bn cn = cntB xn yn zn) ↔ q = true := by
        rw [hq, decide_eq_true_iff]
        refine ⟨fun h => ?_, fun h => ?_⟩
        · obtain ⟨e1, e2, e3⟩ := cntB_inj h (by omega) (by omega) (by omega) (by omega) (by omega) (by omega)
          exact ⟨by omega, by omega, by omega⟩
        · obtain ⟨e1, e2, e3⟩ := h
          rw [show an = xn from by omega, show bn = yn from by omega, show cn = zn from by omega]
      rw [← hq] at hEQ
      have hsS := cntB_len an bn cn
      have hsT := cntB_len xn yn zn
      generalize cntB an bn cn = S at *
      generalize cntB xn yn zn = T at *
      refine once_good key an bn cn xn yn zn S T q hsS hsT hcq hEQ H1 H2 w
    · rw [cnt_bad x y z h2] at H2
      obtain ⟨an, rfl⟩ : ∃ n : Nat, a = (n : Int) := ⟨a.toNat, by have := h1.1.1; omega⟩
      obtain ⟨bn, rfl⟩ : ∃ n : Nat, b = (n : Int) := ⟨b.toNat, by have := h1.2.1.1; omega⟩
      obtain ⟨cn, rfl⟩ : ∃ n : Nat, c = (n : Int) := ⟨c.toNat, by have := h1.2.2.1; omega⟩
      unfold inW at h1
      rw [cnt_good an bn cn (by omega) (by omega) (by omega)] at H1
      generalize (⟨(cntB an bn cn).toArray⟩ : ByteArray) = V at H1
      clear h1 h2
      go_enter Try.func8, Try.ntmps8
      go_wp2_with fail
      refine (H1.out _).mono ?_
      rintro e w1 ⟨rfl, hb1⟩
      have b1 : Below w.heap.size w w1 := bthen ((bnew w _).alloc (by simp) _) hb1
      have hz1 := hb1.size
      simp at hz1
      have k0 : w1.cell? ⟨w.heap.size + 1, 0, none⟩ = some (.int .i64 x) := (hb1.cell (p := ⟨w.heap.size + 1, 0, none⟩) (by simp)).trans (by simp [go_sem])
      have k1 : w1.cell? ⟨w.heap.size + 1, 1, none⟩ = some (.int .i64 y) := (hb1.cell (p := ⟨w.heap.size + 1, 1, none⟩) (by simp)).trans (by simp [go_sem])
      have k2 : w1.cell? ⟨w.heap.size + 1, 2, none⟩ = some (.int .i64 z) := (hb1.cell (p := ⟨w.heap.size + 1, 2, none⟩) (by simp)).trans (by simp [go_sem])
      clear hb1
      go_wp2_with fail
      refine (H2.out _).mono ?_
      rintro e w2 ⟨rfl, hb2⟩
      have b2 := bthen b1 hb2
      go_wp2_with (go_at_call 28; (with_reducible refine (ctr_alive _).mono ?_); rintro e w3 ⟨rfl, hb3⟩)
      go_ret
      exact ⟨rfl, bthen b2 hb3⟩
  · rw [cnt_bad a b c h1] at H1
    clear h1
    obtain ⟨V, f, hV⟩ : ∃ V f, packR (cntL x y z) = .tuple #[.string V, .int .i64 f] := by unfold packR; split <;> exact ⟨_, _, rfl⟩
    rw [hV] at H2
    clear hV
    go_enter Try.func8, Try.ntmps8
    go_wp2_with fail
    refine (H1.out _).mono ?_
    rintro e w1 ⟨rfl, hb1⟩
    have b1 : Below w.heap.size w w1 := bthen ((bnew w _).alloc (by simp) _) hb1
    have hz1 := hb1.size
    simp at hz1
    have k0 : w1.cell? ⟨w.heap.size + 1, 0, none⟩ = some (.int .i64 x) := (hb1.cell (p := ⟨w.heap.size + 1, 0, none⟩) (by simp)).trans (by simp [go_sem])
    have k1 : w1.cell? ⟨w.heap.size + 1, 1, none⟩ = some (.int .i64 y) := (hb1.cell (p := ⟨w.heap.size + 1, 1, none⟩) (by simp)).trans (by simp [go_sem])
    have k2 : w1.cell? ⟨w.heap.size + 1, 2, none⟩ = some (.int .i64 z) := (hb1.cell (p := ⟨w.heap.size + 1, 2, none⟩) (by simp)).trans (by simp [go_sem])
    clear hb1
    go_wp2_with fail
    refine (H2.out _).mono ?_
    rintro e w2 ⟨rfl, hb2⟩
    have b2 := bthen b1 hb2
    go_wp2_with (go_at_call 28; (with_reducible refine (ctr_alive _).mono ?_); rintro e w3 ⟨rfl, hb3⟩)
    go_ret
    exact ⟨rfl, bthen b2 hb3⟩

theorem once_open {H : Type} {enc : TypeId × Value → H} {w : World} {b0 b1 c0 c1 : Nat} {s0 s1 : Nat → Bool} {h0 h1 : Bool} {r : Reach} {u v : Value} {d0 d1 : DataW H} {p0 p1 : List MemPlace} (key : ByteArray)
    (hu : Value.okWide Try.prog w r b0 48 u) (tu : DataW.Trod enc Try.prog w c0 s0 h0 48 u d0 p0) (hv : Value.okWide Try.prog w r b1 48 v) (tv : DataW.Trod enc Try.prog w c1 s1 h1 48 v d1 p1) :
    Calls Try.prog 8 #[.string key, u, v] w fun e w' => e = .returned (.bool true) ∧ Below w.heap.size w w' := by
  obtain ⟨a, b, c, rfl, wa, wb, wc⟩ := open_three hu tu
  obtain ⟨x, y, z, rfl, wx, wy, wz⟩ := open_three hv tv
  exact once_law key a b c x y z (int_bd wa).2 (int_bd wb).2 (int_bd wc).2 (int_bd wx).2 (int_bd wy).2 (int_bd wz).2 w

set_option maxRecDepth 100000 in
theorem ctrOnce_lifted (os : Os) (started : os.Started) (H : Type) (enc : TypeId × Value → H) :
    ReturnsInHanded {} Try.checked os 8 .any (Rows.ctrOnceSpec.pre6 enc Try.prog Try.f8 [] false) (Rows.ctrOnceSpec.post enc Try.prog Try.f8 false true false false) := by
  refine LawKit.lifted (C := Try.checked) (tb := 4) own started (by kernel_rfl) Try.func8
    (ChangeSpec.witness6 (enc := enc) (C := Try.checked) false ⟨#[], #[.string ⟨#[]⟩, V3 0 0 0, V3 0 0 0], []⟩ 8 (by kernel_rfl) (by kernel_rfl) (by kernel_rfl) (by kernel_rfl))
    laidOut (by kernel_rfl) rfl (fun ds h => by match ds, h with | [_, _, _], _ => rfl) rfl Try.underlying4 ?_
  intro W base args ds ps hval0 hA0 hlt hsz
  have hval : ∀ (j : Nat) t v, Try.f8.params[j]? = some t → args[j]? = some v → Value.okWide Try.prog W .any base t v := hval0
  have hA : DataW.TrodAll enc Try.prog W 0 (fun _ => true) true Try.f8.params.toList args.toList ds ps := hA0
  rw [Try.params8] at hA hval
  clear hval0 hA0
  obtain ⟨v0, vs0, d0, ds0, p0, q0, hargs, rfl, rfl, t0, r0⟩ := trodAll_cons hA
  obtain ⟨v1, vs1, d1, ds1, p1, q1, rfl, rfl, rfl, t1, r1⟩ := trodAll_cons r0
  obtain ⟨v2, vs2, d2, ds2, p2, q2, rfl, rfl, rfl, t2, r2⟩ := trodAll_cons r1
  obtain ⟨rfl, rfl, rfl⟩ := trodAll_nil r2
  obtain rfl : args = #[v0, v1, v2] := by cases args; simp_all
  obtain ⟨key, rfl, -, -, w_key⟩ := Go.ChangeMaps.open_string Try.underlying9 (hval 0 _ v0 rfl rfl) t0
  have hv1 := hval 1 _ v1 rfl rfl
  have hv2 := hval 2 _ v2 rfl rfl
  exact once_open key hv1 t1 hv2 t2

theorem ctrOnce_holds : Rows.CtrOnceSaid :=
  OpenClaim.holds_of_wide 8 Try.f8 rfl rfl rfl rfl rfl rfl rfl ⟨rfl, rfl, rfl, rfl, rfl⟩ rfl rfl rfl rfl rfl (by kernel_rfl) Try.func8 (by kernel_rfl)
    (of_decide_eq_true (by kernel_rfl)) (by unfold Func.isWrapper; first | (rw [if_pos (by decide +kernel)]; kernel_rfl) | (rw [if_neg (by decide +kernel)]; exact ⟨rfl, rfl⟩))
    (fun os started H enc _ => ctrOnce_lifted os started H enc)
#print axioms ctrOnce_holds

end Go.Proofs.Ytkbidgonjnlkmaa

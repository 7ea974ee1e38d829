/-
  The contract of the reference's number. No condition. Own work.
-/
import Derived.Test.YtdpfcjhhabcheaaNum
namespace Go.Proofs.Ytdpfcjhhabcheaa
open Go Go.RowKit

theorem rev_ind {α : Type} {P : List α → Prop} (h0 : P []) (h1 : ∀ m c, P m → P (m ++ [c])) : ∀ l, P l := fun l => by
  have : ∀ r : List α, P r.reverse := fun r => by
    induction r with
    | nil => exact h0
    | cons c r ih => rw [List.reverse_cons]; exact h1 _ _ ih
  have h := this l.reverse
  rwa [List.reverse_reverse] at h
theorem digC_bd {c : UInt8} (h : digC c = true) : 48 ≤ c.toNat ∧ c.toNat ≤ 57 := by
  unfold digC at h
  simpa using h
/-- A numeral begins with no nought, but that of nought. -/
theorem dd_head (k : Nat) : ∀ n, n < 10 ^ (k + 1) → 0 < n → ∃ c r, Lib.decDigits n = c :: r ∧ c ≠ 48 := by
  induction k with
  | zero =>
    intro n h h0
    refine ⟨_, [], dd_small n (by omega), fun e => ?_⟩
    have := congrArg UInt8.toNat e
    rw [UInt8.toNat_ofNat'] at this
    simp at this
    omega
  | succ k ih =>
    intro n h h0
    by_cases h10 : n < 10
    · refine ⟨_, [], dd_small n h10, fun e => ?_⟩
      have := congrArg UInt8.toNat e
      rw [UInt8.toNat_ofNat'] at this
      simp at this
      omega
    · obtain ⟨c, r, hc, hne⟩ := ih (n / 10) (by rw [Nat.div_lt_iff_lt_mul (by omega), ← Nat.pow_succ]; exact h) (by omega)
      exact ⟨c, r ++ Lib.decDigits (n % 10), by rw [dd_big n h10, hc]; rfl, hne⟩
theorem valL_pos : ∀ (l : List UInt8), l.all digC = true → l ≠ [] → l.getD 0 0 ≠ 48 → 0 < valL l := by
  refine rev_ind (fun _ h => absurd rfl h) (fun m c ih => ?_)
  · intro ha _ hz
    rw [List.all_append, Bool.and_eq_true] at ha
    have hc := digC_bd (c := c) (by simpa using ha.2)
    rw [valL_snoc]
    by_cases hm : m = []
    · subst hm
      simp at hz
      have : c.toNat ≠ 48 := fun e => hz (UInt8.toNat_inj.1 (by rw [e]; rfl))
      omega
    · have : (m ++ [c]).getD 0 0 = m.getD 0 0 := by
        cases m with
        | nil => exact absurd rfl hm
        | cons a m => rfl
      rw [this] at hz
      have := ih ha.1 hm hz
      omega
/-- The numeral of what digits tell is these digits, if they do not begin with a nought. -/
theorem dd_val : ∀ (l : List UInt8), l.all digC = true → l ≠ [] → (l.length = 1 ∨ l.getD 0 0 ≠ 48) → Lib.decDigits (valL l) = l := by
  refine rev_ind (fun _ h => absurd rfl h) (fun m c ih => ?_)
  · intro ha _ hz
    rw [List.all_append, Bool.and_eq_true] at ha
    have hc := digC_bd (c := c) (by simpa using ha.2)
    have hcc : UInt8.ofNat (48 + (c.toNat - 48)) = c := UInt8.toNat_inj.1 (by rw [UInt8.toNat_ofNat']; omega)
    rw [valL_snoc]
    by_cases hm : m = []
    · subst hm
      show Lib.decDigits (10 * 0 + (c.toNat - 48)) = [c]
      rw [Nat.mul_zero, Nat.zero_add, dd_small _ (by omega), hcc]
    · have hl : (m ++ [c]).getD 0 0 = m.getD 0 0 := by
        cases m with
        | nil => exact absurd rfl hm
        | cons a m => rfl
      have hml : 0 < m.length := List.length_pos_iff.2 hm
      have hz2 : m.getD 0 0 ≠ 48 := by
        rcases hz with hz | hz
        · rw [List.length_append] at hz; simp only [List.length_cons, List.length_nil] at hz; omega
        · rwa [hl] at hz
      have hp := valL_pos m ha.1 hm hz2
      rw [dd_big _ (by omega), show (10 * valL m + (c.toNat - 48)) / 10 = valL m from by omega, show (10 * valL m + (c.toNat - 48)) % 10 = c.toNat - 48 from by omega, ih ha.1 hm (.inr hz2), dd_small _ (by omega), hcc]
theorem dd_val_no (l : List UInt8) (h13 : l.length ≤ 13) (ha : l.all digC = true) (h1 : 1 < l.length) (hz : l.getD 0 0 = 48) : Lib.decDigits (valL l) ≠ l := by
  intro e
  have hlt := valL_lt l.length l rfl ha
  have hlt2 : valL l < 10 ^ (12 + 1) := Nat.lt_of_lt_of_le hlt (Nat.pow_le_pow_right (by omega) (by omega))
  by_cases h0 : valL l = 0
  · rw [h0, dd_small 0 (by omega)] at e
    rw [← e] at h1
    simp at h1
  · obtain ⟨c, r, hc, hne⟩ := dd_head 12 (valL l) hlt2 (by omega)
    rw [hc] at e
    rw [← e] at hz
    exact hne (by simpa using hz)
def numR (l : List UInt8) : Int := match numO l with | some v => (v : Int) | none => -1
theorem numR_bad {l : List UInt8} (h : badL l ∨ 1099511627776 < valL l) : numR l = -1 := by unfold numR numO; rw [if_pos h]
theorem numR_ok {l : List UInt8} (h : ¬ (badL l ∨ 1099511627776 < valL l)) : numR l = (valL l : Int) := by unfold numR numO; rw [if_neg h]
set_option maxRecDepth 100000 in
set_option maxHeartbeats 3200000 in
theorem rnumber_any (s : ByteArray) (w : World) : Calls Try.prog 17 #[.string s] w fun e w' => e = .returned (.int .i64 (numR s.data.toList)) ∧ Below w.heap.size w w' := by
  obtain ⟨l, hl⟩ : ∃ l, l = s.data.toList := ⟨_, rfl⟩
  have hn : s.size = l.length := by rw [hl]; exact sz_list s
  have hidx : ∀ (i : Nat) (c : UInt8), l[i]? = some c → ∀ W, (Instr.index 9 (.string s) (.int .i64 (i : Int))).run Try.prog W = .ok (.int .u8 ((c.toNat : Nat) : Int)) W := fun i c h => str_idx s i c (by rw [← hl]; exact h)
  obtain ⟨n, hnn⟩ : ∃ n, n = l.length := ⟨_, rfl⟩
  have hsz : (s.size : Int) = (n : Int) := by omega
  have htl : s.toList = l := by rw [str_tl, hl]
  rw [← hl]
  by_cases h1 : n < 1
  · rw [numR_bad (.inl (.inl (by omega)))]
    have h1' : (n : Int) < 1 := by omega
    clear hl hidx hn hnn htl
    go_enter Try.func17, Try.ntmps17
    go_wp2_with fail
    go_ret
    exact ⟨rfl, Below.refl _ _⟩
  have h1' : ¬ (n : Int) < 1 := by omega
  by_cases h13 : 13 < n
  · rw [numR_bad (.inl (.inr (.inl (by omega))))]
    have h13' : (13 : Int) < (n : Int) := by omega
    clear hl hidx hn hnn htl
    go_enter Try.func17, Try.ntmps17
    go_wp2_with fail
    go_ret
    exact ⟨rfl, Below.refl _ _⟩
  have h13' : ¬ (13 : Int) < (n : Int) := by omega
  have HIX := Lib.hid hidx
  have HN := Lib.hid hnn
  have HTL := Lib.hid htl
  obtain ⟨V, hV⟩ : ∃ V, V = numR l := ⟨_, rfl⟩
  rw [← hV]
  have HV := Lib.hid hV
  clear hl hidx hn hnn htl hV
  go_enter Try.func17, Try.ntmps17
  go_wp2_with fail
  go_loopw [3, 4] (fun nv c wr => ∃ i : Nat, i ≤ n ∧ c = .int .i64 (i : Int) ∧ nv = .int .i64 ((valL (l.take i) : Nat) : Int) ∧ (l.take i).all digC = true ∧ w = wr) (fun _ c _ => n - (intOf c).toNat)
  case atStart => exact ⟨0, by omega, rfl, rfl, rfl, rfl⟩
  case round =>
    obtain ⟨i, hi, rfl, rfl, hall, rfl⟩ := hrel
    by_cases hik : i < n
    · have hii : (i : Int) < (n : Int) := by omega
      obtain ⟨c, hc⟩ : ∃ c, l[i]? = some c := ⟨_, List.getElem?_eq_getElem (by rw [← HN.out]; exact hik)⟩
      have hix := HIX.out i c hc
      have hT : l.take (i + 1) = l.take i ++ [c] := by rw [List.take_add_one, hc]; rfl
      have hlt := valL_lt i (l.take i) (by rw [List.length_take]; have := HN.out; omega) hall
      have hb : valL (l.take i) < 10000000000000 := Nat.lt_of_lt_of_le hlt (Nat.le_trans (Nat.pow_le_pow_right (n := 10) (by omega) (by omega : i ≤ 13)) (by decide))
      clear hlt
      have hcl := c.toNat_lt
      by_cases hdg : 48 ≤ c.toNat ∧ c.toNat ≤ 57
      · have g1 : ¬ ((c.toNat : Nat) : Int) < 48 := by omega
        have g2 : ¬ (57 : Int) < ((c.toNat : Nat) : Int) := by omega
        have hv : valL (l.take (i + 1)) = 10 * valL (l.take i) + (c.toNat - 48) := by rw [hT, valL_snoc]
        have hal : (l.take (i + 1)).all digC = true := by
          rw [hT, List.all_append, hall]
          unfold digC
          simp
          omega
        obtain ⟨m, hm⟩ : ∃ m, m = valL (l.take i) := ⟨_, rfl⟩
        rw [← hm] at hv hb ⊢
        obtain ⟨q, hq⟩ : ∃ q, q = 10 * m := ⟨_, rfl⟩
        have e1 : (10 : Int) * (m : Int) = (q : Int) := by omega
        have hq9 : q < 9223372036854775808 := by omega
        obtain ⟨r, hr⟩ : ∃ r, r = q + c.toNat := ⟨_, rfl⟩
        have hr9 : r < 9223372036854775808 := by omega
        have e7 : (q : Int) + ((c.toNat : Nat) : Int) = (r : Int) := by omega
        obtain ⟨t, ht⟩ : ∃ t, t = q + (c.toNat - 48) := ⟨_, rfl⟩
        have ht9 : t < 9223372036854775808 := by omega
        have e9 : (r : Int) - 48 = (t : Int) := by omega
        rw [← hq, ← ht] at hv
        have e2 : wrap64 (q : Int) = (q : Int) := w64n _ hq9
        have e8 : wrap64 (r : Int) = (r : Int) := w64n _ hr9
        have e10 : wrap64 (t : Int) = (t : Int) := w64n _ ht9
        have HEND : Hid (wrap64 (wrap64 (wrap64 (10 * (m : Int)) + ((c.toNat : Nat) : Int)) - 48) = (t : Int)) := Lib.hid (by rw [e1, e2, e7, e8, e9, e10])
        clear e1 e2 e7 e8 e9 e10 hcl hdg
        have HVV := Lib.hid hv
        have HAL := Lib.hid hal
        clear hv hal hm hq hr ht hc hT hb hall hq9 hr9 ht9
        go_wp2_with fail
        exact ⟨⟨i + 1, by omega, by go_num, by rw [HEND.out, HVV.out], HAL.out, by first | trivial | rfl⟩, by simp [intOf]; omega⟩
      · have hVb : V = -1 := by
          rw [HV.out, numR_bad (.inl (.inr (.inr (.inr ?_))))]
          rw [List.all_eq_false]
          refine ⟨c, List.mem_of_getElem? hc, ?_⟩
          unfold digC
          simp
          omega
        subst hVb
        clear HV hc hT hb hall
        by_cases hlo : c.toNat < 48
        · have g1 : ((c.toNat : Nat) : Int) < 48 := by omega
          go_wp2_with fail
          go_ret
          exact ⟨rfl, Below.refl _ _⟩
        · have g1 : ¬ ((c.toNat : Nat) : Int) < 48 := by omega
          have g2 : (57 : Int) < ((c.toNat : Nat) : Int) := by omega
          go_wp2_with fail
          go_ret
          exact ⟨rfl, Below.refl _ _⟩
    · have hi2 : i = n := by omega
      subst hi2
      rw [List.take_of_length_le (by rw [← HN.out]; exact Nat.le_refl _)] at hall ⊢
      by_cases hle : 1099511627776 < valL l
      · have hVb : V = -1 := by rw [HV.out, numR_bad (.inr hle)]
        have hle' : (1099511627776 : Int) < ((valL l : Nat) : Int) := by omega
        subst hVb
        clear HV hall
        go_wp2_with fail
        go_ret
        exact ⟨rfl, Below.refl _ _⟩
      · have hle' : ¬ (1099511627776 : Int) < ((valL l : Nat) : Int) := by omega
        have HD := Lib.hid (rdig (valL l) (by omega))
        have hne : l ≠ [] := fun e => by rw [e] at HN; have := HN.out; simp at this; omega
        have hdl : (decS (valL l)).toList = Lib.decDigits (valL l) := by rw [str_tl, decS]
        by_cases hz : 1 < l.length ∧ l.getD 0 0 = 48
        · have hVb : V = -1 := by rw [HV.out, numR_bad (.inl (.inr (.inr (.inl hz))))]
          have hdn := dd_val_no l (by have := HN.out; omega) hall hz.1 hz.2
          have hcmp : ((decS (valL l)).toList == s.toList) = false := by rw [hdl, HTL.out]; simpa using hdn
          have hcmp2 : ¬ (decS (valL l)).toList = s.toList := by rw [hdl, HTL.out]; exact hdn
          generalize decS (valL l) = D at *
          subst hVb
          clear HV hall hz hdn hdl hne hle
          go_wp2_with fail
          refine (HD.out _).mono ?_
          rintro e1 w1 ⟨rfl, hb1⟩
          go_wp2_with fail
          go_ret
          exact ⟨rfl, hb1⟩
        · have hbad : ¬ (badL l ∨ 1099511627776 < valL l) := by
            rintro (h | h)
            · unfold badL at h
              rcases h with h | h | h | h
              · exact hne (List.eq_nil_of_length_eq_zero h)
              · have := HN.out; omega
              · exact hz h
              · rw [hall] at h; cases h
            · exact hle h
          have hVb : V = ((valL l : Nat) : Int) := by rw [HV.out, numR_ok hbad]
          have hdn := dd_val l hall hne (by
            by_cases h2 : l.length = 1
            · exact .inl h2
            · refine .inr fun h3 => hz ⟨?_, h3⟩
              have := HN.out
              omega)
          have hcmp : ((decS (valL l)).toList == s.toList) = true := by rw [hdl, HTL.out, hdn]; simp
          have hcmp2 : (decS (valL l)).toList = s.toList := by rw [hdl, HTL.out]; exact hdn
          generalize decS (valL l) = D at *
          subst hVb
          clear HV hall hz hdn hdl hne hle hbad
          go_wp2_with fail
          refine (HD.out _).mono ?_
          rintro e1 w1 ⟨rfl, hb1⟩
          go_wp2_with fail
          go_ret
          exact ⟨rfl, hb1⟩
end Go.Proofs.Ytdpfcjhhabcheaa

/-
  A number's text, plainly; the contract of line.number. No condition. Own work.
-/
import Derived.Test.YtdpfcjhhabcheaaDoorWords
import Derived.Test.YtdpfcjhhabcheaaDoorDig
namespace Go.Proofs.YtdpfcjhhabcheaaDoor
open Go Go.RowKit

theorem w64n (n : Nat) (h : n < 9223372036854775808) : wrap64 (n : Int) = (n : Int) := by unfold wrap64; omega
def digC (c : UInt8) : Bool := decide (48 ≤ c.toNat) && decide (c.toNat ≤ 57)
/-- The number that digits tell. -/
def valL (l : List UInt8) : Nat := l.foldl (fun n c => 10 * n + (c.toNat - 48)) 0
theorem valL_snoc (l : List UInt8) (c : UInt8) : valL (l ++ [c]) = 10 * valL l + (c.toNat - 48) := by unfold valL; rw [List.foldl_append]; rfl
theorem valL_lt : ∀ (k : Nat) (l : List UInt8), l.length = k → l.all digC = true → valL l < 10 ^ k
  | 0, l, h, _ => by
    have : l = [] := List.eq_nil_of_length_eq_zero h
    subst this
    simp [valL]
  | k + 1, l, h, ha => by
    rcases List.eq_nil_or_concat l with rfl | ⟨m, c, rfl⟩
    · simp at h
    · rw [List.concat_eq_append] at h ha ⊢
      rw [List.all_append, Bool.and_eq_true] at ha
      have h1 := valL_lt k m (by simpa using h) ha.1
      have hc : digC c = true := by simpa using ha.2
      unfold digC at hc
      simp at hc
      rw [valL_snoc, Nat.pow_succ]
      omega
/-- What no number's text is. -/
def badL (l : List UInt8) : Prop := l.length = 0 ∨ 13 < l.length ∨ (1 < l.length ∧ l.getD 0 0 = 48) ∨ l.all digC = false
instance (l : List UInt8) : Decidable (badL l) := by unfold badL; infer_instance
/-- Is a text a number's, and which? -/
def numO (l : List UInt8) : Option Nat := if badL l ∨ 1099511627776 < valL l then none else some (valL l)
/-- What line.number returns ahead of its answer. -/
def numI (l : List UInt8) : Nat := if badL l then 0 else valL l
theorem numI_some {l : List UInt8} {v : Nat} (h : numO l = some v) : numI l = v ∧ v ≤ 1099511627776 := by
  unfold numO at h
  split at h
  · cases h
  · rename_i hb
    injection h with h
    unfold numI
    rw [if_neg (fun q => hb (.inl q))]
    exact ⟨h, by have : ¬ 1099511627776 < valL l := fun q => hb (.inr q); omega⟩
def numV (l : List UInt8) : Value := .tuple #[.int .i64 ((numI l : Nat) : Int), .bool (numO l).isSome]
theorem numV_bad {l : List UInt8} (h : badL l) : numV l = .tuple #[.int .i64 0, .bool false] := by
  unfold numV numI numO
  rw [if_pos h, if_pos (.inl h)]
  rfl
theorem numV_ok {l : List UInt8} (h : ¬ badL l) : numV l = .tuple #[.int .i64 ((valL l : Nat) : Int), .bool (decide (valL l ≤ 1099511627776))] := by
  unfold numV numI numO
  rw [if_neg h]
  by_cases h2 : 1099511627776 < valL l
  · rw [if_pos (.inr h2), decide_eq_false (by omega)]; rfl
  · rw [if_neg (fun q => q.elim h h2), decide_eq_true (by omega)]; rfl
set_option maxRecDepth 100000 in
set_option maxHeartbeats 3200000 in
theorem number_any (s : ByteArray) (w : World) : Calls Tryd.prog 52 #[.string s] w fun e w' => e = .returned (numV s.data.toList) ∧ w = w' := by
  obtain ⟨l, hl⟩ : ∃ l, l = s.data.toList := ⟨_, rfl⟩
  have hn : s.size = l.length := by rw [hl]; exact sz_list s
  have hidx : ∀ (i : Nat) (c : UInt8), l[i]? = some c → ∀ W, (Instr.index 9 (.string s) (.int .i64 (i : Int))).run Tryd.prog W = .ok (.int .u8 ((c.toNat : Nat) : Int)) W := fun i c h => str_idx s i c (by rw [← hl]; exact h)
  by_cases h0 : l = []
  · rw [← hl, numV_bad (.inl (by rw [h0]; rfl))]
    obtain ⟨t1, t2, t3⟩ := tl_em (hl.symm.trans h0)
    clear hl hidx hn h0
    go_enter Tryd.func52, Tryd.ntmps52
    go_wp2_with fail
    go_ret2
    exact ⟨rfl, rfl⟩
  obtain ⟨t1, t2, t3⟩ := tl_ne (s := s) (by rw [← hl]; exact h0)
  have hpos : 0 < l.length := List.length_pos_iff.2 h0
  obtain ⟨n, hnn⟩ : ∃ n, n = l.length := ⟨_, rfl⟩
  have hsz : (s.size : Int) = (n : Int) := by omega
  rw [← hl]
  by_cases h13 : 13 < n
  · rw [numV_bad (.inr (.inl (by omega)))]
    have h13' : (13 : Int) < (n : Int) := by omega
    clear hl hidx hn h0 hnn
    go_enter Tryd.func52, Tryd.ntmps52
    go_wp2_with fail
    go_ret2
    exact ⟨rfl, rfl⟩
  have h13' : ¬ (13 : Int) < (n : Int) := by omega
  obtain ⟨c0, hc0⟩ : ∃ c, l[0]? = some c := ⟨_, List.getElem?_eq_getElem hpos⟩
  have hx0 : ∀ W, (Instr.index 9 (.string s) (.int .i64 0)).run Tryd.prog W = .ok (.int .u8 ((c0.toNat : Nat) : Int)) W := hidx 0 c0 hc0
  have hg0 : l.getD 0 0 = c0 := by rw [List.getD_eq_getElem?_getD, hc0]; rfl
  by_cases hz : 1 < n ∧ c0 = 48
  · rw [numV_bad (.inr (.inr (.inl ⟨by omega, by rw [hg0]; exact hz.2⟩)))]
    have hz1 : (1 : Int) < (n : Int) := by omega
    have hz2 : ((c0.toNat : Nat) : Int) = 48 := by rw [hz.2]; rfl
    clear hl hidx hn h0 hnn hc0 hg0 hz
    go_enter Tryd.func52, Tryd.ntmps52
    go_wp2_with fail
    go_ret2
    exact ⟨rfl, rfl⟩
  have HIX := Lib.hid hidx
  have HN := Lib.hid hnn
  have hbad : badL l ↔ l.all digC = false := by
    unfold badL
    rw [hg0, ← hnn]
    constructor
    · rintro (h | h | h | h)
      · omega
      · omega
      · exact absurd h hz
      · exact h
    · exact fun h => .inr (.inr (.inr h))
  have HBAD := Lib.hid hbad
  obtain ⟨V, hV⟩ : ∃ V, V = numV l := ⟨_, rfl⟩
  rw [← hV]
  have HV := Lib.hid hV
  have hcase : (¬ (1 : Int) < (n : Int)) ∨ ((1 : Int) < (n : Int) ∧ ((((c0.toNat : Nat) : Int) == 48) = false)) := by
    by_cases h1 : 1 < n
    · refine .inr ⟨by omega, ?_⟩
      have : c0 ≠ 48 := fun e => hz ⟨h1, e⟩
      have : c0.toNat ≠ 48 := fun e => this (UInt8.toNat_inj.1 (by rw [e]; rfl))
      simp
      omega
    · exact .inl (by omega)
  have HCASE := Lib.hid hcase
  clear hl hidx hn h0 hnn hc0 hg0 hz hbad hV hcase
  have fin : ∀ (u : World), True := fun _ => trivial
  clear fin
  rcases HCASE.out with q | ⟨q1, q2⟩
  all_goals
    clear HCASE
    go_enter Tryd.func52, Tryd.ntmps52
    go_wp2_with fail
    go_loopw [4, 25] (fun nv c wr => ∃ i : Nat, i ≤ n ∧ c = .int .i64 (i : Int) ∧ nv = .int .i64 ((valL (l.take i) : Nat) : Int) ∧ (l.take i).all digC = true ∧ w = wr) (fun _ c _ => n - (intOf c).toNat)
    case atStart => exact ⟨0, by omega, rfl, rfl, rfl, rfl⟩
    case round =>
      obtain ⟨i, hi, rfl, rfl, hall, rfl⟩ := hrel
      by_cases hik : i < n
      · have hii : (i : Int) < (n : Int) := by omega
        obtain ⟨c, hc⟩ : ∃ c, l[i]? = some c := ⟨_, List.getElem?_eq_getElem (by rw [← HN.out]; exact hik)⟩
        have hix := HIX.out i c hc
        have hT : l.take (i + 1) = l.take i ++ [c] := by rw [List.take_add_one, hc]; rfl
        have hlt := valL_lt i (l.take i) (by rw [List.length_take]; have := HN.out; omega) hall
        have hb : valL (l.take i) < 10000000000000 := Nat.lt_of_lt_of_le hlt (Nat.le_trans (Nat.pow_le_pow_right (n := 10) (by omega) (by omega : i ≤ 13)) (by decide))
        clear hlt
        have hcl := c.toNat_lt
        by_cases hdg : 48 ≤ c.toNat ∧ c.toNat ≤ 57
        · have g1 : ¬ ((c.toNat : Nat) : Int) < 48 := by omega
          have g2 : ¬ (57 : Int) < ((c.toNat : Nat) : Int) := by omega
          have hv : valL (l.take (i + 1)) = 10 * valL (l.take i) + (c.toNat - 48) := by rw [hT, valL_snoc]
          have hal : (l.take (i + 1)).all digC = true := by
            rw [hT, List.all_append, hall]
            unfold digC
            simp
            omega
          obtain ⟨m, hm⟩ : ∃ m, m = valL (l.take i) := ⟨_, rfl⟩
          rw [← hm] at hv hb ⊢
          obtain ⟨d, hd⟩ : ∃ d, d = c.toNat - 48 := ⟨_, rfl⟩
          have hd9 : d ≤ 9 := by omega
          have e3 : ((c.toNat : Nat) : Int) - 48 = (d : Int) := by omega
          rw [← hd] at hv
          obtain ⟨q, hq⟩ : ∃ q, q = 10 * m := ⟨_, rfl⟩
          have e1 : (10 : Int) * (m : Int) = (q : Int) := by omega
          have hq9 : q < 9223372036854775808 := by omega
          obtain ⟨r, hr⟩ : ∃ r, r = q + d := ⟨_, rfl⟩
          have hr9 : r < 9223372036854775808 := by omega
          have e7 : (q : Int) + (d : Int) = (r : Int) := by omega
          rw [← hq, ← hr] at hv
          have e2 : wrap64 (q : Int) = (q : Int) := w64n _ hq9
          have e8 : wrap64 (r : Int) = (r : Int) := w64n _ hr9
          have HEND : Hid (wrap64 (wrap64 (10 * (m : Int)) + (((c.toNat : Nat) : Int) - 48)) = (r : Int)) := Lib.hid (by rw [e1, e2, e3, e7, e8])
          clear e1 e2 e3 e7 e8 hcl hdg
          have HVV := Lib.hid hv
          have HAL := Lib.hid hal
          clear hv hal hm hq hr hd hc hT hb hall hd9 hq9 hr9
          go_wp2_with fail
          exact ⟨⟨i + 1, by omega, by go_num, by rw [HEND.out, HVV.out], HAL.out, by first | trivial | rfl⟩, by simp [intOf]; omega⟩
        · have hVb : V = .tuple #[.int .i64 0, .bool false] := by
            rw [HV.out, numV_bad (HBAD.out.2 ?_)]
            rw [List.all_eq_false]
            refine ⟨c, List.mem_of_getElem? hc, ?_⟩
            unfold digC
            simp
            omega
          subst hVb
          clear HV hc hT hb hall
          by_cases hlo : c.toNat < 48
          · have g1 : ((c.toNat : Nat) : Int) < 48 := by omega
            go_wp2_with fail
            go_ret2
            exact ⟨rfl, rfl⟩
          · have g1 : ¬ ((c.toNat : Nat) : Int) < 48 := by omega
            have g2 : (57 : Int) < ((c.toNat : Nat) : Int) := by omega
            go_wp2_with fail
            go_ret2
            exact ⟨rfl, rfl⟩
      · have hi2 : i = n := by omega
        subst hi2
        rw [List.take_of_length_le (by rw [← HN.out]; exact Nat.le_refl _)] at hall ⊢
        have hVb : V = .tuple #[.int .i64 ((valL l : Nat) : Int), .bool (decide (valL l ≤ 1099511627776))] := by
          rw [HV.out]
          exact numV_ok (fun h => by have := HBAD.out.1 h; rw [hall] at this; cases this)
        by_cases hle : valL l ≤ 1099511627776
        · rw [decide_eq_true hle] at hVb
          have hle' : ((valL l : Nat) : Int) ≤ 1099511627776 := by omega
          subst hVb
          clear HV hall
          go_wp2_with fail
          go_ret2
          exact ⟨rfl, rfl⟩
        · rw [decide_eq_false hle] at hVb
          have hle' : ¬ ((valL l : Nat) : Int) ≤ 1099511627776 := by omega
          subst hVb
          clear HV hall
          go_wp2_with fail
          go_ret2
          exact ⟨rfl, rfl⟩
end Go.Proofs.YtdpfcjhhabcheaaDoor

/-
  Plainly: the record with which bytes begin; records' bytes are apart. No condition. Own work.
-/
import Derived.Test.YtdpfcjhhabcheaaDoorRPut1
import Derived.Test.YtdpfcjhhabcheaaDoorCut
namespace Go.Proofs.YtdpfcjhhabcheaaDoor
open Go.RowKit

theorem be_top (n : Nat) (h : n < 2 ^ 63) : ((be n 8).getD 0 0).toNat < 128 := by
  have e : be n 8 = UInt8.ofNat (n / 2 ^ 56) :: be n 7 := rfl
  rw [e]
  show (UInt8.ofNat (n / 2 ^ 56)).toNat < 128
  rw [UInt8.toNat_ofNat']
  have h2 : n / 2 ^ 56 < 128 := by omega
  omega
theorem numOk_be (n k : Nat) (h1 : 1 ≤ k) (h8 : k ≤ 8) (h : n < 2 ^ 63) : numOk (be n k) := by
  refine ⟨by rw [be_len]; exact h1, by rw [be_len]; exact h8, fun e => ?_⟩
  rw [be_len] at e
  subst e
  exact be_top n h
/-- Bytes that were packed are the numbers. -/
theorem unp_pack : ∀ (L : List (Nat × Nat)), (∀ p ∈ L, 1 ≤ p.1 ∧ p.1 ≤ 8 ∧ p.2 < 2 ^ 63 ∧ p.2 < 2 ^ (8 * p.1)) → unpO (L.map (·.1)) (packB L) = some (L.map (·.2))
  | [], _ => rfl
  | (k, n) :: L, h => by
    obtain ⟨h1, h8, h63, hlt⟩ := h (k, n) (by simp)
    have ih := unp_pack L fun p hp => h p (by simp [hp])
    have e1 : (packB ((k, n) :: L)).take k = be n k := by
      show (be n k ++ packB L).take k = be n k
      rw [List.take_append_of_le_length (by rw [be_len]; omega), List.take_of_length_le (by rw [be_len]; omega)]
    have e2 : (packB ((k, n) :: L)).drop k = packB L := by
      show (be n k ++ packB L).drop k = packB L
      rw [List.drop_append, be_len, List.drop_of_length_le (by rw [be_len]; omega)]
      simp
    show (if numOk ((packB ((k, n) :: L)).take k) then _ else _) = _
    rw [e1, e2, if_pos (numOk_be n k h1 h8 h63), ih, gt_be, Nat.mod_eq_of_lt hlt]
    rfl
/-- Numbers that were unpacked are the bytes. -/
theorem pack_unp : ∀ (ws : List Nat) (l : List UInt8) (ns : List Nat), ws.sum = l.length → unpO ws l = some ns → packB (ws.zip ns) = l ∧ ns.length = ws.length ∧ ∀ p ∈ ws.zip ns, p.2 < 2 ^ (8 * p.1)
  | [], l, ns, hl, h => by
    simp only [unpO, Option.some.injEq] at h
    subst h
    cases l with
    | nil => exact ⟨rfl, rfl, by simp⟩
    | cons a l => simp at hl
  | k :: ws, l, ns, hl, h => by
    rw [unpO] at h
    split at h
    · obtain ⟨ms, hm, rfl⟩ := Option.map_eq_some_iff.1 h
      rw [List.sum_cons] at hl
      have hk : (l.take k).length = k := by rw [List.length_take]; omega
      obtain ⟨h1, h2, h3⟩ := pack_unp ws (l.drop k) ms (by rw [List.length_drop]; omega) hm
      have hb := be_gt (l.take k)
      rw [hk] at hb
      have hlt := gt_lt (l.take k)
      rw [hk] at hlt
      refine ⟨?_, by simp [h2], ?_⟩
      · rw [List.zip_cons_cons]
        show be (gt (l.take k)) k ++ packB (ws.zip ms) = l
        rw [hb, h1, List.take_append_drop]
      · intro p hp
        rw [List.zip_cons_cons, List.mem_cons] at hp
        rcases hp with rfl | hp
        · exact hlt
        · exact h3 p hp
    · cases h
theorem cut_tx (r y : List UInt8) (h : r.length < 2 ^ 32) : cutO (txB r ++ y) = some (r, y) := by
  have e1 : (txB r ++ y).take 4 = be r.length 4 := by
    unfold txB
    rw [List.append_assoc, List.take_append_of_le_length (by rw [be_len]; omega), List.take_of_length_le (by rw [be_len]; omega)]
  have e2 : (txB r ++ y).drop 4 = r ++ y := by
    unfold txB
    rw [List.append_assoc, List.drop_append, be_len, List.drop_of_length_le (by rw [be_len]; omega)]
    simp
  have e3 : gt (be r.length 4) = r.length := by rw [gt_be]; exact Nat.mod_eq_of_lt h
  unfold cutO
  rw [e1, e2, e3]
  have hl : (txB r ++ y).length = 4 + r.length + y.length := by rw [List.length_append, txB_len]
  rw [if_neg (by omega), if_neg (by omega)]
  simp
theorem tx_cut (l a b : List UInt8) (h : cutO l = some (a, b)) : txB a ++ b = l ∧ a.length < 2 ^ 32 := by
  unfold cutO at h
  split at h
  · cases h
  · split at h
    · cases h
    · rename_i h4 h5
      simp only [Option.some.injEq, Prod.mk.injEq] at h
      obtain ⟨rfl, rfl⟩ := h
      have hk : (l.take 4).length = 4 := by rw [List.length_take]; omega
      have hlt := gt_lt (l.take 4)
      rw [hk] at hlt
      have hal : ((l.drop 4).take (gt (l.take 4))).length = gt (l.take 4) := by rw [List.length_take, List.length_drop]; omega
      have hb := be_gt (l.take 4)
      rw [hk] at hb
      refine ⟨?_, by rw [hal]; exact hlt⟩
      unfold txB
      rw [hal, hb, List.append_assoc, List.take_append_drop, List.take_append_drop]
abbrev rW : List Nat := [1, 4, 8, 4, 4, 8]
theorem rn_len (k e t c g u : Nat) : (packB (rnL k e t c g u)).length = 29 := by rw [packB_len]; rfl
theorem rn_unp {k e t c g u : Nat} (h : FitsR k e t c g u) : unpO rW (packB (rnL k e t c g u)) = some [k, e, t, c, g, u] := by
  refine unp_pack (rnL k e t c g u) fun p hp => ?_
  obtain ⟨h1, h2, h3, h4⟩ := rnL_fit h p hp
  exact ⟨h1, h2, by omega, h4⟩
/-- A record's parts are told by its bytes, whatever is behind them. -/
theorem rec_inj {k e t c g u k' e' t' c' g' u' : Nat} {r n r' n' x y : List UInt8} (h : FitsR k e t c g u) (h' : FitsR k' e' t' c' g' u') (hr : r.length < 2 ^ 32) (hn : n.length < 2 ^ 32) (hr' : r'.length < 2 ^ 32) (hn' : n'.length < 2 ^ 32)
    (heq : recB k e t c g u r n ++ x = recB k' e' t' c' g' u' r' n' ++ y) : (k = k' ∧ e = e' ∧ t = t' ∧ c = c' ∧ g = g' ∧ u = u') ∧ r = r' ∧ n = n' ∧ x = y := by
  unfold recB at heq
  rw [List.append_assoc, List.append_assoc, List.append_assoc, List.append_assoc] at heq
  obtain ⟨e1, e2⟩ := List.append_inj heq (by rw [rn_len, rn_len])
  have u1 := rn_unp h
  rw [e1, rn_unp h'] at u1
  simp only [Option.some.injEq, List.cons.injEq, and_true] at u1
  have c1 := cut_tx r (txB n ++ x) hr
  rw [e2, cut_tx r' (txB n' ++ y) hr'] at c1
  simp only [Option.some.injEq, Prod.mk.injEq] at c1
  have c2 := cut_tx n x hn
  rw [← c1.2, cut_tx n' y hn'] at c2
  simp only [Option.some.injEq, Prod.mk.injEq] at c2
  exact ⟨⟨u1.1.symm, u1.2.1.symm, u1.2.2.1.symm, u1.2.2.2.1.symm, u1.2.2.2.2.1.symm, u1.2.2.2.2.2.symm⟩, c1.1.symm, c2.1.symm, c2.2.symm⟩
/-- Of two texts of which the shorter one begins the other. -/
theorem pre_cases {s t : List UInt8} (h : s.take (min s.length t.length) = t.take (min s.length t.length)) : (∃ y, s ++ [] = t ++ y) ∨ (∃ y, s ++ y = t ++ []) := by
  rcases Nat.le_total s.length t.length with hl | hl
  · rw [Nat.min_eq_left hl, List.take_length] at h
    refine .inr ⟨t.drop s.length, ?_⟩
    rw [List.append_nil]
    have e := List.take_append_drop s.length t
    rw [← h] at e
    exact e
  · rw [Nat.min_eq_right hl, List.take_length] at h
    refine .inl ⟨s.drop t.length, ?_⟩
    rw [List.append_nil]
    have e := List.take_append_drop t.length s
    rw [h] at e
    exact e.symm
end Go.Proofs.YtdpfcjhhabcheaaDoor

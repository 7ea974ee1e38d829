/-
  Both Takes of any bytes: the record that they begin with, or none. No condition. Own work.
-/
import Derived.Test.YtdpfcjhhabcheaaDoorTake2
import Derived.Test.YtdpfcjhhabcheaaDoorRTake
namespace Go.Proofs.YtdpfcjhhabcheaaDoor
open Go.RowKit

theorem cutV_form (bad : Int) (l : List UInt8) : ∃ (A B : ByteArray) (f : Int), cutV bad (cutO l) = .tuple #[.string A, .string B, .int .i64 f] ∧ B.size ≤ l.length ∧ (f = 0 ∨ f = bad) := by
  cases h : cutO l with
  | none => exact ⟨_, _, _, rfl, by simp [ByteArray.size], .inr rfl⟩
  | some p =>
    obtain ⟨a, b⟩ := p
    have := (tx_cut l a b h).1
    have hl : (txB a ++ b).length = 4 + a.length + b.length := by rw [List.length_append, txB_len]
    rw [this] at hl
    exact ⟨_, _, _, rfl, by simp [ByteArray.size]; omega, .inl rfl⟩
theorem cut_size {l a b : List UInt8} (h : cutO l = some (a, b)) : a.length + b.length ≤ l.length := by
  have := (tx_cut l a b h).1
  have hl : (txB a ++ b).length = 4 + a.length + b.length := by rw [List.length_append, txB_len]
  rw [this] at hl
  omega
/-- octet.Unpack's and the reference's Unpack's answer, of a text of 29 bytes. -/
theorem hu_none (x : ByteArray) (h : unpR rW x.data.toList = none) (gw : Nat) (w : World) (hr : w.heap[gw]? = some (.cells WC 3 (0, 0))) :
    Calls Tryd.prog 42 #[.slice (some ⟨gw, 0, none⟩) 6 6, .string x] w fun e w' => (∃ v, e = .returned (.tuple #[v, .int .i64 3])) ∧ Below w.heap.size w w' := by
  have hc := unpack_any rW x gw 6 (fun k hk => by simp at hk; omega) (by simp) w (lt_of_block hr) (wcell hr)
  rw [h] at hc
  exact hc.mono fun _ _ ⟨he, hb⟩ => ⟨⟨_, he⟩, hb⟩
theorem rhu_none (x : ByteArray) (h : unpR rW x.data.toList = none) (gw : Nat) (w : World) (hr : w.heap[gw]? = some (.cells WC 3 (0, 0))) :
    Calls Tryd.prog 44 #[.slice (some ⟨gw, 0, none⟩) 6 6, .string x] w fun e w' => (∃ v, e = .returned (.tuple #[v, .int .i64 3])) ∧ Below w.heap.size w w' := by
  have hc := runpack_any rW x gw 6 (fun k hk => by simp at hk; omega) (by simp) w (lt_of_block hr) (wcell hr)
  rw [h] at hc
  exact hc.mono fun _ _ ⟨he, hb⟩ => ⟨⟨_, he⟩, hb⟩
theorem hu_some (x : ByteArray) (n1 n2 n3 n4 n5 n6 : Nat) (h : unpR rW x.data.toList = some [n1, n2, n3, n4, n5, n6]) (gw : Nat) (w : World) (hr : w.heap[gw]? = some (.cells WC 3 (0, 0))) :
    Calls Tryd.prog 42 #[.slice (some ⟨gw, 0, none⟩) 6 6, .string x] w fun e w' => (∃ gl cap, e = .returned (.tuple #[.slice (some ⟨gl, 0, none⟩) 6 cap, .int .i64 0]) ∧ gl < w'.heap.size ∧ K6 gl n1 n2 n3 n4 n5 n6 w') ∧ Below w.heap.size w w' := by
  have hc := unpack_any rW x gw 6 (fun k hk => by simp at hk; omega) (by simp) w (lt_of_block hr) (wcell hr)
  rw [h] at hc
  refine hc.mono ?_
  rintro e w' ⟨⟨v, rfl, ho⟩, hb⟩
  have hO : SlO 3 w.heap.size v (nums [n1, n2, n3, n4, n5, n6]) w' := ho
  obtain ⟨g, cap, rfl, _, _, hC⟩ := hO.opened (by simp [nums])
  exact ⟨⟨g, cap, rfl, hC.1, hC.2 0 _ rfl, hC.2 1 _ rfl, hC.2 2 _ rfl, hC.2 3 _ rfl, hC.2 4 _ rfl, hC.2 5 _ rfl⟩, hb⟩
theorem rhu_some (x : ByteArray) (n1 n2 n3 n4 n5 n6 : Nat) (h : unpR rW x.data.toList = some [n1, n2, n3, n4, n5, n6]) (gw : Nat) (w : World) (hr : w.heap[gw]? = some (.cells WC 3 (0, 0))) :
    Calls Tryd.prog 44 #[.slice (some ⟨gw, 0, none⟩) 6 6, .string x] w fun e w' => (∃ gl cap, e = .returned (.tuple #[.slice (some ⟨gl, 0, none⟩) 6 cap, .int .i64 0]) ∧ gl < w'.heap.size ∧ K6 gl n1 n2 n3 n4 n5 n6 w') ∧ Below w.heap.size w w' := by
  have hc := runpack_any rW x gw 6 (fun k hk => by simp at hk; omega) (by simp) w (lt_of_block hr) (wcell hr)
  rw [h] at hc
  refine hc.mono ?_
  rintro e w' ⟨⟨v, rfl, hO⟩, hb⟩
  obtain ⟨g, cap, rfl, _, _, hC⟩ := hO.opened (by simp)
  exact ⟨⟨g, cap, rfl, hC.1, hC.2 0 _ rfl, hC.2 1 _ rfl, hC.2 2 _ rfl, hC.2 3 _ rfl, hC.2 4 _ rfl, hC.2 5 _ rfl⟩, hb⟩
theorem ba_list {A : ByteArray} {l : List UInt8} (h : A.data.toList = l) : (⟨l.toArray⟩ : ByteArray) = A := by
  subst h
  rfl
/-- Both Takes of any bytes. -/
theorem take_pack (s : ByteArray) (hs : s.size ≤ 100000) :
    (∃ (k e t c g u : Nat) (A N L : ByteArray), ROk k e t c g u A N ∧ A.size ≤ 100000 ∧ N.size ≤ 100000 ∧ recB k e t c g u A.data.toList N.data.toList ++ L.data.toList = s.data.toList ∧
      (∀ w, Calls Tryd.prog 18 #[.string s] w fun x w' => x = .returned (.tuple #[RVal k e t c g u A N, .string L, .int .i64 0]) ∧ Below w.heap.size w w') ∧
      (∀ w, Calls Tryd.prog 19 #[.string s] w fun x w' => x = .returned (.tuple #[RVal k e t c g u A N, .string L, .bool true]) ∧ Below w.heap.size w w')) ∨
    ((∀ w, Calls Tryd.prog 18 #[.string s] w fun x w' => x = .returned (TBad 3) ∧ Below w.heap.size w w') ∧
      (∀ w, Calls Tryd.prog 19 #[.string s] w fun x w' => x = .returned TBadR ∧ Below w.heap.size w w') ∧
      ∀ (k e t c g u : Nat) (A N : ByteArray) (y : List UInt8), ROk k e t c g u A N → A.size ≤ 100000 → N.size ≤ 100000 → recB k e t c g u A.data.toList N.data.toList ++ y ≠ s.data.toList) := by
  have hsl : s.data.toList.length = s.size := by simp
  by_cases h29 : s.size < 29
  · refine .inr ⟨take_short s h29, rtake_short s h29, fun k e t c g u A N y _ _ _ he => ?_⟩
    have := congrArg List.length he
    unfold recB at this
    rw [List.length_append, List.length_append, List.length_append, rn_len, hsl] at this
    omega
  have hX : (s.extract 0 29).data.toList = s.data.toList.take 29 := by rw [ext_list, List.drop_zero]
  have hY : (s.extract 29 s.size).data.toList = s.data.toList.drop 29 := by rw [ext_list, ← hsl, List.take_length]
  have hXl : (s.data.toList.take 29).length = 29 := by rw [List.length_take]; omega
  have hYl : (s.data.toList.drop 29).length = s.size - 29 := by rw [List.length_drop, hsl]
  have hYs : (s.extract 29 s.size).size ≤ 100000 := by simp; omega
  have hcut1 := cut_any (s.extract 29 s.size) hYs
  have rcut1 := rcut_any (s.extract 29 s.size) hYs
  rw [hY] at hcut1 rcut1
  -- what a record ahead of the rest would give
  have hrec : ∀ (k e t c g u : Nat) (A N : ByteArray) (y : List UInt8), ROk k e t c g u A N → A.size ≤ 100000 → N.size ≤ 100000 → recB k e t c g u A.data.toList N.data.toList ++ y = s.data.toList →
      unpO rW (s.data.toList.take 29) = some [k, e, t, c, g, u] ∧ cutO (s.data.toList.drop 29) = some (A.data.toList, txB N.data.toList ++ y) ∧ cutO (txB N.data.toList ++ y) = some (N.data.toList, y) := by
    intro k e t c g u A N y hok hA hN he
    have e1 : s.data.toList.take 29 = packB (rnL k e t c g u) := by
      rw [← he]
      unfold recB
      rw [List.append_assoc, List.append_assoc, List.take_append_of_le_length (by rw [rn_len]; omega), List.take_of_length_le (by rw [rn_len]; omega)]
    have e2 : s.data.toList.drop 29 = txB A.data.toList ++ (txB N.data.toList ++ y) := by
      rw [← he]
      unfold recB
      rw [List.append_assoc, List.append_assoc, List.drop_append, rn_len, List.drop_of_length_le (by rw [rn_len]; omega)]
      simp
    rw [e1, e2]
    exact ⟨rn_unp (rok_fits hok), cut_tx _ _ (by simp; omega), cut_tx _ _ (by simp; omega)⟩
  have hunpR : unpR rW (s.extract 0 29).data.toList = unpO rW (s.data.toList.take 29) := by rw [hX, unpR, if_pos (by rw [hXl]; rfl)]
  cases hu : unpO rW (s.data.toList.take 29) with
  | none =>
    rw [hu] at hunpR
    obtain ⟨A, B, f, hv, hBs, _⟩ := cutV_form 3 (s.data.toList.drop 29)
    rw [hv] at hcut1 rcut1
    obtain ⟨N, L, g, hv2, _, _⟩ := cutV_form 3 B.data.toList
    have hcut2 := cut_any B (by rw [hYl] at hBs; omega)
    rw [hv2] at hcut2
    refine .inr ⟨take_bad1 s A B N L f g (by omega) (hu_none _ hunpR) hcut1 hcut2, rtake_bad1 s A B f (by omega) (rhu_none _ hunpR) rcut1, fun k e t c g u A N y hok hA hN he => ?_⟩
    have := (hrec k e t c g u A N y hok hA hN he).1
    rw [hu] at this
    cases this
  | some ns =>
    rw [hu] at hunpR
    obtain ⟨hpk, hnl, hlt⟩ := pack_unp rW (s.data.toList.take 29) ns (by rw [hXl]; rfl) hu
    obtain ⟨k, e, t, c, g, u, rfl⟩ : ∃ k e t c g u, ns = [k, e, t, c, g, u] := by
      match ns, hnl with
      | [k, e, t, c, g, u], _ => exact ⟨k, e, t, c, g, u, rfl⟩
    have hU := hu_some _ k e t c g u hunpR
    have rU := rhu_some _ k e t c g u hunpR
    have hUv : ∀ (gw : Nat) (w : World), w.heap[gw]? = some (.cells WC 3 (0, 0)) → Calls Tryd.prog 42 #[.slice (some ⟨gw, 0, none⟩) 6 6, .string (s.extract 0 29)] w fun e w' => (∃ v, e = .returned (.tuple #[v, .int .i64 0])) ∧ Below w.heap.size w w' :=
      fun gw w hr => (hU gw w hr).mono fun _ _ ⟨⟨gl, cap, he, _⟩, hb⟩ => ⟨⟨_, he⟩, hb⟩
    have rUv : ∀ (gw : Nat) (w : World), w.heap[gw]? = some (.cells WC 3 (0, 0)) → Calls Tryd.prog 44 #[.slice (some ⟨gw, 0, none⟩) 6 6, .string (s.extract 0 29)] w fun e w' => (∃ v, e = .returned (.tuple #[v, .int .i64 0])) ∧ Below w.heap.size w w' :=
      fun gw w hr => (rU gw w hr).mono fun _ _ ⟨⟨gl, cap, he, _⟩, hb⟩ => ⟨⟨_, he⟩, hb⟩
    cases hc1 : cutO (s.data.toList.drop 29) with
    | none =>
      rw [hc1] at hcut1 rcut1
      obtain ⟨N, L, g', hv2, _, _⟩ := cutV_form 3 (⟨#[]⟩ : ByteArray).data.toList
      have hcut2 := cut_any ⟨#[]⟩ (by simp [ByteArray.size])
      rw [hv2] at hcut2
      refine .inr ⟨take_bad2 s _ _ N L g' (by omega) hUv hcut1 hcut2, rtake_bad2 s _ _ (by omega) rUv rcut1, fun k e t c g u A N y hok hA hN he => ?_⟩
      have := (hrec k e t c g u A N y hok hA hN he).2.1
      rw [hc1] at this
      cases this
    | some p =>
      obtain ⟨A, B⟩ := p
      rw [hc1] at hcut1 rcut1
      have hsz1 := cut_size hc1
      rw [hYl] at hsz1
      have hcut2 := cut_any ⟨B.toArray⟩ (by show B.length ≤ _; omega)
      have rcut2 := rcut_any ⟨B.toArray⟩ (by show B.length ≤ _; omega)
      rw [show (⟨B.toArray⟩ : ByteArray).data.toList = B from by simp] at hcut2 rcut2
      cases hc2 : cutO B with
      | none =>
        rw [hc2] at hcut2 rcut2
        refine .inr ⟨take_bad3 s _ _ _ _ (by omega) hUv hcut1 hcut2, rtake_bad3 s _ _ _ _ (by omega) rUv rcut1 rcut2, fun k e t c g u A' N y hok hA hN he => ?_⟩
        have h1 := (hrec k e t c g u A' N y hok hA hN he).2
        rw [hc1] at h1
        simp only [Option.some.injEq, Prod.mk.injEq] at h1
        rw [← h1.1.2, hc2] at h1
        cases h1.2
      | some q =>
        obtain ⟨N, L⟩ := q
        rw [hc2] at hcut2 rcut2
        have hsz2 := cut_size hc2
        have hnN : (⟨N.toArray⟩ : ByteArray).size ≤ 100000 := by show N.length ≤ _; omega
        have hck := check_any k e t c g u ⟨A.toArray⟩ ⟨N.toArray⟩ hnN
        have hrt := rright_any k e t c g u ⟨A.toArray⟩ ⟨N.toArray⟩ hnN
        by_cases hok : ROk k e t c g u ⟨A.toArray⟩ ⟨N.toArray⟩
        · rw [okV, if_pos hok] at hck
          rw [decide_eq_true hok] at hrt
          refine .inl ⟨k, e, t, c, g, u, ⟨A.toArray⟩, ⟨N.toArray⟩, ⟨L.toArray⟩, hok, by show A.length ≤ _; omega, hnN, ?_, take_yes s _ _ _ _ k e t c g u (by omega) hU hcut1 hcut2 hck, rtake_yes s _ _ _ _ k e t c g u (by omega) rU rcut1 rcut2 hrt⟩
          have t1 := (tx_cut _ _ _ hc1).1
          have t2 := (tx_cut _ _ _ hc2).1
          show packB (rnL k e t c g u) ++ txB A ++ txB N ++ L = s.data.toList
          have hz : packB (rnL k e t c g u) = s.data.toList.take 29 := hpk
          rw [hz, List.append_assoc, t2, List.append_assoc, t1, List.take_append_drop]
        · rw [okV, if_neg hok] at hck
          rw [decide_eq_false hok] at hrt
          refine .inr ⟨take_no s _ _ _ _ k e t c g u (by omega) hU hcut1 hcut2 hck, rtake_no s _ _ _ _ k e t c g u (by omega) rU rcut1 rcut2 hrt, fun k' e' t' c' g' u' A' N' y hok' hA hN he => ?_⟩
          obtain ⟨g1, g2, g3⟩ := hrec k' e' t' c' g' u' A' N' y hok' hA hN he
          rw [hu] at g1
          rw [hc1] at g2
          simp only [Option.some.injEq, List.cons.injEq, and_true, Prod.mk.injEq] at g1 g2
          rw [← g2.2, hc2] at g3
          simp only [Option.some.injEq, Prod.mk.injEq] at g3
          obtain ⟨rfl, rfl, rfl, rfl, rfl, rfl⟩ := g1
          rw [ba_list g2.1.symm, ba_list g3.1.symm] at hok
          exact hok hok'
end Go.Proofs.YtdpfcjhhabcheaaDoor

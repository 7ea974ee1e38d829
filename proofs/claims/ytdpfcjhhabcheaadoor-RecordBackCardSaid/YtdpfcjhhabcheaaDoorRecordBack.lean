/-
  RecordBack: a record that was put is taken, whatever is behind it; what was taken, put, is what was cut off. No condition.
-/
import Derived.Test.YtdpfcjhhabcheaaDoorBackW
import Derived.Test.YtdpfcjhhabcheaaDoorCards
import Derived.Test.YtdpfcjhhabcheaaDoorTie
import Derived.SevenTiedAt
namespace Go.Proofs.YtdpfcjhhabcheaaDoor
open Go Go.RowKit Go.ChangeShapes Go.WideShapes Go.ChangeAt Go.Joins

theorem add_eq {B L s : ByteArray} (h : B.data.toList ++ L.data.toList = s.data.toList) (hs : s.size ≤ 1000000) : ∀ W, (Op.stringOp .add B L).run Tryd.prog W = .ok (.string s) W := fun W => by
  have e : B ++ L = s := by
    apply ByteArray.ext
    apply Array.toList_inj.1
    rw [ByteArray.data_append, Array.toList_append]
    exact h
  have hz : B.size + L.size = s.size := by rw [← e]; simp
  rw [← e]
  exact run_string_add_sum W _ _ (by omega)
theorem ba_inj {A B : ByteArray} (h : A.data.toList = B.data.toList) : A = B := ByteArray.ext (Array.toList_inj.1 h)
/-- A record that was put is taken. -/
theorem take_put (k e t c g u : Nat) (r n behind : ByteArray) (h : ROk k e t c g u r n) (hr : r.size ≤ 5000) (hn : n.size ≤ 5000) (hb : behind.size ≤ 10000) :
    ∃ X : ByteArray, (∀ W, (Op.stringOp .add (⟨(recB k e t c g u r.data.toList n.data.toList).toArray⟩ : ByteArray) behind).run Tryd.prog W = .ok (.string X) W) ∧
      ∀ w, Calls Tryd.prog 18 #[.string X] w fun x w' => x = .returned (.tuple #[RVal k e t c g u r n, .string behind, .int .i64 0]) ∧ Below w.heap.size w w' := by
  have hlen : (recB k e t c g u r.data.toList n.data.toList).length = 29 + (4 + r.size) + (4 + n.size) := by
    unfold recB
    rw [List.length_append, List.length_append, rn_len, txB_len, txB_len]
    simp
  obtain ⟨X, hX⟩ : ∃ X : ByteArray, X = ⟨(recB k e t c g u r.data.toList n.data.toList ++ behind.data.toList).toArray⟩ := ⟨_, rfl⟩
  have hXl : X.data.toList = recB k e t c g u r.data.toList n.data.toList ++ behind.data.toList := by rw [hX]
  have hXs : X.size ≤ 100000 := by
    have : X.size = X.data.toList.length := by simp
    rw [this, hXl, List.length_append, hlen]
    simp
    omega
  refine ⟨X, add_eq (by rw [hXl]) (by omega), ?_⟩
  rcases take_pack X hXs with ⟨k', e', t', c', g', u', A, N, L, hok, hA, hN, heq, h1, _⟩ | ⟨_, _, hno⟩
  · rw [hXl] at heq
    obtain ⟨⟨a1, a2, a3, a4, a5, a6⟩, a7, a8, a9⟩ := rec_inj (rok_fits hok) (rok_fits h) (by simp; omega) (by simp; omega) (by simp; omega) (by simp; omega) heq
    obtain rfl := ba_inj a7
    obtain rfl := ba_inj a8
    obtain rfl := ba_inj a9
    subst a1 a2 a3 a4 a5 a6
    exact h1
  · exact absurd hXl.symm (hno k e t c g u r n _ h (by omega) (by omega))
theorem back_walk (k e t c g u : Int) (r n behind s : ByteArray) (w : World) (ht : Tab w) : Calls Tryd.prog 6 #[RVal k e t c g u r n, .string behind, .string s] w fun x w' => x = .returned (.bool true) ∧ Below w.heap.size w w' := by
  cases hf : fewB r n with
  | false => exact back_few k e t c g u r n behind s hf w ht
  | true =>
    by_cases hb : behind.size ≤ 10000
    · by_cases hs : s.size ≤ 10000
      · have hz : r.size ≤ 5000 ∧ n.size ≤ 5000 := of_decide_eq_true hf
        by_cases h : ROk k e t c g u r n
        · have q := rok_nat h
          obtain ⟨k, rfl⟩ : ∃ x : Nat, k = (x : Int) := ⟨k.toNat, by omega⟩
          obtain ⟨e, rfl⟩ : ∃ x : Nat, e = (x : Int) := ⟨e.toNat, by omega⟩
          obtain ⟨t, rfl⟩ : ∃ x : Nat, t = (x : Int) := ⟨t.toNat, by omega⟩
          obtain ⟨c, rfl⟩ : ∃ x : Nat, c = (x : Int) := ⟨c.toNat, by omega⟩
          obtain ⟨g, rfl⟩ : ∃ x : Nat, g = (x : Int) := ⟨g.toNat, by omega⟩
          obtain ⟨u, rfl⟩ : ∃ x : Nat, u = (x : Int) := ⟨u.toNat, by omega⟩
          have h1 := put_yes k e t c g u r n (by omega) (by omega) h
          obtain ⟨X, ha, h2⟩ := take_put k e t c g u r n behind h (by omega) (by omega) hb
          rcases take_pack s (by omega) with ⟨k', e', t', c', g', u', A, N, L, hok, hA, hN, heq, h3, _⟩ | ⟨h3, _, _⟩
          · exact back_11 k e t c g u k' e' t' c' g' u' r n A N L behind s _ X _ hf hb hs h1 ha h2 h3 (put_yes k' e' t' c' g' u' A N hA hN hok) (add_eq (by simpa using heq) (by omega)) w ht
          · exact back_10 k e t c g u r n behind s _ X hf hb hs h1 ha h2 h3 w ht
        · have h1 := put_no k e t c g u r n (by omega) h
          rcases take_pack s (by omega) with ⟨k', e', t', c', g', u', A, N, L, hok, hA, hN, heq, h3, _⟩ | ⟨h3, _, _⟩
          · exact back_01 k e t c g u k' e' t' c' g' u' r n A N L behind s _ _ hf hb hs h1 h3 (put_yes k' e' t' c' g' u' A N hA hN hok) (add_eq (by simpa using heq) (by omega)) w ht
          · exact back_00 k e t c g u r n behind s _ hf hb hs h1 h3 w ht
      · exact back_long2 k e t c g u r n behind s hf (by omega) (by omega) w ht
    · exact back_long1 k e t c g u r n behind s hf (by omega) w ht

set_option maxRecDepth 100000 in
theorem recordBack_lifted (os : Os) (started : os.Started) (H : Type) (enc : TypeId × Value → H) :
    ReturnsInHanded {} Tryd.checked os 6 .any (fun w args => (Rows.recordBackSpec.pre enc Tryd.prog Tryd.f6 [] false w args ∧ laidMetH Tryd.prog L3 w) ∧ sizedMet enc Tryd.prog Tryd.f6 (OpenSpec.ofChange Rows.recordBackSpec) false w args) (Rows.recordBackSpec.post enc Tryd.prog Tryd.f6 false true false false) := by
  refine LawKit.liftedL (C := Tryd.checked) (tb := 4) L3 own started (by kernel_rfl) Tryd.func6
    (ChangeSpec.witness_shaped (enc := enc) (C := Tryd.checked) (os := os) (X := fun w _ => laidMetH Tryd.prog L3 w) false (World.doorLaid Tryd.prog 24 os) #[RVal 0 0 0 0 0 0 ⟨#[]⟩ ⟨#[]⟩, .string ⟨#[]⟩, .string ⟨#[]⟩] 8 rfl (World.shaped_of_RefB (by kernel_rfl) (by kernel_rfl)) (by kernel_rfl) (by kernel_rfl) (by kernel_rfl) (door_met os _))
    laidOut (by kernel_rfl) rfl (fun ds h => by match ds, h with | [_, _, _], _ => rfl) rfl Tryd.underlying4 ?_
  intro W base args ds ps hval0 hA0 hlt hsz hL
  have hval : ∀ (j : Nat) t v, Tryd.f6.params[j]? = some t → args[j]? = some v → Value.okWide Tryd.prog W .any base t v := hval0
  have hA : DataW.TrodAll enc Tryd.prog W 0 (fun _ => true) true Tryd.f6.params.toList args.toList ds ps := hA0
  rw [Tryd.params6] at hA hval
  clear hval0 hA0
  obtain ⟨v0, vs0, d0, ds0, p0, q0, hargs, rfl, rfl, t0, r0⟩ := trodAll_cons hA
  obtain ⟨v1, vs1, d1, ds1, p1, q1, rfl, rfl, rfl, t1, r1⟩ := trodAll_cons r0
  obtain ⟨v2, vs2, d2, ds2, p2, q2, rfl, rfl, rfl, t2, r2⟩ := trodAll_cons r1
  obtain ⟨rfl, rfl, rfl⟩ := trodAll_nil r2
  obtain rfl : args = #[v0, v1, v2] := by cases args; simp_all
  obtain ⟨kx0, ex0, tx0, cx0, gx0, ux0, rx0, nx0, rfl⟩ := open_rec (hval 0 _ v0 rfl rfl) t0
  obtain ⟨b, rfl, -, -, w_b⟩ := Go.ChangeMaps.open_string Tryd.underlying9 (hval 1 _ v1 rfl rfl) t1
  obtain ⟨s, rfl, -, -, w_s⟩ := Go.ChangeMaps.open_string Tryd.underlying9 (hval 2 _ v2 rfl rfl) t2
  exact back_walk kx0 ex0 tx0 cx0 gx0 ux0 rx0 nx0 b s W (tab_of_laid hL)

theorem recordBack_row : Rows.RecordBackSaid :=
  OpenClaim.holds_of_wide 6 Tryd.f6 rfl rfl rfl rfl rfl rfl rfl ⟨rfl, rfl, rfl, rfl, rfl⟩ rfl rfl rfl rfl rfl (by kernel_rfl) Tryd.func6 (by kernel_rfl)
    (of_decide_eq_true (by kernel_rfl)) (by unfold Func.isWrapper; first | (rw [if_pos (by decide +kernel)]; kernel_rfl) | (rw [if_neg (by decide +kernel)]; exact ⟨rfl, rfl⟩))
    (fun os started H enc _ => recordBack_lifted os started H enc)
theorem recordBackCard_holds : Rows.RecordBackCardSaid :=
  Claim7.holds_tied_plain_at .later [] [.data, .data, .data] true (true, Rows.recordBackCard.stood.harness.2) false
    recordBack_row (fun _ h => by cases h) (by kernel_rfl) (fun _ h => by cases h) recordBack_row_tie rfl ⟨rfl, rfl⟩ (by kernel_rfl) rfl
    (fun f fn hf hfn => by
      obtain rfl : f = 6 := Option.some.inj ((show Tryd.prog.funcNamed "keepsake/keepsakelaw19.RecordBack" = some 6 by kernel_rfl).symm.trans hf) |>.symm
      obtain rfl : fn = Tryd.f6 := (Option.some.inj (Tryd.func6.symm.trans hfn)).symm
      exact ⟨by kernel_rfl, fun j t ht => by
        rw [Tryd.params6] at ht
        have hm : t ∈ [23, 9, 9] := by simpa using Array.mem_of_getElem? ht
        have hall : ([23, 9, 9].all fun u => !Tryd.prog.wantsStandIn u) = true := by kernel_rfl
        exact (show Tryd.prog.wantsStandIn t = false by simpa using List.all_eq_true.1 hall t hm)⟩)
    (by kernel_rfl)
#print axioms recordBackCard_holds
end Go.Proofs.YtdpfcjhhabcheaaDoor

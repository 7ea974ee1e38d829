/-
  Which event any line is, or that it is none, and its words, are as the document says. No condition. Own work.
-/
import Derived.Test.YtdpfcjhhabcheaaParseEq
import Derived.Test.YtdpfcjhhabcheaaSameL
namespace Go.Proofs.Ytdpfcjhhabcheaa
open Go Go.RowKit Go.ChangeShapes Go.WideShapes Go.ChangeAt

theorem EvAt.z {w : World} {B : Nat} : EvAt w B ev0 (EVal ⟨#[]⟩ (.slice none 0 0) ⟨#[]⟩ ⟨#[]⟩ (.slice none 0 0)) := EvAt.zero w B
/-- What an event that was parsed has: its numbers and places are few. -/
theorem parse_few {ws : List (List UInt8)} {e : Ev} (h : parseW ws = some e) : evOk e = true := by
  have key : ∀ {wd nums nm dt asks is ws e}, pEnd wd nums nm dt asks is ws = some e → evOk e = true := fun {wd nums nm dt asks is ws e} h => by
    unfold pEnd at h
    split at h
    · rename_i hc
      cases h
      exact hc.2.2
    · cases h
  cases ws with
  | nil => cases h
  | cons x r =>
    unfold parseW pNums at h
    dsimp only at h
    split at h
    · cases h
    · split at h
      · unfold pName pData pAsks at h
        repeat' split at h
        all_goals exact key h
      · cases h
theorem ok_few {e : Ev} (h : evOk e = true) : e.nums.length ≤ 64 ∧ e.asks.length ≤ 64 := by
  unfold evOk at h
  cases ho : ofW e.word.toList with
  | none => rw [ho] at h; cases h
  | some s =>
    rw [ho] at h
    dsimp only at h
    obtain ⟨-, hm⟩ := of_bounds ho
    rw [Bool.and_eq_true] at h
    have h1 := h.1
    unfold headB at h1
    simp only [Bool.and_eq_true, decide_eq_true_eq] at h1
    refine ⟨by omega, ?_⟩
    have h2 := h1.2
    split at h2
    · simp at h2; omega
    · simp at h2; rw [h2]; simp
set_option maxRecDepth 100000 in
set_option maxHeartbeats 6400000 in
theorem line_parses (sb : ByteArray) (w : World) : Calls Try.prog 3 #[.string sb] w fun e w' => e = .returned (.bool true) ∧ Below w.heap.size w w' := by
  have HAL := Lib.hid alive_any
  by_cases h2 : sb.size ≤ 2000
  · have h2' : ¬ (2000 : Int) < (sb.size : Int) := by omega
    have hP := parse_any sb (by omega)
    have hR := rparse_any sb (by omega)
    rw [← parse_eq _ (words_ne sb.data.toList)] at hR
    have hW1 := words_any sb (by omega)
    have hW2 := rwords_any sb (by omega)
    have hwl : (wordsL sb.data.toList).length ≤ 90000 := by have := words_len sb.data.toList; have := sz_list sb; omega
    have HWL := Lib.hid hwl
    have HW1 := Lib.hid hW1
    have HW2 := Lib.hid hW2
    have hfew := @parse_few (wordsL sb.data.toList)
    obtain ⟨P, hPP⟩ : ∃ P, P = parseW (wordsL sb.data.toList) := ⟨_, rfl⟩
    rw [← hPP] at hP hR hfew
    have HP := Lib.hid hP
    have HR := Lib.hid hR
    clear hP hR hW1 hW2 hPP h2 hwl
    -- the end: the words
    have hend : ∀ W, Below w.heap.size w W → True := fun _ _ => trivial
    clear hend
    cases P with
    | none =>
      clear hfew
      go_enter Try.func3, Try.ntmps3
      go_wp2_with fail
      refine (HP.out _).mono ?_
      rintro e1 w1 ⟨rfl, hb1⟩
      go_wp2_with fail
      refine (HR.out _).mono ?_
      rintro e2 w2 ⟨rfl, hb2⟩
      have z1 := bsz hb2
      have f1 := five_row ((hb2.block w1.heap.size (by simp)).trans (heap_alloc_new w1 _))
      have b2 := Lib.hid (hb1.trans ((bthen (bnew w1 _) hb2).mono hb1.size))
      obtain ⟨p0, p1, p2, p3, p4⟩ := f1
      clear hb1 hb2
      go_wp2_with fail
      refine (same_yes _ _ ev0 (by simp [ev0]) (by simp [ev0]) _ (EvAt.zero _ _) (EvAt.zero _ _)).mono ?_
      rintro e3 w3 ⟨rfl, hb3⟩
      have b3 := Lib.hid (bthen (b2.out.alloc (by have := b2.out.size; exact this) _) hb3)
      clear hb3
      go_wp2_with fail
      refine (HW1.out _).mono ?_
      rintro e4 w4 ⟨⟨v4, rfl, hO4⟩, hb4⟩
      go_wp2_with fail
      refine (HW2.out _).mono ?_
      rintro e5 w5 ⟨⟨v5, rfl, hO5⟩, hb5⟩
      have hr4 := (hO4.below hb5).rd
      have hr5 := hO5.rd
      have b5 := Lib.hid (bthen (bthen b3.out hb4) hb5)
      have hT := texts_yes v4 v5 ((wordsL sb.data.toList).map fun l => ⟨l.toArray⟩) (by rw [List.length_map]; have := HWL.out; omega) w5 (by rw [List.map_map]; exact hr4) (by rw [List.map_map]; exact hr5)
      have HT := Lib.hid hT
      clear hT hr4 hr5 hO4 hO5 hb4 hb5
      go_wp2_with fail
      refine HT.out.mono ?_
      rintro e6 w6 ⟨rfl, hb6⟩
      have b6 := Lib.hid (bthen b5.out hb6)
      clear hb6 HT
      go_wp2_with fail
      refine (HAL.out _).mono ?_
      rintro e7 w7 ⟨rfl, hb7⟩
      go_wp2_with fail
      go_ret
      exact ⟨rfl, bthen b6.out hb7⟩
    | some ev =>
      have hok := ok_few (hfew rfl)
      clear hfew
      go_enter Try.func3, Try.ntmps3
      go_wp2_with fail
      refine (HP.out _).mono ?_
      rintro e1 w1 ⟨⟨V1, rfl, hev1⟩, hb1⟩
      obtain ⟨A1, c1, A2, c2, rfl, hN1, hA1⟩ := hev1
      go_wp2_with fail
      refine (HR.out _).mono ?_
      rintro e2 w2 ⟨⟨V2, rfl, hev2⟩, hb2⟩
      obtain ⟨A3, c3, A4, c4, rfl, hN2, hA2⟩ := hev2
      have z1 := bsz hb2
      have f1 := five_row ((hb2.block w1.heap.size (by simp)).trans (heap_alloc_new w1 _))
      have b2 := Lib.hid (hb1.trans ((bthen (bnew w1 _) hb2).mono hb1.size))
      have bb := (bthen (bnew w1 (.cells (ECells ev.word (.slice A1 ev.nums.length c1) ev.name ev.data (.slice A2 ev.asks.length c2)) 26)) hb2)
      have HN1 := Lib.hid ((hN1.below bb).up bb.size)
      have HA1 := Lib.hid ((hA1.below bb).up bb.size)
      have HN2 := Lib.hid hN2
      have HA2 := Lib.hid hA2
      obtain ⟨p0, p1, p2, p3, p4⟩ := f1
      clear hb1 hb2 bb hN1 hA1 hN2 hA2
      go_wp2_with fail
      refine (same_yes _ _ ev (by omega) (by omega) _ ⟨A1, c1, A2, c2, rfl, (HN1.out.below (bnew w2 _)).up (bnew w2 _).size, (HA1.out.below (bnew w2 _)).up (bnew w2 _).size⟩ ⟨A3, c3, A4, c4, rfl, (HN2.out.below (bnew w2 _)).up (bnew w2 _).size, (HA2.out.below (bnew w2 _)).up (bnew w2 _).size⟩).mono ?_
      rintro e3 w3 ⟨rfl, hb3⟩
      have b3 := Lib.hid (bthen (b2.out.alloc (by have := b2.out.size; exact this) _) hb3)
      clear hb3
      go_wp2_with fail
      refine (HW1.out _).mono ?_
      rintro e4 w4 ⟨⟨v4, rfl, hO4⟩, hb4⟩
      go_wp2_with fail
      refine (HW2.out _).mono ?_
      rintro e5 w5 ⟨⟨v5, rfl, hO5⟩, hb5⟩
      have hr4 := (hO4.below hb5).rd
      have hr5 := hO5.rd
      have b5 := Lib.hid (bthen (bthen b3.out hb4) hb5)
      have hT := texts_yes v4 v5 ((wordsL sb.data.toList).map fun l => ⟨l.toArray⟩) (by rw [List.length_map]; have := HWL.out; omega) w5 (by rw [List.map_map]; exact hr4) (by rw [List.map_map]; exact hr5)
      have HT := Lib.hid hT
      clear hT hr4 hr5 hO4 hO5 hb4 hb5
      go_wp2_with fail
      refine HT.out.mono ?_
      rintro e6 w6 ⟨rfl, hb6⟩
      have b6 := Lib.hid (bthen b5.out hb6)
      clear hb6 HT
      go_wp2_with fail
      refine (HAL.out _).mono ?_
      rintro e7 w7 ⟨rfl, hb7⟩
      go_wp2_with fail
      go_ret
      exact ⟨rfl, bthen b6.out hb7⟩
  · have h2' : (2000 : Int) < (sb.size : Int) := by omega
    go_enter Try.func3, Try.ntmps3
    go_wp2_with fail
    refine (HAL.out _).mono ?_
    rintro e7 w7 ⟨rfl, hb7⟩
    go_wp2_with fail
    go_ret
    exact ⟨rfl, hb7⟩
set_option maxRecDepth 100000 in
theorem lineParses_lifted (os : Os) (started : os.Started) (H : Type) (enc : TypeId × Value → H) :
    ReturnsInHanded {} Try.checked os 3 .any (Rows.lineParsesSpec.pre6 enc Try.prog Try.f3 [] false) (Rows.lineParsesSpec.post enc Try.prog Try.f3 false true false false) := by
  refine LawKit.lifted (C := Try.checked) (tb := 4) own started (by kernel_rfl) Try.func3
    (ChangeSpec.witness6 (enc := enc) (C := Try.checked) false ⟨#[], #[.string ⟨#[]⟩], []⟩ 8 (by kernel_rfl) (by kernel_rfl) (by kernel_rfl) (by kernel_rfl))
    laidOut (by kernel_rfl) rfl (fun ds h => by match ds, h with | [_], _ => rfl) rfl Try.underlying4 ?_
  intro W base args ds ps hval0 hA0 hlt hsz
  have hval : ∀ (j : Nat) t v, Try.f3.params[j]? = some t → args[j]? = some v → Value.okWide Try.prog W .any base t v := hval0
  have hA : DataW.TrodAll enc Try.prog W 0 (fun _ => true) true Try.f3.params.toList args.toList ds ps := hA0
  rw [Try.params3] at hA hval
  clear hval0 hA0
  obtain ⟨v0, vs0, d0, ds0, p0, q0, hargs, rfl, rfl, t0, r0⟩ := trodAll_cons hA
  obtain ⟨rfl, rfl, rfl⟩ := trodAll_nil r0
  obtain rfl : args = #[v0] := by cases args; simp_all
  obtain ⟨s, rfl, -, -, w_s⟩ := Go.ChangeMaps.open_string Try.underlying9 (hval 0 _ v0 rfl rfl) t0
  exact line_parses s W

theorem lineParses_holds : Rows.LineParsesSaid :=
  OpenClaim.holds_of_wide 3 Try.f3 rfl rfl rfl rfl rfl rfl rfl ⟨rfl, rfl, rfl, rfl, rfl⟩ rfl rfl rfl rfl rfl (by kernel_rfl) Try.func3 (by kernel_rfl)
    (of_decide_eq_true (by kernel_rfl)) (by unfold Func.isWrapper; first | (rw [if_pos (by decide +kernel)]; kernel_rfl) | (rw [if_neg (by decide +kernel)]; exact ⟨rfl, rfl⟩))
    (fun os started H enc _ => lineParses_lifted os started H enc)
#print axioms lineParses_holds
end Go.Proofs.Ytdpfcjhhabcheaa

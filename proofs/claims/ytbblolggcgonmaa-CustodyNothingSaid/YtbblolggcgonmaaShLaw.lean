/-
  The contracts of the laws' shares and of the reference's Same, Few, May (chapter 37). No condition. Own work.
-/
import Derived.Test.YtbblolggcgonmaaRSplit
namespace Go.Proofs.Ytbblolggcgonmaa
open Go.RowKit

set_option maxRecDepth 100000 in
set_option maxHeartbeats 3200000 in
theorem shares_any (L : List Sh) (A : Option Addr) (cap : Nat) (w : World) (hA : ShAt w w.heap.size A L) (hlen : L.length ≤ 1099511627776) :
    Calls Try.prog 27 #[.slice A L.length cap] w fun e w' => (∃ v, e = .returned v ∧ w'.ownsRow w.heap.size 74 2 v L.length (L.map shCells).flatten) ∧ Below w.heap.size w w' := by
  obtain ⟨i0, hi, iz0, iz1, iz2⟩ := info_parts rshare_info
  obtain ⟨len, hl⟩ : ∃ n, n = L.length := ⟨_, rfl⟩
  rw [← hl] at hlen ⊢
  have HL := Lib.hid hl
  have HA := Lib.hid hA
  clear hl hA
  go_enter Try.func27, Try.ntmps27
  go_wp2_with fail
  go_loopw [3, 8] (fun out c wr => ∃ j : Nat, j ≤ len ∧ c = .int .i64 j ∧ wr.ownsRow w.heap.size 74 2 out j ((L.take j).map shCells).flatten ∧ Below w.heap.size w wr) (fun _ c _ => len - (intOf c).toNat)
  case atStart => exact ⟨0, Nat.zero_le _, rfl, World.ownsRow_nil _ _ _ _, Below.refl _ _⟩
  case round =>
    obtain ⟨j, hj, rfl, hown, hbw⟩ := hrel
    have hz := hbw.size
    by_cases hlt : j < len
    · obtain ⟨p, hp⟩ : ∃ p, L[j]? = some p := ⟨L[j]'(by rw [← HL.out]; exact hlt), List.getElem?_eq_getElem _⟩
      obtain ⟨ad, rfl, hadl, c0, c1⟩ := (HA.out.below hbw).get hp
      obtain ⟨x, d⟩ := p
      simp only at c0 c1
      have HP := Lib.hid hp
      have HOwn := Lib.hid hown
      clear hp hown
      go_wp2_with (at_builtin; refine wpList_append_own _ rfl _ _ 48 rfl w.heap.size 74 i0 (.agg #[.int .u8 0, .string ⟨#[]⟩]) 2 24 Try.underlying48 hi iz0 iz1 iz2 rfl (by decide) _ _ _ rfl ((HOwn.out.alloc _).alloc _) ⟨wr.heap.size + 1, 0, none⟩ 1 1 [.int .u8 ((x.toNat : Nat) : Int), .string d] rfl rfl ?c1 ?c2 ?c3 ?c4 ?c5 ?_)
      case c1 => intro q u hu; match q, hu with
                               | 0, hu => simp at hu; subst hu; simp [go_sem]
                               | 1, hu => simp at hu; subst hu; simp [go_sem]
                               | q + 2, hu => simp at hu
      case c2 => intro u hu; simp at hu; rcases hu with rfl | rfl <;> rfl
      case c3 => unfold maxLen; omega
      case c4 => omega
      case c5 => simp; omega
      intro v' w4 hown4 hgrow _
      have hB4 : Below w.heap.size w w4 := ((hbw.alloc hz _).alloc (by simp; omega) _).grown hgrow (by simp; omega) (fun q hq => (HOwn.out.lt q hq).1)
      have HO4 := Lib.hid hown4
      clear hgrow hown4 HOwn
      go_wp2_with fail
      go_roundw
      case rel =>
        refine ⟨j + 1, by omega, by go_num, ?_, hB4⟩
        rw [take_snoc' HP.out, List.map_append, List.flatten_append]
        have := HO4.out
        rw [← List.map_take] at this
        exact this
      case measure => simp [intOf]; omega
    · have hjl : j = len := by omega
      subst hjl
      rw [HL.out, List.take_length] at hown
      rw [← HL.out] at hown
      go_wp2_with fail
      go_ret
      exact ⟨⟨_, rfl, hown⟩, hbw⟩

/-- A bool that is true of few alone. -/
def FewB (n : Nat) (e : Ending) : Prop := ∃ b, e = .returned (.bool b) ∧ (b = true → n ≤ 12)
abbrev Cells4 (a b c d : Addr) (u v x y : Value) (W w' : World) : Prop := w'.cell? a = some u ∧ w'.cell? b = some v ∧ w'.cell? c = some x ∧ w'.cell? d = some y ∧ W = w'

set_option maxRecDepth 100000 in
set_option maxHeartbeats 3200000 in
theorem same_eq (L : List Sh) (A B : Option Addr) (ca cb : Nat) (w : World) (hA : ShAt w w.heap.size A L) (hB : ShAt w w.heap.size B L) (hlen : L.length ≤ 1099511627776) :
    Calls Try.prog 26 #[.slice A L.length ca, .slice B L.length cb] w fun e w' => e = .returned (.bool true) ∧ Below w.heap.size w w' := by
  obtain ⟨len, hl⟩ : ∃ n, n = L.length := ⟨_, rfl⟩
  rw [← hl] at hlen ⊢
  have HL := Lib.hid hl
  have HA := Lib.hid hA
  have HB := Lib.hid hB
  clear hl hA hB
  go_enter Try.func26, Try.ntmps26
  go_wp2_with fail
  go_loopw [5] (fun c wr => ∃ j : Nat, j ≤ len ∧ c = .int .i64 j ∧ Below w.heap.size w wr) (fun c _ => len - (intOf c).toNat)
  case atStart => exact ⟨0, Nat.zero_le _, rfl, Below.refl _ _⟩
  case round =>
    obtain ⟨j, hj, rfl, hbw⟩ := hrel
    by_cases hlt : j < len
    · obtain ⟨p, hp⟩ : ∃ p, L[j]? = some p := ⟨L[j]'(by rw [← HL.out]; exact hlt), List.getElem?_eq_getElem _⟩
      obtain ⟨ad, rfl, hadl, c0, c1⟩ := (HA.out.below hbw).get hp
      obtain ⟨bd, rfl, hbdl, d0, d1⟩ := (HB.out.below hbw).get hp
      obtain ⟨x, d⟩ := p
      simp only at c0 c1 d0 d1
      clear hp
      go_wp2_with fail
      refine wp_region_txt (Cells4 (ad.add (j * 2)) ⟨(ad.add (j * 2)).block, (ad.add (j * 2)).off + 1, none⟩ (bd.add (j * 2)) ⟨(bd.add (j * 2)).block, (bd.add (j * 2)).off + 1, none⟩ (bv x) (.string d) (bv x) (.string d) wr.drew) (by kernel_rfl) (by kernel_rfl) ⟨c0, c1, d0, d1, rfl⟩ ?_
      repeat (first
        | (refine text_skip (by rfl) ?_; simp only [Act.put, List.setIfInBounds_toArray, List.set_cons_zero, List.set_cons_succ])
        | (refine text_pure (v := ?_) (by rfl) (fun wx hS => ?_) ?_; rotate_left; (go_simp; with_reducible exact rfl); simp only [Act.put, List.setIfInBounds_toArray, List.set_cons_zero, List.set_cons_succ]))
      refine text_nil (fun wx hS => ?_)
      obtain ⟨_, _, _, _, rfl⟩ := hS
      go_wp2_with fail
      go_roundw
      case rel => exact ⟨j + 1, by omega, by go_num, hbw.drew⟩
      case measure => simp [intOf]; omega
    · have hjl : j = len := by omega
      subst hjl
      go_wp2_with fail
      go_ret
      exact ⟨rfl, hbw⟩

set_option maxRecDepth 100000 in
set_option maxHeartbeats 3200000 in
theorem few1_any (L : List Sh) (A : Option Addr) (cap : Nat) (w : World) (hA : ShAt w w.heap.size A L) (hlen : L.length ≤ 1099511627776) :
    Calls Try.prog 45 #[.slice A L.length cap] w fun e w' => FewB L.length e ∧ Below w.heap.size w w' := by
  obtain ⟨len, hl⟩ : ∃ n, n = L.length := ⟨_, rfl⟩
  rw [← hl] at hlen ⊢
  have HL := Lib.hid hl
  have HA := Lib.hid hA
  clear hl hA
  go_enter Try.func45, Try.ntmps45
  go_wp2_with fail
  go_loopw [3, 4] (fun o c wr => ∃ j v : Nat, j ≤ len ∧ j ≤ 30 ∧ v ≤ j * 1000 ∧ c = .int .i64 j ∧ o = .int .i64 (v : Int) ∧ Below w.heap.size w wr) (fun _ c _ => len - (intOf c).toNat)
  case atStart => exact ⟨0, 0, Nat.zero_le _, by omega, by omega, rfl, rfl, Below.refl _ _⟩
  case round =>
    obtain ⟨j, v, hj, hj30, hv, rfl, rfl, hbw⟩ := hrel
    by_cases hlt : j < len
    · by_cases h30 : j < 30
      · obtain ⟨p, hp⟩ : ∃ p, L[j]? = some p := ⟨L[j]'(by rw [← HL.out]; exact hlt), List.getElem?_eq_getElem _⟩
        obtain ⟨ad, rfl, hadl, c0, c1⟩ := (HA.out.below hbw).get hp
        obtain ⟨x, d⟩ := p
        simp only at c0 c1
        clear hp
        go_wp2_with fail
        refine ⟨⟨j + 1, v + min d.size 1000, by omega, by omega, by omega, by go_num, ?_, hbw⟩, by simp [intOf]; omega⟩
        congr 1
        split <;> omega
      · have hl12 : ¬ (len : Int) ≤ 12 := by omega
        go_wp2_with fail
        go_ret
        exact ⟨⟨_, rfl, fun h => absurd h (by simp)⟩, hbw⟩
    · by_cases hl12 : (len : Int) ≤ 12
      · go_wp2_with fail
        go_ret
        exact ⟨⟨_, rfl, fun h => by omega⟩, hbw⟩
      · go_wp2_with fail
        go_ret
        exact ⟨⟨_, rfl, fun h => absurd h (by simp)⟩, hbw⟩

theorem few_any (L : List Sh) (A : Option Addr) (cap : Nat) (w : World) (hA : ShAt w w.heap.size A L) :
    Calls Try.prog 30 #[.slice A L.length cap] w fun e w' => FewB L.length e ∧ Below w.heap.size w w' := by
  have hs := fun hlen => shares_any L A cap w hA hlen
  have hf := fun (A' : Option Addr) (cap' : Nat) (w : World) (h : ShAt w w.heap.size A' L) (hlen : L.length ≤ 1099511627776) => few1_any L A' cap' w h hlen
  have HO : ∀ (w' : World) base v, w'.ownsRow base 74 2 v L.length (L.map shCells).flatten → ∃ A' cap', v = .slice A' L.length cap' ∧ ShAt w' w'.heap.size A' L := fun w' base v h => by
    by_cases h0 : L.length = 0
    · obtain ⟨_, h2⟩ := h
      have hL : L = [] := List.eq_nil_of_length_eq_zero h0
      subst hL
      rcases h2 with ⟨rfl, _⟩ | ⟨g, cp, cur, rfl, _⟩
      · exact ⟨none, 0, rfl, ⟨rfl, fun h => absurd h (by simp)⟩⟩
      · exact ⟨_, cp, rfl, ⟨rfl, fun h => absurd h (by simp)⟩⟩
    · have h' := h
      obtain ⟨g, cp, rfl, _, hgl⟩ := h.form (by omega)
      exact ⟨_, cp, rfl, ShAt.own h' rfl rfl hgl⟩
  generalize L.length = len at *
  by_cases h12 : (len : Int) ≤ 12
  · go_enter Try.func30, Try.ntmps30
    go_wp2_with fail
    refine (hs (by omega)).mono ?_
    rintro e w1 ⟨⟨v, rfl, hown⟩, hb1⟩
    obtain ⟨A', cap', rfl, hsh⟩ := HO _ _ _ hown
    clear hs hown
    go_wp2_with fail
    refine (hf _ _ _ hsh (by omega)).mono ?_
    rintro e w2 ⟨⟨b, rfl, hbt⟩, hb2⟩
    go_wp2_with fail
    go_ret
    exact ⟨⟨b, by cases b <;> rfl, fun _ => by omega⟩, bthen hb1 hb2⟩
  · go_enter Try.func30, Try.ntmps30
    go_wp2_with fail
    go_ret
    exact ⟨⟨_, rfl, fun h => absurd h (by simp)⟩, Below.refl _ _⟩
end Go.Proofs.Ytbblolggcgonmaa

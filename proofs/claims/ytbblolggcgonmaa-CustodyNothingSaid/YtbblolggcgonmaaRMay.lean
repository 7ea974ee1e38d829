/-
  The contracts of the reference's May and Join (chapter 37). No condition. Own work.
-/
import Derived.Test.YtbblolggcgonmaaCustodySplits
namespace Go.Proofs.Ytbblolggcgonmaa
open Go.RowKit

theorem Good.of {L : List Sh} {p0 : Sh} (hp0 : L[0]? = some p0) (h1 : 1 ≤ p0.2.size) (h2 : p0.2.size ≤ 64) (h : ∀ (i : Nat) (p : Sh), L[i]? = some p → p.1 ≠ 0 ∧ p.2.size = p0.2.size ∧ ∀ (j : Nat) (q : Sh), j < i → L[j]? = some q → q.1 ≠ p.1) : MayOk L := by
  cases L with
  | nil => simp at hp0
  | cons q L' =>
    obtain rfl : q = p0 := by simpa using hp0
    refine ⟨q, L', rfl, h1, h2, fun p hp => ?_, ?_⟩
    · obtain ⟨i, hi⟩ := List.mem_iff_getElem?.mp hp
      exact ⟨(h i p hi).1, (h i p hi).2.1⟩
    · refine List.pairwise_iff_getElem.mpr fun i j hi hj hij e => ?_
      rw [List.length_map] at hi hj
      rw [List.getElem_map, List.getElem_map] at e
      exact (h j _ (List.getElem?_eq_getElem hj)).2.2 i _ hij (List.getElem?_eq_getElem hi) e
theorem MayOk.get {L : List Sh} {p0 : Sh} (h : MayOk L) (hp0 : L[0]? = some p0) : 1 ≤ p0.2.size ∧ p0.2.size ≤ 64 ∧ ∀ (i : Nat) (p : Sh), L[i]? = some p → p.1 ≠ 0 ∧ p.2.size = p0.2.size ∧ ∀ (j : Nat) (q : Sh), j < i → L[j]? = some q → q.1 ≠ p.1 := by
  obtain ⟨q, L', rfl, h1, h2, hg⟩ := h
  obtain rfl : q = p0 := by simpa using hp0
  refine ⟨h1, h2, fun i p hp => ⟨(hg.1 p (List.mem_of_getElem? hp)).1, (hg.1 p (List.mem_of_getElem? hp)).2, fun j r hj hr e => ?_⟩⟩
  have hn := hg.2
  obtain ⟨hil, rfl⟩ := List.getElem?_eq_some_iff.mp hp
  obtain ⟨hjl, rfl⟩ := List.getElem?_eq_some_iff.mp hr
  refine List.pairwise_iff_getElem.mp hn j i (by rw [List.length_map]; exact hjl) (by rw [List.length_map]; exact hil) hj ?_
  rw [List.getElem_map, List.getElem_map]
  exact e

/-- Is a share, behind others, one that may be? -/
def OkAt (L : List Sh) (d0 i : Nat) (p : Sh) : Prop := p.1 ≠ 0 ∧ p.2.size = d0 ∧ ∀ (j : Nat) (q : Sh), j < i → L[j]? = some q → q.1 ≠ p.1

set_option maxRecDepth 100000 in
set_option maxHeartbeats 6400000 in
theorem rmay_any (L : List Sh) (A : Option Addr) (cap : Nat) (w : World) (hA : ShAt w w.heap.size A L) (hlen : L.length ≤ 255) :
    Calls Try.prog 32 #[.slice A L.length cap] w fun e w' => e = .returned (.bool (decide (MayOk L))) ∧ Below w.heap.size w w' := by
  obtain ⟨B, hB⟩ : ∃ B, B = decide (MayOk L) := ⟨_, rfl⟩
  rw [← hB]
  obtain ⟨len, hl⟩ : ∃ n, n = L.length := ⟨_, rfl⟩
  rw [← hl] at hlen ⊢
  have HL := Lib.hid hl
  have HB := Lib.hid hB
  have HA := Lib.hid hA
  by_cases h0 : len = 0
  · have hBf : B = false := by
      rw [hB]
      refine decide_eq_false (fun ⟨q0, L', e, _⟩ => ?_)
      rw [e, h0] at hl
      simp at hl
    subst hBf
    subst h0
    clear hB hl hA
    go_enter Try.func32, Try.ntmps32
    go_wp2_with fail
    go_ret
    exact ⟨rfl, Below.refl _ _⟩
  · obtain ⟨p0, hp0⟩ : ∃ p, L[0]? = some p := ⟨L[0]'(by omega), List.getElem?_eq_getElem _⟩
    obtain ⟨ad, rfl, hadl, d0, d1⟩ := hA.get0 hp0
    have HP0 := Lib.hid hp0
    have hsz : B = true → 1 ≤ p0.2.size ∧ p0.2.size ≤ 64 := fun h => by
      have := (MayOk.get (by rw [hB] at h; simpa using h) hp0)
      exact ⟨this.1, this.2.1⟩
    have hno : ∀ (i : Nat) (p : Sh), L[i]? = some p → ¬ OkAt L p0.2.size i p → B = false := fun i p hp hn => by
      rw [hB]
      exact decide_eq_false fun h => hn ((MayOk.get h hp0).2.2 i p hp)
    have hyes : 1 ≤ p0.2.size → p0.2.size ≤ 64 → (∀ (i : Nat) (p : Sh), L[i]? = some p → OkAt L p0.2.size i p) → B = true := fun h1 h2 h => by
      rw [hB]
      exact decide_eq_true (Good.of hp0 h1 h2 h)
    obtain ⟨x0, dd⟩ := p0
    simp only at d1 hsz hno hyes
    have hpos : (0 : Int) < (len : Int) := by omega
    have hpos' : 0 < len := by omega
    have hlen' : ¬ (255 : Int) < (len : Int) := by omega
    clear hB hl hA hp0 d0
    have HSZ := Lib.hid hsz
    have HNO := Lib.hid hno
    have HYES := Lib.hid hyes
    clear hsz hno hyes
    by_cases h1 : 1 ≤ dd.size
    · by_cases h2 : dd.size ≤ 64
      · go_enter Try.func32, Try.ntmps32
        go_wp2_with fail
        go_loopw [3] (fun c wr => ∃ i : Nat, i ≤ len ∧ c = .int .i64 i ∧ (∀ (k : Nat) (p : Sh), k < i → L[k]? = some p → OkAt L dd.size k p) ∧ Below w.heap.size w wr) (fun c _ => len - (intOf c).toNat)
        case atStart => exact ⟨0, Nat.zero_le _, rfl, fun k p hk => absurd hk (Nat.not_lt_zero k), Below.refl _ _⟩
        case round =>
          obtain ⟨i, hi, rfl, hok, hbw⟩ := hrel
          have HOK := Lib.hid hok
          clear hok
          by_cases hlt : i < len
          · obtain ⟨p, hp⟩ : ∃ p, L[i]? = some p := ⟨L[i]'(by rw [← HL.out]; exact hlt), List.getElem?_eq_getElem _⟩
            obtain ⟨ad', had, hadl', c0, c1⟩ := (HA.out.below hbw).get hp
            cases had
            have k2 := (hbw.cell (p := ⟨ad.block, ad.off + 1, none⟩) hadl).trans d1
            obtain ⟨x, d⟩ := p
            simp only at c0 c1
            have HP := Lib.hid hp
            clear hp
            have hlti : (i : Int) < (len : Int) := by omega
            by_cases hx0 : x = 0
            · have hxb : ((x.toNat : Int) == 0) = true := by rw [hx0]; rfl
              have hBf : B = false := HNO.out i (x, d) HP.out (fun h => h.1 hx0)
              subst hBf
              clear hx0
              go_wp2_with fail
              refine wp_region_txt (Cells1 (ad.add (i * 2)) (.int .u8 ((x.toNat : Nat) : Int)) wr.drew) (by kernel_rfl) (by kernel_rfl) ⟨c0, rfl⟩ ?_
              repeat (first
                | (refine text_skip (by rfl) ?_; simp only [Act.put, List.setIfInBounds_toArray, List.set_cons_zero, List.set_cons_succ])
                | (refine text_pure (v := ?_) (by rfl) (fun wx hS => ?_) ?_; rotate_left; (go_simp; with_reducible exact rfl); simp only [Act.put, List.setIfInBounds_toArray, List.set_cons_zero, List.set_cons_succ]))
              refine text_nil (fun wx hS => ?_)
              obtain ⟨_, rfl⟩ := hS
              go_wp2_with fail
              go_ret
              exact ⟨rfl, hbw.drew⟩
            · have hxb : ((x.toNat : Int) == 0) = false := by
                simp only [beq_eq_false_iff_ne, ne_eq]
                intro e
                exact hx0 (UInt8.toNat_inj.mp (by simpa using e))
              have HX0 := Lib.hid hx0
              clear hx0
              by_cases hsz : d.size = dd.size
              · have hszb : ((d.size : Int) != (dd.size : Int)) = false := by simp [hsz]
                have HSZ2 := Lib.hid hsz
                clear hsz
                go_wp2_with fail
                refine wp_region_txt (Cells3 (ad.add (i * 2)) ⟨(ad.add (i * 2)).block, (ad.add (i * 2)).off + 1, none⟩ ⟨ad.block, ad.off + 1, none⟩ (.int .u8 ((x.toNat : Nat) : Int)) (.string d) (.string dd) wr.drew) (by kernel_rfl) (by kernel_rfl) ⟨c0, c1, k2, rfl⟩ ?_
                repeat (first
                  | (refine text_skip (by rfl) ?_; simp only [Act.put, List.setIfInBounds_toArray, List.set_cons_zero, List.set_cons_succ])
                  | (refine text_pure (v := ?_) (by rfl) (fun wx hS => ?_) ?_; rotate_left; (go_simp; with_reducible exact rfl); simp only [Act.put, List.setIfInBounds_toArray, List.set_cons_zero, List.set_cons_succ]))
                refine text_nil (fun wx hS => ?_)
                obtain ⟨_, _, _, rfl⟩ := hS
                clear c0 c1 k2
                obtain ⟨wo, hwo⟩ : ∃ wo, wo = wr.drew := ⟨_, rfl⟩
                have hbo : Below w.heap.size w wo := by rw [hwo]; exact hbw.drew
                rw [← hwo]
                clear hwo hbw
                go_wp2_with fail
                go_loopw [4] (fun c wi => ∃ k : Nat, k ≤ i ∧ c = .int .i64 k ∧ (∀ (j : Nat) (q : Sh), j < k → L[j]? = some q → q.1 ≠ x) ∧ Below w.heap.size w wi) (fun c _ => i - (intOf c).toNat)
                case atStart => exact ⟨0, Nat.zero_le _, rfl, fun j q hj => absurd hj (Nat.not_lt_zero j), hbo⟩
                case round =>
                  clear hbo
                  obtain ⟨k, hk, rfl, hneq, hbi⟩ := hrel
                  have HNE := Lib.hid hneq
                  clear hneq
                  by_cases hki : k < i
                  · obtain ⟨q, hq⟩ : ∃ p, L[k]? = some p := ⟨L[k]'(by rw [← HL.out]; omega), List.getElem?_eq_getElem _⟩
                    obtain ⟨ad', had, hadl', b0, b1⟩ := (HA.out.below hbi).get hq
                    cases had
                    obtain ⟨ad', had, hadl', c0, c1⟩ := (HA.out.below hbi).get HP.out
                    cases had
                    obtain ⟨y, dy⟩ := q
                    simp only at b0 b1 c0 c1
                    have hkl : (k : Int) < (len : Int) := by omega
                    have HQ := Lib.hid hq
                    clear hq
                    by_cases hyx : y = x
                    · have hBf : B = false := HNO.out i (x, d) HP.out (fun h => h.2.2 k (y, dy) hki HQ.out hyx)
                      have hyb : ((y.toNat : Int) == (x.toNat : Int)) = true := by rw [hyx]; simp
                      subst hBf
                      clear hyx
                      go_wp2_with fail
                      refine wp_region_txt (Cells2 (ad.add (k * 2)) (ad.add (i * 2)) (.int .u8 ((y.toNat : Nat) : Int)) (.int .u8 ((x.toNat : Nat) : Int)) wr.drew) (by kernel_rfl) (by kernel_rfl) ⟨b0, c0, rfl⟩ ?_
                      repeat (first
                        | (refine text_skip (by rfl) ?_; simp only [Act.put, List.setIfInBounds_toArray, List.set_cons_zero, List.set_cons_succ])
                        | (refine text_pure (v := ?_) (by rfl) (fun wx hS => ?_) ?_; rotate_left; (go_simp; with_reducible exact rfl); simp only [Act.put, List.setIfInBounds_toArray, List.set_cons_zero, List.set_cons_succ]))
                      refine text_nil (fun wx hS => ?_)
                      obtain ⟨_, _, rfl⟩ := hS
                      go_wp2_with fail
                      go_ret
                      exact ⟨rfl, hbi.drew⟩
                    · have hyb : ((y.toNat : Int) == (x.toNat : Int)) = false := by
                        simp only [beq_eq_false_iff_ne, ne_eq]
                        intro e
                        exact hyx (UInt8.toNat_inj.mp (by omega))
                      have HYX := Lib.hid hyx
                      clear hyx
                      go_wp2_with fail
                      refine wp_region_txt (Cells2 (ad.add (k * 2)) (ad.add (i * 2)) (.int .u8 ((y.toNat : Nat) : Int)) (.int .u8 ((x.toNat : Nat) : Int)) wr.drew) (by kernel_rfl) (by kernel_rfl) ⟨b0, c0, rfl⟩ ?_
                      repeat (first
                        | (refine text_skip (by rfl) ?_; simp only [Act.put, List.setIfInBounds_toArray, List.set_cons_zero, List.set_cons_succ])
                        | (refine text_pure (v := ?_) (by rfl) (fun wx hS => ?_) ?_; rotate_left; (go_simp; with_reducible exact rfl); simp only [Act.put, List.setIfInBounds_toArray, List.set_cons_zero, List.set_cons_succ]))
                      refine text_nil (fun wx hS => ?_)
                      obtain ⟨_, _, rfl⟩ := hS
                      go_wp2_with fail
                      go_roundw
                      case rel =>
                        refine ⟨k + 1, by omega, by go_num, fun j q hj hq => ?_, hbi.drew⟩
                        by_cases hjk : j = k
                        · subst hjk
                          rw [HQ.out] at hq
                          injection hq with hq
                          subst hq
                          exact HYX.out
                        · exact HNE.out j q (by omega) hq
                      case measure => simp [intOf]; omega
                  · have hki' : k = i := by omega
                    subst hki'
                    go_wp2_with fail
                    go_roundw
                    case rel =>
                      refine ⟨k + 1, by omega, by go_num, fun j p hj hp => ?_, hbi⟩
                      by_cases hjk : j = k
                      · subst hjk
                        rw [HP.out] at hp
                        injection hp with hp
                        subst hp
                        exact ⟨HX0.out, HSZ2.out, HNE.out⟩
                      · exact HOK.out j p (by omega) hp
                    case measure => simp [intOf]; omega
              · have hszb : ((d.size : Int) != (dd.size : Int)) = true := by simp; omega
                have hBf : B = false := HNO.out i (x, d) HP.out (fun h => hsz h.2.1)
                subst hBf
                clear hsz
                go_wp2_with fail
                refine wp_region_txt (Cells3 (ad.add (i * 2)) ⟨(ad.add (i * 2)).block, (ad.add (i * 2)).off + 1, none⟩ ⟨ad.block, ad.off + 1, none⟩ (.int .u8 ((x.toNat : Nat) : Int)) (.string d) (.string dd) wr.drew) (by kernel_rfl) (by kernel_rfl) ⟨c0, c1, k2, rfl⟩ ?_
                repeat (first
                  | (refine text_skip (by rfl) ?_; simp only [Act.put, List.setIfInBounds_toArray, List.set_cons_zero, List.set_cons_succ])
                  | (refine text_pure (v := ?_) (by rfl) (fun wx hS => ?_) ?_; rotate_left; (go_simp; with_reducible exact rfl); simp only [Act.put, List.setIfInBounds_toArray, List.set_cons_zero, List.set_cons_succ]))
                refine text_nil (fun wx hS => ?_)
                obtain ⟨_, _, _, rfl⟩ := hS
                go_wp2_with fail
                go_ret
                exact ⟨rfl, hbw.drew⟩
          · have hil : i = len := by omega
            have hBt : B = true := HYES.out h1 h2 (fun k p hp => HOK.out k p (by rw [hil, HL.out]; exact (List.getElem?_eq_some_iff.mp hp).1) hp)
            subst hBt
            go_wp2_with fail
            go_ret
            exact ⟨rfl, hbw⟩
      · have hBf : B = false := by
          cases hb : B with
          | false => rfl
          | true => exact absurd (HSZ.out hb).2 h2
        subst hBf
        go_enter Try.func32, Try.ntmps32
        go_wp2_with fail
        go_ret
        exact ⟨rfl, Below.refl _ _⟩
    · have hBf : B = false := by
        cases hb : B with
        | false => rfl
        | true => exact absurd (HSZ.out hb).1 h1
      subst hBf
      go_enter Try.func32, Try.ntmps32
      go_wp2_with fail
      go_ret
      exact ⟨rfl, Below.refl _ _⟩
end Go.Proofs.Ytbblolggcgonmaa

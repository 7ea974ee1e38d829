/-
  The contract of custody.may. No condition. Own work.
-/
import Derived.Test.YtbblolggcgonmaaShares
namespace Go.Proofs.Ytbblolggcgonmaa
open Go.RowKit Go.ChangeMaps Go.Maps

def Good (d0 : Nat) (M : List Sh) : Prop := (∀ p ∈ M, p.1 ≠ 0 ∧ p.2.size = d0) ∧ (M.map (·.1)).Nodup
/-- May shares be? -/
def MayOk (L : List Sh) : Prop := ∃ p0 L', L = p0 :: L' ∧ 1 ≤ p0.2.size ∧ p0.2.size ≤ 64 ∧ Good p0.2.size L
instance (d0 : Nat) (M : List Sh) : Decidable (Good d0 M) := by unfold Good; infer_instance
instance : (L : List Sh) → Decidable (MayOk L)
  | [] => .isFalse (by rintro ⟨_, _, h, _⟩; cases h)
  | p0 :: L' => if h : 1 ≤ p0.2.size ∧ p0.2.size ≤ 64 ∧ Good p0.2.size (p0 :: L') then .isTrue ⟨p0, L', rfl, h⟩ else .isFalse (by rintro ⟨q, M, e, h'⟩; cases e; exact h h')
theorem Good.nil (d : Nat) : Good d [] := ⟨fun _ h => (by cases h), List.nodup_nil⟩
theorem take_snoc' {α : Type} {L : List α} {j : Nat} {p : α} (h : L[j]? = some p) : L.take (j + 1) = L.take j ++ [p] := by rw [List.take_add_one, h]; rfl
theorem Good.snoc {d : Nat} {M : List Sh} {p : Sh} (h : Good d M) (h0 : p.1 ≠ 0) (h1 : p.1 ∉ M.map (·.1)) (h2 : p.2.size = d) : Good d (M ++ [p]) :=
  ⟨fun q hq => by
    rcases List.mem_append.mp hq with hq | hq
    · exact h.1 q hq
    · rw [List.mem_singleton] at hq; subst hq; exact ⟨h0, h2⟩, by
    rw [List.map_append, List.nodup_append]
    exact ⟨h.2, by simp, fun x hx y hy e => by simp at hy; subst hy; subst e; exact h1 hx⟩⟩
theorem Good.not {d : Nat} {M : List Sh} {p : Sh} {L : List Sh} {j : Nat} (hp : L[j]? = some p) (hM : M = L.take j) (h : p.1 = 0 ∨ p.1 ∈ M.map (·.1) ∨ p.2.size ≠ d) : ¬ Good d L := by
  intro hg
  subst hM
  have hm := List.mem_of_getElem? hp
  rcases h with h | h | h
  · exact (hg.1 p hm).1 h
  · have h2 := hg.2
    rw [← List.take_append_drop j L, List.map_append, List.nodup_append] at h2
    refine h2.2.2 _ h p.1 ?_ rfl
    refine List.mem_map.mpr ⟨p, ?_, rfl⟩
    refine List.mem_iff_getElem?.mpr ⟨0, ?_⟩
    rw [List.getElem?_drop]; exact hp
  · exact h (hg.1 p hm).2

theorem wf_u8 (x : UInt8) : (Lit.int .u8 ((x.toNat : Nat) : Int)).wf = true := by
  have := x.toNat_lt
  simp [Lit.wf, IntKind.min, IntKind.max, IntKind.signed, IntKind.bits]; omega
theorem bool_zero (W : World) : (zeroValue 4).run Try.prog W = .ok (.bool false) W := by rfl

set_option maxRecDepth 100000 in
set_option maxHeartbeats 3200000 in
theorem may_any (L : List Sh) (A : Option Addr) (cap : Nat) (w : World) (hA : ShAt w w.heap.size A L) (hlen : L.length ≤ 1099511627776) :
    Calls Try.prog 46 #[.slice A L.length cap] w fun e w' => e = .returned (.bool (decide (MayOk L))) ∧ Below w.heap.size w w' := by
  have hmm := @run_makeMap Try.prog
  obtain ⟨B, hB⟩ : ∃ B, B = decide (MayOk L) := ⟨_, rfl⟩
  rw [← hB]
  obtain ⟨len, hl⟩ : ∃ n, n = L.length := ⟨_, rfl⟩
  rw [← hl] at hlen ⊢
  have HL := Lib.hid hl
  have HB := Lib.hid hB
  have HA := Lib.hid hA
  clear hB hl hA
  go_enter Try.func46, Try.ntmps46
  go_wp2_with fail
  clear hmm
  go_loopw [9] (fun c wr => ∃ j : Nat, j ≤ len ∧ c = .int .i64 j ∧ wr.ownsMap Try.prog 5 (plainElem Try.prog 4) w.heap.size j (setD ((L.take j).map (·.1))) ∧ Below w.heap.size w wr ∧ (∀ p0, L[0]? = some p0 → Good p0.2.size (L.take j))) (fun c _ => len - (intOf c).toNat)
  case atStart => exact ⟨0, Nat.zero_le _, rfl, World.ownsMap_made _ _ _ _, (Below.refl _ _).alloc (Nat.le_refl _) _, fun _ _ => Good.nil _⟩
  case round =>
    obtain ⟨j, hj, rfl, hown, hbw, hgood⟩ := hrel
    by_cases hlt : j < len
    · obtain ⟨p, hp⟩ : ∃ p, L[j]? = some p := ⟨L[j]'(by rw [← HL.out]; exact hlt), List.getElem?_eq_getElem _⟩
      obtain ⟨p0, hp0⟩ : ∃ p, L[0]? = some p := ⟨L[0]'(by rw [← HL.out]; omega), List.getElem?_eq_getElem _⟩
      obtain ⟨ad, rfl, hadl, c0, c1⟩ := (HA.out.below hbw).get hp
      obtain ⟨ad', had, hadl', d0, d1⟩ := (HA.out.below hbw).get0 hp0
      cases had
      have hg := hgood p0 hp0
      have HP := Lib.hid hp
      have HP0 := Lib.hid hp0
      have HG := Lib.hid hg
      have HOwn := Lib.hid hown
      obtain ⟨x, d⟩ := p
      obtain ⟨x0, dd⟩ := p0
      simp only at c0 c1 d0 d1
      clear hgood hp hp0 hg hown
      have HOwn1 : Hid ((wr.alloc (.cells #[.int .u8 ((x.toNat : Nat) : Int), .string d] 62)).drew.ownsMap Try.prog 5 (plainElem Try.prog 4) w.heap.size j (setD ((L.take j).map (·.1)))) := Lib.hid (HOwn.out.alloc _).drew
      obtain ⟨c, hlk, hat⟩ := lookup_bool HOwn1.out (int_keyed Try.underlying5) Try.underlying78 Try.underlying4 (bool_zero _) (keyOf_int_mk Try.underlying5 (a := ((x.toNat : Nat) : Int)) (wf_u8 x))
      rw [setD_at] at hat
      have hc : c = decide (x ∈ (L.take j).map (·.1)) := by simpa using hat.symm
      clear hat
      obtain ⟨W1, hW1⟩ : ∃ W1, W1 = wr.alloc (.cells #[.int .u8 ((x.toNat : Nat) : Int), .string d] 62) := ⟨_, rfl⟩
      have k0 : W1.drew.cell? ⟨wr.heap.size, 0, none⟩ = some (.int .u8 ((x.toNat : Nat) : Int)) := by rw [hW1]; simp [go_sem]
      have k1 : W1.drew.cell? ⟨wr.heap.size, 1, none⟩ = some (.string d) := by rw [hW1]; simp [go_sem]
      have k2 : W1.drew.cell? ⟨ad.block, ad.off + 1, none⟩ = some (.string dd) := by rw [hW1]; exact ((bnew wr _).cell (p := ⟨ad.block, ad.off + 1, none⟩) (by have := hbw.size; simp; omega)).trans d1
      rw [← hW1] at hlk HOwn1
      have HW1 := Lib.hid hW1
      have HC := Lib.hid hc
      clear d0 d1 hW1 hc
      have hl0 : 0 < len := by omega
      have hl0' : (0 : Int) < (len : Int) := by omega
      by_cases hx0 : x = 0
      · have hBf : B = false := by
          rw [HB.out]
          exact decide_eq_false (fun ⟨q0, L', e, _, _, hG⟩ => Good.not HP.out rfl (.inl hx0) hG)
        have hxb : ((x.toNat : Int) == 0) = true := by rw [hx0]; rfl
        subst hBf
        clear hx0
        go_wp2_with fail
        rw [← HW1.out]
        refine wp_region_txt (fun w' => w'.cell? ⟨wr.heap.size, 0, none⟩ = some (.int .u8 ((x.toNat : Nat) : Int)) ∧ W1.drew = w') (by kernel_rfl) (by kernel_rfl) ⟨k0, rfl⟩ ?_
        repeat (first
          | (refine text_skip (by rfl) ?_; simp only [Act.put, List.setIfInBounds_toArray, List.set_cons_zero, List.set_cons_succ])
          | (refine text_pure (v := ?_) (by rfl) (fun wx hS => ?_) ?_; rotate_left; (go_simp; with_reducible exact rfl); simp only [Act.put, List.setIfInBounds_toArray, List.set_cons_zero, List.set_cons_succ]))
        refine text_nil (fun wx hS => ?_)
        obtain ⟨_, rfl⟩ := hS
        go_wp2_with fail
        go_ret
        exact ⟨rfl, by rw [HW1.out]; exact (hbw.alloc hbw.size _).drew⟩
      · have hxb : ((x.toNat : Int) == 0) = false := by
          simp only [beq_eq_false_iff_ne, ne_eq]
          intro e
          exact hx0 (UInt8.toNat_inj.mp (by simpa using e))
        have HX0 := Lib.hid hx0
        clear hx0
        by_cases hxm : x ∈ (L.take j).map (·.1)
        · have hct : c = true := by rw [HC.out]; simp only [decide_eq_true_eq]; exact hxm
          have hBf : B = false := by
            rw [HB.out]
            exact decide_eq_false (fun ⟨q0, L', e, _, _, hG⟩ => Good.not HP.out rfl (.inr (.inl hxm)) hG)
          clear hxm
          subst hBf
          subst hct
          go_wp2_with fail
          rw [← HW1.out]
          refine wp_region_txt (fun w' => w'.cell? ⟨wr.heap.size, 0, none⟩ = some (.int .u8 ((x.toNat : Nat) : Int)) ∧ (Instr.lookup 78 (.map (some w.heap.size)) (.int .u8 ((x.toNat : Nat) : Int)) false).run Try.prog w' = .ok (.bool true) w' ∧ W1.drew = w') (by kernel_rfl) (by kernel_rfl) ⟨k0, hlk, rfl⟩ ?_
          repeat (first
            | (refine text_skip (by rfl) ?_; simp only [Act.put, List.setIfInBounds_toArray, List.set_cons_zero, List.set_cons_succ])
            | (refine text_pure (v := ?_) (by rfl) (fun wx hS => ?_) ?_; rotate_left; (go_simp; with_reducible exact rfl); simp only [Act.put, List.setIfInBounds_toArray, List.set_cons_zero, List.set_cons_succ]))
          refine text_nil (fun wx hS => ?_)
          obtain ⟨_, _, rfl⟩ := hS
          go_wp2_with fail
          go_ret
          exact ⟨rfl, by rw [HW1.out]; exact (hbw.alloc hbw.size _).drew⟩
        · have hcf : c = false := by rw [HC.out]; exact decide_eq_false hxm
          have HXM := Lib.hid hxm
          clear hxm
          subst hcf
          by_cases hsz : d.size = dd.size
          · have hszb : ((d.size : Int) != (dd.size : Int)) = false := by simp [hsz]
            have HSZ := Lib.hid hsz
            clear hsz
            go_wp2_with fail
            rw [← HW1.out]
            refine wp_region_txt (fun w' => w'.cell? ⟨wr.heap.size, 0, none⟩ = some (.int .u8 ((x.toNat : Nat) : Int)) ∧ w'.cell? ⟨wr.heap.size, 1, none⟩ = some (.string d) ∧ w'.cell? ⟨ad.block, ad.off + 1, none⟩ = some (.string dd) ∧ (Instr.lookup 78 (.map (some w.heap.size)) (.int .u8 ((x.toNat : Nat) : Int)) false).run Try.prog w' = .ok (.bool false) w' ∧ W1.drew = w') (by kernel_rfl) (by kernel_rfl) ⟨k0, k1, k2, hlk, rfl⟩ ?_
            repeat (first
              | (refine text_skip (by rfl) ?_; simp only [Act.put, List.setIfInBounds_toArray, List.set_cons_zero, List.set_cons_succ])
              | (refine text_pure (v := ?_) (by rfl) (fun wx hS => ?_) ?_; rotate_left; (go_simp; with_reducible exact rfl); simp only [Act.put, List.setIfInBounds_toArray, List.set_cons_zero, List.set_cons_succ]))
            refine text_nil (fun wx hS => ?_)
            obtain ⟨_, _, _, _, rfl⟩ := hS
            clear hlk
            go_wp2_with (at_mapUpdate; refine wpList_mapUpdate_own _ rfl _ _ _ 78 rfl 5 4 (int_keyed Try.underlying5) Try.underlying78 _ w.heap.size j _ rfl HOwn1.out (by unfold maxLen; omega) _ _ _ rfl rfl (keyOf_int_mk Try.underlying5 (a := ((x.toNat : Nat) : Int)) (wf_u8 x)) _ [] (plainElem_bool Try.underlying4 true) ?_)
            intro w1 hown1 hgrow1
            have hB1 : Below w.heap.size w w1 := (show Below w.heap.size w W1.drew by rw [HW1.out]; exact (hbw.alloc hbw.size _).drew).grown hgrow1 (by rw [HW1.out]; simp; have := hbw.size; omega) (fun q hq => by injection hq with hq; omega)
            have HO1 := Lib.hid hown1
            clear hgrow1 hown1
            go_wp2_with fail
            go_roundw
            case rel =>
              refine ⟨j + 1, by omega, by go_num, ?_, hB1, fun q hq => ?_⟩
              · rw [take_snoc' HP.out, List.map_append, List.map_singleton, setD_snoc]
                have := HO1.out
                rw [← List.map_take] at this
                exact this
              · rw [HP0.out] at hq
                injection hq with hq
                subst hq
                rw [take_snoc' HP.out]
                exact HG.out.snoc (p := (x, d)) HX0.out HXM.out HSZ.out
            case measure => simp [intOf]; omega
          · have hszb : ((d.size : Int) != (dd.size : Int)) = true := by simp; omega
            have hBf : B = false := by
              rw [HB.out]
              refine decide_eq_false (fun ⟨q0, L', e, _, _, hG⟩ => ?_)
              have e0 := HP0.out
              have e1 : L[0]? = some q0 := by rw [e]; rfl
              rw [e0] at e1
              injection e1 with e1
              subst e1
              exact Good.not HP.out rfl (.inr (.inr hsz)) hG
            clear hsz
            subst hBf
            go_wp2_with fail
            rw [← HW1.out]
            refine wp_region_txt (fun w' => w'.cell? ⟨wr.heap.size, 0, none⟩ = some (.int .u8 ((x.toNat : Nat) : Int)) ∧ w'.cell? ⟨wr.heap.size, 1, none⟩ = some (.string d) ∧ w'.cell? ⟨ad.block, ad.off + 1, none⟩ = some (.string dd) ∧ (Instr.lookup 78 (.map (some w.heap.size)) (.int .u8 ((x.toNat : Nat) : Int)) false).run Try.prog w' = .ok (.bool false) w' ∧ W1.drew = w') (by kernel_rfl) (by kernel_rfl) ⟨k0, k1, k2, hlk, rfl⟩ ?_
            repeat (first
              | (refine text_skip (by rfl) ?_; simp only [Act.put, List.setIfInBounds_toArray, List.set_cons_zero, List.set_cons_succ])
              | (refine text_pure (v := ?_) (by rfl) (fun wx hS => ?_) ?_; rotate_left; (go_simp; with_reducible exact rfl); simp only [Act.put, List.setIfInBounds_toArray, List.set_cons_zero, List.set_cons_succ]))
            refine text_nil (fun wx hS => ?_)
            obtain ⟨_, _, _, _, rfl⟩ := hS
            go_wp2_with fail
            go_ret
            exact ⟨rfl, by rw [HW1.out]; exact (hbw.alloc hbw.size _).drew⟩
    · have hjl : j = len := by omega
      by_cases hl0 : len = 0
      · have hBf : B = false := by
          rw [HB.out]
          refine decide_eq_false (fun ⟨q0, L', e, _⟩ => ?_)
          have := HL.out
          rw [e, hl0] at this
          simp at this
        subst hBf
        subst hl0
        go_wp2_with fail
        go_ret
        exact ⟨rfl, hbw⟩
      · obtain ⟨p0, hp0⟩ : ∃ p, L[0]? = some p := ⟨L[0]'(by rw [← HL.out]; omega), List.getElem?_eq_getElem _⟩
        obtain ⟨ad, rfl, hadl, d0, d1⟩ := (HA.out.below hbw).get0 hp0
        have hg := hgood p0 hp0
        have hb2 : B = decide (1 ≤ p0.2.size ∧ p0.2.size ≤ 64) := by
          rw [HB.out]
          rw [hjl, HL.out, List.take_length] at hg
          refine decide_eq_decide.mpr ⟨fun ⟨q0, L', e, h1, h2, _⟩ => ?_, fun ⟨h1, h2⟩ => ?_⟩
          · rw [e] at hp0
            obtain rfl : q0 = p0 := by simpa using hp0
            exact ⟨h1, h2⟩
          · cases hL : L with
            | nil => rw [hL] at hp0; simp at hp0
            | cons q0 L' =>
              rw [hL] at hp0 hg
              obtain rfl : q0 = p0 := by simpa using hp0
              exact ⟨q0, L', rfl, h1, h2, hg⟩
        obtain ⟨x0, dd⟩ := p0
        simp only at d1 hb2
        have hpos : (0 : Int) < (len : Int) := by omega
        have hpos' : 0 < len := by omega
        clear hgood hg hp0 d0 hown
        by_cases h1 : 1 ≤ dd.size
        · by_cases h2 : dd.size ≤ 64
          · have hBt : B = true := by rw [hb2]; exact decide_eq_true ⟨h1, h2⟩
            clear hb2
            subst hBt
            go_wp2_with fail
            go_ret
            exact ⟨by simp; omega, hbw⟩
          · have hBt : B = false := by rw [hb2]; exact decide_eq_false (fun h => h2 h.2)
            clear hb2
            subst hBt
            go_wp2_with fail
            go_ret
            exact ⟨by simp; omega, hbw⟩
        · have hBt : B = false := by rw [hb2]; exact decide_eq_false (fun h => h1 h.1)
          clear hb2
          subst hBt
          go_wp2_with fail
          go_ret
          exact ⟨by simp, hbw⟩
end Go.Proofs.Ytbblolggcgonmaa

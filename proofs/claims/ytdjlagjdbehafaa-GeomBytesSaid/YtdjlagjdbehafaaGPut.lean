/-
  The contracts of geom.widths and geom.Put. No condition. Own work.
-/
import Derived.Test.YtdjlagjdbehafaaGeomLaw
import Derived.Test.YtdjlagjdbehafaaOct2
import Derived.Test.YtdjlagjdbehafaaTwo
namespace Go.Proofs.Ytdjlagjdbehafaa
open Go.RowKit

theorem widths_any (w : World) : Calls Try.prog 48 #[] w fun e w' => e = .returned (.slice (some ⟨w.heap.size, 0, none⟩) 3 3) ∧ w.alloc (.cells #[.int .i64 4, .int .i64 4, .int .i64 4] 86) = w' := by
  go_enter Try.func48, Try.ntmps48
  go_wp2_with fail
  go_ret
  exact ⟨rfl, rfl⟩
def gL (b l f : Int) : List (Nat × Int) := [(4, b), (4, l), (4, f)]
/-- A shape's bytes. -/
def gB (b l f : Nat) : List UInt8 := be b 4 ++ (be l 4 ++ (be f 4 ++ []))
theorem gB_len (b l f : Nat) : (gB b l f).length = 12 := by simp [gB, be_len]
theorem packO_pos {k : Nat} {n : Int} {L : List (Nat × Int)} {r : List UInt8} (h : 0 ≤ n ∧ n < 2 ^ (8 * k)) (hL : packO L = some r) : packO ((k, n) :: L) = some (be n.toNat k ++ r) := by
  rw [packO, if_pos h, hL]; rfl
theorem gL_pack (b l f : Nat) (h : GOk b l f) : packR (gL b l f) = .tuple #[.string ⟨(gB b l f).toArray⟩, .int .i64 0] := by
  unfold GOk at h
  have e : packO (gL b l f) = some (gB b l f) := packO_pos (by omega) (packO_pos (by omega) (packO_pos (by omega) rfl))
  rw [packR, e]
theorem gput_no (b l f : Int) (hb : ¬ GOk b l f) (w : World) : Calls Try.prog 37 #[GVal b l f] w fun e w' => e = .returned (.tuple #[.string ⟨#[]⟩, .int .i64 2]) ∧ Below w.heap.size w w' := by
  have HC := Lib.hid (check_no b l f hb)
  clear hb
  go_enter Try.func37, Try.ntmps37
  go_wp2_with fail
  refine (HC.out _).mono ?_
  rintro e1 w1 ⟨rfl, hb1⟩
  have b1 := bthen (bnew w (.cells #[.int .i64 b, .int .i64 l, .int .i64 f] 23)) hb1
  clear hb1
  go_wp2_with fail
  go_ret2
  exact ⟨rfl, b1⟩
set_option maxHeartbeats 3200000 in
theorem gput_yes (b l f : Nat) (hb : GOk b l f) (w : World) : Calls Try.prog 37 #[GVal b l f] w fun e w' => e = .returned (.tuple #[.string ⟨(gB b l f).toArray⟩, .int .i64 0]) ∧ Below w.heap.size w w' := by
  have HW := Lib.hid widths_any
  have HC := Lib.hid (check_yes b l f hb)
  have hR := gL_pack b l f hb
  have hgw : ∀ p ∈ gL b l f, 1 ≤ p.1 ∧ p.1 ≤ 8 ∧ p.2 ≤ 9223372036854775807 := by
    unfold GOk at hb
    intro p hp
    simp only [gL, List.mem_cons, List.not_mem_nil, or_false] at hp
    rcases hp with rfl | rfl | rfl <;> simp <;> omega
  generalize gB b l f = R at *
  have HR := Lib.hid hR
  have HGW := Lib.hid hgw
  clear hb hR hgw
  go_enter Try.func37, Try.ntmps37
  go_wp2_with fail
  refine (HC.out _).mono ?_
  rintro e1 w1 ⟨rfl, hb1⟩
  have b1 := bthen (bnew w (.cells #[.int .i64 (b : Int), .int .i64 (l : Int), .int .i64 (f : Int)] 23)) hb1
  have z1 := bsz hb1
  have c0 : w1.cell? ⟨w.heap.size, 0, none⟩ = some (.int .i64 (b : Int)) := (hb1.cell (p := ⟨w.heap.size, 0, none⟩) (by simp)).trans (by simp [go_sem])
  have c1 : w1.cell? ⟨w.heap.size, 1, none⟩ = some (.int .i64 (l : Int)) := (hb1.cell (p := ⟨w.heap.size, 1, none⟩) (by simp)).trans (by simp [go_sem])
  have c2 : w1.cell? ⟨w.heap.size, 2, none⟩ = some (.int .i64 (f : Int)) := (hb1.cell (p := ⟨w.heap.size, 2, none⟩) (by simp)).trans (by simp [go_sem])
  have HA : Hid (Calls Try.prog 47 #[.slice (some ⟨w1.heap.size, 0, none⟩) 3 3, .slice (some ⟨w1.heap.size + 1, 0, none⟩) 3 3]
      ((w1.alloc (.cells #[.int .i64 4, .int .i64 4, .int .i64 4] 86)).alloc (.cells #[.int .i64 (b : Int), .int .i64 (l : Int), .int .i64 (f : Int)] 3)).drew fun e w' => e = .returned (.tuple #[.string ⟨R.toArray⟩, .int .i64 0]) ∧ Below w1.heap.size w1 w') := Lib.hid (by
    have k1 := heap_alloc_new w1 (.cells #[.int .i64 4, .int .i64 4, .int .i64 4] 86)
    have k2 := heap_alloc_new (w1.alloc (.cells #[.int .i64 4, .int .i64 4, .int .i64 4] 86)) (.cells #[.int .i64 (b : Int), .int .i64 (l : Int), .int .i64 (f : Int)] 3)
    have k3 := bnew (w1.alloc (.cells #[.int .i64 4, .int .i64 4, .int .i64 4] 86)) (.cells #[.int .i64 (b : Int), .int .i64 (l : Int), .int .i64 (f : Int)] 3)
    rw [show (w1.alloc (.cells #[.int .i64 4, .int .i64 4, .int .i64 4] 86)).heap.size = w1.heap.size + 1 from by simp] at k2 k3
    have k1' := (k3.block w1.heap.size (by omega)).trans k1
    have bb := (bnew w1 (.cells #[.int .i64 4, .int .i64 4, .int .i64 4] 86)).trans (k3.mono (by omega))
    refine (pack_any (gL b l f) w1.heap.size (w1.heap.size + 1) 3 3 HGW.out (by simp [gL]) _ (by simp; omega) (by simp) (fun j p hp => ?_) (fun j p hp => ?_)).mono ?_
    · refine (cell_of_row _ w1.heap.size j _ _ (0, 0) k1').trans ?_
      match j with
      | 0 => simp [gL] at hp; subst hp; rfl
      | 1 => simp [gL] at hp; subst hp; rfl
      | 2 => simp [gL] at hp; subst hp; rfl
      | j + 3 => simp [gL] at hp
    · refine (cell_of_row _ (w1.heap.size + 1) j _ _ (0, 0) k2).trans ?_
      match j with
      | 0 => simp [gL] at hp; subst hp; rfl
      | 1 => simp [gL] at hp; subst hp; rfl
      | 2 => simp [gL] at hp; subst hp; rfl
      | j + 3 => simp [gL] at hp
    · rintro e w' ⟨rfl, hb⟩
      exact ⟨by rw [HR.out], bthen bb.drew hb⟩)
  have HB : Hid (Calls Try.prog 47 #[.slice (some ⟨w1.heap.size + 1, 0, none⟩) 3 3, .slice (some ⟨w1.heap.size, 0, none⟩) 3 3]
      ((w1.alloc (.cells #[.int .i64 (b : Int), .int .i64 (l : Int), .int .i64 (f : Int)] 3)).alloc (.cells #[.int .i64 4, .int .i64 4, .int .i64 4] 86)).drew fun e w' => e = .returned (.tuple #[.string ⟨R.toArray⟩, .int .i64 0]) ∧ Below w1.heap.size w1 w') := Lib.hid (by
    have k1 := heap_alloc_new w1 (.cells #[.int .i64 (b : Int), .int .i64 (l : Int), .int .i64 (f : Int)] 3)
    have k2 := heap_alloc_new (w1.alloc (.cells #[.int .i64 (b : Int), .int .i64 (l : Int), .int .i64 (f : Int)] 3)) (.cells #[.int .i64 4, .int .i64 4, .int .i64 4] 86)
    have k3 := bnew (w1.alloc (.cells #[.int .i64 (b : Int), .int .i64 (l : Int), .int .i64 (f : Int)] 3)) (.cells #[.int .i64 4, .int .i64 4, .int .i64 4] 86)
    rw [show (w1.alloc (.cells #[.int .i64 (b : Int), .int .i64 (l : Int), .int .i64 (f : Int)] 3)).heap.size = w1.heap.size + 1 from by simp] at k2 k3
    have k1' := (k3.block w1.heap.size (by omega)).trans k1
    have bb := (bnew w1 (.cells #[.int .i64 (b : Int), .int .i64 (l : Int), .int .i64 (f : Int)] 3)).trans (k3.mono (by omega))
    refine (pack_any (gL b l f) (w1.heap.size + 1) w1.heap.size 3 3 HGW.out (by simp [gL]) _ (by simp) (by simp; omega) (fun j p hp => ?_) (fun j p hp => ?_)).mono ?_
    · refine (cell_of_row _ (w1.heap.size + 1) j _ _ (0, 0) k2).trans ?_
      match j with
      | 0 => simp [gL] at hp; subst hp; rfl
      | 1 => simp [gL] at hp; subst hp; rfl
      | 2 => simp [gL] at hp; subst hp; rfl
      | j + 3 => simp [gL] at hp
    · refine (cell_of_row _ w1.heap.size j _ _ (0, 0) k1').trans ?_
      match j with
      | 0 => simp [gL] at hp; subst hp; rfl
      | 1 => simp [gL] at hp; subst hp; rfl
      | 2 => simp [gL] at hp; subst hp; rfl
      | j + 3 => simp [gL] at hp
    · rintro e w' ⟨rfl, hb⟩
      exact ⟨by rw [HR.out], bthen bb.drew hb⟩)
  clear hb1
  have hK : ∀ o1 o2 : Obj, (w1.drew.cell? ⟨w.heap.size, 0, none⟩ = some (.int .i64 (b : Int)) ∧ w1.drew.cell? ⟨w.heap.size, 1, none⟩ = some (.int .i64 (l : Int)) ∧ w1.drew.cell? ⟨w.heap.size, 2, none⟩ = some (.int .i64 (f : Int))) ∧
      ((w1.alloc o1).drew.cell? ⟨w.heap.size, 0, none⟩ = some (.int .i64 (b : Int)) ∧ (w1.alloc o1).drew.cell? ⟨w.heap.size, 1, none⟩ = some (.int .i64 (l : Int)) ∧ (w1.alloc o1).drew.cell? ⟨w.heap.size, 2, none⟩ = some (.int .i64 (f : Int))) ∧
      (((w1.alloc o1).alloc o2).drew.cell? ⟨w.heap.size, 0, none⟩ = some (.int .i64 (b : Int)) ∧ ((w1.alloc o1).alloc o2).drew.cell? ⟨w.heap.size, 1, none⟩ = some (.int .i64 (l : Int)) ∧ ((w1.alloc o1).alloc o2).drew.cell? ⟨w.heap.size, 2, none⟩ = some (.int .i64 (f : Int))) := fun o1 o2 => by
    have q1 := bnew w1 o1
    have q2 := bnew (w1.alloc o1) o2
    have z2 : w.heap.size < (w1.alloc o1).heap.size := by simp; omega
    have e1 : ∀ o v, w1.cell? ⟨w.heap.size, o, none⟩ = some v → (w1.alloc o1).cell? ⟨w.heap.size, o, none⟩ = some v := fun o v h => (q1.cell (p := ⟨w.heap.size, o, none⟩) z1).trans h
    have e2 : ∀ o v, w1.cell? ⟨w.heap.size, o, none⟩ = some v → ((w1.alloc o1).alloc o2).cell? ⟨w.heap.size, o, none⟩ = some v := fun o v h => (q2.cell (p := ⟨w.heap.size, o, none⟩) z2).trans (e1 o v h)
    exact ⟨⟨c0, c1, c2⟩, ⟨e1 _ _ c0, e1 _ _ c1, e1 _ _ c2⟩, e2 _ _ c0, e2 _ _ c1, e2 _ _ c2⟩
  have HK := Lib.hid hK
  clear hK
  go_wp2_with fail
  refine wp_region_front (by kernel_rfl) ?_
  refine front_two (K := fun w' => w'.cell? ⟨w.heap.size, 0, none⟩ = some (.int .i64 (b : Int)) ∧ w'.cell? ⟨w.heap.size, 1, none⟩ = some (.int .i64 (l : Int)) ∧ w'.cell? ⟨w.heap.size, 2, none⟩ = some (.int .i64 (f : Int))) 8 0 7 10 17
    ⟨w1.drew, (w1.alloc (.cells #[.int .i64 4, .int .i64 4, .int .i64 4] 86)).drew, ((w1.alloc (.cells #[.int .i64 4, .int .i64 4, .int .i64 4] 86)).alloc (.cells #[.int .i64 (b : Int), .int .i64 (l : Int), .int .i64 (f : Int)] 3)).drew,
      (w1.alloc (.cells #[.int .i64 (b : Int), .int .i64 (l : Int), .int .i64 (f : Int)] 3)).drew, ((w1.alloc (.cells #[.int .i64 (b : Int), .int .i64 (l : Int), .int .i64 (f : Int)] 3)).alloc (.cells #[.int .i64 4, .int .i64 4, .int .i64 4] 86)).drew,
      .slice (some ⟨w1.heap.size + 1, 0, none⟩) 3 3, .slice (some ⟨w1.heap.size, 0, none⟩) 3 3⟩ (by kernel_rfl) (by kernel_rfl) ?_ ?_
  · exact ⟨(HK.out (.cells #[] 0) (.cells #[] 0)).1, (HK.out _ (.cells #[] 0)).2.1, (HK.out _ _).2.2, (HK.out _ (.cells #[] 0)).2.1, (HK.out _ _).2.2⟩
  simp only [List.take_succ_cons, List.take_zero]
  refine textT_call1 (v := .slice (some ⟨w1.heap.size, 0, none⟩) 3 3) (f := 48) (args := #[]) (by rfl) (by rfl) (fun wx => ?_) ?_ ?_ ?_
  · go_simp
  · exact HW.out w1.drew
  · have h := HW.out (w1.alloc (.cells #[.int .i64 (b : Int), .int .i64 (l : Int), .int .i64 (f : Int)] 3)).drew
    have e : (w1.alloc (.cells #[.int .i64 (b : Int), .int .i64 (l : Int), .int .i64 (f : Int)] 3)).drew.heap.size = w1.heap.size + 1 := by simp
    rw [e] at h
    exact h
  simp only [Act.put, List.setIfInBounds_toArray, List.set_cons_zero, List.set_cons_succ]
  repeat (first
    | (refine textT_skip (by rfl) (by decide) (by decide) ?_; simp only [Act.put, List.setIfInBounds_toArray, List.set_cons_zero, List.set_cons_succ])
    | (refine textT_pure (v := ?_) (by rfl) (by decide) (by decide) (fun wx hS => ?_) ?_; rotate_left; ((try dsimp only at hS); go_simp; with_reducible exact rfl); simp only [Act.put, List.setIfInBounds_toArray, List.set_cons_zero, List.set_cons_succ]))
  refine textT_make2 (v := .slice (some ⟨w1.heap.size + 1, 0, none⟩) 3 3) (by rfl) (by rfl) ?_ ?_ ?_
  · dsimp only
    go_simp
  · dsimp only
    go_simp
  simp only [Act.put, List.setIfInBounds_toArray, List.set_cons_zero, List.set_cons_succ]
  refine ⟨?_, ?_⟩
  · refine front_chunk 5 8 (PW ((w1.alloc (.cells #[.int .i64 4, .int .i64 4, .int .i64 4] 86)).alloc (.cells #[.int .i64 (b : Int), .int .i64 (l : Int), .int .i64 (f : Int)] 3)).drew (Below w1.heap.size w1)) (by kernel_rfl) (by decide) rfl ?_
    simp only [List.drop_succ_cons, List.drop_zero, List.take_succ_cons, List.take_zero]
    repeat (first
      | (refine textP_skip (by rfl) (by decide) ?_; simp only [Act.put, List.setIfInBounds_toArray, List.set_cons_zero, List.set_cons_succ])
      | (refine textP_pure (v := ?_) (by rfl) (by decide) (fun q wx hS => ?_) ?_; rotate_left; (go_simp; with_reducible exact rfl); simp only [Act.put, List.setIfInBounds_toArray, List.set_cons_zero, List.set_cons_succ])
      | (refine textP_pivot (v := ?_) (f := ?_) (args := ?_) (by rfl) (by rfl) (fun wx hS => ?_) (fun wx hS => ?_) ?_; rotate_left 3; (go_simp; constructor <;> with_reducible rfl); (with_reducible exact PW.piv HA.out wx hS); simp only [Act.put, List.setIfInBounds_toArray, List.set_cons_zero, List.set_cons_succ]))
    refine textP_nil (fun wx hS => ?_)
    have hb9 : Below w1.heap.size w1 wx := hS
    refine front_end (by rfl) ?_
    go_wp2_with fail
    go_ret2
    exact ⟨rfl, bthen b1 hb9⟩
  · simp only [List.setIfInBounds_toArray, List.set_cons_zero, List.set_cons_succ]
    refine front_chunk 5 8 (PW ((w1.alloc (.cells #[.int .i64 (b : Int), .int .i64 (l : Int), .int .i64 (f : Int)] 3)).alloc (.cells #[.int .i64 4, .int .i64 4, .int .i64 4] 86)).drew (Below w1.heap.size w1)) (by kernel_rfl) (by decide) rfl ?_
    simp only [List.drop_succ_cons, List.drop_zero, List.take_succ_cons, List.take_zero]
    repeat (first
      | (refine textP_skip (by rfl) (by decide) ?_; simp only [Act.put, List.setIfInBounds_toArray, List.set_cons_zero, List.set_cons_succ])
      | (refine textP_pure (v := ?_) (by rfl) (by decide) (fun q wx hS => ?_) ?_; rotate_left; (go_simp; with_reducible exact rfl); simp only [Act.put, List.setIfInBounds_toArray, List.set_cons_zero, List.set_cons_succ])
      | (refine textP_pivot (v := ?_) (f := ?_) (args := ?_) (by rfl) (by rfl) (fun wx hS => ?_) (fun wx hS => ?_) ?_; rotate_left 3; (go_simp; constructor <;> with_reducible rfl); (with_reducible exact PW.piv HB.out wx hS); simp only [Act.put, List.setIfInBounds_toArray, List.set_cons_zero, List.set_cons_succ]))
    refine textP_nil (fun wx hS => ?_)
    have hb9 : Below w1.heap.size w1 wx := hS
    refine front_end (by rfl) ?_
    go_wp2_with fail
    go_ret2
    exact ⟨rfl, bthen b1 hb9⟩
end Go.Proofs.Ytdjlagjdbehafaa

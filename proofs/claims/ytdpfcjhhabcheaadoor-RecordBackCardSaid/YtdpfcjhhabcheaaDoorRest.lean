/-
  The contract of record.rest (what of a record its kind does not say). No condition. Own work.
-/
import Derived.Test.YtdpfcjhhabcheaaDoorRRight
namespace Go.Proofs.YtdpfcjhhabcheaaDoor
open Go.RowKit

/-- Is a number from nought to another one? -/
def wi (n most : Int) : Bool := decide (0 ≤ n ∧ n ≤ most)
theorem wi_any (n most : Int) (w : World) : Calls Tryd.prog 38 #[.int .i64 n, .int .i64 most] w fun e w' => e = .returned (.bool (wi n most)) ∧ w = w' := within_any n most w
theorem bnew4 (w : World) (a b c d : Obj) : Below w.heap.size w ((((w.alloc a).alloc b).alloc c).alloc d).drew :=
  (((((Below.refl _ _).alloc (Nat.le_refl _) _).alloc (by simp) _).alloc (by simp; omega) _).alloc (by simp; omega) _).drew
set_option maxRecDepth 100000 in
set_option maxHeartbeats 3200000 in
theorem rest1_any (b4 b5 b1 : Nat) (ok : Bool) (g e : Int) (w : World) (h4 : w.cell? ⟨b4, 0, none⟩ = some (.bool ok)) (h5 : w.cell? ⟨b5, 4, none⟩ = some (.int .i64 g)) (h1 : w.cell? ⟨b1, 1, none⟩ = some (.int .i64 e))
    (f4 : w.frozen? ⟨b4, 0, none⟩ = false) (f5 : w.frozen? ⟨b5, 4, none⟩ = false) (hne : b4 ≠ b5) :
    Calls Tryd.prog 59 #[.pointer (some ⟨b4, 0, none⟩), .pointer (some ⟨b5, 0, none⟩), .pointer (some ⟨b1, 0, none⟩)] w fun x w' => x = .returned (.tuple #[]) ∧
      (w.setCell ⟨b4, 0, none⟩ (.bool (ok && wi g (wrap64 (e - 1))))).setCell ⟨b5, 4, none⟩ (.int .i64 0) = w' := by
  have HW := Lib.hid (wi_any g (wrap64 (e - 1)))
  generalize wi g (wrap64 (e - 1)) = b at *
  have hne' : b5 ≠ b4 := fun h => hne h.symm
  cases ok
  · go_enter Tryd.func59, Tryd.ntmps59
    go_wp2_with ((with_reducible refine (HW.out _).mono ?_); rintro e1 w1 ⟨rfl, rfl⟩)
    first | go_end0 | trace_state
    exact ⟨rfl, rfl⟩
  · go_enter Tryd.func59, Tryd.ntmps59
    go_wp2_with ((with_reducible refine (HW.out _).mono ?_); rintro e1 w1 ⟨rfl, rfl⟩)
    first | go_end0 | trace_state
    exact ⟨rfl, rfl⟩
theorem rest1_fid (args : Array Value) (W : World) : (callFunc 59 args).run Tryd.prog W = .ok (.enter 59 args) W := by rfl
set_option maxRecDepth 100000 in
set_option maxHeartbeats 3200000 in
theorem rest_one (e t c g u : Int) (r n : ByteArray) (w : World) : Calls Tryd.prog 37 #[RVal 1 e t c g u r n] w fun x w' => x = .returned (.tuple #[RVal 0 0 0 0 g u ⟨#[]⟩ n, .bool (wi c 4096 && decide (r.size = 32))]) ∧ Below w.heap.size w w' := by
  have HW := Lib.hid (wi_any c 4096)
  generalize wi c 4096 = b at *
  obtain ⟨q, hq⟩ : ∃ q, decide (r.size = 32) = q := ⟨_, rfl⟩
  rw [hq]
  have h32 : ((r.size : Int) == 32) = q := by rw [← hq, Bool.eq_iff_iff]; simp; omega
  have HQ : Hid _ := Lib.hid h32
  clear h32 hq
  cases b
  all_goals cases q
  all_goals
    have h32 := HQ.out
    clear HQ
    go_enter Tryd.func37, Tryd.ntmps37
    go_wp2_with ((with_reducible refine (HW.out _).mono ?_); rintro e1 w1 ⟨rfl, rfl⟩)
    go_region
    go_wp2_with fail
    refine bodyPost_ret (v := .tuple #[RVal 0 0 0 0 g u ⟨#[]⟩ n, .bool _]) ?_ rfl ⟨rfl, ?_⟩
    · rw [results_cell_tmp rfl]
      go_simp
    · exact bnew4 _ _ _ _ _
set_option maxRecDepth 100000 in
set_option maxHeartbeats 3200000 in
theorem rest_two (k e t c g u : Int) (r n : ByteArray) (hk : k = 2 ∨ k = 5) (w : World) : Calls Tryd.prog 37 #[RVal k e t c g u r n] w fun x w' => x = .returned (.tuple #[RVal 0 0 0 c 0 0 r n, .bool (wi u 1099511627776 && wi g (wrap64 (e - 1)))]) ∧ Below w.heap.size w w' := by
  have HW := Lib.hid (wi_any u 1099511627776)
  generalize wi u 1099511627776 = b at *
  have hfid := rest1_fid
  rcases hk with rfl | rfl
  all_goals
    have hR := rest1_any
    have HR : Hid _ := Lib.hid hR
    clear hR
    go_enter Tryd.func37, Tryd.ntmps37
    go_wp2_with (first
      | ((with_reducible refine (HW.out _).mono ?_); rintro e1 w1 ⟨rfl, rfl⟩)
      | (refine (HR.out _ _ _ b g e _ (by go_simp) (by go_simp) (by go_simp) (by go_simp) (by go_simp) (by omega)).mono ?_; rintro e1 w1 ⟨rfl, rfl⟩))
    go_region
    go_wp2_with fail
    refine bodyPost_ret (v := .tuple #[RVal 0 0 0 c 0 0 r n, .bool _]) ?_ rfl ⟨rfl, ?_⟩
    · rw [results_cell_tmp rfl]
      go_simp
    · exact bnew4 _ _ _ _ _
set_option maxRecDepth 100000 in
set_option maxHeartbeats 3200000 in
theorem rest_three (e t c g u : Int) (r n : ByteArray) (hn : n.size ≤ 100000) (w : World) : Calls Tryd.prog 37 #[RVal 3 e t c g u r n] w fun x w' => x = .returned (.tuple #[RVal 0 0 0 c 0 u r ⟨#[]⟩, .bool (wi g (wrap64 (e - 1)) && nameL n.data.toList)]) ∧ Below w.heap.size w w' := by
  have HN := Lib.hid (name_any n hn)
  generalize nameL n.data.toList = b at *
  have hfid := rest1_fid
  obtain ⟨q, hq⟩ : ∃ q, wi g (wrap64 (e - 1)) = q := ⟨_, rfl⟩
  rw [hq]
  have HQ := Lib.hid hq
  clear hq hn
  cases q
  all_goals
    have hR := rest1_any
    have HR : Hid _ := Lib.hid hR
    clear hR
    go_enter Tryd.func37, Tryd.ntmps37
    go_wp2_with (first
      | ((with_reducible refine (HN.out _).mono ?_); rintro e1 w1 ⟨rfl, rfl⟩)
      | (refine (HR.out _ _ _ true g e _ (by go_simp) (by go_simp) (by go_simp) (by go_simp) (by go_simp) (by omega)).mono ?_; rw [HQ.out]; rintro e1 w1 ⟨rfl, rfl⟩))
    go_region
    go_wp2_with fail
    refine bodyPost_ret (v := .tuple #[RVal 0 0 0 c 0 u r ⟨#[]⟩, .bool _]) ?_ rfl ⟨rfl, ?_⟩
    · rw [results_cell_tmp rfl]
      go_simp
    · exact bnew4 _ _ _ _ _
set_option maxRecDepth 100000 in
set_option maxHeartbeats 3200000 in
theorem rest_four (e t c g u : Int) (r n : ByteArray) (hn : n.size ≤ 100000) (w : World) : Calls Tryd.prog 37 #[RVal 4 e t c g u r n] w fun x w' => x = .returned (.tuple #[RVal 0 0 0 c g u r ⟨#[]⟩, .bool (nameL n.data.toList)]) ∧ Below w.heap.size w w' := by
  have HN := Lib.hid (name_any n hn)
  generalize nameL n.data.toList = b at *
  clear hn
  go_enter Tryd.func37, Tryd.ntmps37
  go_wp2_with ((with_reducible refine (HN.out _).mono ?_); rintro e1 w1 ⟨rfl, rfl⟩)
  go_region
  go_wp2_with fail
  refine bodyPost_ret (v := .tuple #[RVal 0 0 0 c g u r ⟨#[]⟩, .bool _]) ?_ rfl ⟨rfl, ?_⟩
  · rw [results_cell_tmp rfl]
    go_simp
  · exact bnew4 _ _ _ _ _
set_option maxRecDepth 100000 in
set_option maxHeartbeats 3200000 in
theorem rest_other (k e t c g u : Int) (r n : ByteArray) (k1 : ¬ k = 1) (k2 : ¬ k = 2) (k3 : ¬ k = 3) (k4 : ¬ k = 4) (k5 : ¬ k = 5) (w : World) : Calls Tryd.prog 37 #[RVal k e t c g u r n] w fun x w' => x = .returned (.tuple #[RVal 0 0 0 c g u r n, .bool false]) ∧ Below w.heap.size w w' := by
  go_enter Tryd.func37, Tryd.ntmps37
  go_wp2_with fail
  go_region
  go_wp2_with fail
  refine bodyPost_ret (v := .tuple #[RVal 0 0 0 c g u r n, .bool _]) ?_ rfl ⟨rfl, ?_⟩
  · rw [results_cell_tmp rfl]
    go_simp
  · exact bnew4 _ _ _ _ _
end Go.Proofs.YtdpfcjhhabcheaaDoor

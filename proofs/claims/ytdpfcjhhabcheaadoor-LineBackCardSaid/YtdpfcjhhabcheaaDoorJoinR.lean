/-
  The contract of the law's join (words with a blank between each two). No condition. Own work.
-/
import Derived.Test.YtdpfcjhhabcheaaDoorJoinL
namespace Go.Proofs.YtdpfcjhhabcheaaDoor
open Go Go.RowKit

theorem ljoin_two (a b : List UInt8) (r : List (List UInt8)) : Lib.join (a :: b :: r) [32] = a ++ (32 :: Lib.join (b :: r) [32]) := by simp [Lib.join, List.intercalate]
theorem ljoin_snoc : ∀ (l : List (List UInt8)) (x : List UInt8), l ≠ [] → Lib.join (l ++ [x]) [32] = Lib.join l [32] ++ [32] ++ x
  | [], _, h => absurd rfl h
  | [a], x, _ => by simp [Lib.join, List.intercalate]
  | a :: b :: r, x, _ => by
    have ih := ljoin_snoc (b :: r) x (by simp)
    rw [List.cons_append, List.cons_append, ljoin_two, ← List.cons_append, ih, ljoin_two]
    simp
theorem joinS_nil : joinS [] = ⟨#[]⟩ := rfl
theorem joinS_one (x : ByteArray) : joinS [x] = x := by
  apply ByteArray.ext
  apply Array.toList_inj.1
  simp [joinS, Lib.join, List.intercalate]
theorem joinS_snoc (l : List ByteArray) (x : ByteArray) (h : l ≠ []) : joinS (l ++ [x]) = joinS l ++ sBlank ++ x := by
  apply ByteArray.ext
  apply Array.toList_inj.1
  unfold joinS
  rw [List.map_append, List.map_singleton, ljoin_snoc _ _ (by simpa using h)]
  simp [ByteArray.data_append]
theorem joinS_size (l : List ByteArray) (m : Nat) (h : ∀ x ∈ l, x.size ≤ m) : (joinS l).size ≤ l.length * (m + 1) := by
  have := join_len l m h
  simpa [joinS, ByteArray.size] using this
theorem add_mk (A B : ByteArray) (m n k : Nat) (hA : A.size ≤ m) (hB : B.size ≤ n) (hk : m + n = k) (h : k ≤ 1000000) : ∃ C, C = A ++ B ∧ C.size ≤ k ∧ ∀ W, (Op.stringOp .add A B).run Tryd.prog W = .ok (.string C) W :=
  ⟨A ++ B, rfl, by simp; omega, fun W => run_string_add_sum W _ _ (by omega)⟩
theorem meetsT {S : World → Prop} {f : FuncId} {args : Array Value} {v : Value} (hk : Keeps S) (hT : ∀ w, S w → Tab w) (hc : ∀ w, Tab w → Calls Tryd.prog f args w fun e w' => e = .returned v ∧ Below w.heap.size w w') (w : World) (hS : S w) :
    Calls Tryd.prog f args w fun e w' => e = .returned v ∧ S w' := (hc w (hT w hS)).mono fun _ _ ⟨he, hb⟩ => ⟨he, hk _ _ hS hb⟩
set_option maxRecDepth 100000 in
set_option maxHeartbeats 3200000 in
theorem rjoin_any {B : Nat} {v : Value} (xs : List ByteArray) (hm : ∀ x ∈ xs, x.size ≤ 100000) (hl : xs.length ≤ 1000) (h0 : 0 < xs.length) (w : World) (h : SlO 9 B v (xs.map Value.string) w) :
    Calls Tryd.prog 25 #[v] w fun e w' => e = .returned (.string (joinS xs)) ∧ Below w.heap.size w w' := by
  obtain ⟨g, cap, rfl, hc, _, hC⟩ := h.opened (by simpa using h0)
  simp only [List.length_map] at hc ⊢
  obtain ⟨n, hn⟩ : ∃ n, n = xs.length := ⟨_, rfl⟩
  rw [← hn] at hl hc ⊢
  have HN := Lib.hid hn
  have HC := Lib.hid hC
  have HM := Lib.hid hm
  clear hn hC hm h h0 hc
  have hl' : (n : Int) ≤ 1000 := by omega
  go_enter Tryd.func25, Tryd.ntmps25
  go_wp2_with fail
  go_loopw [3, 8] (fun o c wr => ∃ j : Nat, j ≤ n ∧ o = .string (joinS (xs.take j)) ∧ c = .int .i64 (j : Int) ∧ Below w.heap.size w wr) (fun _ c _ => n - (intOf c).toNat)
  case atStart => exact ⟨0, by omega, by simp [joinS_nil], rfl, Below.refl _ _⟩
  case round =>
    obtain ⟨j, hj, rfl, rfl, hbw⟩ := hrel
    by_cases hjn : j < n
    · have hjj : (j : Int) < (n : Int) := by omega
      obtain ⟨x, hx⟩ : ∃ x, xs[j]? = some x := ⟨_, List.getElem?_eq_getElem (by rw [← HN.out]; exact hjn)⟩
      have c1 := (hbw.cell (p := ⟨g, j, none⟩) HC.out.1).trans (HC.out.2 j (Value.string x) (by rw [List.getElem?_map, hx]; rfl))
      have hzx := HM.out x (List.mem_of_getElem? hx)
      have hzA := joinS_size (xs.take j) 100000 fun y hy => HM.out y (List.mem_of_mem_take hy)
      have hlt : (xs.take j).length ≤ 1000 := by rw [List.length_take]; omega
      have hmul : (xs.take j).length * (100000 + 1) ≤ 1000 * 100001 := Nat.mul_le_mul hlt (Nat.le_refl _)
      have hsn : xs.take (j + 1) = xs.take j ++ [x] := by rw [List.take_add_one, hx]; rfl
      have HB := Lib.hid hbw
      obtain ⟨A2, hA2⟩ : ∃ A2, A2 = joinS (xs.take (j + 1)) := ⟨_, rfl⟩
      have HA2 := Lib.hid hA2
      by_cases hj0 : j = 0
      · have hs : ∀ W, (Op.stringOp .add (joinS (xs.take j)) x).run Tryd.prog W = .ok (.string A2) W := fun W => by
          rw [hA2, hsn, hj0, List.take_zero, List.nil_append, joinS_one, joinS_nil]
          have := run_string_add_sum (P := Tryd.prog) W (⟨#[]⟩ : ByteArray) x (by show 0 + x.size ≤ _; omega)
          rw [this]
          rfl
        have hj1 : ¬ (0 : Int) < (j : Int) := by omega
        clear hbw hx hzA hlt hmul hsn hzx hA2 hj0
        go_wp2_with fail
        exact ⟨⟨j + 1, by omega, by rw [HA2.out], by go_num, HB.out⟩, by simp [intOf]; omega⟩
      · have hne : xs.take j ≠ [] := by
          intro e
          have := congrArg List.length e
          rw [List.length_take, List.length_nil] at this
          have := HN.out
          omega
        obtain ⟨A1, hA1⟩ : ∃ A1, A1 = joinS (xs.take j) ++ sBlank := ⟨_, rfl⟩
        have hzb : sBlank.size = 1 := rfl
        have hs1 : ∀ W, (Op.stringOp .add (joinS (xs.take j)) ⟨#[32]⟩).run Tryd.prog W = .ok (.string A1) W := fun W => by
          rw [hA1]
          exact run_string_add_sum W _ _ (by show _ + 1 ≤ _; omega)
        have hs2 : ∀ W, (Op.stringOp .add A1 x).run Tryd.prog W = .ok (.string A2) W := fun W => by
          rw [hA2, hsn, joinS_snoc _ _ hne, hA1]
          exact run_string_add_sum W _ _ (by rw [ByteArray.size_append]; omega)
        have hj1 : (0 : Int) < (j : Int) := by omega
        clear hbw hx hzA hlt hmul hsn hzx hA2 hj0 hA1 hzb hne
        go_wp2_with fail
        exact ⟨⟨j + 1, by omega, by rw [HA2.out], by go_num, HB.out⟩, by simp [intOf]; omega⟩
    · have hi2 : j = n := by omega
      subst hi2
      go_wp2_with fail
      go_ret
      exact ⟨by rw [List.take_of_length_le (by rw [← HN.out]; exact Nat.le_refl _)]; rfl, hbw⟩
end Go.Proofs.YtdpfcjhhabcheaaDoor

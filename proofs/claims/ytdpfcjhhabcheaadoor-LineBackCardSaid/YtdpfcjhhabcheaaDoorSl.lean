/-
  Slices of strings or ints that the call makes: read by address, appended to. And numerals: strconv.Itoa, the reference's Digits. No condition. Own work.
-/
import Derived.Test.YtdpfcjhhabcheaaDoorShelf
import Derived.Test.YtdpfcjhhabcheaaDoorText
import Derived.Test.YtdpfcjhhabcheaaDoorStrs
namespace Go.Proofs.YtdpfcjhhabcheaaDoor
open Go.RowKit

theorem int_inf : (Tryd.prog.info? 3).map (fun i => (i.zero, i.size, i.bytes)) = some (some (.int .i64 0), 1, 8) := by kernel_rfl
theorem str_inf : (Tryd.prog.info? 9).map (fun i => (i.zero, i.size, i.bytes)) = some (some (.string ⟨#[]⟩), 1, 16) := by kernel_rfl
/-- A slice of elements of one cell that the call owns (from block B on). -/
def SlO (T : TypeId) (B : Nat) (v : Value) (L : List Value) (w : World) : Prop := w.ownsRow B T 1 v L.length L
/-- Block g holds these cells, from its start. -/
def SlC (g : Nat) (L : List Value) (w : World) : Prop := g < w.heap.size ∧ ∀ i c, L[i]? = some c → w.cell? ⟨g, i, none⟩ = some c
theorem SlC.below {g : Nat} {L : List Value} {w w' : World} (h : SlC g L w) (hb : Below w.heap.size w w') : SlC g L w' :=
  ⟨Nat.lt_of_lt_of_le h.1 hb.size, fun i c hc => (hb.cell (p := ⟨g, i, none⟩) h.1).trans (h.2 i c hc)⟩
theorem SlC.grown {g : Nat} {L : List Value} {w w' : World} {row : Option Nat} (h : SlC g L w) (hg : w.grownBy w' row) (hne : row ≠ some g) : SlC g L w' :=
  ⟨Nat.lt_of_lt_of_le h.1 hg.size, fun i c hc => by
    rw [← h.2 i c hc]
    exact World.cell?_of_block (w := w) (a := ⟨g, i, none⟩) (hg.block g h.1 (fun e => hne e.symm))⟩
theorem SlC.lit (w : World) (T : TypeId) (L : List Value) : SlC w.heap.size L (w.alloc (.cells L.toArray T)) :=
  ⟨by simp, fun i c hc => by rw [cell_of_row _ w.heap.size i _ _ (0, 0) (heap_alloc_new w _)]; simpa using hc⟩
theorem SlO.nil (T : TypeId) (B : Nat) (w : World) : SlO T B (.slice none 0 0) [] w := World.ownsRow_nil _ _ _ _
theorem SlO.below {T : TypeId} {B : Nat} {v : Value} {L : List Value} {w w' : World} (h : SlO T B v L w) (hb : Below w.heap.size w w') : SlO T B v L w' := own_below h hb
theorem SlO.up {T : TypeId} {B B' : Nat} {v : Value} {L : List Value} {w : World} (h : SlO T B v L w) (hb : B' ≤ B) : SlO T B' v L w :=
  ⟨h.1, h.2.imp id fun ⟨g, cap, cur, h1, h2, h3⟩ => ⟨g, cap, cur, h1, by omega, h3⟩⟩
theorem SlO.lit (w : World) (T : TypeId) (L : List Value) (hL : L.length ≤ maxLen) : SlO T w.heap.size (.slice (some ⟨w.heap.size, 0, none⟩) L.length L.length) L (w.alloc (.cells L.toArray T)) :=
  ⟨by simp, .inr ⟨w.heap.size, L.length, L.toArray, rfl, Nat.le_refl _, heap_alloc_new w _, Nat.le_refl _, hL, by simp, by rw [List.toList_toArray, Nat.mul_one]; exact List.take_of_length_le (by simp)⟩⟩
theorem SlO.opened {T : TypeId} {B : Nat} {v : Value} {L : List Value} {w : World} (h : SlO T B v L w) (h0 : 0 < L.length) : ∃ g cap, v = .slice (some ⟨g, 0, none⟩) L.length cap ∧ L.length ≤ cap ∧ B ≤ g ∧ SlC g L w := by
  rcases h.2 with ⟨_, hn⟩ | ⟨g, cap, cur, rfl, hb, hg, hnc, _, hcs, htake⟩
  · omega
  · refine ⟨g, cap, rfl, hnc, hb, lt_of_block hg, fun i c hc => ?_⟩
    rw [cell_of_row w g i cur _ _ hg]
    have hi : i < L.length := (List.getElem?_eq_some_iff.mp hc).1
    have e : (cur.toList.take (L.length * 1))[i]? = some c := by rw [htake, hc]
    rw [List.getElem?_take, if_pos (by omega)] at e
    simpa using e
theorem SlO.none_iff {T : TypeId} {B : Nat} {v : Value} {L : List Value} {w : World} (h : SlO T B v L w) : ∃ a cap, v = .slice a L.length cap := by
  rcases h.2 with ⟨rfl, hn⟩ | ⟨g, cap, cur, rfl, _⟩
  · exact ⟨none, 0, by rw [hn]⟩
  · exact ⟨_, cap, rfl⟩
/-- append(l, m...) of strings. -/
theorem wpList_pushS {ops : Array Oper} {rest : List Oper} {o : Oper} {a : Act} {w : World} {Q : Exit → Act → World → Prop} (hgd : o.guard = none) (s x : Operand)
    (ho : o.op = .call { callee := .builtin .append, args := #[s, x], argTypes := #[50, 50] }) (B : Nat) (v : Value) (L : List Value) (hs : a.eval s = v) (hO : SlO 9 B v L w)
    (g m c : Nat) (S : List ByteArray) (hx : a.eval x = .slice (some ⟨g, 0, none⟩) m c) (hS : SlC g (S.map Value.string) w) (hm : m = S.length) (hl : L.length + S.length ≤ 100000) (hB : B ≤ w.heap.size)
    (h : ∀ v' w', SlO 9 B v' (L ++ S.map Value.string) w' → w.grownBy w' v.ownBlock → Below B w w' → wpList Tryd.prog ops Q rest (a.put o.dst v') w') : wpList Tryd.prog ops Q (o :: rest) a w := by
  obtain ⟨i0, hi, iz0, iz1, iz2⟩ := info_parts str_inf
  subst hm
  refine wpList_append_own w hgd s x 50 ho B 9 i0 (.string ⟨#[]⟩) 1 16 Tryd.underlying50 hi iz0 iz1 iz2 rfl (by decide) v L.length L hs hO ⟨g, 0, none⟩ S.length c (S.map Value.string) hx (by simp) (fun j u hu => ?_) (fun u hu => ?_) (by unfold maxLen; omega) (by omega) hB (fun v' w' h1 h2 _ => ?_)
  · have ha : (⟨g, 0, none⟩ : Addr).add j = ⟨g, j, none⟩ := by unfold Addr.add; split <;> simp_all
    rw [ha]
    exact hS.2 j u hu
  · obtain ⟨d, _, rfl⟩ := List.mem_map.1 hu
    rfl
  · refine h v' w' ?_ h2 ((Below.refl B w).grown h2 hB (fun k hk => (hO.lt k hk).1))
    unfold SlO
    rw [List.length_append, List.length_map]
    exact h1
/-- append(l, m...) of ints. -/
theorem wpList_pushI {ops : Array Oper} {rest : List Oper} {o : Oper} {a : Act} {w : World} {Q : Exit → Act → World → Prop} (hgd : o.guard = none) (s x : Operand)
    (ho : o.op = .call { callee := .builtin .append, args := #[s, x], argTypes := #[41, 41] }) (B : Nat) (v : Value) (L : List Value) (hs : a.eval s = v) (hO : SlO 3 B v L w)
    (g m c : Nat) (S : List Int) (hx : a.eval x = .slice (some ⟨g, 0, none⟩) m c) (hS : SlC g (S.map (Value.int .i64)) w) (hm : m = S.length) (hl : L.length + S.length ≤ 100000) (hB : B ≤ w.heap.size)
    (h : ∀ v' w', SlO 3 B v' (L ++ S.map (Value.int .i64)) w' → w.grownBy w' v.ownBlock → Below B w w' → wpList Tryd.prog ops Q rest (a.put o.dst v') w') : wpList Tryd.prog ops Q (o :: rest) a w := by
  obtain ⟨i0, hi, iz0, iz1, iz2⟩ := info_parts int_inf
  subst hm
  refine wpList_append_own w hgd s x 41 ho B 3 i0 (.int .i64 0) 1 8 Tryd.underlying41 hi iz0 iz1 iz2 rfl (by decide) v L.length L hs hO ⟨g, 0, none⟩ S.length c (S.map (Value.int .i64)) hx (by simp) (fun j u hu => ?_) (fun u hu => ?_) (by unfold maxLen; omega) (by omega) hB (fun v' w' h1 h2 _ => ?_)
  · have ha : (⟨g, 0, none⟩ : Addr).add j = ⟨g, j, none⟩ := by unfold Addr.add; split <;> simp_all
    rw [ha]
    exact hS.2 j u hu
  · obtain ⟨d, _, rfl⟩ := List.mem_map.1 hu
    rfl
  · refine h v' w' ?_ h2 ((Below.refl B w).grown h2 hB (fun k hk => (hO.lt k hk).1))
    unfold SlO
    rw [List.length_append, List.length_map]
    exact h1

/-- The table that strconv.Itoa reads. -/
def Tab (w : World) : Prop := Lib.TabIs Tryd.prog w "internal/strconv.uint64pow10" .u64 Lib.pow10Tab
theorem Tab.below {w w' : World} (h : Tab w) (hb : Below w.heap.size w w') : Tab w' := by
  unfold Tab Lib.TabIs World.var? at *
  cases hg : Tryd.prog.globalNamed "internal/strconv.uint64pow10" with
  | none => simp [hg] at h
  | some g =>
    simp only [hg, Option.bind_some] at h ⊢
    have hlt : g < w.heap.size := by
      rcases Nat.lt_or_ge g w.heap.size with h' | h'
      · exact h'
      · rw [Array.getElem?_eq_none h'] at h; simp at h
    rw [hb.block g hlt]
    exact h
theorem below_grow (w : World) (k : Nat) (os : Array Obj) : Below w.heap.size w (Go.Sort.grow (w.drewN k) os) :=
  ⟨rfl, rfl, rfl, by show w.heap.size ≤ (w.heap ++ os).size; rw [Array.size_append]; omega, fun j hj => by
    show (w.heap ++ os)[j]? = w.heap[j]?
    rw [Array.getElem?_append_left hj]⟩
/-- A number's numeral. -/
def decS (n : Nat) : ByteArray := ⟨(Lib.decDigits n).toArray⟩
theorem itoa_any (n : Nat) (hn : n ≤ 9223372036854775807) (w : World) (ht : Tab w) : Calls Tryd.prog 39 #[.int .i64 (n : Int)] w fun e w' => e = .returned (.string (decS n)) ∧ Below w.heap.size w w' := by
  refine (Tryd.strconv_Itoa (n : Int) (by omega) (by omega) w ht).mono ?_
  rintro e w' ⟨rfl, k, os, rfl⟩
  refine ⟨?_, below_grow w k os⟩
  have : Lib.itoa (n : Int) = Lib.decDigits n := by
    unfold Lib.itoa
    rw [if_neg (by omega)]
    rfl
  rw [this]
  rfl
theorem dd_small (n : Nat) (h : n < 10) : Lib.decDigits n = [UInt8.ofNat (48 + n)] := by
  rw [Lib.decDigits, dif_pos h]
theorem dd_big (n : Nat) (h : ¬ n < 10) : Lib.decDigits n = Lib.decDigits (n / 10) ++ Lib.decDigits (n % 10) := by
  rw [Lib.decDigits, dif_neg h, dd_small (n % 10) (by omega)]
theorem dd_len (k : Nat) : ∀ n, n < 10 ^ (k + 1) → (Lib.decDigits n).length ≤ k + 1 := by
  induction k with
  | zero => intro n h; rw [dd_small n (by omega)]; simp
  | succ k ih =>
    intro n h
    by_cases h10 : n < 10
    · rw [dd_small n h10]; simp
    · rw [dd_big n h10, List.length_append, dd_small (n % 10) (by omega)]
      have := ih (n / 10) (by rw [Nat.div_lt_iff_lt_mul (by omega), ← Nat.pow_succ]; exact h)
      simp
      omega
theorem decS_len (n : Nat) (h : n ≤ 9223372036854775807) : (decS n).size ≤ 19 := by
  have := dd_len 18 n (by omega)
  simpa [decS, ByteArray.size] using this
end Go.Proofs.YtdpfcjhhabcheaaDoor

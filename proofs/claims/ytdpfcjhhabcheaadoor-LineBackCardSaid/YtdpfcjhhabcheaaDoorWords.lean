/-
  The contract of line.Words. No condition. Own work.
-/
import Derived.Test.YtdpfcjhhabcheaaDoorRWords
namespace Go.Proofs.YtdpfcjhhabcheaaDoor
open Go Go.RowKit

theorem SlO.iterAt {T : TypeId} {B : Nat} {v : Value} {L : List Value} {w : World} (h : SlO T B v L w) {k : Nat} (hk : k < B) (s : ByteArray) (pos : Nat) : SlO T B v L (w.iterAt k s pos) :=
  ⟨h.1, h.2.imp id fun ⟨g, cap, cur, h1, h2, h3, h4⟩ => ⟨g, cap, cur, h1, h2, (Lib.iterAt_other w k g s pos (by omega)).trans h3, h4⟩⟩
theorem pos_of {w : World} {k p : Nat} {s : ByteArray} (h : w.heap[k]? = some (.stringIter s p)) : w.iterPos k = p := by unfold World.iterPos; rw [h]
set_option maxRecDepth 100000 in
set_option maxHeartbeats 6400000 in
theorem words_any (s : ByteArray) (hs : s.size ≤ 90000) (w : World) :
    Calls Tryd.prog 30 #[.string s] w fun e w' => (∃ v, e = .returned v ∧ SlO 9 w.heap.size v (bas (wordsL s.data.toList)) w') ∧ Below w.heap.size w w' := by
  have hn : s.size = s.data.toList.length := sz_list s
  obtain ⟨R, hR⟩ : ∃ R, R = wordsL s.data.toList := ⟨_, rfl⟩
  rw [← hR]
  have HR := Lib.hid hR
  clear hR
  have HN := Lib.hid hn
  clear hn
  go_enter Tryd.func30, Tryd.ntmps30
  go_wp2_with fail
  go_loopw [3, 4] (fun o t wr => ∃ (i : Nat) (acc : List (List UInt8)) (cur : List UInt8), i ≤ s.size ∧ wr.heap[w.heap.size]? = some (.stringIter s i) ∧ SlO 9 (w.heap.size + 1) o (bas acc) wr ∧ Below w.heap.size w wr ∧ acc ++ wordsA cur (s.data.toList.drop i) = R ∧ acc.length ≤ i ∧
      ((t = .int .i64 (-1) ∧ cur = []) ∨ (∃ f : Nat, t = .int .i64 (f : Int) ∧ f < i ∧ cur = (s.extract f i).data.toList))) (fun _ _ wr => s.size - wr.iterPos w.heap.size)
  case atStart => exact ⟨0, [], [], by omega, World.iter_heap w s 0, SlO.nil _ _ _, (Below.refl _ _).alloc (Nat.le_refl _) _, by rw [HR.out]; rfl, by simp, .inl ⟨rfl, rfl⟩⟩
  case round =>
    obtain ⟨i, acc, cur, hi, hit, hO, hbw, hq, hal, hcase⟩ := hrel
    have hpos0 := pos_of hit
    have HAL := Lib.hid hal
    have hz : w.heap.size < wr.heap.size := lt_of_block hit
    clear hal
    by_cases hik : i < s.size
    · obtain ⟨c, hc⟩ : ∃ c, s.data.toList[i]? = some c := ⟨_, List.getElem?_eq_getElem (by rw [← HN.out]; exact hik)⟩
      have hd : s.data.toList.drop i = c :: s.data.toList.drop (i + 1) := by
        rw [List.drop_eq_getElem_cons (by rw [← HN.out]; exact hik)]
        congr 1
        exact Option.some.inj ((List.getElem?_eq_getElem _).symm.trans hc)
      by_cases h32 : c = 32
      · subst h32
        have hdec := dec_blank s i hc
        have hnx0 := Lib.run_next_any_at (P := Tryd.prog) wr w.heap.size s i 9 hit hik
        have hit2 := Lib.iterAt_heap wr w.heap.size s i (i + (Utf8.decode s i).2) hit
        have hbw2 := Lib.below_iterAt hbw (k := w.heap.size) (Nat.le_refl _) s (i + (Utf8.decode s i).2)
        have hO2 := hO.iterAt (k := w.heap.size) (by omega) s (i + (Utf8.decode s i).2)
        have hsz2 := Lib.iterAt_size wr w.heap.size s (i + (Utf8.decode s i).2)
        have hnx : ∀ ty, (Instr.next (.pointer (some ⟨w.heap.size, 0, none⟩)) true ty).run Tryd.prog wr = .ok (.tuple #[.bool true, .int .i64 (i : Int), .int .i32 32]) (wr.iterAt w.heap.size s (i + 1)) := fun ty => by
          rw [Lib.run_next_any_at wr w.heap.size s i ty hit hik, hdec]; rfl
        rw [hdec] at hit2 hbw2 hO2 hsz2
        obtain ⟨W1, hW1⟩ : ∃ W1, W1 = wr.iterAt w.heap.size s (i + 1) := ⟨_, rfl⟩
        simp only at hit2 hbw2 hO2 hsz2
        rw [← hW1] at hnx hit2 hbw2 hO2 hsz2
        rw [hd] at hq
        have HIT := Lib.hid hit2
        have HB := Lib.hid hbw2
        have HO := Lib.hid hO2
        have HZ : Hid (w.heap.size < W1.heap.size) := Lib.hid (by omega)
        have HD := Lib.hid hpos0
        clear hW1 hit hbw hO hit2 hbw2 hO2 hsz2 hdec hnx0 hd hc hpos0
        rcases hcase with ⟨rfl, rfl⟩ | ⟨f, rfl, hf, hcur⟩
        · rw [wordsA_blank_nil] at hq
          have HQ := Lib.hid hq
          clear hq
          go_wp2_with fail
          exact ⟨⟨i + 1, acc, [], by omega, HIT.out, HO.out, HB.out, HQ.out, by have := HAL.out; omega, .inl ⟨rfl, rfl⟩⟩, by rw [pos_of HIT.out, HD.out]; omega⟩
        · have hxs : (s.extract f i).size = i - f := by simp; omega
          have hne : cur ≠ [] := fun e => by
            rw [e] at hcur
            have := sz_list (s.extract f i)
            rw [← hcur] at this
            simp at this
            omega
          rw [wordsA_blank _ _ hne, hcur] at hq
          have HQ := Lib.hid hq
          have f1 : (f : Int) ≤ (i : Int) := by omega
          have f2 : (i : Int) ≤ (s.size : Int) := by omega
          have f0 : (0 : Int) ≤ (f : Int) := by omega
          obtain ⟨x, hx⟩ : ∃ x, x = s.extract f i := ⟨_, rfl⟩
          have HX := Lib.hid hx
          have hxx : s.extract f i = x := hx.symm
          clear hq hcur hne hxs hx
          have hO2 : Hid (SlO 9 (w.heap.size + 1) u3 (bas acc) (W1.alloc (.cells #[.string x] 9))) := Lib.hid (HO.out.below (bnew W1 _))
          have hC2 : Hid (SlC W1.heap.size ([x].map Value.string) (W1.alloc (.cells #[.string x] 9))) := Lib.hid (SlC.lit W1 _ _)
          have hZ : Hid (w.heap.size + 1 ≤ (W1.alloc (.cells #[.string x] 9)).heap.size) := Lib.hid (by have := HZ.out; simp; omega)
          have hNL : Hid ((bas acc).length + [x].length ≤ 100000) := Lib.hid (by have := HAL.out; rw [bas_len]; simp; omega)
          go_wp2_with (at_builtin; refine wpList_pushS rfl _ _ rfl (w.heap.size + 1) _ (bas acc) rfl hO2.out W1.heap.size 1 1 [x] rfl hC2.out rfl hNL.out hZ.out ?_)
          intro v' w3 hO3 hg3 hB3
          have B3 : Hid (Below w.heap.size w w3) := Lib.hid ((bthen HB.out (bnew W1 _)).trans (hB3.mono (by omega)))
          have I3 : Hid (w3.heap[w.heap.size]? = some (.stringIter s (i + 1))) := Lib.hid ((hB3.block w.heap.size (by omega)).trans (((bnew W1 _).block w.heap.size HZ.out).trans HIT.out))
          rw [bas_snoc] at hO3
          have O3 := Lib.hid hO3
          clear hO3 hg3 hB3
          go_wp2_with fail
          exact ⟨⟨i + 1, acc ++ [x.data.toList], [], by omega, I3.out, O3.out, B3.out, by rw [← HQ.out, HX.out]; simp, by have := HAL.out; simp; omega, .inl ⟨rfl, rfl⟩⟩, by rw [pos_of I3.out, HD.out]; omega⟩
      · obtain ⟨d1, d2, d3, d4⟩ := dec_other s i c hc h32
        have hit2 := Lib.iterAt_heap wr w.heap.size s i (i + (Utf8.decode s i).2) hit
        have hbw2 := Lib.below_iterAt hbw (k := w.heap.size) (Nat.le_refl _) s (i + (Utf8.decode s i).2)
        have hO2 := hO.iterAt (k := w.heap.size) (by omega) s (i + (Utf8.decode s i).2)
        have hnx : ∀ ty, (Instr.next (.pointer (some ⟨w.heap.size, 0, none⟩)) true ty).run Tryd.prog wr = _ := fun ty => Lib.run_next_any_at wr w.heap.size s i ty hit hik
        have hsk := wordsA_skip (Utf8.decode s i).2 cur (s.data.toList.drop i) (by rw [List.length_drop, ← HN.out]; omega) d4
        rw [hsk, List.drop_drop] at hq
        generalize (Utf8.decode s i).1 = r at *
        generalize (Utf8.decode s i).2 = k at *
        obtain ⟨W1, hW1⟩ : ∃ W1, W1 = wr.iterAt w.heap.size s (i + k) := ⟨_, rfl⟩
        rw [← hW1] at hnx hit2 hbw2 hO2
        have r32 : ¬ ((r : Nat) : Int) = 32 := by omega
        have r33 : (((r : Nat) : Int) == 32) = false := by simpa using r32
        have HIT := Lib.hid hit2
        have HB := Lib.hid hbw2
        have HO := Lib.hid hO2
        have HD := Lib.hid hpos0
        have hsp : ∀ f, f ≤ i → (s.extract f (i + k)).data.toList = (s.extract f i).data.toList ++ (s.data.toList.drop i).take k := fun f hf => by
          rw [ext_list, ext_list, List.take_add, List.drop_append_of_le_length (by rw [List.length_take, ← HN.out]; omega)]
        have HSP := Lib.hid hsp
        clear hW1 hit hbw hO hit2 hbw2 hO2 hd hc hpos0 d1 d4 hsk h32 hsp
        rcases hcase with ⟨rfl, rfl⟩ | ⟨f, rfl, hf, hcur⟩
        · have HQ := Lib.hid hq
          clear hq
          go_wp2_with fail
          exact ⟨⟨i + k, acc, (s.extract i (i + k)).data.toList, by omega, HIT.out, HO.out, HB.out, by rw [HSP.out i (Nat.le_refl _), show (s.extract i i).data.toList = [] from by rw [ext_list]; simp]; exact HQ.out, by have := HAL.out; omega, .inr ⟨i, rfl, by omega, rfl⟩⟩, by rw [pos_of HIT.out, HD.out]; omega⟩
        · rw [hcur, ← HSP.out f (by omega)] at hq
          have HQ := Lib.hid hq
          have f0 : ¬ (f : Int) < 0 := by omega
          clear hq hcur
          go_wp2_with fail
          exact ⟨⟨i + k, acc, (s.extract f (i + k)).data.toList, by omega, HIT.out, HO.out, HB.out, HQ.out, by have := HAL.out; omega, .inr ⟨f, rfl, by omega, rfl⟩⟩, by rw [pos_of HIT.out, HD.out]; omega⟩
    · have hi2 : i = s.size := by omega
      subst hi2
      have hnx : ∀ ty, (Instr.next (.pointer (some ⟨w.heap.size, 0, none⟩)) true ty).run Tryd.prog wr = _ := fun ty => Lib.run_next_end_at wr w.heap.size s s.size ty hit hik
      rw [List.drop_of_length_le (by rw [← HN.out]; exact Nat.le_refl _), wordsA] at hq
      have HB := Lib.hid hbw
      have HO := Lib.hid hO
      have HZ : Hid (w.heap.size < wr.heap.size) := Lib.hid hz
      clear hit hbw hO hpos0
      rcases hcase with ⟨rfl, rfl⟩ | ⟨f, rfl, hf, hcur⟩
      · rw [if_pos rfl, List.append_nil] at hq
        have HQ := Lib.hid hq
        clear hq
        go_wp2_with fail
        go_ret
        exact ⟨⟨_, rfl, by rw [← HQ.out]; exact HO.out.up (by omega)⟩, HB.out⟩
      · have hxs : (s.extract f s.size).size = s.size - f := by simp
        have hne : cur ≠ [] := fun e => by
          rw [e] at hcur
          have := sz_list (s.extract f s.size)
          rw [← hcur] at this
          simp at this
          omega
        rw [if_neg hne, hcur] at hq
        have HQ := Lib.hid hq
        have f1 : (f : Int) ≤ (s.size : Int) := by omega
        have f0 : (0 : Int) ≤ (f : Int) := by omega
        obtain ⟨x, hx⟩ : ∃ x, x = s.extract f s.size := ⟨_, rfl⟩
        have HX := Lib.hid hx
        have hxx : s.extract f s.size = x := hx.symm
        clear hq hcur hne hxs hx
        have hO2 : Hid (SlO 9 (w.heap.size + 1) u3 (bas acc) (wr.alloc (.cells #[.string x] 9))) := Lib.hid (HO.out.below (bnew wr _))
        have hC2 : Hid (SlC wr.heap.size ([x].map Value.string) (wr.alloc (.cells #[.string x] 9))) := Lib.hid (SlC.lit wr _ _)
        have hZ : Hid (w.heap.size + 1 ≤ (wr.alloc (.cells #[.string x] 9)).heap.size) := Lib.hid (by have := HZ.out; simp; omega)
        have hNL : Hid ((bas acc).length + [x].length ≤ 100000) := Lib.hid (by have := HAL.out; rw [bas_len]; simp; omega)
        go_wp2_with (at_builtin; refine wpList_pushS rfl _ _ rfl (w.heap.size + 1) _ (bas acc) rfl hO2.out wr.heap.size 1 1 [x] rfl hC2.out rfl hNL.out hZ.out ?_)
        intro v' w3 hO3 hg3 hB3
        have B3 : Hid (Below w.heap.size w w3) := Lib.hid ((bthen HB.out (bnew wr _)).trans (hB3.mono (by omega)))
        rw [bas_snoc] at hO3
        have O3 := Lib.hid hO3
        clear hO3 hg3 hB3
        go_wp2_with fail
        go_ret
        exact ⟨⟨_, rfl, by rw [← HQ.out, ← HX.out]; exact O3.out.up (by omega)⟩, B3.out⟩
end Go.Proofs.YtdpfcjhhabcheaaDoor

/-
  The contract of the reference's Words. No condition. Own work.
-/
import Derived.Test.YtdpfcjhhabcheaaWordsP
import Derived.Test.YtdpfcjhhabcheaaSl
namespace Go.Proofs.Ytdpfcjhhabcheaa
open Go Go.RowKit

/-- Texts as cells. -/
def bas (L : List (List UInt8)) : List Value := L.map fun l => Value.string ⟨l.toArray⟩
theorem bas_snoc (L : List (List UInt8)) (s : ByteArray) : bas L ++ [Value.string s] = bas (L ++ [s.data.toList]) := by simp [bas]
theorem sz_list (x : ByteArray) : x.size = x.data.toList.length := by simp
theorem bas_len (L : List (List UInt8)) : (bas L).length = L.length := by simp [bas]
theorem tl_nil {s : ByteArray} (h : s.data.toList = []) : s.toList = [] := by rw [str_tl, h]
/-- Facts on an empty, a non-empty text, as the walk spells them. -/
theorem tl_ne {s : ByteArray} (h : s.data.toList ≠ []) : ¬ s.toList = [] ∧ (s.toList == []) = false ∧ s.toList.isEmpty = false := by
  have h1 : ¬ s.toList = [] := by rw [str_tl]; exact h
  refine ⟨h1, by simpa using h1, ?_⟩
  cases hs : s.toList with
  | nil => exact absurd hs h1
  | cons a b => rfl
theorem tl_em {s : ByteArray} (h : s.data.toList = []) : s.toList = [] ∧ (s.toList == []) = true ∧ s.toList.isEmpty = true := by
  have h1 := tl_nil h
  exact ⟨h1, by rw [h1]; rfl, by rw [h1]; rfl⟩
set_option maxRecDepth 100000 in
set_option maxHeartbeats 6400000 in
theorem rwords_any (s : ByteArray) (hs : s.size ≤ 90000) (w : World) :
    Calls Try.prog 10 #[.string s] w fun e w' => (∃ v, e = .returned v ∧ SlO 9 w.heap.size v (bas (wordsL s.data.toList)) w') ∧ Below w.heap.size w w' := by
  obtain ⟨l, hl⟩ : ∃ l, l = s.data.toList := ⟨_, rfl⟩
  have hn : s.size = l.length := by rw [hl]; simp
  have hidx : ∀ (i : Nat) (c : UInt8), l[i]? = some c → ∀ W, (Instr.index 9 (.string s) (.int .i64 (i : Int))).run Try.prog W = .ok (.int .u8 ((c.toNat : Nat) : Int)) W := fun i c h => str_idx s i c (by rw [← hl]; exact h)
  have hext : ∀ (i : Nat) (c : UInt8), l[i]? = some c → (s.extract i (i + 1)).data.toList = [c] := fun i c h => by
    rw [ext_list, ← hl, List.drop_take, show i + 1 - i = 1 from by omega]
    have : (l.drop i)[0]? = some c := by rw [List.getElem?_drop, Nat.add_zero]; exact h
    cases hd : l.drop i with
    | nil => rw [hd] at this; simp at this
    | cons a b => rw [hd] at this; simp at this; rw [this]; rfl
  rw [← hl]
  have HIX := Lib.hid hidx
  have HEX := Lib.hid hext
  obtain ⟨n, hnn⟩ : ∃ n, n = l.length := ⟨_, rfl⟩
  have hsz : (s.size : Int) = (n : Int) := by omega
  have hn9 : n ≤ 90000 := by omega
  have HN := Lib.hid hnn
  have HSZ : Hid (s.size = n) := Lib.hid (by omega)
  obtain ⟨R, hR⟩ : ∃ R, R = wordsL l := ⟨_, rfl⟩
  rw [← hR]
  have HR := Lib.hid hR
  clear hl hidx hext hnn hn hs hR
  go_enter Try.func10, Try.ntmps10
  go_wp2_with fail
  go_loopw [3, 4, 5] (fun o t c wr => ∃ (i : Nat) (acc : List (List UInt8)) (cur : ByteArray), i ≤ n ∧ c = .int .i64 (i : Int) ∧ t = .string cur ∧ SlO 9 w.heap.size o (bas acc) wr ∧ Below w.heap.size w wr ∧ acc ++ wordsA cur.data.toList (l.drop i) = R ∧ acc.length ≤ i ∧ cur.size ≤ i) (fun _ _ c _ => n - (intOf c).toNat)
  case atStart => exact ⟨0, [], ⟨#[]⟩, by omega, rfl, rfl, SlO.nil _ _ _, Below.refl _ _, by rw [HR.out]; rfl, by simp, by simp [ByteArray.size]⟩
  case round =>
    obtain ⟨i, acc, cur, hi, rfl, rfl, hO, hbw, hq, hal, hcl⟩ := hrel
    have HO := Lib.hid hO
    have HB := Lib.hid hbw
    have HAL := Lib.hid hal
    have HCL := Lib.hid hcl
    clear hO hbw hal hcl
    by_cases hik : i < n
    · have hii : (i : Int) < (n : Int) := by omega
      obtain ⟨c, hc⟩ : ∃ c, l[i]? = some c := ⟨l[i]'(by rw [← HN.out]; exact hik), List.getElem?_eq_getElem _⟩
      have hix := HIX.out i c hc
      have hd : l.drop i = c :: l.drop (i + 1) := by
        rw [List.drop_eq_getElem_cons (by rw [← HN.out]; exact hik)]
        congr 1
        exact Option.some.inj ((List.getElem?_eq_getElem _).symm.trans hc)
      rw [hd] at hq
      by_cases h32 : c = 32
      · have hc32 : ((c.toNat : Nat) : Int) = 32 := by rw [h32]; rfl
        rw [h32] at hq
        by_cases hcur : cur.data.toList = []
        · obtain ⟨t1, t2, t3⟩ := tl_em hcur
          rw [hcur, wordsA_blank_nil] at hq
          have HQ := Lib.hid hq
          clear hq hd hc h32 hcur
          go_wp2_with fail
          exact ⟨⟨i + 1, acc, ⟨#[]⟩, by omega, by go_num, rfl, HO.out, HB.out, HQ.out, by have := HAL.out; omega, by simp [ByteArray.size]⟩, by simp [intOf]; omega⟩
        · obtain ⟨t1, t2, t3⟩ := tl_ne hcur
          rw [wordsA_blank _ _ hcur] at hq
          have HQ := Lib.hid hq
          clear hq hd hc h32 hcur
          have hO2 : Hid (SlO 9 w.heap.size u3 (bas acc) (wr.alloc (.cells #[.string cur] 9))) := Lib.hid (HO.out.below (bnew wr _))
          have hC2 : Hid (SlC wr.heap.size ([cur].map Value.string) (wr.alloc (.cells #[.string cur] 9))) := Lib.hid (SlC.lit wr _ _)
          have hZ : Hid (w.heap.size ≤ (wr.alloc (.cells #[.string cur] 9)).heap.size) := Lib.hid (by have := HB.out.size; simp; omega)
          have hNL : Hid ((bas acc).length + [cur].length ≤ 100000) := Lib.hid (by have := HAL.out; rw [bas_len]; simp; omega)
          go_wp2_with (at_builtin; refine wpList_pushS rfl _ _ rfl w.heap.size _ (bas acc) rfl hO2.out wr.heap.size 1 1 [cur] rfl hC2.out rfl hNL.out hZ.out ?_)
          intro v' w3 hO3 hg3 hB3
          have B3 := Lib.hid ((bthen HB.out (bnew wr _)).trans hB3)
          rw [bas_snoc] at hO3
          have O3 := Lib.hid hO3
          clear hO3 hg3 hB3
          go_wp2_with fail
          exact ⟨⟨i + 1, acc ++ [cur.data.toList], ⟨#[]⟩, by omega, by go_num, rfl, O3.out, B3.out, by rw [← HQ.out]; simp, by have := HAL.out; simp; omega, by simp [ByteArray.size]⟩, by simp [intOf]; omega⟩
      · have hc32 : ¬ ((c.toNat : Nat) : Int) = 32 := fun e => h32 (UInt8.toNat_inj.1 (by rw [show ((32 : UInt8).toNat) = 32 from rfl]; omega))
        have hc33 : (((c.toNat : Nat) : Int) == 32) = false := by simpa using hc32
        have hex := HEX.out i c hc
        rw [wordsA, if_neg h32] at hq
        have hxs : (s.extract i (i + 1)).size = 1 := by
          rw [sz_list, hex]; rfl
        have hii1 : (i : Int) + 1 = ((i + 1 : Nat) : Int) := by omega
        have hw1 : wrap64 ((i + 1 : Nat) : Int) = ((i + 1 : Nat) : Int) := by unfold wrap64; omega
        have b1 : ((i + 1 : Nat) : Int) ≤ (n : Int) := by omega
        have b2 : (i : Int) ≤ ((i + 1 : Nat) : Int) := by omega
        obtain ⟨m, hm⟩ : ∃ m, m = i + 1 := ⟨_, rfl⟩
        rw [← hm] at hii1 hw1 b1 b2 hex hxs hq
        obtain ⟨x, hx⟩ : ∃ x, x = s.extract i m := ⟨_, rfl⟩
        rw [← hx] at hex hxs
        have hadd : ∀ W, (Op.stringOp .add cur x).run Try.prog W = .ok (.string (cur ++ x)) W := fun W => run_string_add_sum W _ _ (by have := HCL.out; omega)
        have hcx : (cur ++ x).data.toList = cur.data.toList ++ [c] := by rw [ByteArray.data_append, Array.toList_append, hex]
        have hcs : (cur ++ x).size = cur.size + 1 := by simp [hxs]
        rw [← hcx] at hq
        obtain ⟨Y, hY⟩ : ∃ Y, Y = cur ++ x := ⟨_, rfl⟩
        rw [← hY] at hq hcs hadd
        have HQ := Lib.hid hq
        have HCS := Lib.hid hcs
        have HM := Lib.hid hm
        have hxx : s.extract i m = x := hx.symm
        clear hq hd hc h32 hcx hex hxs hY hcs hm hx
        go_wp2_with fail
        exact ⟨⟨m, acc, Y, by omega, by first | rfl | go_num, rfl, HO.out, HB.out, HQ.out, by have := HAL.out; have := HM.out; omega, by have := HCS.out; have := HCL.out; have := HM.out; omega⟩, by have := HM.out; simp [intOf]; omega⟩
    · have hi2 : i = n := by omega
      subst hi2
      rw [List.drop_of_length_le (by rw [← HN.out]; exact Nat.le_refl _), wordsA] at hq
      by_cases hcur : cur.data.toList = []
      · obtain ⟨t1, t2, t3⟩ := tl_em hcur
        rw [if_pos hcur, List.append_nil] at hq
        have HQ := Lib.hid hq
        clear hq hcur
        go_wp2_with fail
        go_ret
        exact ⟨⟨_, rfl, by rw [← HQ.out]; exact HO.out⟩, HB.out⟩
      · obtain ⟨t1, t2, t3⟩ := tl_ne hcur
        rw [if_neg hcur] at hq
        have HQ := Lib.hid hq
        clear hq hcur
        have hO2 : Hid (SlO 9 w.heap.size u3 (bas acc) (wr.alloc (.cells #[.string cur] 9))) := Lib.hid (HO.out.below (bnew wr _))
        have hC2 : Hid (SlC wr.heap.size ([cur].map Value.string) (wr.alloc (.cells #[.string cur] 9))) := Lib.hid (SlC.lit wr _ _)
        have hZ : Hid (w.heap.size ≤ (wr.alloc (.cells #[.string cur] 9)).heap.size) := Lib.hid (by have := HB.out.size; simp; omega)
        have hNL : Hid ((bas acc).length + [cur].length ≤ 100000) := Lib.hid (by have := HAL.out; rw [bas_len]; simp; omega)
        go_wp2_with (at_builtin; refine wpList_pushS rfl _ _ rfl w.heap.size _ (bas acc) rfl hO2.out wr.heap.size 1 1 [cur] rfl hC2.out rfl hNL.out hZ.out ?_)
        intro v' w3 hO3 hg3 hB3
        have B3 := Lib.hid ((bthen HB.out (bnew wr _)).trans hB3)
        rw [bas_snoc] at hO3
        have O3 := Lib.hid hO3
        clear hO3 hg3 hB3
        go_wp2_with fail
        go_ret
        exact ⟨⟨_, rfl, by rw [← HQ.out]; exact O3.out⟩, B3.out⟩
end Go.Proofs.Ytdpfcjhhabcheaa

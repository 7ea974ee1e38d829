/-
  The contract of aes.Expand. No condition. Own work.
-/
import Derived.Test.YtkbidgonjnlkmaaREnc
namespace Go.Proofs.Ytkbidgonjnlkmaa
open Go.RowKit

theorem own_str {w : World} {base : Nat} {v : Value} {n : Nat} {R : List UInt8} (h : w.ownsRow base 5 1 v n (R.map bv)) (hn : n = R.length) (h0 : 0 < n) : (convert 69 9 v).run Try.prog w = .ok (.string ⟨R.toArray⟩) w := by
  rcases h.2 with ⟨_, hz⟩ | ⟨g, cap, cur, rfl, _, hg, hnc, _, hcs, htake⟩
  · omega
  · subst hn
    refine run_convert_bytes_back w 69 9 5 ⟨g, 0, none⟩ cap R Try.underlying69 Try.underlying5 Try.underlying9 fun j hj => ?_
    have ha : (⟨g, 0, none⟩ : Addr).add j = ⟨g, j, none⟩ := by unfold Addr.add; split <;> simp_all
    rw [ha, cell_of_row w g j cur _ _ hg]
    have e : (cur.toList.take (R.length * 1))[j]? = some (bv R[j]) := by rw [htake, List.getElem?_map, List.getElem?_eq_getElem hj]; rfl
    rw [List.getElem?_take, if_pos (by omega)] at e
    simpa using e
theorem word_info : (Try.prog.info? 26).map (fun i => (i.zero, i.size)) = some (some (.agg #[.int .u8 0, .int .u8 0, .int .u8 0, .int .u8 0]), 4) := by kernel_rfl
theorem idx_word (E : List UInt8) (hE : E.length = 176) (i : Nat) (hi : i < 44) (a b c d : UInt8) (ha : E[4 * i]? = some a) (hb : E[4 * i + 1]? = some b) (hc : E[4 * i + 2]? = some c) (hd : E[4 * i + 3]? = some d) (w : World) :
    (Instr.index 28 (.agg (bvs E)) (.int .i64 (i : Int))).run Try.prog w = .ok (.agg #[bv a, bv b, bv c, bv d]) w := by
  have hs : (sizeOf 26).run Try.prog w = .ok 4 w := Try.sizeOf26 w
  have hg : (isAgg 26).run Try.prog w = .ok true w := Try.isAgg26 w
  have hu := run_underlying Try.underlying28 w
  have hii : (0 : Int) ≤ i ∧ (i : Int) < 44 := by omega
  have hx : (bvs E).extract (i * 4) (i * 4 + 4) = #[bv a, bv b, bv c, bv d] := by
    apply Array.ext_getElem?
    intro j
    rw [Array.getElem?_extract, bvs_size, hE]
    rw [show min (i * 4 + 4) 176 - i * 4 = 4 from by omega]
    by_cases hj : j < 4
    · rw [if_pos hj, bvs_get]
      have : j = 0 ∨ j = 1 ∨ j = 2 ∨ j = 3 := by omega
      rcases this with rfl | rfl | rfl | rfl
      · rw [show i * 4 + 0 = 4 * i from by omega, ha]; rfl
      · rw [show i * 4 + 1 = 4 * i + 1 from by omega, hb]; rfl
      · rw [show i * 4 + 2 = 4 * i + 2 from by omega, hc]; rfl
      · rw [show i * 4 + 3 = 4 * i + 3 from by omega, hd]; rfl
    · rw [if_neg hj, Array.getElem?_eq_none (by simp; omega)]
  simp [Instr.index, asIntOf, Sem.run_bind, hu, hii, hs, part, hg, hx, Result.andThen]
  all_goals omega

set_option maxHeartbeats 1600000 in
theorem aexpand_any (s : ByteArray) (hs : s.size = 16) (w : World) :
    Calls Try.prog 22 #[.string s] w fun e w' => e = .returned (.tuple #[.string ⟨(exL s.data.toList 40).toArray⟩, .int .i64 0]) ∧ Below w.heap.size w w' := by
  have hsl : s.data.toList.length = 16 := by simp [hs]
  have HX := Lib.hid (fun w => expand_any s hs w)
  have hEl := exL_len s.data.toList hsl 40
  generalize exL s.data.toList 40 = E at *
  have h1 : ((s.size : Int) != 16) = false := by simp; omega
  obtain ⟨j0, hj, jz0, jz1, jz2⟩ := info_parts byte_info
  have HJ := Lib.hid hj
  clear hj
  go_enter Try.func22, Try.ntmps22
  go_wp2_with fail
  refine (HX.out w).mono ?_
  rintro e1 w1 ⟨rfl, hb1⟩
  go_wp2_with fail
  go_loopw [4, 12] (fun o c wr => ∃ i : Nat, i ≤ 44 ∧ c = .int .i64 (i : Int) ∧ wr.ownsRow w.heap.size 5 1 o (4 * i) ((E.take (4 * i)).map bv) ∧ Below w.heap.size w wr) (fun _ c _ => 44 - (intOf c).toNat)
  case atStart => exact ⟨0, by omega, rfl, World.ownsRow_nil _ _ _ _, hb1⟩
  case round =>
    clear hb1
    obtain ⟨i, hi44, rfl, hO, hbw⟩ := hrel
    by_cases hlt : i < 44
    · have hii : (i : Int) < 44 := by omega
      obtain ⟨a, ha⟩ : ∃ a, E[4 * i]? = some a := ⟨_, List.getElem?_eq_getElem (by omega)⟩
      obtain ⟨b, hb⟩ : ∃ a, E[4 * i + 1]? = some a := ⟨_, List.getElem?_eq_getElem (by omega)⟩
      obtain ⟨c, hc⟩ : ∃ a, E[4 * i + 2]? = some a := ⟨_, List.getElem?_eq_getElem (by omega)⟩
      obtain ⟨d, hd⟩ : ∃ a, E[4 * i + 3]? = some a := ⟨_, List.getElem?_eq_getElem (by omega)⟩
      have hidx := fun W => idx_word E (by omega) i hlt a b c d ha hb hc hd W
      have hT : (E.take (4 * (i + 1))).map bv = (E.take (4 * i)).map bv ++ [bv a, bv b, bv c, bv d] := by
        rw [show 4 * (i + 1) = 4 * i + 4 from by omega, List.take_add_one, List.take_add_one, List.take_add_one, List.take_add_one, ha, hb, hc, hd]
        simp
      have HT := Lib.hid hT
      have HO := Lib.hid hO
      have HB := Lib.hid hbw
      have hbz := hbw.size
      clear hT hO hbw ha hb hc hd
      have HO2 : Hid ((wr.alloc (.cells #[bv a, bv b, bv c, bv d] 26)).ownsRow w.heap.size 5 1 u4 (4 * i) ((E.take (4 * i)).map bv)) := Lib.hid (HO.out.alloc _)
      have hnw : ∀ (j : Nat) (u : Value), [bv a, bv b, bv c, bv d][j]? = some u → (wr.alloc (.cells #[bv a, bv b, bv c, bv d] 26)).cell? ((⟨wr.heap.size, 0, none⟩ : Addr).add j) = some u := fun j u hu => by
        have ha : (⟨wr.heap.size, 0, none⟩ : Addr).add j = ⟨wr.heap.size, j, none⟩ := by unfold Addr.add; split <;> simp_all
        rw [ha, cell_of_row _ wr.heap.size j _ _ (0, 0) (heap_alloc_new wr _)]
        simpa using hu
      have HNW := Lib.hid hnw
      clear hnw
      go_wp2_with (at_builtin; refine wpList_append_own _ rfl _ _ 69 rfl w.heap.size 5 j0 (.int .u8 0) 1 1 Try.underlying69 HJ.out jz0 jz1 jz2 rfl (by decide) _ _ _ rfl HO2.out ⟨wr.heap.size, 0, none⟩ 4 4 [bv a, bv b, bv c, bv d] rfl rfl HNW.out ?c2 ?c3 ?c4 ?c5 ?_)
      case c2 => intro u hu; simp at hu; rcases hu with rfl | rfl | rfl | rfl <;> rfl
      case c3 => unfold maxLen; omega
      case c4 => omega
      case c5 => simp; omega
      intro v' w5 hO5 hg5 _
      rw [← List.map_take, ← HT.out] at hO5
      have HO5 := Lib.hid hO5
      have HB5 : Hid (Below w.heap.size w w5) := Lib.hid ((HB.out.alloc hbz _).grown hg5 (by simp; omega) (fun q hq => (HO.out.lt q hq).1))
      clear hO5 hg5
      go_wp2_with fail
      exact ⟨⟨i + 1, by omega, by go_num, HO5.out, HB5.out⟩, by simp [intOf]; omega⟩
    · have hi2 : i = 44 := by omega
      subst hi2
      rw [List.take_of_length_le (by omega)] at hO
      have hcv := own_str hO (by omega) (by omega)
      have HB := Lib.hid hbw
      clear hO hbw
      go_wp2_with fail
      go_ret2
      exact ⟨rfl, HB.out⟩
theorem aexpand_bad (s : ByteArray) (hs : s.size ≠ 16) (w : World) :
    Calls Try.prog 22 #[.string s] w fun e w' => e = .returned (.tuple #[.string ⟨#[]⟩, .int .i64 2]) ∧ w = w' := by
  have h1 : ((s.size : Int) != 16) = true := by simp; omega
  go_enter Try.func22, Try.ntmps22
  go_wp2_with fail
  go_ret2
  exact ⟨rfl, rfl⟩
end Go.Proofs.Ytkbidgonjnlkmaa

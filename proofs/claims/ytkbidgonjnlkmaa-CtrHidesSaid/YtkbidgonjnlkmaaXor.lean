/-
  The contracts of ctr.Xor and of its two function literals. No condition. Own work, but for the library's laws.
-/
import Derived.Test.YtkbidgonjnlkmaaRCtr
import Derived.Lib.ConvBytes
namespace Go.Proofs.Ytkbidgonjnlkmaa
open Go.RowKit

/-- Block g holds these bytes from its start, not frozen. -/
def RowB (w : World) (g : Nat) (R : List UInt8) : Prop := ∃ (cs : Array Value) (a b : Nat), w.heap[g]? = some (.cells cs 5 (a, b)) ∧ R.length ≤ a ∧ ∀ (j : Nat) (c : UInt8), R[j]? = some c → cs[j]? = some (bv c)
section
variable {w w' : World} {g : Nat} {R : List UInt8}
theorem RowB.lt (h : RowB w g R) : g < w.heap.size := by obtain ⟨_, _, _, h1, _⟩ := h; exact lt_of_block h1
theorem RowB.drew (h : RowB w g R) : RowB w.drew g R := h
theorem RowB.below {B : Nat} (h : RowB w g R) (hb : Below B w w') (hg : g < B) : RowB w' g R := by
  obtain ⟨cs, a, b, h1, h2, h3⟩ := h
  exact ⟨cs, a, b, (hb.block g hg).trans h1, h2, h3⟩
theorem RowB.cell (h : RowB w g R) {i : Nat} {c : UInt8} (hc : R[i]? = some c) : w.cell? ⟨g, i, none⟩ = some (bv c) := by
  obtain ⟨cs, a, b, h1, _, h3⟩ := h
  rw [cell_of_row w g i cs _ _ h1]
  exact h3 i c hc
theorem RowB.frozen (h : RowB w g R) {i : Nat} (hi : i < R.length) : w.frozen? ⟨g, i, none⟩ = false := by
  obtain ⟨cs, a, b, h1, h2, _⟩ := h
  simp [World.frozen?, h1]
  omega
theorem RowB.set (h : RowB w g R) (i : Nat) (c : UInt8) : RowB (w.setCell ⟨g, i, none⟩ (bv c)) g (R.set i c) := by
  obtain ⟨cs, a, b, h1, h2, h3⟩ := h
  refine ⟨cs.setIfInBounds i (bv c), a, b, by simp [World.setCell, Array.getElem?_modify, h1], by simpa using h2, fun j d hd => ?_⟩
  rw [List.getElem?_set] at hd
  rw [Array.getElem?_setIfInBounds]
  by_cases hij : i = j
  · subst hij
    rw [if_pos rfl] at hd ⊢
    split at hd
    · rename_i hl
      have h4 := h3 i _ (List.getElem?_eq_getElem hl)
      rw [if_pos (Array.getElem?_eq_some_iff.1 h4).1]
      injection hd with hd
      rw [hd]
    · cases hd
  · rw [if_neg hij] at hd ⊢
    exact h3 j d hd
theorem RowB.str (h : RowB w g R) (n cap : Nat) (hn : n = R.length) : (convert 69 9 (.slice (some ⟨g, 0, none⟩) n cap)).run Try.prog w = .ok (.string ⟨R.toArray⟩) w := by
  subst hn
  refine run_convert_bytes_back w 69 9 5 ⟨g, 0, none⟩ cap R Try.underlying69 Try.underlying5 Try.underlying9 fun j hj => ?_
  have ha : (⟨g, 0, none⟩ : Addr).add j = ⟨g, j, none⟩ := by unfold Addr.add; split <;> simp_all
  rw [ha]
  exact h.cell (List.getElem?_eq_getElem hj)
end
theorem RowB.conv (w : World) (s : ByteArray) : RowB (Lib.bytesWorld w 5 s) w.heap.size s.data.toList := by
  refine ⟨_, _, _, Lib.bytesWorld_at_new w 5 s, by simp [Lib.bytesCells], fun j c hc => ?_⟩
  have hc' : s.data[j]? = some c := by simpa using hc
  have hj : j < s.data.size := (Array.getElem?_eq_some_iff.1 hc').1
  simp only [Lib.bytesCells]
  rw [Array.getElem?_append_left (by simpa using hj), Array.getElem?_map, hc']
  rfl
/-- Byte by byte. -/
def xorL (S T : List UInt8) : List UInt8 := (List.range S.length).map fun i => S.getD i 0 ^^^ T.getD i 0
theorem xorL_len (S T : List UInt8) : (xorL S T).length = S.length := by simp [xorL]
theorem xorL_get (S T : List UInt8) (i : Nat) (h : i < S.length) : (xorL S T)[i]? = some (S.getD i 0 ^^^ T.getD i 0) := range_get _ _ i h

set_option maxHeartbeats 1600000 in
theorem xdo_any (b7 b10 : Nat) (s t : ByteArray) (i : Nat) (x y : UInt8) (hx : s.data.toList[i]? = some x) (hy : t.data.toList[i]? = some y) (w : World)
    (c7 : w.cell? ⟨b7, 0, none⟩ = some (.string s)) (c10 : w.cell? ⟨b10, 0, none⟩ = some (.string t)) :
    Calls Try.prog 53 #[.int .i64 (i : Int), .pointer (some ⟨b7, 0, none⟩), .pointer (some ⟨b10, 0, none⟩)] w fun e w' => e = .returned (bv (x ^^^ y)) ∧ w.drew = w' := by
  have i1 := str_idx s i x hx
  have i2 := str_idx t i y hy
  have hxo := axor x y
  obtain ⟨z, hz⟩ : ∃ z, z = x ^^^ y := ⟨_, rfl⟩
  rw [← hz] at hxo ⊢
  clear hz hx hy
  go_enter Try.func53, Try.ntmps53
  go_wp2_with fail
  refine wp_region_txt (Cells2 ⟨b7, 0, none⟩ ⟨b10, 0, none⟩ (.string s) (.string t) w.drew) (by kernel_rfl) (by kernel_rfl) ⟨c7, c10, rfl⟩ ?_
  repeat (first
    | (refine text_skip (by rfl) ?_; simp only [Act.put, List.setIfInBounds_toArray, List.set_cons_zero, List.set_cons_succ])
    | (refine text_pure (v := ?_) (by rfl) (fun wx hS => ?_) ?_; rotate_left; (go_simp; with_reducible exact rfl); simp only [Act.put, List.setIfInBounds_toArray, List.set_cons_zero, List.set_cons_succ]))
  refine text_nil (fun wx hS => ?_)
  obtain ⟨_, _, rfl⟩ := hS
  go_wp2_with fail
  go_ret
  exact ⟨rfl, rfl⟩
theorem xdo_fid (args : Array Value) (W : World) : (callFunc 53 args).run Try.prog W = .ok (.enter 53 args) W := by rfl
theorem grown_cell {w w' : World} {g b : Nat} (h : w.grownBy w' (some g)) (hb : b < w.heap.size) (hne : b ≠ g) (o : Nat) : w'.cell? ⟨b, o, none⟩ = w.cell? ⟨b, o, none⟩ :=
  World.cell?_of_block (w := w) (a := ⟨b, o, none⟩) (h.block b hb (fun e => hne (Option.some.inj e)))

set_option maxHeartbeats 3200000 in
theorem xeach_any (b7 b10 b12 g cap : Nat) (s t : ByteArray) (n : Nat) (hn : n ≤ 65536) (hs : s.size = n) (ht : t.size = n) (w : World) (hA : RowB w g s.data.toList)
    (d7 : b7 < w.heap.size ∧ b7 ≠ g) (d10 : b10 < w.heap.size ∧ b10 ≠ g) (d12 : b12 < w.heap.size ∧ b12 ≠ g)
    (c7 : w.cell? ⟨b7, 0, none⟩ = some (.string s)) (c10 : w.cell? ⟨b10, 0, none⟩ = some (.string t)) (c12 : w.cell? ⟨b12, 0, none⟩ = some (.slice (some ⟨g, 0, none⟩) n cap)) :
    Calls Try.prog 52 #[.func (.func 53) #[] #[.pointer (some ⟨b7, 0, none⟩), .pointer (some ⟨b10, 0, none⟩)], .pointer (some ⟨b12, 0, none⟩)] w fun e w' => e = .returned (.tuple #[]) ∧ w.grownBy w' (some g) ∧ RowB w' g (xorL s.data.toList t.data.toList) := by
  have hsl : s.data.toList.length = n := by simp [hs]
  have htl : t.data.toList.length = n := by simp [ht]
  obtain ⟨N, hN⟩ : ∃ N, N = xorL s.data.toList t.data.toList := ⟨_, rfl⟩
  have hNl : N.length = n := by rw [hN, xorL_len, hsl]
  have hNg : ∀ i, i < n → N[i]? = some (s.data.toList.getD i 0 ^^^ t.data.toList.getD i 0) := fun i h => by rw [hN]; exact xorL_get _ _ i (by omega)
  rw [← hN]
  have hD : ∀ (i : Nat) (x y : UInt8), s.data.toList[i]? = some x → t.data.toList[i]? = some y → ∀ w, w.cell? ⟨b7, 0, none⟩ = some (.string s) → w.cell? ⟨b10, 0, none⟩ = some (.string t) →
      Calls Try.prog 53 #[.int .i64 (i : Int), .pointer (some ⟨b7, 0, none⟩), .pointer (some ⟨b10, 0, none⟩)] w fun e w' => e = .returned (bv (x ^^^ y)) ∧ w.drew = w' := fun i x y hx hy w h7 h10 => xdo_any b7 b10 s t i x y hx hy w h7 h10
  have HD := Lib.hid hD
  generalize s.data.toList = S at *
  generalize t.data.toList = T at *
  have HA := Lib.hid hA
  have HNG := Lib.hid hNg
  have H7 := Lib.hid c7
  have H10 := Lib.hid c10
  have H12 := Lib.hid c12
  have hfid := xdo_fid
  clear hN hA hNg hD
  go_enter Try.func52, Try.ntmps52
  go_wp2_with fail
  clear c7 c10 c12
  go_loopw [6] (fun c wr => ∃ i : Nat, i ≤ n ∧ c = .int .i64 (i : Int) ∧ RowB wr g (mixL N S i) ∧ w.grownBy wr (some g)) (fun c _ => n - (intOf c).toNat)
  case atStart => exact ⟨0, by omega, rfl, by rw [mixL_zero]; exact HA.out, grown_of_below (Below.refl _ _) _⟩
  case round =>
    obtain ⟨i, hi, rfl, hx, hg⟩ := hrel
    by_cases hlt : i < n
    · have hil : (i : Int) < (n : Int) := by omega
      have hi0 : (0 : Int) ≤ (i : Int) := by omega
      have hm : (mixL N S i).length = n := by rw [mixL_len _ _ _ (by omega)]; exact hsl
      obtain ⟨a, ha⟩ : ∃ a, S[i]? = some a := ⟨_, List.getElem?_eq_getElem (by omega)⟩
      obtain ⟨b, hb⟩ : ∃ a, T[i]? = some a := ⟨_, List.getElem?_eq_getElem (by omega)⟩
      have hni := HNG.out i hlt
      rw [show S.getD i 0 = a from by rw [List.getD_eq_getElem?_getD, ha]; rfl, show T.getD i 0 = b from by rw [List.getD_eq_getElem?_getD, hb]; rfl] at hni
      obtain ⟨M, hM⟩ : ∃ M, M = mixL N S i := ⟨_, rfl⟩
      obtain ⟨d, hd⟩ : ∃ d, M[i]? = some d := ⟨_, List.getElem?_eq_getElem (by rw [hM]; omega)⟩
      have hnext : M.set i (a ^^^ b) = mixL N S (i + 1) := by rw [hM]; exact mixL_set (by omega) hni
      rw [← hM] at hx hm
      obtain ⟨c, hc⟩ : ∃ c, c = a ^^^ b := ⟨_, rfl⟩
      have hcall : ∀ wx, (wx.cell? ⟨b12, 0, none⟩ = some (.slice (some ⟨g, 0, none⟩) n cap) ∧ RowB wx g M ∧ w.grownBy wx (some g)) → Calls Try.prog 53 #[.int .i64 (i : Int), .pointer (some ⟨b7, 0, none⟩), .pointer (some ⟨b10, 0, none⟩)] wx
          fun e w' => e = .returned (bv c) ∧ (w'.cell? ⟨b12, 0, none⟩ = some (.slice (some ⟨g, 0, none⟩) n cap) ∧ RowB w' g M ∧ w.grownBy w' (some g)) := fun wx h => by
        refine (HD.out i a b ha hb wx ((grown_cell h.2.2 d7.1 d7.2 0).trans H7.out) ((grown_cell h.2.2 d10.1 d10.2 0).trans H10.out)).mono ?_
        rintro e w' ⟨rfl, rfl⟩
        exact ⟨by rw [hc], h.1, h.2.1, grown_drew h.2.2⟩
      have c12 := (grown_cell hg d12.1 d12.2 0).trans H12.out
      rw [← hc] at hnext
      have HCall := Lib.hid hcall
      have HNX := Lib.hid hnext
      have HX := Lib.hid hx
      have HG := Lib.hid hg
      have HDD := Lib.hid hd
      clear hx hg hni ha hb hc hcall hM hnext hd
      go_wp2_with fail
      refine wp_region_tailN2 6 (fun w' => w'.cell? ⟨b12, 0, none⟩ = some (.slice (some ⟨g, 0, none⟩) n cap) ∧ RowB w' g M ∧ w.grownBy w' (some g)) (by kernel_rfl) (by kernel_rfl) (by kernel_rfl) ⟨c12, HX.out.drew, grown_drew HG.out⟩ ?_
      simp only [List.take_succ_cons, List.take_zero, List.drop_succ_cons, List.drop_zero]
      repeat (first
        | (refine text_skip (by rfl) ?_; simp only [Act.put, List.setIfInBounds_toArray, List.set_cons_zero, List.set_cons_succ])
        | (refine text_pure (v := ?_) (by rfl) (fun wx hS => ?_) ?_; rotate_left; (go_simp; with_reducible exact rfl); simp only [Act.put, List.setIfInBounds_toArray, List.set_cons_zero, List.set_cons_succ])
        | (refine text_call (v := ?_) (f := ?_) (args := ?_) (by rfl) (fun wx hS => ?_) (fun wx hS => ?_) ?_; rotate_left 3; (go_simp; constructor <;> with_reducible rfl)
           (first
             | with_reducible exact HCall.out wx hS)
           simp only [Act.put, List.setIfInBounds_toArray, List.set_cons_zero, List.set_cons_succ]))
      refine text_nil (fun wx hS => ?_)
      obtain ⟨c12', hR, hG⟩ := hS
      have e0 := hR.cell HDD.out
      have e1 := hR.frozen (i := i) (by omega)
      have HR := Lib.hid hR
      have HGG := Lib.hid hG
      clear hR hG c12
      go_wp2_with fail
      refine ⟨⟨i + 1, by omega, by go_num, ?_, grown_set HGG.out _ _⟩, by simp [intOf]; omega⟩
      have h := HR.out.set i c
      rw [HNX.out] at h
      exact h
    · have hi2 : i = n := by omega
      subst hi2
      rw [mixL_end _ _ _ (by omega) (by omega)] at hx
      go_wp2_with fail
      go_returns
      exact ⟨rfl, hg, hx⟩

theorem xorL_back (S T : List UInt8) : xorL (xorL S T) T = S := by
  apply List.ext_getElem?
  intro i
  by_cases hi : i < S.length
  · rw [xorL_get _ _ i (by rw [xorL_len]; exact hi), List.getD_eq_getElem?_getD, xorL_get _ _ i hi, Option.getD_some, UInt8.xor_assoc, UInt8.xor_self, UInt8.xor_zero, getD_some hi]
  · rw [List.getElem?_eq_none (by rw [xorL_len, xorL_len]; omega), List.getElem?_eq_none (by omega)]

theorem x1_fid (args : Array Value) (W : World) : (callFunc 52 args).run Try.prog W = .ok (.enter 52 args) W := by rfl
set_option maxRecDepth 100000 in
set_option maxHeartbeats 3200000 in
theorem xor_ok (key s t : ByteArray) (e p : Int) (hs : s.size ≤ 65536) (ht : t.size = s.size)
    (HS : Hid (∀ w, Calls Try.prog 30 #[.string key, .int .i64 e, .int .i64 p, .int .i64 0, .int .i64 (s.size : Int)] w fun r w' => r = .returned (.tuple #[.string t, .int .i64 0]) ∧ Below w.heap.size w w')) (w : World) :
    Calls Try.prog 32 #[.string key, .int .i64 e, .int .i64 p, .string s] w fun r w' => r = .returned (.tuple #[.string ⟨(xorL s.data.toList t.data.toList).toArray⟩, .int .i64 0]) ∧ Below w.heap.size w w' := by
  have h1 : ¬ (65536 : Int) < (s.size : Int) := by omega
  go_enter Try.func32, Try.ntmps32
  go_wp2_with fail
  refine (HS.out _).mono ?_
  rintro e1 w1 ⟨rfl, hb1⟩
  have b1 := bthen (bnew w (.cells #[.string s] 9)) hb1
  have c7 : w1.cell? ⟨w.heap.size, 0, none⟩ = some (.string s) := (hb1.cell (p := ⟨w.heap.size, 0, none⟩) (by simp)).trans (by simp [go_sem])
  have z1 : w.heap.size < w1.heap.size := bsz hb1
  obtain ⟨b7, hb7⟩ : ∃ b7, b7 = w.heap.size := ⟨_, rfl⟩
  clear hb1
  go_upto_region 6 with (fail)
  obtain ⟨W2, hW2⟩ : ∃ W2, W2 = w1.alloc (.cells #[.string t] 9) := ⟨_, rfl⟩
  rw [← hW2]
  have b2 : Below w.heap.size w W2 := by rw [hW2]; exact b1.alloc (by omega) _
  have d7 : W2.cell? ⟨w.heap.size, 0, none⟩ = some (.string s) := by rw [hW2]; exact ((bnew w1 _).cell (p := ⟨w.heap.size, 0, none⟩) z1).trans c7
  have d10 : W2.cell? ⟨w1.heap.size, 0, none⟩ = some (.string t) := by rw [hW2, cell_of_row _ w1.heap.size 0 _ _ (0, 0) (heap_alloc_new w1 _)]; rfl
  have z2 : W2.heap.size = w1.heap.size + 1 := by rw [hW2]; simp
  clear hW2 c7 hb7 b1
  have hcv := Lib.run_convert_string_bytes (P := Try.prog) W2 9 69 5 s (u := .string) Try.underlying9 Try.underlying69 Try.underlying5
  obtain ⟨cap, hcap⟩ : ∃ cap, cap = grownCap W2 s.size 0 5 := ⟨_, rfl⟩
  rw [← hcap] at hcv
  obtain ⟨W3, hW3⟩ : ∃ W3, W3 = Lib.bytesWorld W2 5 s := ⟨_, rfl⟩
  rw [← hW3] at hcv
  have r3 : RowB W3 W2.heap.size s.data.toList := by rw [hW3]; exact RowB.conv W2 s
  have z3 : W3.heap.size = W2.heap.size + 1 := by rw [hW3]; exact Lib.bytesWorld_size _ _ _
  have b3 : Below W2.heap.size W2 W3 := by rw [hW3]; exact Lib.below_freeze ((Below.drew (Below.refl _ W2)).alloc (Nat.le_refl _) _) (p := ⟨W2.heap.size, _, none⟩) (Nat.le_refl _) 1
  have f52 := x1_fid
  obtain ⟨W4, hW4⟩ : ∃ W4, W4 = W3.alloc (.cells #[.slice (some ⟨W2.heap.size, 0, none⟩) s.size cap] 69) := ⟨_, rfl⟩
  have b4 : Below W3.heap.size W3 W4 := by rw [hW4]; exact bnew W3 _
  have c12 : W4.cell? ⟨W3.heap.size, 0, none⟩ = some (.slice (some ⟨W2.heap.size, 0, none⟩) s.size cap) := by rw [hW4, cell_of_row _ W3.heap.size 0 _ _ (0, 0) (heap_alloc_new W3 _)]; rfl
  have c7 : W4.cell? ⟨w.heap.size, 0, none⟩ = some (.string s) := (b4.cell (p := ⟨w.heap.size, 0, none⟩) (by simp; omega)).trans ((b3.cell (p := ⟨w.heap.size, 0, none⟩) (by simp; omega)).trans d7)
  have c10 : W4.cell? ⟨w1.heap.size, 0, none⟩ = some (.string t) := (b4.cell (p := ⟨w1.heap.size, 0, none⟩) (by simp; omega)).trans ((b3.cell (p := ⟨w1.heap.size, 0, none⟩) (by simp; omega)).trans d10)
  have r4 : RowB W4 W2.heap.size s.data.toList := r3.below b4 (by omega)
  have z4 : W4.heap.size = W3.heap.size + 1 := by rw [hW4]; simp
  have HW4 := Lib.hid hW4
  have HB2 := Lib.hid b2
  have HB3 := Lib.hid b3
  have HB4 := Lib.hid b4
  have HZ : Hid (w.heap.size < w1.heap.size ∧ W2.heap.size = w1.heap.size + 1 ∧ W3.heap.size = W2.heap.size + 1 ∧ W4.heap.size = W3.heap.size + 1) := Lib.hid ⟨z1, z2, z3, z4⟩
  have HE := Lib.hid (xeach_any w.heap.size w1.heap.size W3.heap.size W2.heap.size cap s t s.size hs rfl ht W4 r4 ⟨by omega, by omega⟩ ⟨by omega, by omega⟩ ⟨by omega, by omega⟩ c7 c10 c12)
  have H12 := Lib.hid c12
  clear hcap hW3 hW4 d10 r3 c7 c10 c12 r4 b2 b3 b4 z1 z2 z3 z4
  go_wp2_with fail
  rw [← HW4.out]
  refine HE.out.mono ?_
  rintro e5 w5 ⟨rfl, hg5, hr5⟩
  obtain ⟨y1, y2, y3, y4⟩ := HZ.out
  have k12 := (grown_cell hg5 (b := W3.heap.size) (by omega) (by omega) 0).trans H12.out
  have hst := hr5.str s.size cap (by rw [xorL_len]; simp)
  have hb5 : Below w.heap.size w w5 := ((HB2.out.trans (HB3.out.mono (by omega))).trans (HB4.out.mono (by omega))).grown hg5 (by omega) (fun k hk => by injection hk with hk; omega)
  have HB5 := Lib.hid hb5
  clear hg5 hr5 hb5 y1 y2 y3 y4
  go_wp2_with fail
  go_ret2
  exact ⟨rfl, HB5.out⟩
theorem xor_no (key s : ByteArray) (e p : Int) (hs : s.size ≤ 65536)
    (HS : Hid (∀ w, Calls Try.prog 30 #[.string key, .int .i64 e, .int .i64 p, .int .i64 0, .int .i64 (s.size : Int)] w fun r w' => r = .returned (.tuple #[.string ⟨#[]⟩, .int .i64 2]) ∧ Below w.heap.size w w')) (w : World) :
    Calls Try.prog 32 #[.string key, .int .i64 e, .int .i64 p, .string s] w fun r w' => r = .returned (.tuple #[.string ⟨#[]⟩, .int .i64 2]) ∧ Below w.heap.size w w' := by
  have h1 : ¬ (65536 : Int) < (s.size : Int) := by omega
  go_enter Try.func32, Try.ntmps32
  go_wp2_with fail
  refine (HS.out _).mono ?_
  rintro e1 w1 ⟨rfl, hb1⟩
  have b1 := bthen (bnew w (.cells #[.string s] 9)) hb1
  go_wp2_with fail
  go_ret2
  exact ⟨rfl, b1.alloc b1.size _⟩

set_option maxRecDepth 100000 in
set_option maxHeartbeats 3200000 in
theorem rxor_ok (key s t : ByteArray) (e p : Int) (hs : s.size ≤ 65536) (ht : t.size = s.size)
    (HS : Hid (∀ w, Calls Try.prog 31 #[.string key, .int .i64 e, .int .i64 p, .int .i64 0, .int .i64 (s.size : Int)] w fun r w' => r = .returned (.tuple #[.string t, .bool true]) ∧ Below w.heap.size w w')) (w : World) :
    Calls Try.prog 33 #[.string key, .int .i64 e, .int .i64 p, .string s] w fun r w' => r = .returned (.tuple #[.string ⟨(xorL s.data.toList t.data.toList).toArray⟩, .bool true]) ∧ Below w.heap.size w w' := by
  obtain ⟨n, hn⟩ : ∃ n, n = s.size := ⟨_, rfl⟩
  have hsl : s.data.toList.length = n := by simp [hn]
  have htl : t.data.toList.length = n := by simp [ht, hn]
  obtain ⟨N, hN⟩ : ∃ N, N = xorL s.data.toList t.data.toList := ⟨_, rfl⟩
  have hNl : N.length = n := by rw [hN, xorL_len, hsl]
  have hNg : ∀ i, i < n → N[i]? = some (s.data.toList.getD i 0 ^^^ t.data.toList.getD i 0) := fun i h => by rw [hN]; exact xorL_get _ _ i (by omega)
  have hIs : ∀ (i : Nat) (c : UInt8), s.data.toList[i]? = some c → ∀ W, (Instr.index 9 (.string s) (.int .i64 (i : Int))).run Try.prog W = .ok (.int .u8 ((c.toNat : Nat) : Int)) W := str_idx s
  have hIt : ∀ (i : Nat) (c : UInt8), t.data.toList[i]? = some c → ∀ W, (Instr.index 9 (.string t) (.int .i64 (i : Int))).run Try.prog W = .ok (.int .u8 ((c.toNat : Nat) : Int)) W := str_idx t
  rw [← hN]
  rw [← hn] at HS hs
  generalize s.data.toList = S at *
  generalize t.data.toList = T at *
  have hmin : min (n : Int) 65537 = (n : Int) := by omega
  have HNG := Lib.hid hNg
  have HIs := Lib.hid hIs
  have HIt := Lib.hid hIt
  have hsz : (s.size : Int) = (n : Int) := by omega
  clear hN hNg hIs hIt hn
  go_enter Try.func33, Try.ntmps33
  go_wp2_with fail
  refine (HS.out _).mono ?_
  rintro e1 w1 ⟨rfl, hb1⟩
  go_wp2_with fail
  go_loopw [12, 13] (fun o c wr => ∃ i : Nat, i ≤ n ∧ c = .int .i64 (i : Int) ∧ o = .string ⟨(N.take i).toArray⟩ ∧ Below w.heap.size w wr) (fun _ c _ => n - (intOf c).toNat)
  case atStart => exact ⟨0, by omega, rfl, rfl, hb1⟩
  case round =>
    clear hb1
    obtain ⟨i, hi, rfl, rfl, hbw⟩ := hrel
    by_cases hlt : i < n
    · have hil : (i : Int) < (n : Int) := by omega
      have hi0 : (0 : Int) ≤ (i : Int) := by omega
      obtain ⟨a, ha⟩ : ∃ a, S[i]? = some a := ⟨_, List.getElem?_eq_getElem (by omega)⟩
      obtain ⟨b, hb⟩ : ∃ a, T[i]? = some a := ⟨_, List.getElem?_eq_getElem (by omega)⟩
      have hni := HNG.out i hlt
      rw [show S.getD i 0 = a from by rw [List.getD_eq_getElem?_getD, ha]; rfl, show T.getD i 0 = b from by rw [List.getD_eq_getElem?_getD, hb]; rfl] at hni
      have i1 := HIs.out i a ha
      have i2 := HIt.out i b hb
      have hxo := bxor64 a b
      have wa := i64w a
      have wb := i64w b
      obtain ⟨c, hc⟩ : ∃ c, c = a ^^^ b := ⟨_, rfl⟩
      rw [← hc] at hxo hni
      have hcm : ((c.toNat : Nat) : Int) % 256 = ((c.toNat : Nat) : Int) := by have := c.toNat_lt; omega
      have hcw : IntKind.u8.wrap ((c.toNat : Nat) : Int) = ((c.toNat : Nat) : Int) := by rw [IntKind.wrap_u8, hcm]
      have hT : N.take (i + 1) = N.take i ++ [c] := by rw [List.take_add_one, hni]; rfl
      have hs2 := str_snoc (N.take i) c
      rw [← hT] at hs2
      have hl : (⟨(N.take i).toArray⟩ : ByteArray).size = i := by simp [ByteArray.size]; omega
      have h1s : (⟨#[c]⟩ : ByteArray).size = 1 := rfl
      have o1 : (convert 69 9 (.slice (some ⟨wr.heap.size, 0, none⟩) 1 1)).run Try.prog (wr.alloc (.cells #[.int .u8 ((c.toNat : Nat) : Int)] 5)).drew = .ok (.string ⟨#[c]⟩) (wr.alloc (.cells #[.int .u8 ((c.toNat : Nat) : Int)] 5)).drew :=
        (Arr.new wr 5 [c]).drew.str (P := Try.prog) 1 1 rfl 69 5 9 Try.underlying69 Try.underlying5 Try.underlying9
      obtain ⟨A', hA'⟩ : ∃ A' : ByteArray, A' = ⟨(N.take (i + 1)).toArray⟩ := ⟨_, rfl⟩
      rw [← hA'] at hs2
      have HA' := Lib.hid hA'
      have HB := Lib.hid hbw
      have hbz := hbw.size
      have hadd : ∀ W, (Op.stringOp .add (⟨(N.take i).toArray⟩ : ByteArray) ⟨#[c]⟩).run Try.prog W = .ok (.string A') W := fun W => by
        rw [← hs2]
        exact run_string_add_sum W _ _ (by rw [hl, h1s]; omega)
      clear hbw hT hc hni ha hb hA' hs2
      generalize (⟨(N.take i).toArray⟩ : ByteArray) = A at *
      generalize (⟨#[c]⟩ : ByteArray) = C at *
      go_wp2_with fail
      have HK : Hid (PK (fun _ => True) wr.drew (wr.alloc (.cells #[.int .u8 ((c.toNat : Nat) : Int)] 5)).drew true (wr.alloc (.cells #[.int .u8 ((c.toNat : Nat) : Int)] 5)).drew) := Lib.hid ⟨trivial, rfl⟩
      refine wp_region_front (by kernel_rfl) ?_
      refine front_chunk 14 11 (PK (fun _ => True) wr.drew (wr.alloc (.cells #[.int .u8 ((c.toNat : Nat) : Int)] 5)).drew) (by kernel_rfl) (by decide) ⟨trivial, rfl⟩ ?_
      simp only [List.drop_zero, List.take_succ_cons, List.take_zero]
      repeat (first
        | (refine textP_skip (by rfl) (by decide) ?_; simp only [Act.put, List.setIfInBounds_toArray, List.set_cons_zero, List.set_cons_succ])
        | (refine textP_known (v := ?_) (by rfl) (by decide) (fun wx hS => ?_) ?_; rotate_left; ((try dsimp only at hS); go_simp; with_reducible exact rfl); simp only [Act.put, List.setIfInBounds_toArray, List.set_cons_zero, List.set_cons_succ])
        | (refine textP_make (v := ?_) (by rfl) (by rfl) (fun wx hS => ?_) ?_; rotate_left; (replace hS := hS.2; subst hS; refine ⟨_, ?_, HK.out⟩; go_simp; with_reducible exact rfl); simp only [Act.put, List.setIfInBounds_toArray, List.set_cons_zero, List.set_cons_succ])
        | (refine textP_late (v := ?_) (by rfl) (by rfl) (fun wx hS => ?_) ?_; rotate_left; (replace hS := hS.2; subst hS; go_simp; with_reducible exact rfl); simp only [Act.put, List.setIfInBounds_toArray, List.set_cons_zero, List.set_cons_succ]))
      refine textP_nil (fun wx hS => ?_)
      replace hS := hS.2
      subst hS
      refine front_tail (by kernel_rfl) (by decide) ?_
      simp only [List.drop_succ_cons, List.drop_zero]
      go_wp2_with fail
      exact ⟨⟨i + 1, by omega, by go_num, by rw [HA'.out], (HB.out.alloc hbz _).drew⟩, by simp [intOf]; omega⟩
    · have hi2 : i = n := by omega
      subst hi2
      rw [List.take_of_length_le (by omega)]
      go_wp2_with fail
      go_ret2
      exact ⟨rfl, hbw⟩
theorem rxor_no (key s : ByteArray) (e p : Int) (hs : s.size ≤ 65536)
    (HS : Hid (∀ w, Calls Try.prog 31 #[.string key, .int .i64 e, .int .i64 p, .int .i64 0, .int .i64 (s.size : Int)] w fun r w' => r = .returned (.tuple #[.string ⟨#[]⟩, .bool false]) ∧ Below w.heap.size w w')) (w : World) :
    Calls Try.prog 33 #[.string key, .int .i64 e, .int .i64 p, .string s] w fun r w' => r = .returned (.tuple #[.string ⟨#[]⟩, .bool false]) ∧ Below w.heap.size w w' := by
  have hmin : min (s.size : Int) 65537 = (s.size : Int) := by omega
  go_enter Try.func33, Try.ntmps33
  go_wp2_with fail
  refine (HS.out _).mono ?_
  rintro e1 w1 ⟨rfl, hb1⟩
  go_wp2_with fail
  go_ret2
  exact ⟨rfl, hb1⟩
end Go.Proofs.Ytkbidgonjnlkmaa

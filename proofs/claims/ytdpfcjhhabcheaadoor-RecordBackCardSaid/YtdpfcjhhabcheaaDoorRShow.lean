/-
  The contract of record.Show. No condition. Own work.
-/
import Derived.Test.YtdpfcjhhabcheaaDoorDig
import Derived.Test.YtdpfcjhhabcheaaDoorRPut3
namespace Go.Proofs.YtdpfcjhhabcheaaDoor
open Go.RowKit

abbrev sClose : ByteArray := ⟨#[99, 108, 111, 115, 101]⟩
abbrev sRetain : ByteArray := ⟨#[114, 101, 116, 97, 105, 110]⟩
abbrev sHold : ByteArray := ⟨#[104, 111, 108, 100]⟩
abbrev sRelease : ByteArray := ⟨#[114, 101, 108, 101, 97, 115, 101]⟩
abbrev sPurge : ByteArray := ⟨#[112, 117, 114, 103, 101]⟩
abbrev sAt : ByteArray := ⟨#[97, 116]⟩
abbrev sBlank : ByteArray := ⟨#[32]⟩
/-- Texts, with a blank between each two. -/
def joinS (xs : List ByteArray) : ByteArray := ⟨(Lib.join (xs.map (·.data.toList)) [32]).toArray⟩
theorem joinTail_len (r : List ByteArray) (m : Nat) (h : ∀ x ∈ r, x.size ≤ m) : (Lib.joinTail [32] (r.map (·.data.toList))).length ≤ r.length * (m + 1) := by
  induction r with
  | nil => simp [Lib.joinTail]
  | cons x r ih =>
    have h1 := ih fun y hy => h y (by simp [hy])
    have h2 := h x (by simp)
    unfold Lib.joinTail at h1 ⊢
    simp only [List.map_cons, List.flatten_cons, List.length_append, List.length_cons, List.length_nil, Nat.succ_mul, Array.length_toList, ByteArray.size_data] at h1 ⊢
    omega
theorem join_len (r : List ByteArray) (m : Nat) (h : ∀ x ∈ r, x.size ≤ m) : (Lib.join (r.map (·.data.toList)) [32]).length ≤ r.length * (m + 1) := by
  cases r with
  | nil => simp [Lib.join_nil]
  | cons x r =>
    have h1 := joinTail_len r m fun y hy => h y (by simp [hy])
    have h2 := h x (by simp)
    rw [List.map_cons, Lib.join_cons, List.length_append, Array.length_toList, ByteArray.size_data, List.length_cons, Nat.succ_mul]
    omega
/-- strings.Join of a slice that the call owns, with a blank. -/
theorem join_any {B : Nat} {v : Value} (xs : List ByteArray) (m : Nat) (hm : ∀ x ∈ xs, x.size ≤ m) (hl : xs.length ≤ 1000) (hmb : m ≤ 1000000) (h0 : 0 < xs.length) (w : World) (h : SlO 9 B v (xs.map Value.string) w) :
    Calls Tryd.prog 40 #[v, .string sBlank] w fun e w' => e = .returned (.string (joinS xs)) ∧ Below w.heap.size w w' := by
  obtain ⟨g, cap, rfl, hc, _, hC⟩ := h.opened (by simpa using h0)
  have hj := join_len xs m hm
  have hb : xs.length * (m + 1) ≤ 1000 * 1000001 := Nat.mul_le_mul hl (by omega)
  simp only [List.length_map] at hc ⊢
  exact Tryd.strings_Join g 0 cap xs sBlank w (fun j x hx => by
    have := hC.2 j (.string x) (by rw [List.getElem?_map, hx]; rfl)
    rwa [Nat.zero_add]) hC.1 (by omega) hc (by
      show (Lib.join (xs.map (·.data.toList)) [32]).length ≤ _
      omega)
theorem sz_le {x : ByteArray} (h : decide (x.size ≤ 100000) = true) : x.size ≤ 100000 := of_decide_eq_true h
/-- The words of a record. -/
def shP (k e t c g u : Nat) (n : ByteArray) : List ByteArray :=
  (if k = 1 then [sClose, decS e, decS c] else if k = 2 then [sRetain, decS g, decS u] else if k = 3 then [sHold, n, decS g] else if k = 4 then [sRelease, n] else [sPurge, decS g, decS u]) ++ [sAt, decS t]
abbrev KR (w0 : World) (b : Nat) (k e t c g u : Int) (r n : ByteArray) (w' : World) : Prop := K6 b k e t c g u w' ∧ w'.cell? ⟨b, 6, none⟩ = some (.string r) ∧ w'.cell? ⟨b, 7, none⟩ = some (.string n) ∧ b < w'.heap.size ∧ Tab w' ∧ Below w0.heap.size w0 w'
theorem kr {w0 : World} {b : Nat} {k e t c g u : Int} {r n : ByteArray} : Keeps (KR w0 b k e t c g u r n) := fun _ _ h hb =>
  ⟨k6_below h.1 hb h.2.2.2.1, (hb.cell (p := ⟨b, 6, none⟩) h.2.2.2.1).trans h.2.1, (hb.cell (p := ⟨b, 7, none⟩) h.2.2.2.1).trans h.2.2.1, Nat.lt_of_lt_of_le h.2.2.2.1 hb.size, h.2.2.2.2.1.below hb, bthen h.2.2.2.2.2 hb⟩
theorem kr_drew {w0 w : World} {b : Nat} {k e t c g u : Int} {r n : ByteArray} (h : KR w0 b k e t c g u r n w) : KR w0 b k e t c g u r n w.drew := ⟨h.1, h.2.1, h.2.2.1, h.2.2.2.1, h.2.2.2.2.1, h.2.2.2.2.2.drew⟩
theorem kr_row {w0 w : World} {b : Nat} {k e t c g u : Int} {r n : ByteArray} {T : TypeId} (h : w.heap[b]? = some (.cells (RC k e t c g u r n) T (0, 0))) (ht : Tab w) (hb : Below w0.heap.size w0 w) : KR w0 b k e t c g u r n w :=
  ⟨k6_row h, by rw [cell_of_row _ _ _ _ _ _ h]; rfl, by rw [cell_of_row _ _ _ _ _ _ h]; rfl, lt_of_block h, ht, hb⟩
theorem meetsT {S : World → Prop} {f : FuncId} {args : Array Value} {v : Value} (hk : Keeps S) (hT : ∀ w, S w → Tab w) (hc : ∀ w, Tab w → Calls Tryd.prog f args w fun e w' => e = .returned v ∧ Below w.heap.size w w') (w : World) (hS : S w) :
    Calls Tryd.prog f args w fun e w' => e = .returned v ∧ S w' := (hc w (hT w hS)).mono fun _ _ ⟨he, hb⟩ => ⟨he, hk _ _ hS hb⟩
set_option maxRecDepth 100000 in
set_option maxHeartbeats 6400000 in
theorem show_one (e t c g u : Nat) (r n : ByteArray) (hn : n.size ≤ 100000) (h : ROk (1 : Nat) e t c g u r n) (w : World) (ht : Tab w) : Calls Tryd.prog 14 #[RVal (1 : Nat) e t c g u r n] w fun x w' =>
    x = .returned (.string (joinS [sClose, decS e, decS c, sAt, decS t])) ∧ Below w.heap.size w w' := by
  have hC := check_any (1 : Nat) e t c g u r n hn
  rw [okV, if_pos h] at hC
  have HC := Lib.hid hC
  have hf := rok_fits h
  have HI1 := Lib.hid (itoa_any e (by unfold FitsR at hf; omega))
  have HI2 := Lib.hid (itoa_any c (by unfold FitsR at hf; omega))
  have HI3 := Lib.hid (itoa_any t (by unfold FitsR at hf; omega))
  have hl1 := decS_len e (by unfold FitsR at hf; omega)
  have hl2 := decS_len c (by unfold FitsR at hf; omega)
  have hl3 := decS_len t (by unfold FitsR at hf; omega)
  generalize decS e = E at *
  generalize decS c = C at *
  generalize decS t = T at *
  have HJ : Hid (∀ (B : Nat) (v : Value) (w : World), SlO 9 B v ([sClose, E, C, sAt, T].map Value.string) w → Calls Tryd.prog 40 #[v, .string sBlank] w fun e w' => e = .returned (.string (joinS [sClose, E, C, sAt, T])) ∧ Below w.heap.size w w') :=
    Lib.hid fun B v w hO => join_any [sClose, E, C, sAt, T] 100000 (fun x hx => by
      simp only [List.mem_cons, List.not_mem_nil, or_false] at hx
      rcases hx with rfl | rfl | rfl | rfl | rfl <;> first | omega | exact sz_le (by decide)) (by simp) (by omega) (by simp) w hO
  have HTab := Lib.hid ht
  clear h hC hf hn hl1 hl2 hl3 ht
  generalize joinS [sClose, E, C, sAt, T] = R at *
  go_enter Tryd.func14, Tryd.ntmps14
  go_wp2_with fail
  refine (HC.out _).mono ?_
  rintro e1 w1 ⟨rfl, hb1⟩
  have k1 : KR w w.heap.size (1 : Nat) e t c g u r n w1 := kr_row ((hb1.block w.heap.size (by simp)).trans (heap_alloc_new w (.cells (RC (1 : Nat) e t c g u r n) 23))) ((HTab.out.below (bnew w _)).below hb1) (bthen (bnew w _) hb1)
  have K1 := Lib.hid k1
  obtain ⟨⟨q0, q1, q2, q3, q4, q5⟩, q6, q7, z1, -, -⟩ := k1
  clear hb1
  go_wp2_with fail
  refine wp_region_tailN2 6 (KR w w.heap.size (1 : Nat) e t c g u r n) (by kernel_rfl) (by kernel_rfl) (by kernel_rfl) (kr_drew K1.out) ?_
  simp only [List.take_succ_cons, List.take_zero, List.drop_succ_cons, List.drop_zero]
  have HK : Hid (Keeps (KR w w.heap.size (1 : Nat) e t c g u r n)) := Lib.hid kr
  have HKT : Hid (∀ w', KR w w.heap.size (1 : Nat) e t c g u r n w' → Tab w') := Lib.hid fun _ h => h.2.2.2.2.1
  repeat (first
    | (refine text_skip (by rfl) ?_; simp only [Act.put, List.setIfInBounds_toArray, List.set_cons_zero, List.set_cons_succ])
    | (refine text_pure (v := ?_) (by rfl) (fun wx hS => ?_) ?_; rotate_left; (go_simp; with_reducible exact rfl); simp only [Act.put, List.setIfInBounds_toArray, List.set_cons_zero, List.set_cons_succ])
    | (refine text_call (v := ?_) (f := ?_) (args := ?_) (by rfl) (fun wx hS => ?_) (fun wx hS => ?_) ?_; rotate_left 3; (go_simp; constructor <;> with_reducible rfl)
       (first
         | with_reducible exact meetsT HK.out HKT.out HI1.out wx hS
         | with_reducible exact meetsT HK.out HKT.out HI2.out wx hS)
       simp only [Act.put, List.setIfInBounds_toArray, List.set_cons_zero, List.set_cons_succ]))
  refine text_nil (fun wx hS => ?_)
  clear q0 q1 q2 q3 q4 q5 q6 q7 z1 K1
  have K2 := Lib.hid hS
  obtain ⟨⟨q0, q1, q2, q3, q4, q5⟩, q6, q7, z1, -, -⟩ := hS
  have zz : w.heap.size ≤ wx.heap.size := K2.out.2.2.2.2.2.size
  have L1 : Hid (SlO 9 w.heap.size (.slice (some ⟨wx.heap.size, 0, none⟩) 3 3) ([sClose, E, C].map Value.string) (wx.alloc (.cells #[.string sClose, .string E, .string C] 9))) := Lib.hid ((SlO.lit wx 9 ([sClose, E, C].map Value.string) (by simp [maxLen])).up zz)
  go_wp2_with fail
  refine (HI3.out _ (K2.out.2.2.2.2.1.below (bnew wx _))).mono ?_
  rintro e2 w2 ⟨rfl, hb2⟩
  have L2 := Lib.hid (L1.out.below hb2)
  have B2 := Lib.hid (bthen (bthen K2.out.2.2.2.2.2 (bnew wx _)) hb2)
  clear hb2 L1 K2 q0 q1 q2 q3 q4 q5 q6 q7 z1
  have hO2 : Hid (SlO 9 w.heap.size (.slice (some ⟨wx.heap.size, 0, none⟩) 3 3) ([sClose, E, C].map Value.string) (w2.alloc (.cells #[.string sAt, .string T] 9))) := Lib.hid (L2.out.below (bnew w2 _))
  have hC2 : Hid (SlC w2.heap.size ([sAt, T].map Value.string) (w2.alloc (.cells #[.string sAt, .string T] 9))) := Lib.hid (SlC.lit w2 _ _)
  go_wp2_with (at_builtin; refine wpList_pushS rfl _ _ rfl w.heap.size _ ([sClose, E, C].map Value.string) rfl hO2.out w2.heap.size 2 2 [sAt, T] rfl hC2.out rfl (by simp) (bthen B2.out (bnew w2 _)).size ?_)
  intro v' w3 hO3 hg3 hB3
  have B3 := Lib.hid ((bthen B2.out (bnew w2 _)).trans hB3)
  have O3 := Lib.hid hO3
  clear hO3 hg3 hB3
  go_wp2_with fail
  refine (HJ.out _ _ _ O3.out).mono ?_
  rintro e4 w4 ⟨rfl, hb4⟩
  have B4 := bthen B3.out hb4
  clear hb4
  go_wp2_with fail
  go_ret
  exact ⟨rfl, B4⟩
end Go.Proofs.YtdpfcjhhabcheaaDoor

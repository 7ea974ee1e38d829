/-
  The contracts of package space. No condition. Own work.
-/
import Derived.Test.YtbblolggcgonmaaGeom
import Derived.Test.YtbblolggcgonmaaText
namespace Go.Proofs.Ytbblolggcgonmaa
open Go.RowKit

/-- A space in memory: a shape, how many are taken, whether a call made it. -/
structure SpcAt (w : World) (g : Nat) (b l f u : Int) (m : Bool) : Prop where
  c0 : w.cell? ⟨g, 0, none⟩ = some (.int .i64 b)
  c1 : w.cell? ⟨g, 1, none⟩ = some (.int .i64 l)
  c2 : w.cell? ⟨g, 2, none⟩ = some (.int .i64 f)
  c3 : w.cell? ⟨g, 3, none⟩ = some (.int .i64 u)
  c4 : w.cell? ⟨g, 4, none⟩ = some (.bool m)
  fz : w.frozen? ⟨g, 3, none⟩ = false
  lt : g < w.heap.size
section
variable {w w' : World} {g : Nat} {b l f u : Int} {m : Bool}
theorem SpcAt.below (h : SpcAt w g b l f u m) (hb : Below w.heap.size w w') : SpcAt w' g b l f u m :=
  ⟨(hb.cell h.lt).trans h.c0, (hb.cell h.lt).trans h.c1, (hb.cell h.lt).trans h.c2, (hb.cell h.lt).trans h.c3, (hb.cell h.lt).trans h.c4, (hb.frozen h.lt).trans h.fz, Nat.lt_of_lt_of_le h.lt hb.size⟩
theorem SpcAt.set (h : SpcAt w g b l f u m) (v : Int) : SpcAt (w.setCell ⟨g, 3, none⟩ (.int .i64 v)) g b l f v m :=
  ⟨by rw [World.cell?_setCell_other w _ _ _ (by simp)]; exact h.c0, by rw [World.cell?_setCell_other w _ _ _ (by simp)]; exact h.c1, by rw [World.cell?_setCell_other w _ _ _ (by simp)]; exact h.c2,
    World.cell?_setCell_same w _ _ h.c3, by rw [World.cell?_setCell_other w _ _ _ (by simp)]; exact h.c4, by rw [World.frozen?_setCell]; exact h.fz, by simpa [World.setCell] using h.lt⟩
theorem SpcAt.new (w : World) (b l f u : Int) (m : Bool) : SpcAt (w.alloc (.cells #[.int .i64 b, .int .i64 l, .int .i64 f, .int .i64 u, .bool m] 43)) w.heap.size b l f u m :=
  ⟨by simp [go_sem], by simp [go_sem], by simp [go_sem], by simp [go_sem], by simp [go_sem], by simp [go_sem], by simp⟩
theorem grown_of_below (h : Below w.heap.size w w') (row : Option Nat) : w.grownBy w' row := ⟨h.os, h.tape, h.output, h.size, fun i hi _ => h.block i hi⟩
theorem grown_set {a : World} (h : a.grownBy w (some g)) (v : Value) (o : Nat) : a.grownBy (w.setCell ⟨g, o, none⟩ v) (some g) :=
  ⟨h.os, h.tape, h.output, by simpa [World.setCell] using h.size, fun i hi hne => (Below.heap_setCell w ⟨g, o, none⟩ v i (fun e => hne (by rw [e]))).trans (h.block i hi hne)⟩
end

set_option maxHeartbeats 400000 in
theorem sthere_nil (w : World) : Calls Try.prog 38 #[.pointer none] w fun e w' => e = .returned (.bool false) ∧ w = w' := by
  go_enter Try.func38, Try.ntmps38
  go_wp2_with fail
  go_ret
  exact ⟨rfl, rfl⟩
set_option maxHeartbeats 400000 in
theorem sthere_no (g : Nat) (b l f u : Int) (w : World) (h : SpcAt w g b l f u false) : Calls Try.prog 38 #[.pointer (some ⟨g, 0, none⟩)] w fun e w' => e = .returned (.bool false) ∧ w = w' := by
  have h4 := h.c4
  clear h
  go_enter Try.func38, Try.ntmps38
  go_wp2_with fail
  go_ret
  exact ⟨rfl, rfl⟩
set_option maxHeartbeats 400000 in
theorem sthere_at (g : Nat) (b l f u : Int) (hb : 0 < b) (w : World) (h : SpcAt w g b l f u true) : Calls Try.prog 38 #[.pointer (some ⟨g, 0, none⟩)] w fun e w' => e = .returned (.bool true) ∧ w = w' := by
  have h4 := h.c4
  have h0 := h.c0
  clear h
  go_enter Try.func38, Try.ntmps38
  go_wp2_with fail
  go_ret
  exact ⟨ret_bool (by simp; try omega), rfl⟩

/-- A space that is none, or that no call made. -/
def NoSpc (w : World) (p : Value) : Prop := p = .pointer none ∨ ∃ g b l f u, p = .pointer (some ⟨g, 0, none⟩) ∧ SpcAt w g b l f u false
theorem sthere_none (p : Value) (w : World) (h : NoSpc w p) : Calls Try.prog 38 #[p] w fun e w' => e = .returned (.bool false) ∧ w = w' := by
  rcases h with rfl | ⟨g, b, l, f, u, rfl, h⟩
  · exact sthere_nil w
  · exact sthere_no g b l f u w h

theorem NoSpc.below {w w' : World} {p : Value} (h : NoSpc w p) (hb : Below w.heap.size w w') : NoSpc w' p := by
  rcases h with rfl | ⟨g, b, l, f, u, rfl, h⟩
  · exact .inl rfl
  · exact .inr ⟨g, b, l, f, u, rfl, h.below hb⟩
/-- What a region keeps of a space. -/
abbrev SpcS (a : World) (g : Nat) (b l f u : Int) (m : Bool) (w : World) : Prop :=
  w.cell? ⟨g, 0, none⟩ = some (.int .i64 b) ∧ w.cell? ⟨g, 1, none⟩ = some (.int .i64 l) ∧ w.cell? ⟨g, 2, none⟩ = some (.int .i64 f) ∧ w.cell? ⟨g, 3, none⟩ = some (.int .i64 u) ∧ w.cell? ⟨g, 4, none⟩ = some (.bool m) ∧ SpcAt w g b l f u m ∧ Below a.heap.size a w
section
variable {P : Program} {a w : World} {g : Nat} {b l f u : Int} {m : Bool}
theorem SpcS.mk (h : SpcAt w g b l f u m) (hb : Below a.heap.size a w) : SpcS a g b l f u m w := ⟨h.c0, h.c1, h.c2, h.c3, h.c4, h, hb⟩
theorem SpcS.keeps : Keeps (SpcS a g b l f u m) := fun _ _ h hb => SpcS.mk (h.2.2.2.2.2.1.below hb) (bthen h.2.2.2.2.2.2 hb)
theorem SpcS.arm {fn : FuncId} {args : Array Value} {v : Value} (hc : ∀ w, SpcAt w g b l f u m → Calls P fn args w fun e w' => e = .returned v ∧ w = w') (w : World) (hS : SpcS a g b l f u m w) :
    Calls P fn args w fun e w' => e = .returned v ∧ SpcS a g b l f u m w' := (hc w hS.2.2.2.2.2.1).mono fun _ _ ⟨he, hw⟩ => ⟨he, hw ▸ hS⟩
theorem SpcS.armB {fn : FuncId} {args : Array Value} {v : Value} (hc : ∀ w, SpcAt w g b l f u m → Calls P fn args w fun e w' => e = .returned v ∧ Below w.heap.size w w') (w : World) (hS : SpcS a g b l f u m w) :
    Calls P fn args w fun e w' => e = .returned v ∧ SpcS a g b l f u m w' := (hc w hS.2.2.2.2.2.1).mono fun _ _ ⟨he, hb⟩ => ⟨he, SpcS.keeps _ _ hS hb⟩
abbrev NoS (a : World) (p : Value) (w : World) : Prop := NoSpc w p ∧ Below a.heap.size a w
theorem NoS.arm {fn : FuncId} {args : Array Value} {v p : Value} (hc : ∀ w, NoSpc w p → Calls P fn args w fun e w' => e = .returned v ∧ w = w') (w : World) (hS : NoS a p w) :
    Calls P fn args w fun e w' => e = .returned v ∧ NoS a p w' := (hc w hS.1).mono fun _ _ ⟨he, hw⟩ => ⟨he, hw ▸ hS⟩
end

set_option maxHeartbeats 400000 in
theorem sopen_none (p : Value) (w : World) (h : NoSpc w p) : Calls Try.prog 14 #[p] w fun e w' => e = .returned (.bool false) ∧ Below w.heap.size w w' := by
  have H := Lib.hid h
  clear h
  go_enter Try.func14, Try.ntmps14
  go_wp2_with fail
  refine wp_region_txt (NoS w p) (by kernel_rfl) (by kernel_rfl) ⟨H.out.below (Below.refl _ _).drew, (Below.refl _ _).drew⟩ ?_
  repeat (first
    | (refine text_skip (by rfl) ?_; simp only [Act.put, List.setIfInBounds_toArray, List.set_cons_zero, List.set_cons_succ])
    | (refine text_pure (v := ?_) (by rfl) (fun wx hS => ?_) ?_; rotate_left; (go_simp; with_reducible exact rfl); simp only [Act.put, List.setIfInBounds_toArray, List.set_cons_zero, List.set_cons_succ])
    | (refine text_call (v := ?_) (f := ?_) (args := ?_) (by rfl) (fun wx hS => ?_) (fun wx hS => ?_) ?_; rotate_left 3; (go_simp; constructor <;> with_reducible rfl)
       (first
         | with_reducible exact NoS.arm (sthere_none p) wx hS)
       simp only [Act.put, List.setIfInBounds_toArray, List.set_cons_zero, List.set_cons_succ]))
  refine text_nil (fun wx hS => ?_)
  go_wp2_with fail
  go_ret
  exact ⟨rfl, hS.2⟩
set_option maxHeartbeats 400000 in
theorem sused_none (p : Value) (w : World) (h : NoSpc w p) : Calls Try.prog 18 #[p] w fun e w' => e = .returned (.int .i64 0) ∧ w = w' := by
  have H := Lib.hid h
  clear h
  go_enter Try.func18, Try.ntmps18
  go_wp2_with (go_at_call 38; refine (sthere_none _ _ H.out).mono ?_; rintro e w' ⟨rfl, rfl⟩)
  go_ret
  exact ⟨rfl, rfl⟩
set_option maxHeartbeats 400000 in
theorem sroom_none (p : Value) (w : World) (h : NoSpc w p) : Calls Try.prog 22 #[p] w fun e w' => e = .returned (.int .i64 0) ∧ w = w' := by
  have H := Lib.hid h
  clear h
  go_enter Try.func22, Try.ntmps22
  go_wp2_with (go_at_call 38; refine (sthere_none _ _ H.out).mono ?_; rintro e w' ⟨rfl, rfl⟩)
  go_ret
  exact ⟨rfl, rfl⟩
set_option maxHeartbeats 400000 in
theorem sback_none (p : Value) (n : Int) (w : World) (h : NoSpc w p) : Calls Try.prog 21 #[p, .int .i64 n] w fun e w' => e = .returned (.int .i64 1) ∧ w = w' := by
  have H := Lib.hid h
  clear h
  go_enter Try.func21, Try.ntmps21
  go_wp2_with (go_at_call 38; refine (sthere_none _ _ H.out).mono ?_; rintro e w' ⟨rfl, rfl⟩)
  go_ret
  exact ⟨rfl, rfl⟩
set_option maxHeartbeats 400000 in
theorem snext_none (p q : Value) (n : Int) (w : World) (h : NoSpc w p) : Calls Try.prog 39 #[p, q, .int .i64 n] w fun e w' => e = .returned (.tuple #[.int .i64 0, .int .i64 1]) ∧ w = w' := by
  have H := Lib.hid h
  clear h
  go_enter Try.func39, Try.ntmps39
  go_wp2_with (go_at_call 38; refine (sthere_none _ _ H.out).mono ?_; rintro e w' ⟨rfl, rfl⟩)
  go_ret2
  exact ⟨rfl, rfl⟩
set_option maxHeartbeats 400000 in
theorem stake_none (p : Value) (w : World) (h : NoSpc w p) : Calls Try.prog 16 #[p] w fun e w' => e = .returned (.tuple #[.int .i64 0, .int .i64 1]) ∧ w = w' := by
  have H := Lib.hid h
  clear h
  go_enter Try.func16, Try.ntmps16
  go_wp2_with (go_at_call 39; refine (snext_none _ _ _ _ H.out).mono ?_; rintro e w' ⟨rfl, rfl⟩)
  go_ret2
  exact ⟨rfl, rfl⟩
set_option maxHeartbeats 400000 in
theorem sclose_none (p : Value) (w : World) (h : NoSpc w p) : Calls Try.prog 15 #[p] w fun e w' => e = .returned (.tuple #[.int .i64 0, .int .i64 1]) ∧ w = w' := by
  have H := Lib.hid h
  clear h
  go_enter Try.func15, Try.ntmps15
  go_wp2_with (go_at_call 39; refine (snext_none _ _ _ _ H.out).mono ?_; rintro e w' ⟨rfl, rfl⟩)
  go_ret2
  exact ⟨rfl, rfl⟩

/-! ### One that was made -/
set_option maxHeartbeats 400000 in
theorem sopen_at (g : Nat) (b l f u : Int) (hg : GOk b l f) (w : World) (h : SpcAt w g b l f u true) :
    Calls Try.prog 14 #[.pointer (some ⟨g, 0, none⟩)] w fun e w' => e = .returned (.bool (decide (u < dataV b l f))) ∧ Below w.heap.size w w' := by
  have hb : 0 < b := by have := hg.1; omega
  have HT := Lib.hid (sthere_at g b l f u hb)
  have hd := data_any b l f
  generalize dataV b l f = d at *
  have HD := Lib.hid hd
  have H := Lib.hid h
  have HK : Hid (Keeps (SpcS w g b l f u true)) := Lib.hid SpcS.keeps
  clear h hd hg hb
  go_enter Try.func14, Try.ntmps14
  go_wp2_with fail
  refine wp_region_txt (SpcS w g b l f u true) (by kernel_rfl) (by kernel_rfl) (SpcS.mk (H.out.below (Below.refl _ _).drew) (Below.refl _ _).drew) ?_
  repeat (first
    | (refine text_skip (by rfl) ?_; simp only [Act.put, List.setIfInBounds_toArray, List.set_cons_zero, List.set_cons_succ])
    | (refine text_pure (v := ?_) (by rfl) (fun wx hS => ?_) ?_; rotate_left; (go_simp; with_reducible exact rfl); simp only [Act.put, List.setIfInBounds_toArray, List.set_cons_zero, List.set_cons_succ])
    | (refine text_call (v := ?_) (f := ?_) (args := ?_) (by rfl) (fun wx hS => ?_) (fun wx hS => ?_) ?_; rotate_left 3; (go_simp; constructor <;> with_reducible rfl)
       (first
         | with_reducible exact SpcS.arm HT.out wx hS
         | with_reducible exact meets HK.out HD.out wx hS)
       simp only [Act.put, List.setIfInBounds_toArray, List.set_cons_zero, List.set_cons_succ]))
  refine text_nil (fun wx hS => ?_)
  go_wp2_with fail
  go_ret
  exact ⟨ret_bool (by simp), hS.2.2.2.2.2.2⟩

set_option maxHeartbeats 400000 in
theorem sused_at (g : Nat) (b l f u : Int) (hg : GOk b l f) (w : World) (h : SpcAt w g b l f u true) :
    Calls Try.prog 18 #[.pointer (some ⟨g, 0, none⟩)] w fun e w' => e = .returned (.int .i64 u) ∧ w = w' := by
  have hb : 0 < b := by have := hg.1; omega
  have HT := Lib.hid (sthere_at g b l f u hb w h)
  have h3 := h.c3
  clear h hg hb
  go_enter Try.func18, Try.ntmps18
  go_wp2_with (go_at_call 38; refine HT.out.mono ?_; rintro e w' ⟨rfl, rfl⟩)
  go_ret
  exact ⟨rfl, rfl⟩

set_option maxHeartbeats 400000 in
theorem sroom_at (g : Nat) (b l f u : Int) (hg : GOk b l f) (w : World) (h : SpcAt w g b l f u true) :
    Calls Try.prog 22 #[.pointer (some ⟨g, 0, none⟩)] w fun e w' => e = .returned (.int .i64 (roomV (dataV b l f) u)) ∧ Below w.heap.size w w' := by
  have hb : 0 < b := by have := hg.1; omega
  have HT := Lib.hid (sthere_at g b l f u hb)
  have hr := room_any b l f u _ rfl
  generalize roomV (dataV b l f) u = n at *
  have HR := Lib.hid hr
  have H := Lib.hid h
  have HK : Hid (Keeps (SpcS w g b l f u true)) := Lib.hid SpcS.keeps
  clear h hr hg hb
  go_enter Try.func22, Try.ntmps22
  go_wp2_with (go_at_call 38; refine (HT.out _ H.out).mono ?_; rintro e w' ⟨rfl, rfl⟩)
  refine wp_region_txt (SpcS w g b l f u true) (by kernel_rfl) (by kernel_rfl) (SpcS.mk (H.out.below (Below.refl _ _).drew) (Below.refl _ _).drew) ?_
  repeat (first
    | (refine text_skip (by rfl) ?_; simp only [Act.put, List.setIfInBounds_toArray, List.set_cons_zero, List.set_cons_succ])
    | (refine text_pure (v := ?_) (by rfl) (fun wx hS => ?_) ?_; rotate_left; (go_simp; with_reducible exact rfl); simp only [Act.put, List.setIfInBounds_toArray, List.set_cons_zero, List.set_cons_succ])
    | (refine text_call (v := ?_) (f := ?_) (args := ?_) (by rfl) (fun wx hS => ?_) (fun wx hS => ?_) ?_; rotate_left 3; (go_simp; constructor <;> with_reducible rfl)
       (first
         | with_reducible exact meets HK.out HR.out wx hS)
       simp only [Act.put, List.setIfInBounds_toArray, List.set_cons_zero, List.set_cons_succ]))
  refine text_nil (fun wx hS => ?_)
  go_wp2_with fail
  go_ret
  exact ⟨rfl, hS.2.2.2.2.2.2⟩

set_option maxHeartbeats 400000 in
theorem ssome_at (g : Nat) (b l f u : Int) (hg : GOk b l f) (w : World) (h : SpcAt w g b l f u true) :
    Calls Try.prog 40 #[.pointer (some ⟨g, 0, none⟩)] w fun e w' => e = .returned (.bool (decide (0 < roomV (dataV b l f) u))) ∧ Below w.heap.size w w' := by
  have HR := Lib.hid (sroom_at g b l f u hg w h)
  clear h hg
  go_enter Try.func40, Try.ntmps40
  go_wp2_with (go_at_call 22; refine HR.out.mono ?_; rintro e w1 ⟨rfl, hb1⟩)
  go_ret
  exact ⟨rfl, hb1⟩

/-- What a call that may take a block leaves. -/
def Takes (a : World) (g : Nat) (b l f u' : Int) (w' : World) : Prop := a.grownBy w' (some g) ∧ SpcAt w' g b l f u' true
/-- What lies elsewhere is kept. -/
theorem Takes.cell {a w' : World} {g : Nat} {b l f u' : Int} (h : Takes a g b l f u' w') {p : Addr} (hp : p.block < a.heap.size) (hne : p.block ≠ g) : w'.cell? p = a.cell? p :=
  World.cell?_of_block (h.1.block p.block hp (fun e => hne (by injection e)))
theorem Takes.below {a0 a w' : World} {B g : Nat} {b l f u' : Int} (h : Takes a g b l f u' w') (h0 : Below B a0 a) (hB : B ≤ a.heap.size) (hg : B ≤ g) : Below B a0 w' :=
  h0.grown h.1 hB (fun k hk => by injection hk with hk; omega)

set_option maxHeartbeats 800000 in
theorem snext_no (fn : Nat) (hfn : fn = 14 ∨ fn = 40) (e : Int) (g : Nat) (b l f u : Int) (hg : GOk b l f) (w : World) (h : SpcAt w g b l f u true)
    (hc : Calls Try.prog fn #[.pointer (some ⟨g, 0, none⟩)] w fun e w' => e = .returned (.bool false) ∧ Below w.heap.size w w') :
    Calls Try.prog 39 #[.pointer (some ⟨g, 0, none⟩), .func (.func fn) #[.pointer (some ⟨g, 0, none⟩)] #[], .int .i64 e] w fun x w' => x = .returned (.tuple #[.int .i64 0, .int .i64 e]) ∧ Takes w g b l f u w' := by
  have hb : 0 < b := by have := hg.1; omega
  have HT := Lib.hid (sthere_at g b l f u hb w h)
  have H := Lib.hid h
  have HC := Lib.hid hc
  clear h hg hb hc
  rcases hfn with rfl | rfl
  all_goals
    go_enter Try.func39, Try.ntmps39
    go_wp2_with (first
      | (go_at_call 38; refine HT.out.mono ?_; rintro e w' ⟨rfl, rfl⟩)
      | ((with_reducible refine HC.out.mono ?_); rintro e w1 ⟨rfl, hb1⟩))
    go_ret2
    exact ⟨rfl, grown_of_below hb1 _, H.out.below hb1⟩

set_option maxHeartbeats 800000 in
theorem snext_yes (fn : Nat) (hfn : fn = 14 ∨ fn = 40) (e : Int) (g : Nat) (b l f u : Int) (hu0 : 0 ≤ u) (hu1 : u ≤ 2000) (hg : GOk b l f) (w : World) (h : SpcAt w g b l f u true)
    (hc : Calls Try.prog fn #[.pointer (some ⟨g, 0, none⟩)] w fun e w' => e = .returned (.bool true) ∧ Below w.heap.size w w') :
    Calls Try.prog 39 #[.pointer (some ⟨g, 0, none⟩), .func (.func fn) #[.pointer (some ⟨g, 0, none⟩)] #[], .int .i64 e] w fun x w' => x = .returned (.tuple #[.int .i64 u, .int .i64 0]) ∧ Takes w g b l f (u + 1) w' := by
  have hb : 0 < b := by have := hg.1; omega
  have HT := Lib.hid (sthere_at g b l f u hb w h)
  have H := Lib.hid h
  have HC := Lib.hid hc
  clear h hg hb hc
  rcases hfn with rfl | rfl
  all_goals
    go_enter Try.func39, Try.ntmps39
    go_wp2_with (first
      | (go_at_call 38; refine HT.out.mono ?_; rintro e w' ⟨rfl, rfl⟩)
      | ((with_reducible refine HC.out.mono ?_); rintro e w1 ⟨rfl, hb1⟩; have hs1 := H.out.below hb1; have h3 := hs1.c3; have hf3 := hs1.fz; have HS1 := Lib.hid hs1; clear hs1))
    go_ret2
    exact ⟨by first | rfl | (simp; done) | (congr 4; omega), grown_set (grown_of_below hb1 _) _ _, HS1.out.set _⟩

set_option maxHeartbeats 400000 in
theorem stake_yes (g : Nat) (b l f u : Int) (hu0 : 0 ≤ u) (hg : GOk b l f) (hr : 0 < roomV (dataV b l f) u) (w : World) (h : SpcAt w g b l f u true) :
    Calls Try.prog 16 #[.pointer (some ⟨g, 0, none⟩)] w fun x w' => x = .returned (.tuple #[.int .i64 u, .int .i64 0]) ∧ Takes w g b l f (u + 1) w' := by
  have hs := ssome_at g b l f u hg w h
  rw [decide_eq_true hr] at hs
  have hu1 : u ≤ 2000 := by
    have := dataV_bd b l f
    unfold roomV at hr
    split at hr <;> omega
  have HN := Lib.hid (snext_yes _ (.inr rfl) 5 g b l f u hu0 hu1 hg w h hs)
  clear h hg hs hr
  go_enter Try.func16, Try.ntmps16
  go_wp2_with (go_at_call 39; refine HN.out.mono ?_; rintro e w1 ⟨rfl, hb1⟩)
  go_ret2
  exact ⟨rfl, hb1⟩
set_option maxHeartbeats 400000 in
theorem stake_no (g : Nat) (b l f u : Int) (hg : GOk b l f) (hr : roomV (dataV b l f) u = 0) (w : World) (h : SpcAt w g b l f u true) :
    Calls Try.prog 16 #[.pointer (some ⟨g, 0, none⟩)] w fun x w' => x = .returned (.tuple #[.int .i64 0, .int .i64 5]) ∧ Takes w g b l f u w' := by
  have hs := ssome_at g b l f u hg w h
  rw [decide_eq_false (by omega)] at hs
  have HN := Lib.hid (snext_no _ (.inr rfl) 5 g b l f u hg w h hs)
  clear h hg hs hr
  go_enter Try.func16, Try.ntmps16
  go_wp2_with (go_at_call 39; refine HN.out.mono ?_; rintro e w1 ⟨rfl, hb1⟩)
  go_ret2
  exact ⟨rfl, hb1⟩
set_option maxHeartbeats 400000 in
theorem sclose_yes (g : Nat) (b l f u : Int) (hu0 : 0 ≤ u) (hg : GOk b l f) (hr : u < dataV b l f) (w : World) (h : SpcAt w g b l f u true) :
    Calls Try.prog 15 #[.pointer (some ⟨g, 0, none⟩)] w fun x w' => x = .returned (.tuple #[.int .i64 u, .int .i64 0]) ∧ Takes w g b l f (u + 1) w' := by
  have hs := sopen_at g b l f u hg w h
  rw [decide_eq_true hr] at hs
  have hu1 : u ≤ 2000 := by have := dataV_bd b l f; omega
  have HN := Lib.hid (snext_yes _ (.inl rfl) 6 g b l f u hu0 hu1 hg w h hs)
  clear h hg hs hr
  go_enter Try.func15, Try.ntmps15
  go_wp2_with (go_at_call 39; refine HN.out.mono ?_; rintro e w1 ⟨rfl, hb1⟩)
  go_ret2
  exact ⟨rfl, hb1⟩
set_option maxHeartbeats 400000 in
theorem sclose_no (g : Nat) (b l f u : Int) (hg : GOk b l f) (hr : dataV b l f ≤ u) (w : World) (h : SpcAt w g b l f u true) :
    Calls Try.prog 15 #[.pointer (some ⟨g, 0, none⟩)] w fun x w' => x = .returned (.tuple #[.int .i64 0, .int .i64 6]) ∧ Takes w g b l f u w' := by
  have hs := sopen_at g b l f u hg w h
  rw [decide_eq_false (by omega)] at hs
  have HN := Lib.hid (snext_no _ (.inl rfl) 6 g b l f u hg w h hs)
  clear h hg hs hr
  go_enter Try.func15, Try.ntmps15
  go_wp2_with (go_at_call 39; refine HN.out.mono ?_; rintro e w1 ⟨rfl, hb1⟩)
  go_ret2
  exact ⟨rfl, hb1⟩
set_option maxHeartbeats 400000 in
theorem sback_yes (g : Nat) (b l f u n : Int) (hg : GOk b l f) (h0 : 0 ≤ n) (h1 : n ≤ u) (w : World) (h : SpcAt w g b l f u true) :
    Calls Try.prog 21 #[.pointer (some ⟨g, 0, none⟩), .int .i64 n] w fun x w' => x = .returned (.int .i64 0) ∧ Takes w g b l f n w' := by
  have hb : 0 < b := by have := hg.1; omega
  have HT := Lib.hid (sthere_at g b l f u hb w h)
  have h3 := h.c3
  have hf3 := h.fz
  have H := Lib.hid h
  clear h hg hb
  go_enter Try.func21, Try.ntmps21
  go_wp2_with (go_at_call 38; refine HT.out.mono ?_; rintro e w' ⟨rfl, rfl⟩)
  go_ret
  exact ⟨rfl, grown_set (grown_of_below (Below.refl _ _) _) _ _, H.out.set _⟩
set_option maxHeartbeats 400000 in
theorem sback_no (g : Nat) (b l f u n : Int) (hg : GOk b l f) (hn : n < 0 ∨ u < n) (w : World) (h : SpcAt w g b l f u true) :
    Calls Try.prog 21 #[.pointer (some ⟨g, 0, none⟩), .int .i64 n] w fun x w' => x = .returned (.int .i64 2) ∧ Takes w g b l f u w' := by
  have hb : 0 < b := by have := hg.1; omega
  have HT := Lib.hid (sthere_at g b l f u hb w h)
  have h3 := h.c3
  have H := Lib.hid h
  have hn' : n < 0 ∨ (0 ≤ n ∧ u < n) := by omega
  clear h hg hb hn
  rcases hn' with a | ⟨a, b⟩
  all_goals
    go_enter Try.func21, Try.ntmps21
    go_wp2_with (go_at_call 38; refine HT.out.mono ?_; rintro e w' ⟨rfl, rfl⟩)
    go_ret
    exact ⟨rfl, grown_of_below (Below.refl _ _) _, H.out⟩

set_option maxHeartbeats 800000 in
theorem snew_yes (b l f u : Int) (hg : GOk b l f) (h0 : 0 ≤ u) (h1 : u ≤ dataV b l f) (w : World) :
    Calls Try.prog 12 #[GVal b l f, .int .i64 u] w fun x w' => ∃ g, x = .returned (.tuple #[.pointer (some ⟨g, 0, none⟩), .int .i64 0]) ∧ w.heap.size ≤ g ∧ SpcAt w' g b l f u true ∧ Below w.heap.size w w' := by
  have HC := Lib.hid (check_yes b l f hg)
  have hd := data_any b l f
  generalize dataV b l f = d at *
  have HD := Lib.hid hd
  clear hd hg
  go_enter Try.func12, Try.ntmps12
  go_wp2_with (first
    | (go_at_call 36; refine (HC.out _).mono ?_; rintro e w1 ⟨rfl, hb1⟩; obtain ⟨hc1, hf1⟩ := bcell hb1; have hz1 := bsz hb1)
    | (go_at_call 37; refine (HD.out _).mono ?_; rintro e w2 ⟨rfl, hb2⟩; have hB2 := bthen hb1 hb2; obtain ⟨hc2, hf2⟩ := bcell hB2; have hz2 := bsz hB2))
  refine bodyPost_ret (results_tmp2 rfl _ _ _) rfl ⟨_, rfl, Nat.le_of_lt hz2, SpcAt.new _ _ _ _ _ _, (bthen (bnew _ _) hB2).alloc (Nat.le_of_lt hz2) _⟩
set_option maxHeartbeats 800000 in
theorem snew_no (b l f u : Int) (h : ¬ (GOk b l f ∧ 0 ≤ u ∧ u ≤ dataV b l f)) (w : World) :
    Calls Try.prog 12 #[GVal b l f, .int .i64 u] w fun x w' => x = .returned (.tuple #[.pointer none, .int .i64 2]) ∧ Below w.heap.size w w' := by
  have hd := data_any b l f
  by_cases hg : GOk b l f
  · have HC := Lib.hid (check_yes b l f hg)
    have h' : u < 0 ∨ (0 ≤ u ∧ dataV b l f < u) := by
      by_cases a : u < 0
      · exact .inl a
      · exact .inr ⟨by omega, by have : ¬ (0 ≤ u ∧ u ≤ dataV b l f) := fun x => h ⟨hg, x⟩; omega⟩
    generalize dataV b l f = d at *
    have HD := Lib.hid hd
    clear hd hg h
    rcases h' with a | ⟨a, b⟩
    · go_enter Try.func12, Try.ntmps12
      go_wp2_with (go_at_call 36; refine (HC.out _).mono ?_; rintro e w1 ⟨rfl, hb1⟩; obtain ⟨hc1, hf1⟩ := bcell hb1; have hz1 := bsz hb1)
      go_ret2
      exact ⟨rfl, bthen (bnew _ _) hb1⟩
    · go_enter Try.func12, Try.ntmps12
      go_wp2_with (first
        | (go_at_call 36; refine (HC.out _).mono ?_; rintro e w1 ⟨rfl, hb1⟩; obtain ⟨hc1, hf1⟩ := bcell hb1; have hz1 := bsz hb1)
        | (go_at_call 37; refine (HD.out _).mono ?_; rintro e w2 ⟨rfl, hb2⟩; have hB2 := bthen hb1 hb2))
      go_ret2
      exact ⟨rfl, bthen (bnew _ _) hB2⟩
  · have HC := Lib.hid (check_no b l f hg)
    clear hd hg h
    go_enter Try.func12, Try.ntmps12
    go_wp2_with (go_at_call 36; refine (HC.out _).mono ?_; rintro e w1 ⟨rfl, hb1⟩; obtain ⟨hc1, hf1⟩ := bcell hb1; have hz1 := bsz hb1)
    go_ret2
    exact ⟨rfl, bthen (bnew _ _) hb1⟩

set_option maxHeartbeats 1600000 in
theorem space_alive (w : World) : Calls Try.prog 13 #[] w fun e w' => e = .returned (.bool true) ∧ Below w.heap.size w w' := by
  have hok : GOk 8 1 0 := by unfold GOk; omega
  have hd : dataV 8 1 0 = 4 := by rw [dataV_yes hok]; rfl
  have HN := Lib.hid (snew_yes 8 1 0 1 hok (by omega) (by rw [hd]; omega))
  have T1 := fun g => Lib.hid (stake_yes g 8 1 0 1 (by omega) hok (by rw [hd]; decide))
  have T2 := fun g => Lib.hid (stake_yes g 8 1 0 2 (by omega) hok (by rw [hd]; decide))
  have T3 := fun g => Lib.hid (stake_no g 8 1 0 3 hok (by rw [hd]; decide))
  have C1 := fun g => Lib.hid (sclose_yes g 8 1 0 3 (by omega) hok (by rw [hd]; omega))
  have C2 := fun g => Lib.hid (sclose_no g 8 1 0 4 hok (by rw [hd]; omega))
  have O1 := fun g => Lib.hid (sopen_at g 8 1 0 4 hok)
  rw [hd] at O1
  clear hd hok
  go_enter Try.func13, Try.ntmps13
  go_wp2_with fail
  refine (HN.out _).mono ?_; rintro e w0 ⟨g, rfl, hg, hs0, hb0⟩
  have t1 := Lib.hid ((T1 g).out w0 hs0); clear T1
  go_wp2_with fail
  refine t1.out.mono ?_; rintro e w1 ⟨rfl, k1⟩
  have t2 := Lib.hid ((T2 g).out w1 k1.2); clear T2 t1
  go_wp2_with fail
  refine t2.out.mono ?_; rintro e w2 ⟨rfl, k2⟩
  have t3 := Lib.hid ((T3 g).out w2 k2.2); clear T3 t2
  go_wp2_with fail
  refine t3.out.mono ?_; rintro e w3 ⟨rfl, k3⟩
  have t4 := Lib.hid ((C1 g).out w3 k3.2); clear C1 t3
  go_wp2_with fail
  refine t4.out.mono ?_; rintro e w4 ⟨rfl, k4⟩
  have t5 := Lib.hid ((C2 g).out w4 k4.2); clear C2 t4
  go_wp2_with fail
  refine t5.out.mono ?_; rintro e w5 ⟨rfl, k5⟩
  have t6 := Lib.hid ((O1 g).out w5 k5.2); clear O1 t5
  have hB := k5.below (k4.below (k3.below (k2.below (k1.below hb0 hb0.size hg) (by have := k1.1.size; have := hb0.size; omega) hg) (by have := k1.1.size; have := k2.1.size; have := hb0.size; omega) hg) (by have := k1.1.size; have := k2.1.size; have := k3.1.size; have := hb0.size; omega) hg)
    (by have := k1.1.size; have := k2.1.size; have := k3.1.size; have := k4.1.size; have := hb0.size; omega) hg
  have HB := Lib.hid hB
  clear hB k1 k2 k3 k4 k5 hs0 hb0 HN
  go_wp2_with fail
  refine t6.out.mono ?_; rintro e w6 ⟨rfl, hb6⟩
  go_wp2_with fail
  go_ret
  exact ⟨ret_bool (by simp), bthen HB.out hb6⟩

end Go.Proofs.Ytbblolggcgonmaa

/-
  The state of the reference's Parse in memory, and what each step makes of it. No condition. Own work.
-/
import Derived.Test.YtdpfcjhhabcheaaParse
import Derived.Test.YtdpfcjhhabcheaaRRightL
namespace Go.Proofs.Ytdpfcjhhabcheaa
open Go Go.RowKit

/-- The state of the reference's Parse: the result's block, the words, the event's block. -/
structure RS (w0 : World) (R E B2 : Nat) (v vn va : Value) (ws : List (List UInt8)) (wd nm dt : ByteArray) (nums : List Int) (asks : List (Int × Int)) (w : World) : Prop where
  o1 : w0.heap.size ≤ R
  o2 : R < E
  o6 : E < B2
  o7 : B2 ≤ w.heap.size
  hR : Blk w R (ECells ⟨#[]⟩ (.slice none 0 0) ⟨#[]⟩ ⟨#[]⟩ (.slice none 0 0)) 30
  hv : WAt v ws E w
  hE : Blk w E (ECells wd vn nm dt va) 30
  hn : SlO 3 (E + 1) vn (nC nums) w
  hn2 : ∀ k, vn.ownBlock = some k → k < B2
  ha : AO B2 va asks w
  below : Below w0.heap.size w0 w

section
variable {w0 w w' : World} {R E B2 : Nat} {v vn va : Value} {ws : List (List UInt8)} {wd nm dt : ByteArray} {nums : List Int} {asks : List (Int × Int)}
theorem RS.kept (h : RS w0 R E B2 v vn va ws wd nm dt nums asks w) (hb : Below w.heap.size w w') : RS w0 R E B2 v vn va ws wd nm dt nums asks w' := by
  have q : ∀ {b cs T}, Blk w b cs T → Blk w' b cs T := fun hk => (hb.block _ hk.lt).trans hk
  exact { h with
    o7 := Nat.le_trans h.o7 hb.size, hR := q h.hR, hE := q h.hE
    hv := h.hv.same fun k hk => hb.block k (Nat.lt_trans hk h.hE.lt)
    hn := h.hn.below hb, ha := own_below h.ha hb, below := bthen h.below hb }
/-- A cell of the event is written. -/
theorem RS.setE (h : RS w0 R E B2 v vn va ws wd nm dt nums asks w) {i : Nat} {y vn' va' : Value} {nm' dt' : ByteArray} {nums' : List Int} {asks' : List (Int × Int)}
    (he : (ECells wd vn nm dt va).setIfInBounds i y = ECells wd vn' nm' dt' va') (hn' : SlO 3 (E + 1) vn' (nC nums') w) (hn2' : ∀ k, vn'.ownBlock = some k → k < B2) (ha' : AO B2 va' asks' w) :
    RS w0 R E B2 v vn' va' ws wd nm' dt' nums' asks' (w.setCell ⟨E, i, none⟩ y) := by
  have g : w.grownBy (w.setCell ⟨E, i, none⟩ y) (some E) := h.hE.grown y
  have := h.o1; have := h.o2; have := h.o6
  have q : ∀ {b' cs T}, Blk w b' cs T → b' ≠ E → Blk (w.setCell ⟨E, i, none⟩ y) b' cs T := fun hk hne => (g.block _ hk.lt (fun e => hne (Option.some.inj e))).trans hk
  exact { h with
    o7 := by rw [h.hE.size]; exact h.o7
    hR := q h.hR (by omega), hE := he ▸ h.hE.set y
    hv := h.hv.same fun k hk => g.block k (Nat.lt_trans hk h.hE.lt) (fun e => by cases e; omega)
    hn := World.ownsRow.kept hn' g (by
      cases hx : vn'.ownBlock with
      | none => exact .inl rfl
      | some k => exact .inr (fun e => by cases e; have := (World.ownsRow.lt hn' _ hx).1; omega))
    hn2 := hn2'
    ha := World.ownsRow.kept ha' g (by
      cases hx : va'.ownBlock with
      | none => exact .inl rfl
      | some k => exact .inr (fun e => by cases e; have := (World.ownsRow.lt ha' _ hx).1; omega))
    below := h.below.setCell (by dsimp only; omega) _ }
theorem RS.name (h : RS w0 R E B2 v vn va ws wd nm dt nums asks w) (x : ByteArray) : RS w0 R E B2 v vn va ws wd x dt nums asks (w.setCell ⟨E, 2, none⟩ (.string x)) := h.setE rfl h.hn h.hn2 h.ha
theorem RS.data (h : RS w0 R E B2 v vn va ws wd nm dt nums asks w) (x : ByteArray) : RS w0 R E B2 v vn va ws wd nm x nums asks (w.setCell ⟨E, 3, none⟩ (.string x)) := h.setE rfl h.hn h.hn2 h.ha
/-- Just one owned block changed, and others were made. -/
theorem RS.row (h : RS w0 R E B2 v vn va ws wd nm dt nums asks w) {row : Option Nat} (g : w.grownBy w' row) (hr : ∀ k, row = some k → E < k) :
    Blk w' R (ECells ⟨#[]⟩ (.slice none 0 0) ⟨#[]⟩ ⟨#[]⟩ (.slice none 0 0)) 30 ∧ WAt v ws E w' ∧ Blk w' E (ECells wd vn nm dt va) 30 ∧ Below w0.heap.size w0 w' := by
  have := h.o1; have := h.o2; have := h.o6
  have q : ∀ {b' cs T}, Blk w b' cs T → b' ≤ E → Blk w' b' cs T := fun hk hle => (g.block _ hk.lt (fun e => by have := hr _ e.symm; omega)).trans hk
  exact ⟨q h.hR (by omega), h.hv.same fun k hk => g.block k (Nat.lt_trans hk h.hE.lt) (fun e => by have := hr _ e.symm; omega), q h.hE (by omega),
    h.below.grown g h.below.size (fun k hk => by have := hr k hk; omega)⟩
/-- A number is added. -/
theorem RS.num (h : RS w0 R E B2 v vn (.slice none 0 0) ws wd nm dt nums [] w) {v' : Value} {n : Int} (hO : SlO 3 (E + 1) v' (nC (nums ++ [n])) w') (g : w.grownBy w' vn.ownBlock) :
    RS w0 R E w'.heap.size v v' (.slice none 0 0) ws wd nm dt (nums ++ [n]) [] (w'.setCell ⟨E, 1, none⟩ v') := by
  obtain ⟨h1, h3, h6, h7⟩ := h.row g (fun k hk => (World.ownsRow.lt h.hn k hk).1)
  have hE := h6.lt
  have g : w'.grownBy (w'.setCell ⟨E, 1, none⟩ v') (some E) := h6.grown v'
  have := h.o1; have := h.o2; have := h.o6
  have q : ∀ {b' cs T}, Blk w' b' cs T → b' ≠ E → Blk (w'.setCell ⟨E, 1, none⟩ v') b' cs T := fun hk hne => (g.block _ hk.lt (fun e => hne (Option.some.inj e))).trans hk
  exact { h with
    o6 := hE, o7 := by rw [h6.size]; exact Nat.le_refl _
    hR := q h1 (by omega), hE := h6.set v'
    hv := h3.same fun k hk => g.block k (Nat.lt_trans hk h6.lt) (fun e => by cases e; omega)
    hn := World.ownsRow.kept hO g (by
      cases hx : v'.ownBlock with
      | none => exact .inl rfl
      | some k => exact .inr (fun e => by cases e; have := (World.ownsRow.lt hO _ hx).1; omega))
    hn2 := fun k hk => (World.ownsRow.lt hO _ hk).2
    ha := AO.nil _ _
    below := h7.setCell (by dsimp only; omega) _ }
/-- A place is added. -/
theorem RS.ask (h : RS w0 R E B2 v vn va ws wd nm dt nums asks w) {v' : Value} {p : Int × Int} (hO : AO B2 v' (asks ++ [p]) w') (g : w.grownBy w' va.ownBlock) :
    RS w0 R E B2 v vn v' ws wd nm dt nums (asks ++ [p]) (w'.setCell ⟨E, 4, none⟩ v') := by
  have hlo := h.o6
  obtain ⟨h1, h3, h6, h7⟩ := h.row g (fun k hk => by have := (World.ownsRow.lt h.ha k hk).1; omega)
  have hn' : SlO 3 (E + 1) vn (nC nums) w' := World.ownsRow.kept h.hn g (by
    cases hx : vn.ownBlock with
    | none => exact .inl rfl
    | some k => exact .inr (fun e => by
        have a1 := h.hn2 k hx
        have a2 := (World.ownsRow.lt h.ha k e.symm).1
        omega))
  have g2 : w'.grownBy (w'.setCell ⟨E, 4, none⟩ v') (some E) := h6.grown v'
  have := h.o1; have := h.o2
  have q : ∀ {b' cs T}, Blk w' b' cs T → b' ≠ E → Blk (w'.setCell ⟨E, 4, none⟩ v') b' cs T := fun hk hne => (g2.block _ hk.lt (fun e => hne (Option.some.inj e))).trans hk
  exact { h with
    o7 := by rw [h6.size]; exact Nat.le_trans h.o7 g.size
    hR := q h1 (by omega), hE := h6.set v'
    hv := h3.same fun k hk => g2.block k (Nat.lt_trans hk h6.lt) (fun e => by cases e; omega)
    hn := World.ownsRow.kept hn' g2 (by
      cases hx : vn.ownBlock with
      | none => exact .inl rfl
      | some k => exact .inr (fun e => by cases e; have := (World.ownsRow.lt hn' _ hx).1; omega))
    ha := World.ownsRow.kept hO g2 (by
      cases hx : v'.ownBlock with
      | none => exact .inl rfl
      | some k => exact .inr (fun e => by cases e; have := (World.ownsRow.lt hO _ hx).1; omega))
    below := h7.setCell (by dsimp only; omega) _ }
theorem RS.ev (h : RS w0 R E B2 v vn va ws wd nm dt nums asks w) (g : w.grownBy w' (some R)) : EvAt w' w'.heap.size ⟨wd, nums, nm, dt, asks⟩ (EVal wd vn nm dt va) := by
  have := h.o1; have := h.o2; have := h.o6
  have hn : SlO 3 (E + 1) vn (nC nums) w' := World.ownsRow.kept h.hn g (by
    cases hx : vn.ownBlock with
    | none => exact .inl rfl
    | some k => exact .inr (fun e => by cases e; have := (World.ownsRow.lt h.hn _ hx).1; omega))
  have ha : AO B2 va asks w' := World.ownsRow.kept h.ha g (by
    cases hx : va.ownBlock with
    | none => exact .inl rfl
    | some k => exact .inr (fun e => by cases e; have := (World.ownsRow.lt h.ha _ hx).1; omega))
  obtain ⟨A1, c1, rfl, k1⟩ := num_at hn
  obtain ⟨A2, c2, rfl, k2⟩ := ask_at ha
  exact ⟨A1, c1, A2, c2, rfl, k1, k2⟩
theorem RS.cells (h : RS w0 R E B2 v vn va ws wd nm dt nums asks w) :
    Five E (.string wd) vn (.string nm) (.string dt) va w ∧ Five R (.string ⟨#[]⟩) (.slice none 0 0) (.string ⟨#[]⟩) (.string ⟨#[]⟩) (.slice none 0 0) w ∧ (∀ i, w.frozen? ⟨E, i, none⟩ = false) ∧ (∀ i, w.frozen? ⟨R, i, none⟩ = false) :=
  ⟨five_row h.hE, five_row h.hR, fun i => h.hE.fz i, fun i => h.hR.fz i⟩
/-- The words' cells, one by one. -/
theorem RS.word (h : RS w0 R E B2 v vn va ws wd nm dt nums asks w) {j : Nat} {y : List UInt8} (hj : ws[j]? = some y) : ∃ g o cap, v = .slice (some ⟨g, o, none⟩) ws.length cap ∧ g < E ∧ w.cell? ⟨g, o + j, none⟩ = some (.string ⟨y.toArray⟩) := by
  obtain ⟨a, cap, rfl, hn, hm, hc⟩ := h.hv
  obtain ⟨g, o, rfl, hg, hx⟩ := hc (by have := (List.getElem?_eq_some_iff.1 hj).1; omega)
  exact ⟨g, o, cap, rfl, hg, hx j _ (by unfold bas; rw [List.getElem?_map, hj]; rfl)⟩
end
end Go.Proofs.Ytdpfcjhhabcheaa

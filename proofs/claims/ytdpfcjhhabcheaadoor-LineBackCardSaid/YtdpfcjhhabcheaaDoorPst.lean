/-
  Words in memory, from any place on; the contract of line.Parse's closure (the next word). No condition. Own work.
-/
import Derived.Test.YtdpfcjhhabcheaaDoorEvAt
import Derived.Test.YtdpfcjhhabcheaaDoorWords
namespace Go.Proofs.YtdpfcjhhabcheaaDoor
open Go Go.RowKit

/-- These words lie at v, below block K. -/
def WAt (v : Value) (ws : List (List UInt8)) (K : Nat) (w : World) : Prop := ∃ a cap, v = .slice a ws.length cap ∧ ws.length ≤ cap ∧ cap ≤ maxLen ∧
  (0 < ws.length → ∃ g o, a = some ⟨g, o, none⟩ ∧ g < K ∧ ∀ i c, (bas ws)[i]? = some c → w.cell? ⟨g, o + i, none⟩ = some c)
theorem WAt.same {v : Value} {ws : List (List UInt8)} {K : Nat} {w w' : World} (h : WAt v ws K w) (hs : ∀ k, k < K → w'.heap[k]? = w.heap[k]?) : WAt v ws K w' := by
  obtain ⟨a, cap, rfl, hn, hm, hc⟩ := h
  refine ⟨a, cap, rfl, hn, hm, fun h0 => ?_⟩
  obtain ⟨g, o, rfl, hg, hx⟩ := hc h0
  exact ⟨g, o, rfl, hg, fun i c hi => by rw [← hx i c hi]; exact World.cell?_of_block (w := w) (a := ⟨g, o + i, none⟩) (hs g hg)⟩
theorem WAt.up {v : Value} {ws : List (List UInt8)} {K K' : Nat} {w : World} (h : WAt v ws K w) (hk : K ≤ K') : WAt v ws K' w := by
  obtain ⟨a, cap, rfl, hn, hm, hc⟩ := h
  refine ⟨a, cap, rfl, hn, hm, fun h0 => ?_⟩
  obtain ⟨g, o, rfl, hg, hx⟩ := hc h0
  exact ⟨g, o, rfl, by omega, hx⟩
/-- A block of one row, whole. -/
abbrev Blk (w : World) (b : Nat) (cs : Array Value) (T : TypeId) : Prop := w.heap[b]? = some (.cells cs T (0, 0))
set_option maxRecDepth 100000 in
set_option maxHeartbeats 1600000 in
theorem take_off (L I : Nat) (b : Bool) (w : World) (hi : Blk w I #[.bool b] 4) :
    Calls Tryd.prog 51 #[.bool false, .pointer (some ⟨L, 0, none⟩), .pointer (some ⟨I, 0, none⟩)] w fun x w' => x = .returned (.string ⟨#[]⟩) ∧ w.setCell ⟨I, 0, none⟩ (.bool b) = w' := by
  have c0 : w.cell? ⟨I, 0, none⟩ = some (.bool b) := by rw [cell_of_row _ _ _ _ _ _ hi]; rfl
  have f0 := frozen_of_row w I 0 _ _ hi
  clear hi
  cases b
  all_goals
    go_enter Tryd.func51, Tryd.ntmps51
    go_wp2_with fail
    go_ret
    exact ⟨rfl, rfl⟩
set_option maxRecDepth 100000 in
set_option maxHeartbeats 1600000 in
theorem take_none (L I : Nat) (b : Bool) (v : Value) (K : Nat) (w : World) (hi : Blk w I #[.bool b] 4) (hl : Blk w L #[v] 50) (hv : WAt v [] K w) :
    Calls Tryd.prog 51 #[.bool true, .pointer (some ⟨L, 0, none⟩), .pointer (some ⟨I, 0, none⟩)] w fun x w' => x = .returned (.string ⟨#[]⟩) ∧ w.setCell ⟨I, 0, none⟩ (.bool false) = w' := by
  obtain ⟨a, cap, rfl, -⟩ := hv
  have c0 : w.cell? ⟨I, 0, none⟩ = some (.bool b) := by rw [cell_of_row _ _ _ _ _ _ hi]; rfl
  have c1 : w.cell? ⟨L, 0, none⟩ = some (.slice a ([] : List (List UInt8)).length cap) := by rw [cell_of_row _ _ _ _ _ _ hl]; rfl
  have f0 := frozen_of_row w I 0 _ _ hi
  rw [List.length_nil] at c1
  clear hi hl
  cases b
  all_goals
    go_enter Tryd.func51, Tryd.ntmps51
    go_wp2_with fail
    go_ret
    exact ⟨rfl, rfl⟩
set_option maxRecDepth 100000 in
set_option maxHeartbeats 1600000 in
theorem take_pop (L I : Nat) (v : Value) (K : Nat) (x : List UInt8) (ws : List (List UInt8)) (w : World) (hl : Blk w L #[v] 50) (hv : WAt v (x :: ws) K w) :
    Calls Tryd.prog 51 #[.bool true, .pointer (some ⟨L, 0, none⟩), .pointer (some ⟨I, 0, none⟩)] w fun e w' => e = .returned (.string ⟨x.toArray⟩) ∧ ∃ v', WAt v' ws K w ∧ w.setCell ⟨L, 0, none⟩ v' = w' := by
  obtain ⟨a, cap, rfl, hn, hm, hc⟩ := hv
  obtain ⟨g, o, rfl, hg, hx⟩ := hc (by simp)
  have c2 : w.cell? ⟨g, o, none⟩ = some (.string ⟨x.toArray⟩) := hx 0 _ rfl
  have c1 : w.cell? ⟨L, 0, none⟩ = some (.slice (some ⟨g, o, none⟩) (x :: ws).length cap) := by rw [cell_of_row _ _ _ _ _ _ hl]; rfl
  have f1 := frozen_of_row w L 0 _ _ hl
  obtain ⟨n, hnn⟩ : ∃ n, n = ws.length := ⟨_, rfl⟩
  rw [List.length_cons] at c1 hn
  rw [← hnn] at c1 hn
  have n1 : ¬ ((n : Int) + 1) = 0 := by omega
  have n2 : ((((n : Int) + 1) == 0) = false) := by simpa using n1
  have HN := Lib.hid hnn
  have HX := Lib.hid hx
  have HC : Hid (n + 1 ≤ cap) := Lib.hid hn
  have HM := Lib.hid hm
  clear hl hc hx hnn hn hm
  go_enter Tryd.func51, Tryd.ntmps51
  go_wp2_with fail
  all_goals go_ret
  all_goals refine ⟨rfl, _, ?_, rfl⟩
  all_goals
    have e1 := HN.out
    have e2 := HC.out
    have e3 := HM.out
    have e4 := HX.out
    clear n1 n2
  · exact ⟨_, _, by rw [e1], by omega, by omega, fun h0 => by omega⟩
  · exact ⟨_, _, by rw [e1], by omega, by omega, fun _ => ⟨g, o + 1, rfl, hg, fun i c hi => by rw [show o + 1 + i = o + (i + 1) from by omega]; exact e4 (i + 1) c hi⟩⟩
end Go.Proofs.YtdpfcjhhabcheaaDoor

/-
  The state of line.Parse in memory, and what each step makes of it. No condition. Own work.
-/
namespace Go.Proofs.YtdpfcjhhabcheaaDoor
open Go Go.RowKit

theorem ask_inf : (Tryd.prog.info? 78).map (fun i => (i.zero, i.size, i.bytes)) = some (some (.agg #[.int .i64 0, .int .i64 0]), 2, 16) := by kernel_rfl
/-- Asked places' cells. -/
def aC (l : List (Int × Int)) : List Value := l.flatMap askCells
theorem aC_len (l : List (Int × Int)) : (aC l).length = l.length * 2 := by
  induction l with
  | nil => rfl
  | cons a l ih =>
    have : aC (a :: l) = askCells a ++ aC l := rfl
    rw [this, List.length_append, ih]
    simp [askCells]
    omega
theorem aC_snoc (l : List (Int × Int)) (a : Int × Int) : aC (l ++ [a]) = aC l ++ askCells a := by simp [aC]
/-- Places that the call owns. -/
def AO (B : Nat) (v : Value) (l : List (Int × Int)) (w : World) : Prop := w.ownsRow B 78 2 v l.length (aC l)
theorem AO.nil (B : Nat) (w : World) : AO B (.slice none 0 0) [] w := World.ownsRow_nil _ _ _ _
/-- Numbers' cells. -/
def nC (l : List Int) : List Value := l.map (Value.int .i64)
theorem own_same {w w' : World} {B k n : Nat} {e : TypeId} {v : Value} {xs : List Value} (h : w.ownsRow B e k v n xs) (hs : ∀ g, B ≤ g → g < w.heap.size → some g = v.ownBlock → w'.heap[g]? = w.heap[g]?) : w'.ownsRow B e k v n xs :=
  ⟨h.1, h.2.imp id fun ⟨g, cap, cur, h1, h2, h3, h4⟩ => ⟨g, cap, cur, h1, h2, (hs g h2 (lt_of_block h3) (by rw [h1]; rfl)).trans h3, h4⟩⟩
/-- append(l, a) of places. -/
theorem wpList_pushA {ops : Array Oper} {rest : List Oper} {o : Oper} {a : Act} {w : World} {Q : Exit → Act → World → Prop} (hgd : o.guard = none) (s x : Operand)
    (ho : o.op = .call { callee := .builtin .append, args := #[s, x], argTypes := #[42, 42] }) (B : Nat) (v : Value) (L : List (Int × Int)) (hs : a.eval s = v) (hO : AO B v L w)
    (g c : Nat) (p : Int × Int) (hx : a.eval x = .slice (some ⟨g, 0, none⟩) 1 c) (hS : SlC g (askCells p) w) (hl : L.length + 1 ≤ 100000) (hB : B ≤ w.heap.size)
    (h : ∀ v' w', AO B v' (L ++ [p]) w' → w.grownBy w' v.ownBlock → Below B w w' → wpList Tryd.prog ops Q rest (a.put o.dst v') w') : wpList Tryd.prog ops Q (o :: rest) a w := by
  obtain ⟨i0, hi, iz0, iz1, iz2⟩ := info_parts ask_inf
  refine wpList_append_own w hgd s x 42 ho B 78 i0 (.agg #[.int .i64 0, .int .i64 0]) 2 16 Tryd.underlying42 hi iz0 iz1 iz2 rfl (by decide) v L.length (aC L) hs hO ⟨g, 0, none⟩ 1 c (askCells p) hx (by simp [askCells]) (fun j u hu => ?_) (fun u hu => ?_) (by unfold maxLen; omega) (by omega) hB (fun v' w' h1 h2 _ => ?_)
  · have ha : (⟨g, 0, none⟩ : Addr).add j = ⟨g, j, none⟩ := by unfold Addr.add; split <;> simp_all
    rw [ha]
    exact hS.2 j u hu
  · unfold askCells at hu
    rcases List.mem_cons.1 hu with rfl | hu
    · rfl
    · rcases List.mem_cons.1 hu with rfl | hu
      · rfl
      · cases hu
  · refine h v' w' ?_ h2 ((Below.refl B w).grown h2 hB (fun k hk => ((hO.lt k hk).1)))
    unfold AO
    rw [List.length_append, aC_snoc]
    exact h1

theorem Blk.lt {w : World} {b : Nat} {cs : Array Value} {T : TypeId} (h : Blk w b cs T) : b < w.heap.size := lt_of_block h
theorem Blk.cell {w : World} {b i : Nat} {cs : Array Value} {T : TypeId} {v : Value} (h : Blk w b cs T) (hi : cs[i]? = some v) : w.cell? ⟨b, i, none⟩ = some v := by rw [cell_of_row _ _ _ _ _ _ h]; exact hi
theorem Blk.fz {w : World} {b : Nat} {cs : Array Value} {T : TypeId} (h : Blk w b cs T) (i : Nat) : w.frozen? ⟨b, i, none⟩ = false := frozen_of_row w b i _ _ h
theorem Blk.set {w : World} {b i : Nat} {cs : Array Value} {T : TypeId} (h : Blk w b cs T) (v : Value) : Blk (w.setCell ⟨b, i, none⟩ v) b (cs.setIfInBounds i v) T := by
  rw [setCell_eq_setRow w b i cs T (0, 0) v h]
  exact setRow_heap w b cs _ T (0, 0) h
theorem Blk.grown {w : World} {b i : Nat} {cs : Array Value} {T : TypeId} (h : Blk w b cs T) (v : Value) : w.grownBy (w.setCell ⟨b, i, none⟩ v) (some b) := by
  rw [setCell_eq_setRow w b i cs T (0, 0) v h]
  exact ⟨rfl, rfl, rfl, by rw [setRow_size]; exact Nat.le_refl _, fun k hk hne => setRow_other w b k _ (fun e => hne (by rw [e]))⟩
theorem Blk.size {w : World} {b i : Nat} {cs : Array Value} {T : TypeId} (h : Blk w b cs T) (v : Value) : (w.setCell ⟨b, i, none⟩ v).heap.size = w.heap.size := by
  rw [setCell_eq_setRow w b i cs T (0, 0) v h, setRow_size]
/-- The state of line.Parse. -/
structure PS (w0 : World) (R L X I E B2 : Nat) (v vn va : Value) (s : Shp) (is : Bool) (ws : List (List UInt8)) (wd nm dt : ByteArray) (nums : List Int) (asks : List (Int × Int)) (w : World) : Prop where
  o1 : w0.heap.size ≤ R
  o2 : R < L
  o3 : L < X
  o4 : X < I
  o5 : I < E
  o6 : E < B2
  o7 : B2 ≤ w.heap.size
  hR : Blk w R (ECells ⟨#[]⟩ (.slice none 0 0) ⟨#[]⟩ ⟨#[]⟩ (.slice none 0 0)) 44
  hL : Blk w L #[v] 50
  hv : WAt v ws L w
  hX : Blk w X #[.int .i64 (s.least : Int), .int .i64 (s.most : Int), .bool s.name, .bool s.data, .bool s.asks] 80
  hI : Blk w I #[.bool is] 4
  hE : Blk w E (ECells wd vn nm dt va) 44
  hn : SlO 3 (E + 1) vn (nC nums) w
  hn2 : ∀ k, vn.ownBlock = some k → k < B2
  ha : AO B2 va asks w
  below : Below w0.heap.size w0 w

section
variable {w0 w w' : World} {R L X I E B2 : Nat} {v vn va : Value} {s : Shp} {is : Bool} {ws : List (List UInt8)} {wd nm dt : ByteArray} {nums : List Int} {asks : List (Int × Int)}
theorem PS.kept (h : PS w0 R L X I E B2 v vn va s is ws wd nm dt nums asks w) (hb : Below w.heap.size w w') : PS w0 R L X I E B2 v vn va s is ws wd nm dt nums asks w' := by
  have q : ∀ {b cs T}, Blk w b cs T → Blk w' b cs T := fun hk => (hb.block _ hk.lt).trans hk
  exact { h with
    o7 := Nat.le_trans h.o7 hb.size, hR := q h.hR, hL := q h.hL, hX := q h.hX, hI := q h.hI, hE := q h.hE
    hv := h.hv.same fun k hk => hb.block k (Nat.lt_trans hk h.hL.lt)
    hn := h.hn.below hb, ha := own_below h.ha hb, below := bthen h.below hb }
theorem PS.setL (h : PS w0 R L X I E B2 v vn va s is ws wd nm dt nums asks w) {v' : Value} {ws' : List (List UInt8)} (hv' : WAt v' ws' L w) :
    PS w0 R L X I E B2 v' vn va s is ws' wd nm dt nums asks (w.setCell ⟨L, 0, none⟩ v') := by
  have g : w.grownBy (w.setCell ⟨L, 0, none⟩ v') (some L) := h.hL.grown v'
  have := h.o1; have := h.o2; have := h.o3; have := h.o4; have := h.o5; have := h.o6
  have q : ∀ {b cs T}, Blk w b cs T → b ≠ L → Blk (w.setCell ⟨L, 0, none⟩ v') b cs T := fun hk hne => (g.block _ hk.lt (fun e => hne (Option.some.inj e))).trans hk
  exact { h with
    o7 := by rw [h.hL.size]; exact h.o7
    hR := q h.hR (by omega), hL := h.hL.set v', hX := q h.hX (by omega), hI := q h.hI (by omega), hE := q h.hE (by omega)
    hv := hv'.same fun k hk => g.block k (Nat.lt_trans hk h.hL.lt) (fun e => by cases e; omega)
    hn := World.ownsRow.kept h.hn g (by
      cases hx : vn.ownBlock with
      | none => exact .inl rfl
      | some k => exact .inr (fun e => by cases e; have := (World.ownsRow.lt h.hn _ hx).1; omega))
    ha := World.ownsRow.kept h.ha g (by
      cases hx : va.ownBlock with
      | none => exact .inl rfl
      | some k => exact .inr (fun e => by cases e; have := (World.ownsRow.lt h.ha _ hx).1; omega))
    below := h.below.setCell (by dsimp only; omega) _ }
theorem PS.setI (h : PS w0 R L X I E B2 v vn va s is ws wd nm dt nums asks w) (b : Bool) :
    PS w0 R L X I E B2 v vn va s b ws wd nm dt nums asks (w.setCell ⟨I, 0, none⟩ (.bool b)) := by
  have g : w.grownBy (w.setCell ⟨I, 0, none⟩ (.bool b)) (some I) := h.hI.grown (.bool b)
  have := h.o1; have := h.o2; have := h.o3; have := h.o4; have := h.o5; have := h.o6
  have q : ∀ {b' cs T}, Blk w b' cs T → b' ≠ I → Blk (w.setCell ⟨I, 0, none⟩ (.bool b)) b' cs T := fun hk hne => (g.block _ hk.lt (fun e => hne (Option.some.inj e))).trans hk
  exact { h with
    o7 := by rw [h.hI.size]; exact h.o7
    hR := q h.hR (by omega), hL := q h.hL (by omega), hX := q h.hX (by omega), hI := h.hI.set (.bool b), hE := q h.hE (by omega)
    hv := h.hv.same fun k hk => g.block k (Nat.lt_trans hk h.hL.lt) (fun e => by cases e; omega)
    hn := World.ownsRow.kept h.hn g (by
      cases hx : vn.ownBlock with
      | none => exact .inl rfl
      | some k => exact .inr (fun e => by cases e; have := (World.ownsRow.lt h.hn _ hx).1; omega))
    ha := World.ownsRow.kept h.ha g (by
      cases hx : va.ownBlock with
      | none => exact .inl rfl
      | some k => exact .inr (fun e => by cases e; have := (World.ownsRow.lt h.ha _ hx).1; omega))
    below := h.below.setCell (by dsimp only; omega) _ }
/-- A cell of the event is written. -/
theorem PS.setE (h : PS w0 R L X I E B2 v vn va s is ws wd nm dt nums asks w) {i : Nat} {y vn' va' : Value} {nm' dt' : ByteArray} {nums' : List Int} {asks' : List (Int × Int)}
    (he : (ECells wd vn nm dt va).setIfInBounds i y = ECells wd vn' nm' dt' va') (hn' : SlO 3 (E + 1) vn' (nC nums') w) (hn2' : ∀ k, vn'.ownBlock = some k → k < B2) (ha' : AO B2 va' asks' w) :
    PS w0 R L X I E B2 v vn' va' s is ws wd nm' dt' nums' asks' (w.setCell ⟨E, i, none⟩ y) := by
  have g : w.grownBy (w.setCell ⟨E, i, none⟩ y) (some E) := h.hE.grown y
  have := h.o1; have := h.o2; have := h.o3; have := h.o4; have := h.o5; have := h.o6
  have q : ∀ {b' cs T}, Blk w b' cs T → b' ≠ E → Blk (w.setCell ⟨E, i, none⟩ y) b' cs T := fun hk hne => (g.block _ hk.lt (fun e => hne (Option.some.inj e))).trans hk
  exact { h with
    o7 := by rw [h.hE.size]; exact h.o7
    hR := q h.hR (by omega), hL := q h.hL (by omega), hX := q h.hX (by omega), hI := q h.hI (by omega), hE := he ▸ h.hE.set y
    hv := h.hv.same fun k hk => g.block k (Nat.lt_trans hk h.hL.lt) (fun e => by cases e; omega)
    hn := World.ownsRow.kept hn' g (by
      cases hx : vn'.ownBlock with
      | none => exact .inl rfl
      | some k => exact .inr (fun e => by cases e; have := (World.ownsRow.lt hn' _ hx).1; omega))
    hn2 := hn2'
    ha := World.ownsRow.kept ha' g (by
      cases hx : va'.ownBlock with
      | none => exact .inl rfl
      | some k => exact .inr (fun e => by cases e; have := (World.ownsRow.lt ha' _ hx).1; omega))
    below := h.below.setCell (by dsimp only; omega) _ }
theorem PS.name (h : PS w0 R L X I E B2 v vn va s is ws wd nm dt nums asks w) (x : ByteArray) : PS w0 R L X I E B2 v vn va s is ws wd x dt nums asks (w.setCell ⟨E, 2, none⟩ (.string x)) := h.setE rfl h.hn h.hn2 h.ha
theorem PS.data (h : PS w0 R L X I E B2 v vn va s is ws wd nm dt nums asks w) (x : ByteArray) : PS w0 R L X I E B2 v vn va s is ws wd nm x nums asks (w.setCell ⟨E, 3, none⟩ (.string x)) := h.setE rfl h.hn h.hn2 h.ha
/-- Just one owned block changed, and others were made. -/
theorem PS.row (h : PS w0 R L X I E B2 v vn va s is ws wd nm dt nums asks w) {row : Option Nat} (g : w.grownBy w' row) (hr : ∀ k, row = some k → E < k) :
    Blk w' R (ECells ⟨#[]⟩ (.slice none 0 0) ⟨#[]⟩ ⟨#[]⟩ (.slice none 0 0)) 44 ∧ Blk w' L #[v] 50 ∧ WAt v ws L w' ∧
    Blk w' X #[.int .i64 (s.least : Int), .int .i64 (s.most : Int), .bool s.name, .bool s.data, .bool s.asks] 80 ∧ Blk w' I #[.bool is] 4 ∧ Blk w' E (ECells wd vn nm dt va) 44 ∧ Below w0.heap.size w0 w' := by
  have := h.o1; have := h.o2; have := h.o3; have := h.o4; have := h.o5; have := h.o6
  have q : ∀ {b' cs T}, Blk w b' cs T → b' ≤ E → Blk w' b' cs T := fun hk hle => (g.block _ hk.lt (fun e => by have := hr _ e.symm; omega)).trans hk
  exact ⟨q h.hR (by omega), q h.hL (by omega), h.hv.same fun k hk => g.block k (Nat.lt_trans hk h.hL.lt) (fun e => by have := hr _ e.symm; omega), q h.hX (by omega), q h.hI (by omega), q h.hE (by omega),
    h.below.grown g h.below.size (fun k hk => by have := hr k hk; omega)⟩
/-- A number is added. -/
theorem PS.num (h : PS w0 R L X I E B2 v vn (.slice none 0 0) s is ws wd nm dt nums [] w) {v' : Value} {n : Int} (hO : SlO 3 (E + 1) v' (nC (nums ++ [n])) w') (g : w.grownBy w' vn.ownBlock) :
    PS w0 R L X I E w'.heap.size v v' (.slice none 0 0) s is ws wd nm dt (nums ++ [n]) [] (w'.setCell ⟨E, 1, none⟩ v') := by
  obtain ⟨h1, h2, h3, h4, h5, h6, h7⟩ := h.row g (fun k hk => (World.ownsRow.lt h.hn k hk).1)
  have hE := h6.lt
  have k0 : PS w0 R L X I E w'.heap.size v v' (.slice none 0 0) s is ws wd nm dt (nums ++ [n]) [] (w'.setCell ⟨E, 1, none⟩ v') := by
    have g : w'.grownBy (w'.setCell ⟨E, 1, none⟩ v') (some E) := h6.grown v'
    have := h.o1; have := h.o2; have := h.o3; have := h.o4; have := h.o5; have := h.o6
    have q : ∀ {b' cs T}, Blk w' b' cs T → b' ≠ E → Blk (w'.setCell ⟨E, 1, none⟩ v') b' cs T := fun hk hne => (g.block _ hk.lt (fun e => hne (Option.some.inj e))).trans hk
    exact { h with
      o6 := hE, o7 := by rw [h6.size]; exact Nat.le_refl _
      hR := q h1 (by omega), hL := q h2 (by omega), hX := q h4 (by omega), hI := q h5 (by omega), hE := h6.set v'
      hv := h3.same fun k hk => g.block k (Nat.lt_trans hk h2.lt) (fun e => by cases e; omega)
      hn := World.ownsRow.kept hO g (by
        cases hx : v'.ownBlock with
        | none => exact .inl rfl
        | some k => exact .inr (fun e => by cases e; have := (World.ownsRow.lt hO _ hx).1; omega))
      hn2 := fun k hk => (World.ownsRow.lt hO _ hk).2
      ha := AO.nil _ _
      below := h7.setCell (by dsimp only; omega) _ }
  exact k0
/-- A place is added. -/
theorem PS.ask (h : PS w0 R L X I E B2 v vn va s is ws wd nm dt nums asks w) {v' : Value} {p : Int × Int} (hO : AO B2 v' (asks ++ [p]) w') (g : w.grownBy w' va.ownBlock) :
    PS w0 R L X I E B2 v vn v' s is ws wd nm dt nums (asks ++ [p]) (w'.setCell ⟨E, 4, none⟩ v') := by
  have hlo := h.o6
  obtain ⟨h1, h2, h3, h4, h5, h6, h7⟩ := h.row g (fun k hk => by have := (World.ownsRow.lt h.ha k hk).1; omega)
  have hn' : SlO 3 (E + 1) vn (nC nums) w' := World.ownsRow.kept h.hn g (by
    cases hx : vn.ownBlock with
    | none => exact .inl rfl
    | some k => exact .inr (fun e => by
        have a1 := h.hn2 k hx
        have a2 := (World.ownsRow.lt h.ha k e.symm).1
        omega))
  have g2 : w'.grownBy (w'.setCell ⟨E, 4, none⟩ v') (some E) := h6.grown v'
  have := h.o1; have := h.o2; have := h.o3; have := h.o4; have := h.o5
  have q : ∀ {b' cs T}, Blk w' b' cs T → b' ≠ E → Blk (w'.setCell ⟨E, 4, none⟩ v') b' cs T := fun hk hne => (g2.block _ hk.lt (fun e => hne (Option.some.inj e))).trans hk
  exact { h with
    o7 := by rw [h6.size]; exact Nat.le_trans h.o7 g.size
    hR := q h1 (by omega), hL := q h2 (by omega), hX := q h4 (by omega), hI := q h5 (by omega), hE := h6.set v'
    hv := h3.same fun k hk => g2.block k (Nat.lt_trans hk h2.lt) (fun e => by cases e; omega)
    hn := World.ownsRow.kept hn' g2 (by
      cases hx : vn.ownBlock with
      | none => exact .inl rfl
      | some k => exact .inr (fun e => by cases e; have := (World.ownsRow.lt hn' _ hx).1; omega))
    ha := World.ownsRow.kept hO g2 (by
      cases hx : v'.ownBlock with
      | none => exact .inl rfl
      | some k => exact .inr (fun e => by cases e; have := (World.ownsRow.lt hO _ hx).1; omega))
    below := h7.setCell (by dsimp only; omega) _ }
end
end Go.Proofs.YtdpfcjhhabcheaaDoor

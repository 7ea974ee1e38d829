/-
  The contract of line.Parse. No condition. Own work.
-/
import Derived.Test.YtdpfcjhhabcheaaDoorParseP
import Derived.Test.YtdpfcjhhabcheaaDoorCheck
namespace Go.Proofs.YtdpfcjhhabcheaaDoor
open Go Go.RowKit

theorem of_ns {l : List UInt8} {s : Shp} (h : ofW l = some s) : s.least = s.most ∨ s.least = 0 := by
  have key : (ofW l).all (fun s => decide (s.least = s.most) || decide (s.least = 0)) = true := by
    have ite_all : ∀ (c : Prop) [Decidable c] (a : Shp) (o : Option Shp) (p : Shp → Bool), p a = true → o.all p = true → (if c then some a else o).all p = true := fun c _ a o p h1 h2 => by
      by_cases hc : c
      · rw [if_pos hc]; exact h1
      · rw [if_neg hc]; exact h2
    unfold ofW
    repeat (refine ite_all _ _ _ _ (by rfl) ?_)
    rfl
  rw [h] at key
  simpa using key
theorem of_lm {l : List UInt8} {s : Shp} (h : ofW l = some s) : s.least < s.most → s.name = false ∧ s.data = false ∧ s.asks = false := by
  have key : (ofW l).all (fun s => decide (s.most ≤ s.least) || (!s.name && !s.data && !s.asks)) = true := by
    have ite_all : ∀ (c : Prop) [Decidable c] (a : Shp) (o : Option Shp) (p : Shp → Bool), p a = true → o.all p = true → (if c then some a else o).all p = true := fun c _ a o p h1 h2 => by
      by_cases hc : c
      · rw [if_pos hc]; exact h1
      · rw [if_neg hc]; exact h2
    unfold ofW
    repeat (refine ite_all _ _ _ _ (by rfl) ?_)
    rfl
  rw [h] at key
  intro hl
  simp at key
  rcases key with k | k
  · omega
  · exact ⟨k.1.1, k.1.2, k.2⟩
/-- Words are not empty; they have no more bytes than the line. -/
theorem wordsA_all : ∀ (l cur : List UInt8), (wordsA cur l).length ≤ l.length + (if cur = [] then 0 else 1) ∧ ∀ y ∈ wordsA cur l, y ≠ [] ∧ y.length ≤ cur.length + l.length
  | [], cur => by
    by_cases h : cur = []
    · simp [wordsA, h]
    · simp [wordsA, h]
  | c :: l, cur => by
    unfold wordsA
    by_cases hc : c = 32
    · rw [if_pos hc]
      obtain ⟨h1, h2⟩ := wordsA_all l []
      by_cases h : cur = []
      · rw [if_pos h, if_pos h]
        rw [if_pos rfl] at h1
        refine ⟨by simp; omega, fun y hy => ?_⟩
        have := h2 y hy
        simp at this ⊢
        exact ⟨this.1, by omega⟩
      · rw [if_neg h, if_neg h]
        rw [if_pos rfl] at h1
        refine ⟨by simp; omega, fun y hy => ?_⟩
        rcases List.mem_cons.1 hy with rfl | hy
        · exact ⟨h, by simp⟩
        · have := h2 y hy
          simp at this ⊢
          exact ⟨this.1, by omega⟩
    · rw [if_neg hc]
      obtain ⟨h1, h2⟩ := wordsA_all l (cur ++ [c])
      rw [if_neg (by simp)] at h1
      refine ⟨by simp; omega, fun y hy => ?_⟩
      have := h2 y hy
      simp at this ⊢
      exact ⟨this.1, by omega⟩
theorem words_len (l : List UInt8) : (wordsL l).length ≤ l.length := by have := (wordsA_all l []).1; simpa [wordsL] using this
theorem words_each (l : List UInt8) (y : List UInt8) (h : y ∈ wordsL l) : y.length ≤ l.length := by have := ((wordsA_all l []).2 y h).2; simpa using this
theorem words_ne (l : List UInt8) (y : List UInt8) (h : y ∈ wordsL l) : y ≠ [] := ((wordsA_all l []).2 y h).1
/-- What line.of returns, by a shape. -/
theorem ofV_get (o : Option Shp) : ofV o = .tuple #[shpV (o.getD sh0), .bool o.isSome] := by cases o <;> rfl
/-- The slots of a parse that has begun. -/
theorem ofB_any (x : List UInt8) (w : World) : Calls Tryd.prog 46 #[.string ⟨x.toArray⟩] w fun e w' => e = .returned (.tuple #[shpV ((ofW x).getD sh0), .bool (ofW x).isSome]) ∧ Below w.heap.size w w' := by
  have h := of_any ⟨x.toArray⟩ w
  rw [ofV_get, str_tl] at h
  simpa using h
theorem cut_one (g o cap : Nat) (x : List UInt8) (ws : List (List UInt8)) (hn : (x :: ws).length ≤ cap) (hm : cap ≤ maxLen) (K : Nat) (w : World) (hg : g < K) (hx : ∀ i c, (bas (x :: ws))[i]? = some c → w.cell? ⟨g, o + i, none⟩ = some c) :
    ∃ a' c', WAt (.slice a' ws.length c') ws K w ∧ ∀ W, (Instr.slice 50 (.slice (some ⟨g, o, none⟩) (x :: ws).length cap) (some (.int .i64 1)) none none).run Tryd.prog W = .ok (.slice a' ws.length c') W := by
  rw [List.length_cons] at hn
  by_cases hc : cap = 1
  · refine ⟨some ⟨g, o, none⟩, cap - 1, ⟨_, _, rfl, by omega, by omega, fun h => by omega⟩, fun W => ?_⟩
    subst hc
    have hz : ws.length = 0 := by omega
    rw [List.length_cons, hz]
    go_simp
  · refine ⟨some ⟨g, o + 1, none⟩, cap - 1, ⟨_, _, rfl, by omega, by omega, fun h => ⟨g, o + 1, rfl, hg, fun i c hi => by rw [show o + 1 + i = o + (i + 1) from by omega]; exact hx (i + 1) c hi⟩⟩, fun W => ?_⟩
    have h1 : (1 : Int) ≤ (ws.length : Int) + 1 := by omega
    have h2 : ¬ (ws.length : Int) + 1 < 1 := by omega
    rw [List.length_cons]
    go_simp
theorem wat_of {v : Value} {B : Nat} {L : List (List UInt8)} {w : World} (h : SlO 9 B v (bas L) w) (_hl : L.length ≤ 100000) : WAt v L w.heap.size w := by
  have e : (bas L).length = L.length := bas_len L
  rcases h.2 with ⟨rfl, hn⟩ | ⟨g, cap, cur, rfl, hb, hg, hnc, hm, hcs, htake⟩
  · rw [e] at hn
    exact ⟨none, 0, by rw [hn], by omega, by unfold maxLen; omega, fun h => by omega⟩
  · rw [e] at hnc
    refine ⟨_, cap, by rw [e], hnc, hm, fun h0 => ⟨g, 0, rfl, lt_of_block hg, fun i c hi => ?_⟩⟩
    rw [Nat.zero_add, cell_of_row w g i cur _ _ hg]
    have hil : i < (bas L).length := (List.getElem?_eq_some_iff.1 hi).1
    rw [← htake, List.getElem?_take, if_pos (by omega)] at hi
    simpa using hi
theorem PS.cells {w0 w : World} {R L X I E B2 : Nat} {v vn va : Value} {s : Shp} {is : Bool} {ws : List (List UInt8)} {wd nm dt : ByteArray} {nums : List Int} {asks : List (Int × Int)} (h : PS w0 R L X I E B2 v vn va s is ws wd nm dt nums asks w) :
    (w.cell? ⟨L, 0, none⟩ = some v ∧ w.cell? ⟨I, 0, none⟩ = some (.bool is)) ∧ Five X (.int .i64 (s.least : Int)) (.int .i64 (s.most : Int)) (.bool s.name) (.bool s.data) (.bool s.asks) w ∧ Five E (.string wd) vn (.string nm) (.string dt) va w ∧
    Five R (.string ⟨#[]⟩) (.slice none 0 0) (.string ⟨#[]⟩) (.string ⟨#[]⟩) (.slice none 0 0) w ∧ (∀ i, w.frozen? ⟨L, i, none⟩ = false) ∧ (∀ i, w.frozen? ⟨I, i, none⟩ = false) ∧ (∀ i, w.frozen? ⟨E, i, none⟩ = false) ∧ (∀ i, w.frozen? ⟨R, i, none⟩ = false) :=
  ⟨⟨h.hL.cell rfl, h.hI.cell rfl⟩, five_row h.hX, five_row h.hE, five_row h.hR, fun i => h.hL.fz i, fun i => h.hI.fz i, fun i => h.hE.fz i, fun i => h.hR.fz i⟩
theorem take_get1 {α : Type} (l : List α) (j : Nat) (y : α) (h : l[j]? = some y) : l.take (j + 1) = l.take j ++ [y] := by
  rw [List.take_add_one, h]; rfl
theorem drop_get1 {α : Type} (l : List α) (j : Nat) (y : α) (h : l[j]? = some y) : l.drop j = y :: l.drop (j + 1) := by
  have hj : j < l.length := (List.getElem?_eq_some_iff.1 h).1
  rw [List.drop_eq_getElem_cons hj]
  congr 1
  exact (List.getElem?_eq_some_iff.1 h).2
def lenAt (w : World) (b i : Nat) : Nat := match w.cell? ⟨b, i, none⟩ with
  | some (.slice _ n _) => n
  | _ => 0
theorem lenAt_of {w : World} {b i n c : Nat} {a : Option Addr} (h : w.cell? ⟨b, i, none⟩ = some (.slice a n c)) : lenAt w b i = n := by unfold lenAt; rw [h]
theorem nC_snoc (l : List Int) (n : Int) : nC (l ++ [n]) = nC l ++ [Value.int .i64 n] := by simp [nC]
theorem gb_trans {w w1 w2 : World} {r : Option Nat} (h1 : w.grownBy w1 r) (h2 : w1.grownBy w2 r) : w.grownBy w2 r :=
  ⟨h2.os.trans h1.os, h2.tape.trans h1.tape, h2.output.trans h1.output, Nat.le_trans h1.size h2.size, fun k hk hne => (h2.block k (Nat.lt_of_lt_of_le hk h1.size) hne).trans (h1.block k hk hne)⟩
theorem store5 {w : World} {R : Nat} {cs : Array Value} {T : TypeId} (h : Blk w R cs T) (a b c d e : Value) : w.grownBy (((((w.setCell ⟨R, 0, none⟩ a).setCell ⟨R, 1, none⟩ b).setCell ⟨R, 2, none⟩ c).setCell ⟨R, 3, none⟩ d).setCell ⟨R, 4, none⟩ e) (some R) := by
  have h1 := h.set (i := 0) a
  have h2 := h1.set (i := 1) b
  have h3 := h2.set (i := 2) c
  have h4 := h3.set (i := 3) d
  exact gb_trans (gb_trans (gb_trans (gb_trans (h.grown a) (h1.grown b)) (h2.grown c)) (h3.grown d)) (h4.grown e)
/-- The event that a state holds, once it was written elsewhere. -/
theorem PS.ev {w0 w w' : World} {R L X I E B2 : Nat} {v vn va : Value} {s : Shp} {is : Bool} {ws : List (List UInt8)} {wd nm dt : ByteArray} {nums : List Int} {asks : List (Int × Int)} (h : PS w0 R L X I E B2 v vn va s is ws wd nm dt nums asks w)
    (g : w.grownBy w' (some R)) : EvAt w' w'.heap.size ⟨wd, nums, nm, dt, asks⟩ (EVal wd vn nm dt va) := by
  have := h.o1; have := h.o2; have := h.o3; have := h.o4; have := h.o5; have := h.o6
  have hn : SlO 3 (E + 1) vn (nC nums) w' := World.ownsRow.kept h.hn g (by
    cases hx : vn.ownBlock with
    | none => exact .inl rfl
    | some k => exact .inr (fun e => by cases e; have := (World.ownsRow.lt h.hn _ hx).1; omega))
  have ha : AO B2 va asks w' := World.ownsRow.kept h.ha g (by
    cases hx : va.ownBlock with
    | none => exact .inl rfl
    | some k => exact .inr (fun e => by cases e; have := (World.ownsRow.lt h.ha _ hx).1; omega))
  obtain ⟨A1, c1, rfl, k1⟩ := num_at hn
  obtain ⟨A2, c2, rfl, k2⟩ := ask_at ha
  exact ⟨A1, c1, A2, c2, rfl, k1, k2⟩
theorem check_any (e : Ev) (v : Value) (hn : e.nums.length ≤ 100000) (ha : e.asks.length ≤ 100000) (hm : e.name.size ≤ 100000) (w : World) (hv : EvAt w w.heap.size e v) :
    Calls Tryd.prog 24 #[v] w fun x w' => x = .returned (.int .i64 (if evOk e then 0 else 2)) ∧ Below w.heap.size w w' := by
  cases ho : ofW e.word.toList with
  | none =>
    have : evOk e = false := by unfold evOk; rw [ho]
    rw [this]
    exact check_none e v w hv ho
  | some s => exact check_some e v s w hv ho hn ha hm
theorem ps_start {w w2 : World} {R L : Nat} {v0 v' : Value} {s : Shp} {is : Bool} {ws : List (List UInt8)} {wd : ByteArray} (hR : w.heap.size ≤ R) (hRL : R < L) (r2 : Blk w2 R (ECells ⟨#[]⟩ (.slice none 0 0) ⟨#[]⟩ ⟨#[]⟩ (.slice none 0 0)) 44)
    (l2 : Blk w2 L #[v0] 50) (hv : WAt v' ws L w2) (b2 : Below w.heap.size w w2) :
    PS w R L w2.heap.size (w2.heap.size + 1) (w2.heap.size + 1 + 1) (w2.heap.size + 1 + 1 + 1) v' (.slice none 0 0) (.slice none 0 0) s is ws wd ⟨#[]⟩ ⟨#[]⟩ [] []
      ((((w2.setCell ⟨L, 0, none⟩ v').alloc (.cells #[.int .i64 (s.least : Int), .int .i64 (s.most : Int), .bool s.name, .bool s.data, .bool s.asks] 80)).alloc (.cells #[.bool is] 4)).alloc (.cells (ECells wd (.slice none 0 0) ⟨#[]⟩ ⟨#[]⟩ (.slice none 0 0)) 44)) := by
  have g := l2.grown (i := 0) v'
  have l3 : Blk (w2.setCell ⟨L, 0, none⟩ v') L #[v'] 50 := l2.set v'
  have r3 : Blk (w2.setCell ⟨L, 0, none⟩ v') R _ _ := (g.block R r2.lt (fun e => by cases e; omega)).trans r2
  have v3 : WAt v' ws L (w2.setCell ⟨L, 0, none⟩ v') := hv.same fun k hk => g.block k (Nat.lt_trans hk l2.lt) (fun e => by cases e; omega)
  have b3 : Below w.heap.size w (w2.setCell ⟨L, 0, none⟩ v') := b2.setCell (by dsimp only; omega) _
  have z3 : (w2.setCell ⟨L, 0, none⟩ v').heap.size = w2.heap.size := l2.size (i := 0) v'
  rw [← z3]
  generalize w2.setCell ⟨L, 0, none⟩ v' = W at *
  have lw := l3.lt
  have q1 : ∀ {b cs T}, Blk W b cs T → Blk (W.alloc (.cells #[.int .i64 (s.least : Int), .int .i64 (s.most : Int), .bool s.name, .bool s.data, .bool s.asks] 80)) b cs T := fun h => (heap_alloc_old W _ h.lt).trans h
  generalize hW1 : W.alloc (.cells #[.int .i64 (s.least : Int), .int .i64 (s.most : Int), .bool s.name, .bool s.data, .bool s.asks] 80) = W1 at *
  have x1 : Blk W1 W.heap.size #[.int .i64 (s.least : Int), .int .i64 (s.most : Int), .bool s.name, .bool s.data, .bool s.asks] 80 := by rw [← hW1]; exact heap_alloc_new W _
  have e1 : W1.heap.size = W.heap.size + 1 := by rw [← hW1]; simp
  have bw1 : Below W.heap.size W W1 := by rw [← hW1]; exact bnew W _
  have q2 : ∀ {b cs T}, Blk W1 b cs T → Blk (W1.alloc (.cells #[.bool is] 4)) b cs T := fun h => (heap_alloc_old W1 _ h.lt).trans h
  generalize hW2 : W1.alloc (.cells #[.bool is] 4) = W2 at *
  have i1 : Blk W2 W1.heap.size #[.bool is] 4 := by rw [← hW2]; exact heap_alloc_new W1 _
  have e2 : W2.heap.size = W1.heap.size + 1 := by rw [← hW2]; simp
  have bw2 : Below W1.heap.size W1 W2 := by rw [← hW2]; exact bnew W1 _
  have q3 : ∀ {b cs T}, Blk W2 b cs T → Blk (W2.alloc (.cells (ECells wd (.slice none 0 0) ⟨#[]⟩ ⟨#[]⟩ (.slice none 0 0)) 44)) b cs T := fun h => (heap_alloc_old W2 _ h.lt).trans h
  generalize hW3 : W2.alloc (.cells (ECells wd (.slice none 0 0) ⟨#[]⟩ ⟨#[]⟩ (.slice none 0 0)) 44) = W3 at *
  have j1 : Blk W3 W2.heap.size (ECells wd (.slice none 0 0) ⟨#[]⟩ ⟨#[]⟩ (.slice none 0 0)) 44 := by rw [← hW3]; exact heap_alloc_new W2 _
  have e3 : W3.heap.size = W2.heap.size + 1 := by rw [← hW3]; simp
  have bw3 : Below W2.heap.size W2 W3 := by rw [← hW3]; exact bnew W2 _
  have bb : Below W.heap.size W W3 := bthen (bthen bw1 bw2) bw3
  exact { o1 := hR, o2 := hRL, o3 := lw, o4 := by omega, o5 := by omega, o6 := by omega, o7 := by omega
          hR := q3 (q2 (q1 r3)), hL := q3 (q2 (q1 l3)), hv := v3.same fun k hk => bb.block k (by omega), hX := q3 (q2 x1), hI := q3 (by rw [← e1]; exact i1), hE := by rw [← e1, ← e2]; exact j1
          hn := SlO.nil _ _ _, hn2 := fun k hk => by simp [Value.ownBlock] at hk, ha := AO.nil _ _, below := bthen b3 bb }
theorem pNums_short {s : Shp} {wd : ByteArray} {is : Bool} {ws : List (List UInt8)} (h : ws.length < nk s ws.length) : pNums s wd is ws = none := by unfold pNums; rw [if_pos h]
theorem pNums_bad {s : Shp} {wd : ByteArray} {is : Bool} {ws : List (List UInt8)} {j : Nat} {y : List UInt8} (hj : j < nk s ws.length) (hy : ws[j]? = some y) (hb : isN y = false) : pNums s wd is ws = none := by
  unfold pNums
  by_cases h : ws.length < nk s ws.length
  · rw [if_pos h]
  rw [if_neg h, if_neg]
  intro ha
  rw [List.all_eq_true] at ha
  have hm : y ∈ ws.take (nk s ws.length) := List.mem_iff_getElem?.2 ⟨j, by rw [List.getElem?_take, if_pos hj]; exact hy⟩
  rw [ha y hm] at hb
  cases hb
theorem pNums_ok {s : Shp} {wd : ByteArray} {is : Bool} {ws : List (List UInt8)} (h : nk s ws.length ≤ ws.length) (ha : (ws.take (nk s ws.length)).all isN = true) :
    pNums s wd is ws = pName s wd ((ws.take (nk s ws.length)).map fun x => ((numI x : Nat) : Int)) is (ws.drop (nk s ws.length)) := by
  unfold pNums
  rw [if_neg (by omega), if_pos ha]
set_option maxRecDepth 100000 in
set_option maxHeartbeats 6400000 in
theorem parse_any (sb : ByteArray) (hs : sb.size ≤ 90000) (w : World) : Calls Tryd.prog 27 #[.string sb] w fun e w' => PRes (parseW (wordsL sb.data.toList)) w' e ∧ Below w.heap.size w w' := by
  have h1 := words_any sb hs
  have hwl : (wordsL sb.data.toList).length ≤ 90000 := by have := words_len sb.data.toList; have := sz_list sb; omega
  have hwn : ∀ y ∈ wordsL sb.data.toList, y ≠ [] := fun y hy => words_ne sb.data.toList y hy
  have hwy : ∀ y ∈ wordsL sb.data.toList, y.length ≤ 90000 := fun y hy => by have := words_each sb.data.toList y hy; have := sz_list sb; omega
  obtain ⟨ws0, hws⟩ : ∃ ws0, ws0 = wordsL sb.data.toList := ⟨_, rfl⟩
  rw [← hws] at h1 hwl hwy hwn ⊢
  have HWN0 := Lib.hid hwn
  have HWY := Lib.hid hwy
  clear hws hwy hwn
  have H1 := Lib.hid h1
  clear h1
  obtain ⟨P, hP⟩ : ∃ P, P = parseW ws0 := ⟨_, rfl⟩
  rw [← hP]
  have HP := Lib.hid hP
  clear hP
  go_enter Tryd.func27, Tryd.ntmps27
  go_wp2_with fail
  refine (H1.out _).mono ?_
  rintro e1 w1 ⟨⟨v, rfl, hO⟩, hb1⟩
  have b1 := bthen (bnew w _) hb1
  have z1 := bsz hb1
  have r1 : Blk w1 w.heap.size _ _ := (hb1.block w.heap.size (by simp)).trans (heap_alloc_new w _)
  have hv : WAt v ws0 w1.heap.size w1 := wat_of hO (by omega)
  clear hb1 hO
  cases ws0 with
  | nil =>
    obtain rfl : P = none := HP.out
    obtain ⟨a, cap, rfl, -⟩ := hv
    have c0 := fun i v (h : _ = some v) => r1.cell (i := i) (v := v) h
    have g0 := c0 0 _ rfl
    have g1 := c0 1 _ rfl
    have g2 := c0 2 _ rfl
    have g3 := c0 3 _ rfl
    have g4 := c0 4 _ rfl
    have f0 := fun i => r1.fz i
    clear c0
    rw [List.length_nil]
    go_wp2_with fail
    refine bodyPost_ret (v := .tuple #[EVal ⟨#[]⟩ (.slice none 0 0) ⟨#[]⟩ ⟨#[]⟩ (.slice none 0 0), .int .i64 3]) ?_ rfl ⟨rfl, ?_⟩
    · rw [results_cell_tmp rfl]
      go_simp
    · exact (((((b1.setCell (Nat.le_refl _) _).setCell (Nat.le_refl _) _).setCell (Nat.le_refl _) _).setCell (Nat.le_refl _) _).setCell (Nat.le_refl _) _).alloc (by simp; omega) _
  | cons x ws =>
    have hP : P = pNums ((ofW x).getD sh0) (baL x) (ofW x).isSome ws := HP.out
    have h2 := ofB_any x
    have hns : ((ofW x).getD sh0).least = ((ofW x).getD sh0).most ∨ ((ofW x).getD sh0).least = 0 := by
      cases h : ofW x with
      | none => exact .inr rfl
      | some s => exact of_ns h
    have hone : (((ofW x).getD sh0).name = true ∧ ((ofW x).getD sh0).data = false ∧ ((ofW x).getD sh0).asks = false) ∨ (((ofW x).getD sh0).name = false ∧ ((ofW x).getD sh0).data = true ∧ ((ofW x).getD sh0).asks = false) ∨ (((ofW x).getD sh0).name = false ∧ ((ofW x).getD sh0).data = false ∧ ((ofW x).getD sh0).asks = true) ∨ (((ofW x).getD sh0).name = false ∧ ((ofW x).getD sh0).data = false ∧ ((ofW x).getD sh0).asks = false) := by
      cases h : ofW x with
      | none => exact .inr (.inr (.inr ⟨rfl, rfl, rfl⟩))
      | some s => exact of_one h
    have hlm : ((ofW x).getD sh0).least < ((ofW x).getD sh0).most → ((ofW x).getD sh0).name = false ∧ ((ofW x).getD sh0).data = false ∧ ((ofW x).getD sh0).asks = false := by
      cases h : ofW x with
      | none => exact fun q => absurd q (by decide)
      | some s => exact of_lm h
    have his : ((ofW x).getD sh0).name = true ∨ ((ofW x).getD sh0).data = true ∨ ((ofW x).getD sh0).asks = true → (ofW x).isSome = true := by
      cases h : ofW x with
      | none => intro q; rcases q with q | q | q <;> exact absurd q (by decide)
      | some s => exact fun _ => rfl
    have hsm : ((ofW x).getD sh0).least ≤ 64 ∧ ((ofW x).getD sh0).most ≤ 64 := by
      cases h : ofW x with
      | none => exact ⟨by decide, by decide⟩
      | some s => exact of_bounds h
    generalize (ofW x).getD sh0 = s at hP h2 hns hone hsm hlm his
    generalize (ofW x).isSome = is0 at hP h2 his
    have HIS := Lib.hid his
    clear his
    have H2 := Lib.hid h2
    clear h2 HP
    have HPN := Lib.hid hP
    have HNS := Lib.hid hns
    have HONE := Lib.hid hone
    have HSM := Lib.hid hsm
    have HLM := Lib.hid hlm
    clear hP hns hone hsm hlm
    have hwl' : ws.length < 90000 := by rw [List.length_cons] at hwl; omega
    clear hwl
    obtain ⟨a, cap, rfl, hcap, hmax, hc⟩ := hv
    obtain ⟨g, o, rfl, hg, hx⟩ := hc (by simp)
    have cx : w1.cell? ⟨g, o, none⟩ = some (.string ⟨x.toArray⟩) := hx 0 _ rfl
    obtain ⟨nw, hnw⟩ : ∃ nw, nw = ws.length := ⟨_, rfl⟩
    have hcap' := hcap
    rw [List.length_cons]
    rw [List.length_cons] at hcap
    rw [← hnw] at hcap hwl' ⊢
    have HNW := Lib.hid hnw
    have HX := Lib.hid hx
    have n1 : ¬ ((nw : Int) + 1) = 0 := by omega
    have n2 : ((((nw : Int) + 1) == 0) = false) := by simpa using n1
    have HCAP := Lib.hid hcap'
    clear hc hx hnw hcap'
    go_wp2_with fail
    refine (H2.out _).mono ?_
    rintro e2 w2 ⟨rfl, hb2⟩
    have z2 := bsz hb2
    have l2 : Blk w2 w1.heap.size _ _ := (hb2.block w1.heap.size (by simp)).trans (heap_alloc_new w1 _)
    have r2 : Blk w2 w.heap.size _ _ := (hb2.block w.heap.size (by simp; omega)).trans (((bnew w1 _).block w.heap.size z1).trans r1)
    have cx2 : w2.cell? ⟨g, o, none⟩ = some (.string ⟨x.toArray⟩) := ((bthen (bnew w1 _) hb2).cell (p := ⟨g, o, none⟩) hg).trans cx
    have hx2 : ∀ i c, (bas (x :: ws))[i]? = some c → w2.cell? ⟨g, o + i, none⟩ = some c := fun i c hi => ((bthen (bnew w1 _) hb2).cell (p := ⟨g, o + i, none⟩) hg).trans (HX.out i c hi)
    have b2 := bthen (b1.alloc (by have := b1.size; exact this) _) hb2
    have HX2 := Lib.hid hx2
    have BW2 := Lib.hid b2
    have R2 := Lib.hid r2
    have L2 := Lib.hid l2
    have c0 : w2.cell? ⟨w1.heap.size, 0, none⟩ = some (.slice (some ⟨g, o, none⟩) (nw + 1) cap) := l2.cell (i := 0) rfl
    have f0 := l2.fz 0
    clear HX cx hb2 b1 b2 hx2 r1 r2 l2
    dsimp only [shpV]
    have hg2 : g < w2.heap.size := by omega
    have hg3 : g < w2.heap.size + 1 := by omega
    have hl3 : w1.heap.size < w2.heap.size + 1 := by omega
    have hl4 : w1.heap.size < w2.heap.size + 1 + 1 := by omega
    obtain ⟨a', c', hv', hcut⟩ := cut_one g o cap x ws HCAP.out hmax w1.heap.size w2 hg HX2.out
    rw [List.length_cons] at hcut
    rw [← HNW.out] at hcut
    rw [← HNW.out] at hv'
    have HV' := Lib.hid hv'
    clear hv'
    go_wp2_with fail
    go_loopw [] (fun wr => ∃ (j : Nat) (v vn : Value) (B2 : Nat), j ≤ nw ∧ (s.least < s.most ∨ j ≤ s.least) ∧ (ws.take j).all isN = true ∧
      PS w w.heap.size w1.heap.size w2.heap.size (w2.heap.size + 1) (w2.heap.size + 1 + 1) B2 v vn (.slice none 0 0) s is0 (ws.drop j) (baL x) ⟨#[]⟩ ⟨#[]⟩ ((ws.take j).map fun x => ((numI x : Nat) : Int)) [] wr) (fun wr => 90000 - lenAt wr (w2.heap.size + 1 + 1) 1)
    case atStart =>
      exact ⟨0, .slice a' nw c', .slice none 0 0, w2.heap.size + 1 + 1 + 1, by omega, .inr (by omega), rfl, ps_start (Nat.le_refl _) z1 R2.out L2.out HV'.out BW2.out⟩
    case round =>
      obtain ⟨j, v, vn, B2, hj, hjk, hall, hps⟩ := hrel
      rename World => wo
      clear H1 H2 HX2 L2 R2 HV' hg hg2 hg3 hl3 hl4 z1 z2 hcut n1 n2 c0 f0 HCAP hmax hcap BW2
      generalize w2.heap.size = X at *
      generalize w1.heap.size = L at *
      obtain ⟨an, cn, rfl⟩ := hps.hn.none_iff
      have hnl : (nC ((ws.take j).map fun x => ((numI x : Nat) : Int))).length = j := by simp [nC]; have := HNW.out; omega
      have hvv := hps.hv
      obtain ⟨av, cv, rfl, -⟩ := hvv
      have hvl : (ws.drop j).length = nw - j := by rw [List.length_drop, ← HNW.out]
      rw [hnl, hvl] at hps
      obtain ⟨N, hN⟩ : ∃ N, N = (ws.take j).map fun x => ((numI x : Nat) : Int) := ⟨_, rfl⟩
      rw [← hN] at hps hnl
      have HN := Lib.hid hN
      have HNL0 := Lib.hid hnl
      have HPS := Lib.hid hps
      have HALL := Lib.hid hall
      have HJK := Lib.hid hjk
      obtain ⟨⟨cL, cI⟩, ⟨x0, x1, x2, x3, x4⟩, ⟨e0, e1, e2, e3, e4⟩, ⟨r0, r1, r2, r3, r4⟩, fL, fI, fE, fR⟩ := hps.cells
      have o6 := hps.o6
      have o5 := hps.o5
      have o4 := hps.o4
      have o3 := hps.o3
      have o2 := hps.o2
      have o1 := hps.o1
      have o7 := hps.o7
      clear hnl hvl hps hall hjk hN
      by_cases ha : j < s.least
      · have a0 : (j : Int) < (s.least : Int) := by omega
        by_cases hn : j < nw
        · obtain ⟨y, hy⟩ : ∃ y, ws[j]? = some y := ⟨_, List.getElem?_eq_getElem (by rw [← HNW.out]; exact hn)⟩
          have hpv := HPS.out.hv
          rw [drop_get1 ws j y hy] at hpv
          have hT := take_pop L (X + 1) _ L y (ws.drop (j + 1)) wo HPS.out.hL hpv
          have HT := Lib.hid hT
          have HY := Lib.hid hy
          have HNUM := Lib.hid (number_any ⟨y.toArray⟩)
          have HMS : Hid (lenAt wo (X + 1 + 1) 1 = j) := Lib.hid (lenAt_of e1)
          clear hT hpv hy
          go_wp2_with fail
          refine HT.out.mono ?_
          rintro e6 w4 ⟨rfl, v2, hv2, hw4⟩
          have hp2 := HPS.out.setL hv2
          rw [hw4] at hp2
          have HP2 := Lib.hid hp2
          obtain ⟨⟨cL, cI⟩, ⟨x0, x1, x2, x3, x4⟩, ⟨e0, e1, e2, e3, e4⟩, ⟨r0, r1, r2, r3, r4⟩, fL, fI, fE, fR⟩ := hp2.cells
          have z4 := hp2.o7
          clear hp2 hw4 hv2 HT HPS
          go_wp2_with fail
          refine (HNUM.out _).mono ?_
          rintro e5 w5 ⟨rfl, rfl⟩
          clear HNUM
          dsimp only [numV]
          by_cases hq : isN y = true
          · have HQ := Lib.hid hq
            have hq' : (numO y).isSome = true := hq
            rw [hq']
            have hO : SlO 3 (X + 1 + 1 + 1) (.slice an j cn) (nC N) w4 := HP2.out.hn
            have HO2 : Hid (SlO 3 (X + 1 + 1 + 1) (.slice an j cn) (nC N) (w4.alloc (.cells #[.int .i64 ((numI y : Nat) : Int)] 3))) := Lib.hid (hO.below (bnew w4 _))
            have HC2 : Hid (SlC w4.heap.size ([((numI y : Nat) : Int)].map (Value.int .i64)) (w4.alloc (.cells #[.int .i64 ((numI y : Nat) : Int)] 3))) := Lib.hid (SlC.lit w4 _ _)
            have HZ : Hid (X + 1 + 1 + 1 ≤ (w4.alloc (.cells #[.int .i64 ((numI y : Nat) : Int)] 3)).heap.size) := Lib.hid (by simp; omega)
            have HNL : Hid ((nC N).length + [((numI y : Nat) : Int)].length ≤ 100000) := Lib.hid (by rw [HNL0.out]; simp; omega)
            clear hq hq' hO
            go_wp2_with (at_builtin; refine wpList_pushI rfl _ _ rfl (X + 1 + 1 + 1) _ (nC N) rfl HO2.out w4.heap.size 1 1 [((numI y : Nat) : Int)] rfl HC2.out rfl HNL.out HZ.out ?_)
            intro v3 w6 hO3 hg3 hB3
            rw [← nC_snoc] at hO3
            have hl3 : (nC (N ++ [((numI y : Nat) : Int)])).length = j + 1 := by rw [nC_snoc, List.length_append, HNL0.out]; rfl
            obtain ⟨a3, c3, rfl⟩ := hO3.none_iff
            rw [hl3] at hO3 ⊢
            have hp3 := (HP2.out.kept (bnew w4 _)).num hO3 hg3
            have hr := (HP2.out.kept (bnew w4 _)).row hg3 (fun k hk => by have := (World.ownsRow.lt HO2.out k hk).1; omega)
            obtain ⟨-, -, -, -, -, hE6, -⟩ := hr
            have fE6 := fun i => hE6.fz i
            have e61 := hE6.cell (i := 1) (v := .slice an j cn) rfl
            have HP3 := Lib.hid hp3
            clear hO3 hg3 hB3 hp3 hl3 hE6 HO2 HC2 HZ HNL e0 e1 e2 e3 e4 x0 x1 x2 x3 x4 cL cI fL fI fE r0 r1 r2 r3 r4 fR
            go_wp2_with fail
            exact ⟨⟨j + 1, v2, .slice a3 (j + 1) c3, _, by omega, .inr (by omega), by rw [take_get1 ws j y HY.out, List.all_append, HALL.out]; simp [HQ.out], by rw [take_get1 ws j y HY.out, List.map_append, ← HN.out]; exact HP3.out⟩, by rw [HMS.out, lenAt_of (HP3.out.hE.cell (i := 1) (v := .slice a3 (j + 1) c3) rfl)]; omega⟩
          · have hq' : (numO y).isSome = false := by simpa [isN] using hq
            rw [hq']
            obtain rfl : P = none := by rw [HPN.out]; exact pNums_bad (j := j) (by rw [← HNW.out]; unfold nk; split <;> omega) HY.out (by simpa using hq)
            go_wp2_with fail
            refine bodyPost_ret (v := .tuple #[EVal ⟨#[]⟩ (.slice none 0 0) ⟨#[]⟩ ⟨#[]⟩ (.slice none 0 0), .int .i64 3]) ?_ rfl ⟨rfl, ?_⟩
            · rw [results_cell_tmp rfl]
              go_simp
            · exact (((((HP2.out.below.setCell (Nat.le_refl _) _).setCell (Nat.le_refl _) _).setCell (Nat.le_refl _) _).setCell (Nat.le_refl _) _).setCell (Nat.le_refl _) _)
        · obtain rfl : P = none := by rw [HPN.out]; exact pNums_short (by rw [← HNW.out]; unfold nk; have := HNS.out; split <;> omega)
          have hpv := HPS.out.hv
          rw [List.drop_of_length_le (by rw [← HNW.out]; omega)] at hpv
          have hT := take_none L (X + 1) is0 _ L wo HPS.out.hI HPS.out.hL hpv
          have HT := Lib.hid hT
          have HNUM := Lib.hid (number_any ⟨#[]⟩)
          clear hT hpv
          go_wp2_with fail
          refine HT.out.mono ?_
          rintro e6 w4 ⟨rfl, hw4⟩
          have hp2 := HPS.out.setI false
          rw [hw4] at hp2
          have HP2 := Lib.hid hp2
          obtain ⟨⟨cL, cI⟩, ⟨x0, x1, x2, x3, x4⟩, ⟨e0, e1, e2, e3, e4⟩, ⟨r0, r1, r2, r3, r4⟩, fL, fI, fE, fR⟩ := hp2.cells
          have z4 := hp2.o7
          clear hp2 hw4 HT HPS
          go_wp2_with fail
          refine (HNUM.out _).mono ?_
          rintro e5 w5 ⟨rfl, rfl⟩
          clear HNUM
          rw [show numV (ByteArray.mk #[]).data.toList = .tuple #[.int .i64 0, .bool false] from numV_bad (.inl rfl)]
          go_wp2_with fail
          refine bodyPost_ret (v := .tuple #[EVal ⟨#[]⟩ (.slice none 0 0) ⟨#[]⟩ ⟨#[]⟩ (.slice none 0 0), .int .i64 3]) ?_ rfl ⟨rfl, ?_⟩
          · rw [results_cell_tmp rfl]
            go_simp
          · exact (((((HP2.out.below.setCell (Nat.le_refl _) _).setCell (Nat.le_refl _) _).setCell (Nat.le_refl _) _).setCell (Nat.le_refl _) _).setCell (Nat.le_refl _) _)
      have a0 : ¬ (j : Int) < (s.least : Int) := by omega
      by_cases hb : s.least < s.most ∧ j < nw
      · have a1 : (s.least : Int) < (s.most : Int) := by omega
        have hn := hb.2
        have a2 : (0 : Int) < ((nw - j : Nat) : Int) := by omega
        obtain ⟨y, hy⟩ : ∃ y, ws[j]? = some y := ⟨_, List.getElem?_eq_getElem (by rw [← HNW.out]; exact hn)⟩
        have hpv := HPS.out.hv
        rw [drop_get1 ws j y hy] at hpv
        have hT := take_pop L (X + 1) _ L y (ws.drop (j + 1)) wo HPS.out.hL hpv
        have HT := Lib.hid hT
        have HY := Lib.hid hy
        have HNUM := Lib.hid (number_any ⟨y.toArray⟩)
        have HMS : Hid (lenAt wo (X + 1 + 1) 1 = j) := Lib.hid (lenAt_of e1)
        clear hT hpv hy
        go_wp2_with fail
        refine HT.out.mono ?_
        rintro e6 w4 ⟨rfl, v2, hv2, hw4⟩
        have hp2 := HPS.out.setL hv2
        rw [hw4] at hp2
        have HP2 := Lib.hid hp2
        obtain ⟨⟨cL, cI⟩, ⟨x0, x1, x2, x3, x4⟩, ⟨e0, e1, e2, e3, e4⟩, ⟨r0, r1, r2, r3, r4⟩, fL, fI, fE, fR⟩ := hp2.cells
        have z4 := hp2.o7
        clear hp2 hw4 hv2 HT HPS
        go_wp2_with fail
        refine (HNUM.out _).mono ?_
        rintro e5 w5 ⟨rfl, rfl⟩
        clear HNUM
        dsimp only [numV]
        by_cases hq : isN y = true
        · have HQ := Lib.hid hq
          have hq' : (numO y).isSome = true := hq
          rw [hq']
          have hO : SlO 3 (X + 1 + 1 + 1) (.slice an j cn) (nC N) w4 := HP2.out.hn
          have HO2 : Hid (SlO 3 (X + 1 + 1 + 1) (.slice an j cn) (nC N) (w4.alloc (.cells #[.int .i64 ((numI y : Nat) : Int)] 3))) := Lib.hid (hO.below (bnew w4 _))
          have HC2 : Hid (SlC w4.heap.size ([((numI y : Nat) : Int)].map (Value.int .i64)) (w4.alloc (.cells #[.int .i64 ((numI y : Nat) : Int)] 3))) := Lib.hid (SlC.lit w4 _ _)
          have HZ : Hid (X + 1 + 1 + 1 ≤ (w4.alloc (.cells #[.int .i64 ((numI y : Nat) : Int)] 3)).heap.size) := Lib.hid (by simp; omega)
          have HNL : Hid ((nC N).length + [((numI y : Nat) : Int)].length ≤ 100000) := Lib.hid (by rw [HNL0.out]; simp; omega)
          clear hq hq' hO
          go_wp2_with (at_builtin; refine wpList_pushI rfl _ _ rfl (X + 1 + 1 + 1) _ (nC N) rfl HO2.out w4.heap.size 1 1 [((numI y : Nat) : Int)] rfl HC2.out rfl HNL.out HZ.out ?_)
          intro v3 w6 hO3 hg3 hB3
          rw [← nC_snoc] at hO3
          have hl3 : (nC (N ++ [((numI y : Nat) : Int)])).length = j + 1 := by rw [nC_snoc, List.length_append, HNL0.out]; rfl
          obtain ⟨a3, c3, rfl⟩ := hO3.none_iff
          rw [hl3] at hO3 ⊢
          have hp3 := (HP2.out.kept (bnew w4 _)).num hO3 hg3
          have hr := (HP2.out.kept (bnew w4 _)).row hg3 (fun k hk => by have := (World.ownsRow.lt HO2.out k hk).1; omega)
          obtain ⟨-, -, -, -, -, hE6, -⟩ := hr
          have fE6 := fun i => hE6.fz i
          have e61 := hE6.cell (i := 1) (v := .slice an j cn) rfl
          have HP3 := Lib.hid hp3
          clear hO3 hg3 hB3 hp3 hl3 hE6 HO2 HC2 HZ HNL e0 e1 e2 e3 e4 x0 x1 x2 x3 x4 cL cI fL fI fE r0 r1 r2 r3 r4 fR
          go_wp2_with fail
          exact ⟨⟨j + 1, v2, .slice a3 (j + 1) c3, _, by omega, .inl (by omega), by rw [take_get1 ws j y HY.out, List.all_append, HALL.out]; simp [HQ.out], by rw [take_get1 ws j y HY.out, List.map_append, ← HN.out]; exact HP3.out⟩, by rw [HMS.out, lenAt_of (HP3.out.hE.cell (i := 1) (v := .slice a3 (j + 1) c3) rfl)]; omega⟩
        · have hq' : (numO y).isSome = false := by simpa [isN] using hq
          rw [hq']
          obtain rfl : P = none := by rw [HPN.out]; exact pNums_bad (j := j) (by rw [← HNW.out]; unfold nk; split <;> omega) HY.out (by simpa using hq)
          go_wp2_with fail
          refine bodyPost_ret (v := .tuple #[EVal ⟨#[]⟩ (.slice none 0 0) ⟨#[]⟩ ⟨#[]⟩ (.slice none 0 0), .int .i64 3]) ?_ rfl ⟨rfl, ?_⟩
          · rw [results_cell_tmp rfl]
            go_simp
          · exact (((((HP2.out.below.setCell (Nat.le_refl _) _).setCell (Nat.le_refl _) _).setCell (Nat.le_refl _) _).setCell (Nat.le_refl _) _).setCell (Nat.le_refl _) _)
      have hnk : nk s nw = j := by
        have := HJK.out
        unfold nk
        split <;> omega
      have hpn : P = pName s (baL x) N is0 (ws.drop j) := by
        have e := HPN.out
        rw [pNums_ok (by rw [← HNW.out, hnk]; omega) (by rw [← HNW.out, hnk]; exact HALL.out), ← HNW.out, hnk, ← HN.out] at e
        exact e
      have HPNM := Lib.hid hpn
      have HJ := Lib.hid hnk
      clear hpn hnk
      have HSZ0 : Hid ((⟨#[]⟩ : ByteArray).size ≤ 100000) := Lib.hid (by decide)
      have HDL : Hid ((ws.drop j).length < 90000) := Lib.hid (by rw [List.length_drop, ← HNW.out]; omega)
      have HDY : Hid (∀ y, y ∈ ws.drop j → y.length ≤ 90000) := Lib.hid fun y hy => HWY.out y (List.mem_cons_of_mem _ (List.mem_of_mem_drop hy))
      have HWN : Hid (∀ y, y ∈ ws.drop j → y ≠ []) := Lib.hid fun y hy => HWN0.out y (List.mem_cons_of_mem _ (List.mem_of_mem_drop hy))
      by_cases hlm : s.least < s.most
      · have a1 : (s.least : Int) < (s.most : Int) := by omega
        have a2 : ¬ (0 : Int) < ((nw - j : Nat) : Int) := by omega
        obtain ⟨hname, hdata, hasks⟩ := HLM.out hlm
        have HPA : Hid (P = pAsks s (baL x) N ⟨#[]⟩ ⟨#[]⟩ [] is0 (ws.drop j)) := Lib.hid (by rw [HPNM.out]; unfold pName pData; rw [hname, hdata]; rfl)
        have HLW : Hid ((ws.drop j).length + ([] : List (Int × Int)).length ≤ 90000) := Lib.hid (by have e := HDL.out;  simp at e ⊢; omega)
        have HYW : Hid (∀ y, y ∈ ws.drop j → y.length ≤ 90000) := Lib.hid (by have e := HDY.out; exact e)
        have HSZ := HSZ0
        have HT := Lib.hid (take_off L (X + 1) is0 wo HPS.out.hI)
        go_wp2_with fail
        refine HT.out.mono ?_
        rintro e6 w4 ⟨rfl, hw4⟩
        have hp2 := HPS.out.setI is0
        rw [hw4] at hp2
        have HP2 := Lib.hid (hp2.name ⟨#[]⟩)
        clear e0 e1 e2 e3 e4 x0 x1 x2 x3 x4 cL cI fL fI fE r0 r1 r2 r3 r4 fR
        obtain ⟨⟨cL, cI⟩, ⟨x0, x1, x2, x3, x4⟩, ⟨e0, e1, e2, e3, e4⟩, ⟨r0, r1, r2, r3, r4⟩, fL, fI, fE, fR⟩ := hp2.cells
        have z4 := hp2.o7
        clear hw4 HT
        clear hp2
        go_wp2_with fail
        go_loopw [] (fun wr => ∃ (v va : Value) (asks' : List (Int × Int)) (is' : Bool) (ws' : List (List UInt8)), PS w w.heap.size L X (X + 1) (X + 1 + 1) B2 v (.slice an j cn) va s is' ws' (baL x) ⟨#[]⟩ ⟨#[]⟩ N asks' wr ∧ P = pAsks s (baL x) N ⟨#[]⟩ ⟨#[]⟩ asks' is' ws' ∧ ws'.length + asks'.length ≤ 90000 ∧ ∀ y, y ∈ ws' → y.length ≤ 90000) (fun wr => lenAt wr L 0)
        case atStart => exact ⟨_, _, [], _, _, HP2.out, HPA.out, HLW.out, HYW.out⟩
        case round =>
          obtain ⟨v5, va5, asks', is', ws', hps5, hpa5, hle5, hyw5⟩ := hrel
          clear e0 e1 e2 e3 e4 x0 x1 x2 x3 x4 cL cI fL fI fE r0 r1 r2 r3 r4 fR
          have HPQ := Lib.hid hps5
          have HLE := Lib.hid hle5
          have hpe : P = pEnd (baL x) N ⟨#[]⟩ ⟨#[]⟩ asks' is' ws' := by rw [hpa5]; unfold pAsks; rw [hasks]; rfl
          have HPE := Lib.hid hpe
          clear hpe hpa5 hps5 hle5 hyw5
          cases is' with
          | false =>
            obtain rfl : P = none := by rw [HPE.out]; unfold pEnd; rw [if_neg]; simp
            have h9 := HPQ.out
            obtain ⟨⟨cL, cI⟩, ⟨x0, x1, x2, x3, x4⟩, ⟨e0, e1, e2, e3, e4⟩, ⟨r0, r1, r2, r3, r4⟩, fL, fI, fE, fR⟩ := h9.cells
            have hvv := h9.hv
            obtain ⟨av, cv, rfl, -⟩ := hvv
            have b9 := h9.below
            clear h9
            go_wp2_with fail
            refine bodyPost_ret (v := .tuple #[EVal ⟨#[]⟩ (.slice none 0 0) ⟨#[]⟩ ⟨#[]⟩ (.slice none 0 0), .int .i64 3]) ?_ rfl ⟨rfl, ?_⟩
            · rw [results_cell_tmp rfl]
              go_simp
            · exact (((((b9.setCell (Nat.le_refl _) _).setCell (Nat.le_refl _) _).setCell (Nat.le_refl _) _).setCell (Nat.le_refl _) _).setCell (Nat.le_refl _) _)
          | true =>
            by_cases hw0 : ws' = []
            · subst hw0
              obtain ⟨ga, gc, hva, -⟩ := ask_at HPQ.out.ha
              subst hva
              have h9 := HPQ.out
              have hvv := h9.hv
              obtain ⟨av, cv, rfl, -⟩ := hvv
              have hev := h9.ev (w' := wr) ⟨rfl, rfl, rfl, Nat.le_refl _, fun _ _ _ => rfl⟩
              have hck := check_any ⟨baL x, N, ⟨#[]⟩, ⟨#[]⟩, asks'⟩ _ (by dsimp only; have := HNL0.out; simp [nC] at this; omega) (by dsimp only; have := HLE.out; simp at this; omega) (by dsimp only; exact HSZ.out) wr hev
              obtain ⟨q, hq⟩ : ∃ q, q = evOk ⟨baL x, N, ⟨#[]⟩, ⟨#[]⟩, asks'⟩ := ⟨_, rfl⟩
              rw [← hq] at hck
              have HCK := Lib.hid hck
              have HQ := Lib.hid hq
              obtain ⟨⟨cL, cI⟩, ⟨x0, x1, x2, x3, x4⟩, ⟨e0, e1, e2, e3, e4⟩, ⟨r0, r1, r2, r3, r4⟩, fL, fI, fE, fR⟩ := h9.cells
              clear h9 hev hck hq
              go_wp2_with fail
              refine HCK.out.mono ?_
              rintro e8 w8 ⟨rfl, hb8⟩
              have h8 := HPQ.out.kept hb8
              have HP8 := Lib.hid h8
              clear e0 e1 e2 e3 e4 x0 x1 x2 x3 x4 cL cI fL fI fE r0 r1 r2 r3 r4 fR
              obtain ⟨⟨cL, cI⟩, ⟨x0, x1, x2, x3, x4⟩, ⟨e0, e1, e2, e3, e4⟩, ⟨r0, r1, r2, r3, r4⟩, fL, fI, fE, fR⟩ := h8.cells
              clear h8 hb8 HCK
              cases q with
              | false =>
                obtain rfl : P = none := by rw [HPE.out]; unfold pEnd; rw [if_neg]; rw [← HQ.out]; simp
                have b9 := HP8.out.below
                go_wp2_with fail
                refine bodyPost_ret (v := .tuple #[EVal ⟨#[]⟩ (.slice none 0 0) ⟨#[]⟩ ⟨#[]⟩ (.slice none 0 0), .int .i64 3]) ?_ rfl ⟨rfl, ?_⟩
                · rw [results_cell_tmp rfl]
                  go_simp
                · exact (((((b9.setCell (Nat.le_refl _) _).setCell (Nat.le_refl _) _).setCell (Nat.le_refl _) _).setCell (Nat.le_refl _) _).setCell (Nat.le_refl _) _)
              | true =>
                obtain rfl : P = some ⟨baL x, N, ⟨#[]⟩, ⟨#[]⟩, asks'⟩ := by rw [HPE.out]; unfold pEnd; rw [if_pos ⟨rfl, rfl, HQ.out.symm⟩]
                have b9 := HP8.out.below
                go_wp2_with fail
                refine bodyPost_ret (v := .tuple #[EVal (baL x) (.slice an j cn) ⟨#[]⟩ ⟨#[]⟩ (.slice ga asks'.length gc), .int .i64 0]) ?_ rfl ⟨⟨_, rfl, HP8.out.ev (store5 HP8.out.hR _ _ _ _ _)⟩, ?_⟩
                · rw [results_cell_tmp rfl]
                  go_simp
                · exact (((((b9.setCell (Nat.le_refl _) _).setCell (Nat.le_refl _) _).setCell (Nat.le_refl _) _).setCell (Nat.le_refl _) _).setCell (Nat.le_refl _) _)
            · obtain rfl : P = none := by rw [HPE.out]; unfold pEnd; rw [if_neg]; simp [hw0]
              have h9 := HPQ.out
              obtain ⟨⟨cL, cI⟩, ⟨x0, x1, x2, x3, x4⟩, ⟨e0, e1, e2, e3, e4⟩, ⟨r0, r1, r2, r3, r4⟩, fL, fI, fE, fR⟩ := h9.cells
              have hvv := h9.hv
              obtain ⟨av, cv, rfl, -⟩ := hvv
              have b9 := h9.below
              have hpos : 0 < ws'.length := List.length_pos_iff.2 hw0
              have hpos' : (0 : Int) < (ws'.length : Int) := by omega
              clear h9
              go_wp2_with fail
              refine bodyPost_ret (v := .tuple #[EVal ⟨#[]⟩ (.slice none 0 0) ⟨#[]⟩ ⟨#[]⟩ (.slice none 0 0), .int .i64 3]) ?_ rfl ⟨rfl, ?_⟩
              · rw [results_cell_tmp rfl]
                go_simp
              · exact (((((b9.setCell (Nat.le_refl _) _).setCell (Nat.le_refl _) _).setCell (Nat.le_refl _) _).setCell (Nat.le_refl _) _).setCell (Nat.le_refl _) _)
      have a1 : ¬ (s.least : Int) < (s.most : Int) := by omega
      rcases HONE.out with ⟨hname, hdata, hasks⟩ | ⟨hname, hdata, hasks⟩ | ⟨hname, hdata, hasks⟩ | ⟨hname, hdata, hasks⟩
      · obtain rfl : is0 = true := HIS.out (.inl hname)
        cases hyr : ws.drop j with
        | nil =>
          have HYR := Lib.hid hyr
          have HPA : Hid (P = pAsks s (baL x) N ⟨#[]⟩ ⟨#[]⟩ [] false ([])) := Lib.hid (by rw [HPNM.out]; unfold pName pData; rw [hname, hdata]; rw [hyr]; rfl)
          have HLW : Hid ((([] : List (List UInt8))).length + ([] : List (Int × Int)).length ≤ 90000) := Lib.hid (by have e := HDL.out; clear e; simp)
          have HYW : Hid (∀ y, y ∈ ([] : List (List UInt8)) → y.length ≤ 90000) := Lib.hid (by have e := HDY.out; exact fun y hy => by cases hy)
          have HSZ := HSZ0
          have hpv := HPS.out.hv
          rw [hyr] at hpv
          have hps2 := HPS.out
          rw [hyr] at hps2
          have HT := Lib.hid (take_none L (X + 1) true _ L wo HPS.out.hI HPS.out.hL hpv)
          clear hyr hpv
          go_wp2_with fail
          refine HT.out.mono ?_
          rintro e6 w4 ⟨rfl, hw4⟩
          have hp2 := hps2.setI false
          rw [hw4] at hp2
          have HP2 := Lib.hid (hp2.name ⟨#[]⟩)
          clear hps2 hw4 HT e0 e1 e2 e3 e4 x0 x1 x2 x3 x4 cL cI fL fI fE r0 r1 r2 r3 r4 fR
          obtain ⟨⟨cL, cI⟩, ⟨x0, x1, x2, x3, x4⟩, ⟨e0, e1, e2, e3, e4⟩, ⟨r0, r1, r2, r3, r4⟩, fL, fI, fE, fR⟩ := hp2.cells
          have z4 := hp2.o7
          clear hp2
          go_wp2_with fail
          go_loopw [] (fun wr => ∃ (v va : Value) (asks' : List (Int × Int)) (is' : Bool) (ws' : List (List UInt8)), PS w w.heap.size L X (X + 1) (X + 1 + 1) B2 v (.slice an j cn) va s is' ws' (baL x) ⟨#[]⟩ ⟨#[]⟩ N asks' wr ∧ P = pAsks s (baL x) N ⟨#[]⟩ ⟨#[]⟩ asks' is' ws' ∧ ws'.length + asks'.length ≤ 90000 ∧ ∀ y, y ∈ ws' → y.length ≤ 90000) (fun wr => lenAt wr L 0)
          case atStart => exact ⟨_, _, [], _, _, HP2.out, HPA.out, HLW.out, HYW.out⟩
          case round =>
            obtain ⟨v5, va5, asks', is', ws', hps5, hpa5, hle5, hyw5⟩ := hrel
            clear e0 e1 e2 e3 e4 x0 x1 x2 x3 x4 cL cI fL fI fE r0 r1 r2 r3 r4 fR
            have HPQ := Lib.hid hps5
            have HLE := Lib.hid hle5
            have hpe : P = pEnd (baL x) N ⟨#[]⟩ ⟨#[]⟩ asks' is' ws' := by rw [hpa5]; unfold pAsks; rw [hasks]; rfl
            have HPE := Lib.hid hpe
            clear hpe hpa5 hps5 hle5 hyw5
            cases is' with
            | false =>
              obtain rfl : P = none := by rw [HPE.out]; unfold pEnd; rw [if_neg]; simp
              have h9 := HPQ.out
              obtain ⟨⟨cL, cI⟩, ⟨x0, x1, x2, x3, x4⟩, ⟨e0, e1, e2, e3, e4⟩, ⟨r0, r1, r2, r3, r4⟩, fL, fI, fE, fR⟩ := h9.cells
              have hvv := h9.hv
              obtain ⟨av, cv, rfl, -⟩ := hvv
              have b9 := h9.below
              clear h9
              go_wp2_with fail
              refine bodyPost_ret (v := .tuple #[EVal ⟨#[]⟩ (.slice none 0 0) ⟨#[]⟩ ⟨#[]⟩ (.slice none 0 0), .int .i64 3]) ?_ rfl ⟨rfl, ?_⟩
              · rw [results_cell_tmp rfl]
                go_simp
              · exact (((((b9.setCell (Nat.le_refl _) _).setCell (Nat.le_refl _) _).setCell (Nat.le_refl _) _).setCell (Nat.le_refl _) _).setCell (Nat.le_refl _) _)
            | true =>
              by_cases hw0 : ws' = []
              · subst hw0
                obtain ⟨ga, gc, hva, -⟩ := ask_at HPQ.out.ha
                subst hva
                have h9 := HPQ.out
                have hvv := h9.hv
                obtain ⟨av, cv, rfl, -⟩ := hvv
                have hev := h9.ev (w' := wr) ⟨rfl, rfl, rfl, Nat.le_refl _, fun _ _ _ => rfl⟩
                have hck := check_any ⟨baL x, N, ⟨#[]⟩, ⟨#[]⟩, asks'⟩ _ (by dsimp only; have := HNL0.out; simp [nC] at this; omega) (by dsimp only; have := HLE.out; simp at this; omega) (by dsimp only; exact HSZ.out) wr hev
                obtain ⟨q, hq⟩ : ∃ q, q = evOk ⟨baL x, N, ⟨#[]⟩, ⟨#[]⟩, asks'⟩ := ⟨_, rfl⟩
                rw [← hq] at hck
                have HCK := Lib.hid hck
                have HQ := Lib.hid hq
                obtain ⟨⟨cL, cI⟩, ⟨x0, x1, x2, x3, x4⟩, ⟨e0, e1, e2, e3, e4⟩, ⟨r0, r1, r2, r3, r4⟩, fL, fI, fE, fR⟩ := h9.cells
                clear h9 hev hck hq
                go_wp2_with fail
                refine HCK.out.mono ?_
                rintro e8 w8 ⟨rfl, hb8⟩
                have h8 := HPQ.out.kept hb8
                have HP8 := Lib.hid h8
                clear e0 e1 e2 e3 e4 x0 x1 x2 x3 x4 cL cI fL fI fE r0 r1 r2 r3 r4 fR
                obtain ⟨⟨cL, cI⟩, ⟨x0, x1, x2, x3, x4⟩, ⟨e0, e1, e2, e3, e4⟩, ⟨r0, r1, r2, r3, r4⟩, fL, fI, fE, fR⟩ := h8.cells
                clear h8 hb8 HCK
                cases q with
                | false =>
                  obtain rfl : P = none := by rw [HPE.out]; unfold pEnd; rw [if_neg]; rw [← HQ.out]; simp
                  have b9 := HP8.out.below
                  go_wp2_with fail
                  refine bodyPost_ret (v := .tuple #[EVal ⟨#[]⟩ (.slice none 0 0) ⟨#[]⟩ ⟨#[]⟩ (.slice none 0 0), .int .i64 3]) ?_ rfl ⟨rfl, ?_⟩
                  · rw [results_cell_tmp rfl]
                    go_simp
                  · exact (((((b9.setCell (Nat.le_refl _) _).setCell (Nat.le_refl _) _).setCell (Nat.le_refl _) _).setCell (Nat.le_refl _) _).setCell (Nat.le_refl _) _)
                | true =>
                  obtain rfl : P = some ⟨baL x, N, ⟨#[]⟩, ⟨#[]⟩, asks'⟩ := by rw [HPE.out]; unfold pEnd; rw [if_pos ⟨rfl, rfl, HQ.out.symm⟩]
                  have b9 := HP8.out.below
                  go_wp2_with fail
                  refine bodyPost_ret (v := .tuple #[EVal (baL x) (.slice an j cn) ⟨#[]⟩ ⟨#[]⟩ (.slice ga asks'.length gc), .int .i64 0]) ?_ rfl ⟨⟨_, rfl, HP8.out.ev (store5 HP8.out.hR _ _ _ _ _)⟩, ?_⟩
                  · rw [results_cell_tmp rfl]
                    go_simp
                  · exact (((((b9.setCell (Nat.le_refl _) _).setCell (Nat.le_refl _) _).setCell (Nat.le_refl _) _).setCell (Nat.le_refl _) _).setCell (Nat.le_refl _) _)
              · obtain rfl : P = none := by rw [HPE.out]; unfold pEnd; rw [if_neg]; simp [hw0]
                have h9 := HPQ.out
                obtain ⟨⟨cL, cI⟩, ⟨x0, x1, x2, x3, x4⟩, ⟨e0, e1, e2, e3, e4⟩, ⟨r0, r1, r2, r3, r4⟩, fL, fI, fE, fR⟩ := h9.cells
                have hvv := h9.hv
                obtain ⟨av, cv, rfl, -⟩ := hvv
                have b9 := h9.below
                have hpos : 0 < ws'.length := List.length_pos_iff.2 hw0
                have hpos' : (0 : Int) < (ws'.length : Int) := by omega
                clear h9
                go_wp2_with fail
                refine bodyPost_ret (v := .tuple #[EVal ⟨#[]⟩ (.slice none 0 0) ⟨#[]⟩ ⟨#[]⟩ (.slice none 0 0), .int .i64 3]) ?_ rfl ⟨rfl, ?_⟩
                · rw [results_cell_tmp rfl]
                  go_simp
                · exact (((((b9.setCell (Nat.le_refl _) _).setCell (Nat.le_refl _) _).setCell (Nat.le_refl _) _).setCell (Nat.le_refl _) _).setCell (Nat.le_refl _) _)
        | cons y r =>
          have HYR := Lib.hid hyr
          have HPA : Hid (P = pAsks s (baL x) N ⟨y.toArray⟩ ⟨#[]⟩ [] true (r)) := Lib.hid (by rw [HPNM.out]; unfold pName pData; rw [hname, hdata]; rw [hyr]; rfl)
          have HLW : Hid ((r).length + ([] : List (Int × Int)).length ≤ 90000) := Lib.hid (by have e := HDL.out; rw [HYR.out] at e; simp at e ⊢; omega)
          have HYW : Hid (∀ y, y ∈ r → y.length ≤ 90000) := Lib.hid (by have e := HDY.out; rw [HYR.out] at e; exact fun y hy => e y (List.mem_cons_of_mem _ hy))
          have HSZ : Hid ((ByteArray.mk y.toArray).size ≤ 100000) := Lib.hid (by
            have e := HDY.out y (by rw [hyr]; exact List.mem_cons_self ..)
            rw [sz_list]
            simpa using Nat.le_trans e (by decide))
          have hpv := HPS.out.hv
          rw [hyr] at hpv
          have HT := Lib.hid (take_pop L (X + 1) _ L y r wo HPS.out.hL hpv)
          clear hyr hpv
          go_wp2_with fail
          refine HT.out.mono ?_
          rintro e6 w4 ⟨rfl, v2, hv2, hw4⟩
          have hp2 := HPS.out.setL hv2
          rw [hw4] at hp2
          have HP2 := Lib.hid (hp2.name ⟨y.toArray⟩)
          clear hw4 hv2 HT e0 e1 e2 e3 e4 x0 x1 x2 x3 x4 cL cI fL fI fE r0 r1 r2 r3 r4 fR
          obtain ⟨⟨cL, cI⟩, ⟨x0, x1, x2, x3, x4⟩, ⟨e0, e1, e2, e3, e4⟩, ⟨r0, r1, r2, r3, r4⟩, fL, fI, fE, fR⟩ := hp2.cells
          have z4 := hp2.o7
          clear hp2
          go_wp2_with fail
          go_loopw [] (fun wr => ∃ (v va : Value) (asks' : List (Int × Int)) (is' : Bool) (ws' : List (List UInt8)), PS w w.heap.size L X (X + 1) (X + 1 + 1) B2 v (.slice an j cn) va s is' ws' (baL x) ⟨y.toArray⟩ ⟨#[]⟩ N asks' wr ∧ P = pAsks s (baL x) N ⟨y.toArray⟩ ⟨#[]⟩ asks' is' ws' ∧ ws'.length + asks'.length ≤ 90000 ∧ ∀ y, y ∈ ws' → y.length ≤ 90000) (fun wr => lenAt wr L 0)
          case atStart => exact ⟨_, _, [], _, _, HP2.out, HPA.out, HLW.out, HYW.out⟩
          case round =>
            obtain ⟨v5, va5, asks', is', ws', hps5, hpa5, hle5, hyw5⟩ := hrel
            clear e0 e1 e2 e3 e4 x0 x1 x2 x3 x4 cL cI fL fI fE r0 r1 r2 r3 r4 fR
            have HPQ := Lib.hid hps5
            have HLE := Lib.hid hle5
            have hpe : P = pEnd (baL x) N ⟨y.toArray⟩ ⟨#[]⟩ asks' is' ws' := by rw [hpa5]; unfold pAsks; rw [hasks]; rfl
            have HPE := Lib.hid hpe
            clear hpe hpa5 hps5 hle5 hyw5
            cases is' with
            | false =>
              obtain rfl : P = none := by rw [HPE.out]; unfold pEnd; rw [if_neg]; simp
              have h9 := HPQ.out
              obtain ⟨⟨cL, cI⟩, ⟨x0, x1, x2, x3, x4⟩, ⟨e0, e1, e2, e3, e4⟩, ⟨r0, r1, r2, r3, r4⟩, fL, fI, fE, fR⟩ := h9.cells
              have hvv := h9.hv
              obtain ⟨av, cv, rfl, -⟩ := hvv
              have b9 := h9.below
              clear h9
              go_wp2_with fail
              refine bodyPost_ret (v := .tuple #[EVal ⟨#[]⟩ (.slice none 0 0) ⟨#[]⟩ ⟨#[]⟩ (.slice none 0 0), .int .i64 3]) ?_ rfl ⟨rfl, ?_⟩
              · rw [results_cell_tmp rfl]
                go_simp
              · exact (((((b9.setCell (Nat.le_refl _) _).setCell (Nat.le_refl _) _).setCell (Nat.le_refl _) _).setCell (Nat.le_refl _) _).setCell (Nat.le_refl _) _)
            | true =>
              by_cases hw0 : ws' = []
              · subst hw0
                obtain ⟨ga, gc, hva, -⟩ := ask_at HPQ.out.ha
                subst hva
                have h9 := HPQ.out
                have hvv := h9.hv
                obtain ⟨av, cv, rfl, -⟩ := hvv
                have hev := h9.ev (w' := wr) ⟨rfl, rfl, rfl, Nat.le_refl _, fun _ _ _ => rfl⟩
                have hck := check_any ⟨baL x, N, ⟨y.toArray⟩, ⟨#[]⟩, asks'⟩ _ (by dsimp only; have := HNL0.out; simp [nC] at this; omega) (by dsimp only; have := HLE.out; simp at this; omega) (by dsimp only; exact HSZ.out) wr hev
                obtain ⟨q, hq⟩ : ∃ q, q = evOk ⟨baL x, N, ⟨y.toArray⟩, ⟨#[]⟩, asks'⟩ := ⟨_, rfl⟩
                rw [← hq] at hck
                have HCK := Lib.hid hck
                have HQ := Lib.hid hq
                obtain ⟨⟨cL, cI⟩, ⟨x0, x1, x2, x3, x4⟩, ⟨e0, e1, e2, e3, e4⟩, ⟨r0, r1, r2, r3, r4⟩, fL, fI, fE, fR⟩ := h9.cells
                clear h9 hev hck hq
                go_wp2_with fail
                refine HCK.out.mono ?_
                rintro e8 w8 ⟨rfl, hb8⟩
                have h8 := HPQ.out.kept hb8
                have HP8 := Lib.hid h8
                clear e0 e1 e2 e3 e4 x0 x1 x2 x3 x4 cL cI fL fI fE r0 r1 r2 r3 r4 fR
                obtain ⟨⟨cL, cI⟩, ⟨x0, x1, x2, x3, x4⟩, ⟨e0, e1, e2, e3, e4⟩, ⟨r0, r1, r2, r3, r4⟩, fL, fI, fE, fR⟩ := h8.cells
                clear h8 hb8 HCK
                cases q with
                | false =>
                  obtain rfl : P = none := by rw [HPE.out]; unfold pEnd; rw [if_neg]; rw [← HQ.out]; simp
                  have b9 := HP8.out.below
                  go_wp2_with fail
                  refine bodyPost_ret (v := .tuple #[EVal ⟨#[]⟩ (.slice none 0 0) ⟨#[]⟩ ⟨#[]⟩ (.slice none 0 0), .int .i64 3]) ?_ rfl ⟨rfl, ?_⟩
                  · rw [results_cell_tmp rfl]
                    go_simp
                  · exact (((((b9.setCell (Nat.le_refl _) _).setCell (Nat.le_refl _) _).setCell (Nat.le_refl _) _).setCell (Nat.le_refl _) _).setCell (Nat.le_refl _) _)
                | true =>
                  obtain rfl : P = some ⟨baL x, N, ⟨y.toArray⟩, ⟨#[]⟩, asks'⟩ := by rw [HPE.out]; unfold pEnd; rw [if_pos ⟨rfl, rfl, HQ.out.symm⟩]
                  have b9 := HP8.out.below
                  go_wp2_with fail
                  refine bodyPost_ret (v := .tuple #[EVal (baL x) (.slice an j cn) ⟨y.toArray⟩ ⟨#[]⟩ (.slice ga asks'.length gc), .int .i64 0]) ?_ rfl ⟨⟨_, rfl, HP8.out.ev (store5 HP8.out.hR _ _ _ _ _)⟩, ?_⟩
                  · rw [results_cell_tmp rfl]
                    go_simp
                  · exact (((((b9.setCell (Nat.le_refl _) _).setCell (Nat.le_refl _) _).setCell (Nat.le_refl _) _).setCell (Nat.le_refl _) _).setCell (Nat.le_refl _) _)
              · obtain rfl : P = none := by rw [HPE.out]; unfold pEnd; rw [if_neg]; simp [hw0]
                have h9 := HPQ.out
                obtain ⟨⟨cL, cI⟩, ⟨x0, x1, x2, x3, x4⟩, ⟨e0, e1, e2, e3, e4⟩, ⟨r0, r1, r2, r3, r4⟩, fL, fI, fE, fR⟩ := h9.cells
                have hvv := h9.hv
                obtain ⟨av, cv, rfl, -⟩ := hvv
                have b9 := h9.below
                have hpos : 0 < ws'.length := List.length_pos_iff.2 hw0
                have hpos' : (0 : Int) < (ws'.length : Int) := by omega
                clear h9
                go_wp2_with fail
                refine bodyPost_ret (v := .tuple #[EVal ⟨#[]⟩ (.slice none 0 0) ⟨#[]⟩ ⟨#[]⟩ (.slice none 0 0), .int .i64 3]) ?_ rfl ⟨rfl, ?_⟩
                · rw [results_cell_tmp rfl]
                  go_simp
                · exact (((((b9.setCell (Nat.le_refl _) _).setCell (Nat.le_refl _) _).setCell (Nat.le_refl _) _).setCell (Nat.le_refl _) _).setCell (Nat.le_refl _) _)
      · obtain rfl : is0 = true := HIS.out (.inr (.inl hdata))
        have HT := Lib.hid (take_off L (X + 1) true wo HPS.out.hI)
        go_wp2_with fail
        refine HT.out.mono ?_
        rintro e6 w4 ⟨rfl, hw4⟩
        have hp2 := HPS.out.setI true
        rw [hw4] at hp2
        have HP2 := Lib.hid (hp2.name ⟨#[]⟩)
        clear e0 e1 e2 e3 e4 x0 x1 x2 x3 x4 cL cI fL fI fE r0 r1 r2 r3 r4 fR
        obtain ⟨⟨cL, cI⟩, ⟨x0, x1, x2, x3, x4⟩, ⟨e0, e1, e2, e3, e4⟩, ⟨r0, r1, r2, r3, r4⟩, fL, fI, fE, fR⟩ := hp2.cells
        have z4 := hp2.o7
        clear hw4 HT
        clear hp2
        go_wp2_with fail
        cases hyr : ws.drop j with
        | nil =>
          have HYR := Lib.hid hyr
          have HPA : Hid (P = pAsks s (baL x) N ⟨#[]⟩ ⟨#[]⟩ [] false ([])) := Lib.hid (by rw [HPNM.out]; unfold pName pData; rw [hname, hdata]; rw [hyr]; rfl)
          have HLW : Hid ((([] : List (List UInt8))).length + ([] : List (Int × Int)).length ≤ 90000) := Lib.hid (by have e := HDL.out; clear e; simp)
          have HYW : Hid (∀ y, y ∈ ([] : List (List UInt8)) → y.length ≤ 90000) := Lib.hid (by have e := HDY.out; exact fun y hy => by cases hy)
          have HSZ := HSZ0
          have hpv := HP2.out.hv
          rw [hyr] at hpv
          have hps2 := HP2.out
          rw [hyr] at hps2
          refine (take_none L (X + 1) true _ L _ HP2.out.hI HP2.out.hL hpv).mono ?_
          rintro e7 w7 ⟨rfl, hw7⟩
          have hp7 := hps2.setI false
          rw [hw7] at hp7
          have HP7 := Lib.hid ((hp7.data ⟨#[]⟩).setI false)
          clear hyr hpv hps2 hw7 e0 e1 e2 e3 e4 x0 x1 x2 x3 x4 cL cI fL fI fE r0 r1 r2 r3 r4 fR
          obtain ⟨⟨cL, cI⟩, ⟨x0, x1, x2, x3, x4⟩, ⟨e0, e1, e2, e3, e4⟩, ⟨r0, r1, r2, r3, r4⟩, fL, fI, fE, fR⟩ := hp7.cells
          have z7 := hp7.o7
          clear hp7
          go_wp2_with fail
          go_loopw [] (fun wr => ∃ (v va : Value) (asks' : List (Int × Int)) (is' : Bool) (ws' : List (List UInt8)), PS w w.heap.size L X (X + 1) (X + 1 + 1) B2 v (.slice an j cn) va s is' ws' (baL x) ⟨#[]⟩ ⟨#[]⟩ N asks' wr ∧ P = pAsks s (baL x) N ⟨#[]⟩ ⟨#[]⟩ asks' is' ws' ∧ ws'.length + asks'.length ≤ 90000 ∧ ∀ y, y ∈ ws' → y.length ≤ 90000) (fun wr => lenAt wr L 0)
          case atStart => exact ⟨_, _, [], _, _, HP7.out, HPA.out, HLW.out, HYW.out⟩
          case round =>
            obtain ⟨v5, va5, asks', is', ws', hps5, hpa5, hle5, hyw5⟩ := hrel
            clear e0 e1 e2 e3 e4 x0 x1 x2 x3 x4 cL cI fL fI fE r0 r1 r2 r3 r4 fR
            have HPQ := Lib.hid hps5
            have HLE := Lib.hid hle5
            have hpe : P = pEnd (baL x) N ⟨#[]⟩ ⟨#[]⟩ asks' is' ws' := by rw [hpa5]; unfold pAsks; rw [hasks]; rfl
            have HPE := Lib.hid hpe
            clear hpe hpa5 hps5 hle5 hyw5
            cases is' with
            | false =>
              obtain rfl : P = none := by rw [HPE.out]; unfold pEnd; rw [if_neg]; simp
              have h9 := HPQ.out
              obtain ⟨⟨cL, cI⟩, ⟨x0, x1, x2, x3, x4⟩, ⟨e0, e1, e2, e3, e4⟩, ⟨r0, r1, r2, r3, r4⟩, fL, fI, fE, fR⟩ := h9.cells
              have hvv := h9.hv
              obtain ⟨av, cv, rfl, -⟩ := hvv
              have b9 := h9.below
              clear h9
              go_wp2_with fail
              refine bodyPost_ret (v := .tuple #[EVal ⟨#[]⟩ (.slice none 0 0) ⟨#[]⟩ ⟨#[]⟩ (.slice none 0 0), .int .i64 3]) ?_ rfl ⟨rfl, ?_⟩
              · rw [results_cell_tmp rfl]
                go_simp
              · exact (((((b9.setCell (Nat.le_refl _) _).setCell (Nat.le_refl _) _).setCell (Nat.le_refl _) _).setCell (Nat.le_refl _) _).setCell (Nat.le_refl _) _)
            | true =>
              by_cases hw0 : ws' = []
              · subst hw0
                obtain ⟨ga, gc, hva, -⟩ := ask_at HPQ.out.ha
                subst hva
                have h9 := HPQ.out
                have hvv := h9.hv
                obtain ⟨av, cv, rfl, -⟩ := hvv
                have hev := h9.ev (w' := wr) ⟨rfl, rfl, rfl, Nat.le_refl _, fun _ _ _ => rfl⟩
                have hck := check_any ⟨baL x, N, ⟨#[]⟩, ⟨#[]⟩, asks'⟩ _ (by dsimp only; have := HNL0.out; simp [nC] at this; omega) (by dsimp only; have := HLE.out; simp at this; omega) (by dsimp only; exact HSZ.out) wr hev
                obtain ⟨q, hq⟩ : ∃ q, q = evOk ⟨baL x, N, ⟨#[]⟩, ⟨#[]⟩, asks'⟩ := ⟨_, rfl⟩
                rw [← hq] at hck
                have HCK := Lib.hid hck
                have HQ := Lib.hid hq
                obtain ⟨⟨cL, cI⟩, ⟨x0, x1, x2, x3, x4⟩, ⟨e0, e1, e2, e3, e4⟩, ⟨r0, r1, r2, r3, r4⟩, fL, fI, fE, fR⟩ := h9.cells
                clear h9 hev hck hq
                go_wp2_with fail
                refine HCK.out.mono ?_
                rintro e8 w8 ⟨rfl, hb8⟩
                have h8 := HPQ.out.kept hb8
                have HP8 := Lib.hid h8
                clear e0 e1 e2 e3 e4 x0 x1 x2 x3 x4 cL cI fL fI fE r0 r1 r2 r3 r4 fR
                obtain ⟨⟨cL, cI⟩, ⟨x0, x1, x2, x3, x4⟩, ⟨e0, e1, e2, e3, e4⟩, ⟨r0, r1, r2, r3, r4⟩, fL, fI, fE, fR⟩ := h8.cells
                clear h8 hb8 HCK
                cases q with
                | false =>
                  obtain rfl : P = none := by rw [HPE.out]; unfold pEnd; rw [if_neg]; rw [← HQ.out]; simp
                  have b9 := HP8.out.below
                  go_wp2_with fail
                  refine bodyPost_ret (v := .tuple #[EVal ⟨#[]⟩ (.slice none 0 0) ⟨#[]⟩ ⟨#[]⟩ (.slice none 0 0), .int .i64 3]) ?_ rfl ⟨rfl, ?_⟩
                  · rw [results_cell_tmp rfl]
                    go_simp
                  · exact (((((b9.setCell (Nat.le_refl _) _).setCell (Nat.le_refl _) _).setCell (Nat.le_refl _) _).setCell (Nat.le_refl _) _).setCell (Nat.le_refl _) _)
                | true =>
                  obtain rfl : P = some ⟨baL x, N, ⟨#[]⟩, ⟨#[]⟩, asks'⟩ := by rw [HPE.out]; unfold pEnd; rw [if_pos ⟨rfl, rfl, HQ.out.symm⟩]
                  have b9 := HP8.out.below
                  go_wp2_with fail
                  refine bodyPost_ret (v := .tuple #[EVal (baL x) (.slice an j cn) ⟨#[]⟩ ⟨#[]⟩ (.slice ga asks'.length gc), .int .i64 0]) ?_ rfl ⟨⟨_, rfl, HP8.out.ev (store5 HP8.out.hR _ _ _ _ _)⟩, ?_⟩
                  · rw [results_cell_tmp rfl]
                    go_simp
                  · exact (((((b9.setCell (Nat.le_refl _) _).setCell (Nat.le_refl _) _).setCell (Nat.le_refl _) _).setCell (Nat.le_refl _) _).setCell (Nat.le_refl _) _)
              · obtain rfl : P = none := by rw [HPE.out]; unfold pEnd; rw [if_neg]; simp [hw0]
                have h9 := HPQ.out
                obtain ⟨⟨cL, cI⟩, ⟨x0, x1, x2, x3, x4⟩, ⟨e0, e1, e2, e3, e4⟩, ⟨r0, r1, r2, r3, r4⟩, fL, fI, fE, fR⟩ := h9.cells
                have hvv := h9.hv
                obtain ⟨av, cv, rfl, -⟩ := hvv
                have b9 := h9.below
                have hpos : 0 < ws'.length := List.length_pos_iff.2 hw0
                have hpos' : (0 : Int) < (ws'.length : Int) := by omega
                clear h9
                go_wp2_with fail
                refine bodyPost_ret (v := .tuple #[EVal ⟨#[]⟩ (.slice none 0 0) ⟨#[]⟩ ⟨#[]⟩ (.slice none 0 0), .int .i64 3]) ?_ rfl ⟨rfl, ?_⟩
                · rw [results_cell_tmp rfl]
                  go_simp
                · exact (((((b9.setCell (Nat.le_refl _) _).setCell (Nat.le_refl _) _).setCell (Nat.le_refl _) _).setCell (Nat.le_refl _) _).setCell (Nat.le_refl _) _)
        | cons y r =>
          have HYR := Lib.hid hyr
          have HLW : Hid ((r).length + ([] : List (Int × Int)).length ≤ 90000) := Lib.hid (by have e := HDL.out; rw [HYR.out] at e; simp at e ⊢; omega)
          have HYW : Hid (∀ y, y ∈ r → y.length ≤ 90000) := Lib.hid (by have e := HDY.out; rw [HYR.out] at e; exact fun y hy => e y (List.mem_cons_of_mem _ hy))
          have HSZ := HSZ0
          have hyne : y ≠ [] := HWN.out y (by rw [hyr]; exact List.mem_cons_self ..)
          have hye : (ByteArray.mk y.toArray).data.toList ≠ [] := by simpa using hyne
          obtain ⟨t1, t2, t3⟩ := tl_ne hye
          have hpv := HP2.out.hv
          rw [hyr] at hpv
          refine (take_pop L (X + 1) _ L y r _ HP2.out.hL hpv).mono ?_
          rintro e7 w7 ⟨rfl, v7, hv7, hw7⟩
          have hp7 := HP2.out.setL hv7
          rw [hw7] at hp7
          have HP7 := Lib.hid ((hp7.data ⟨y.toArray⟩).setI true)
          clear hpv hv7 hw7 e0 e1 e2 e3 e4 x0 x1 x2 x3 x4 cL cI fL fI fE r0 r1 r2 r3 r4 fR
          obtain ⟨⟨cL, cI⟩, ⟨x0, x1, x2, x3, x4⟩, ⟨e0, e1, e2, e3, e4⟩, ⟨r0, r1, r2, r3, r4⟩, fL, fI, fE, fR⟩ := hp7.cells
          have z7 := hp7.o7
          clear hp7 hye
          have hyi : y.isEmpty = false := by cases y with
            | nil => exact absurd rfl hyne
            | cons a b => rfl
          by_cases h45 : y = [45]
          · have q1 : ((ByteArray.mk y.toArray).toList == [45]) = true := by rw [str_tl]; simpa using h45
            have q3 : (y == [45]) = true := by simpa using h45
            have HPA : Hid (P = pAsks s (baL x) N ⟨#[]⟩ ⟨#[]⟩ [] true (r)) := Lib.hid (by rw [HPNM.out]; unfold pName pData; rw [hname, hdata]; rw [hyr]; dsimp only; rw [if_pos h45, hyi]; rfl)
            have HP8 := Lib.hid (HP7.out.data ⟨#[]⟩)
            clear hyr hyne h45 HYR t1 t2 t3
            go_wp2_with fail
            go_loopw [] (fun wr => ∃ (v va : Value) (asks' : List (Int × Int)) (is' : Bool) (ws' : List (List UInt8)), PS w w.heap.size L X (X + 1) (X + 1 + 1) B2 v (.slice an j cn) va s is' ws' (baL x) ⟨#[]⟩ ⟨#[]⟩ N asks' wr ∧ P = pAsks s (baL x) N ⟨#[]⟩ ⟨#[]⟩ asks' is' ws' ∧ ws'.length + asks'.length ≤ 90000 ∧ ∀ y, y ∈ ws' → y.length ≤ 90000) (fun wr => lenAt wr L 0)
            case atStart => exact ⟨_, _, [], _, _, HP8.out, HPA.out, HLW.out, HYW.out⟩
            case round =>
              obtain ⟨v5, va5, asks', is', ws', hps5, hpa5, hle5, hyw5⟩ := hrel
              clear e0 e1 e2 e3 e4 x0 x1 x2 x3 x4 cL cI fL fI fE r0 r1 r2 r3 r4 fR
              have HPQ := Lib.hid hps5
              have HLE := Lib.hid hle5
              have hpe : P = pEnd (baL x) N ⟨#[]⟩ ⟨#[]⟩ asks' is' ws' := by rw [hpa5]; unfold pAsks; rw [hasks]; rfl
              have HPE := Lib.hid hpe
              clear hpe hpa5 hps5 hle5 hyw5
              cases is' with
              | false =>
                obtain rfl : P = none := by rw [HPE.out]; unfold pEnd; rw [if_neg]; simp
                have h9 := HPQ.out
                obtain ⟨⟨cL, cI⟩, ⟨x0, x1, x2, x3, x4⟩, ⟨e0, e1, e2, e3, e4⟩, ⟨r0, r1, r2, r3, r4⟩, fL, fI, fE, fR⟩ := h9.cells
                have hvv := h9.hv
                obtain ⟨av, cv, rfl, -⟩ := hvv
                have b9 := h9.below
                clear h9
                go_wp2_with fail
                refine bodyPost_ret (v := .tuple #[EVal ⟨#[]⟩ (.slice none 0 0) ⟨#[]⟩ ⟨#[]⟩ (.slice none 0 0), .int .i64 3]) ?_ rfl ⟨rfl, ?_⟩
                · rw [results_cell_tmp rfl]
                  go_simp
                · exact (((((b9.setCell (Nat.le_refl _) _).setCell (Nat.le_refl _) _).setCell (Nat.le_refl _) _).setCell (Nat.le_refl _) _).setCell (Nat.le_refl _) _)
              | true =>
                by_cases hw0 : ws' = []
                · subst hw0
                  obtain ⟨ga, gc, hva, -⟩ := ask_at HPQ.out.ha
                  subst hva
                  have h9 := HPQ.out
                  have hvv := h9.hv
                  obtain ⟨av, cv, rfl, -⟩ := hvv
                  have hev := h9.ev (w' := wr) ⟨rfl, rfl, rfl, Nat.le_refl _, fun _ _ _ => rfl⟩
                  have hck := check_any ⟨baL x, N, ⟨#[]⟩, ⟨#[]⟩, asks'⟩ _ (by dsimp only; have := HNL0.out; simp [nC] at this; omega) (by dsimp only; have := HLE.out; simp at this; omega) (by dsimp only; exact HSZ.out) wr hev
                  obtain ⟨q, hq⟩ : ∃ q, q = evOk ⟨baL x, N, ⟨#[]⟩, ⟨#[]⟩, asks'⟩ := ⟨_, rfl⟩
                  rw [← hq] at hck
                  have HCK := Lib.hid hck
                  have HQ := Lib.hid hq
                  obtain ⟨⟨cL, cI⟩, ⟨x0, x1, x2, x3, x4⟩, ⟨e0, e1, e2, e3, e4⟩, ⟨r0, r1, r2, r3, r4⟩, fL, fI, fE, fR⟩ := h9.cells
                  clear h9 hev hck hq
                  go_wp2_with fail
                  refine HCK.out.mono ?_
                  rintro e8 w8 ⟨rfl, hb8⟩
                  have h8 := HPQ.out.kept hb8
                  have HP8 := Lib.hid h8
                  clear e0 e1 e2 e3 e4 x0 x1 x2 x3 x4 cL cI fL fI fE r0 r1 r2 r3 r4 fR
                  obtain ⟨⟨cL, cI⟩, ⟨x0, x1, x2, x3, x4⟩, ⟨e0, e1, e2, e3, e4⟩, ⟨r0, r1, r2, r3, r4⟩, fL, fI, fE, fR⟩ := h8.cells
                  clear h8 hb8 HCK
                  cases q with
                  | false =>
                    obtain rfl : P = none := by rw [HPE.out]; unfold pEnd; rw [if_neg]; rw [← HQ.out]; simp
                    have b9 := HP8.out.below
                    go_wp2_with fail
                    refine bodyPost_ret (v := .tuple #[EVal ⟨#[]⟩ (.slice none 0 0) ⟨#[]⟩ ⟨#[]⟩ (.slice none 0 0), .int .i64 3]) ?_ rfl ⟨rfl, ?_⟩
                    · rw [results_cell_tmp rfl]
                      go_simp
                    · exact (((((b9.setCell (Nat.le_refl _) _).setCell (Nat.le_refl _) _).setCell (Nat.le_refl _) _).setCell (Nat.le_refl _) _).setCell (Nat.le_refl _) _)
                  | true =>
                    obtain rfl : P = some ⟨baL x, N, ⟨#[]⟩, ⟨#[]⟩, asks'⟩ := by rw [HPE.out]; unfold pEnd; rw [if_pos ⟨rfl, rfl, HQ.out.symm⟩]
                    have b9 := HP8.out.below
                    go_wp2_with fail
                    refine bodyPost_ret (v := .tuple #[EVal (baL x) (.slice an j cn) ⟨#[]⟩ ⟨#[]⟩ (.slice ga asks'.length gc), .int .i64 0]) ?_ rfl ⟨⟨_, rfl, HP8.out.ev (store5 HP8.out.hR _ _ _ _ _)⟩, ?_⟩
                    · rw [results_cell_tmp rfl]
                      go_simp
                    · exact (((((b9.setCell (Nat.le_refl _) _).setCell (Nat.le_refl _) _).setCell (Nat.le_refl _) _).setCell (Nat.le_refl _) _).setCell (Nat.le_refl _) _)
                · obtain rfl : P = none := by rw [HPE.out]; unfold pEnd; rw [if_neg]; simp [hw0]
                  have h9 := HPQ.out
                  obtain ⟨⟨cL, cI⟩, ⟨x0, x1, x2, x3, x4⟩, ⟨e0, e1, e2, e3, e4⟩, ⟨r0, r1, r2, r3, r4⟩, fL, fI, fE, fR⟩ := h9.cells
                  have hvv := h9.hv
                  obtain ⟨av, cv, rfl, -⟩ := hvv
                  have b9 := h9.below
                  have hpos : 0 < ws'.length := List.length_pos_iff.2 hw0
                  have hpos' : (0 : Int) < (ws'.length : Int) := by omega
                  clear h9
                  go_wp2_with fail
                  refine bodyPost_ret (v := .tuple #[EVal ⟨#[]⟩ (.slice none 0 0) ⟨#[]⟩ ⟨#[]⟩ (.slice none 0 0), .int .i64 3]) ?_ rfl ⟨rfl, ?_⟩
                  · rw [results_cell_tmp rfl]
                    go_simp
                  · exact (((((b9.setCell (Nat.le_refl _) _).setCell (Nat.le_refl _) _).setCell (Nat.le_refl _) _).setCell (Nat.le_refl _) _).setCell (Nat.le_refl _) _)
          · have q1 : ((ByteArray.mk y.toArray).toList == [45]) = false := by rw [str_tl]; simpa using h45
            have q3 : (y == [45]) = false := by simpa using h45
            have HPA : Hid (P = pAsks s (baL x) N ⟨#[]⟩ ⟨y.toArray⟩ [] true (r)) := Lib.hid (by rw [HPNM.out]; unfold pName pData; rw [hname, hdata]; rw [hyr]; dsimp only; rw [if_neg h45, hyi]; rfl)
            clear hyr hyne h45 HYR
            go_wp2_with fail
            clear t1 t2 t3 q1 q3
            go_loopw [] (fun wr => ∃ (v va : Value) (asks' : List (Int × Int)) (is' : Bool) (ws' : List (List UInt8)), PS w w.heap.size L X (X + 1) (X + 1 + 1) B2 v (.slice an j cn) va s is' ws' (baL x) ⟨#[]⟩ ⟨y.toArray⟩ N asks' wr ∧ P = pAsks s (baL x) N ⟨#[]⟩ ⟨y.toArray⟩ asks' is' ws' ∧ ws'.length + asks'.length ≤ 90000 ∧ ∀ y, y ∈ ws' → y.length ≤ 90000) (fun wr => lenAt wr L 0)
            case atStart => exact ⟨_, _, [], _, _, HP7.out, HPA.out, HLW.out, HYW.out⟩
            case round =>
              obtain ⟨v5, va5, asks', is', ws', hps5, hpa5, hle5, hyw5⟩ := hrel
              clear e0 e1 e2 e3 e4 x0 x1 x2 x3 x4 cL cI fL fI fE r0 r1 r2 r3 r4 fR
              have HPQ := Lib.hid hps5
              have HLE := Lib.hid hle5
              have hpe : P = pEnd (baL x) N ⟨#[]⟩ ⟨y.toArray⟩ asks' is' ws' := by rw [hpa5]; unfold pAsks; rw [hasks]; rfl
              have HPE := Lib.hid hpe
              clear hpe hpa5 hps5 hle5 hyw5
              cases is' with
              | false =>
                obtain rfl : P = none := by rw [HPE.out]; unfold pEnd; rw [if_neg]; simp
                have h9 := HPQ.out
                obtain ⟨⟨cL, cI⟩, ⟨x0, x1, x2, x3, x4⟩, ⟨e0, e1, e2, e3, e4⟩, ⟨r0, r1, r2, r3, r4⟩, fL, fI, fE, fR⟩ := h9.cells
                have hvv := h9.hv
                obtain ⟨av, cv, rfl, -⟩ := hvv
                have b9 := h9.below
                clear h9
                go_wp2_with fail
                refine bodyPost_ret (v := .tuple #[EVal ⟨#[]⟩ (.slice none 0 0) ⟨#[]⟩ ⟨#[]⟩ (.slice none 0 0), .int .i64 3]) ?_ rfl ⟨rfl, ?_⟩
                · rw [results_cell_tmp rfl]
                  go_simp
                · exact (((((b9.setCell (Nat.le_refl _) _).setCell (Nat.le_refl _) _).setCell (Nat.le_refl _) _).setCell (Nat.le_refl _) _).setCell (Nat.le_refl _) _)
              | true =>
                by_cases hw0 : ws' = []
                · subst hw0
                  obtain ⟨ga, gc, hva, -⟩ := ask_at HPQ.out.ha
                  subst hva
                  have h9 := HPQ.out
                  have hvv := h9.hv
                  obtain ⟨av, cv, rfl, -⟩ := hvv
                  have hev := h9.ev (w' := wr) ⟨rfl, rfl, rfl, Nat.le_refl _, fun _ _ _ => rfl⟩
                  have hck := check_any ⟨baL x, N, ⟨#[]⟩, ⟨y.toArray⟩, asks'⟩ _ (by dsimp only; have := HNL0.out; simp [nC] at this; omega) (by dsimp only; have := HLE.out; simp at this; omega) (by dsimp only; exact HSZ.out) wr hev
                  obtain ⟨q, hq⟩ : ∃ q, q = evOk ⟨baL x, N, ⟨#[]⟩, ⟨y.toArray⟩, asks'⟩ := ⟨_, rfl⟩
                  rw [← hq] at hck
                  have HCK := Lib.hid hck
                  have HQ := Lib.hid hq
                  obtain ⟨⟨cL, cI⟩, ⟨x0, x1, x2, x3, x4⟩, ⟨e0, e1, e2, e3, e4⟩, ⟨r0, r1, r2, r3, r4⟩, fL, fI, fE, fR⟩ := h9.cells
                  clear h9 hev hck hq
                  go_wp2_with fail
                  refine HCK.out.mono ?_
                  rintro e8 w8 ⟨rfl, hb8⟩
                  have h8 := HPQ.out.kept hb8
                  have HP8 := Lib.hid h8
                  clear e0 e1 e2 e3 e4 x0 x1 x2 x3 x4 cL cI fL fI fE r0 r1 r2 r3 r4 fR
                  obtain ⟨⟨cL, cI⟩, ⟨x0, x1, x2, x3, x4⟩, ⟨e0, e1, e2, e3, e4⟩, ⟨r0, r1, r2, r3, r4⟩, fL, fI, fE, fR⟩ := h8.cells
                  clear h8 hb8 HCK
                  cases q with
                  | false =>
                    obtain rfl : P = none := by rw [HPE.out]; unfold pEnd; rw [if_neg]; rw [← HQ.out]; simp
                    have b9 := HP8.out.below
                    go_wp2_with fail
                    refine bodyPost_ret (v := .tuple #[EVal ⟨#[]⟩ (.slice none 0 0) ⟨#[]⟩ ⟨#[]⟩ (.slice none 0 0), .int .i64 3]) ?_ rfl ⟨rfl, ?_⟩
                    · rw [results_cell_tmp rfl]
                      go_simp
                    · exact (((((b9.setCell (Nat.le_refl _) _).setCell (Nat.le_refl _) _).setCell (Nat.le_refl _) _).setCell (Nat.le_refl _) _).setCell (Nat.le_refl _) _)
                  | true =>
                    obtain rfl : P = some ⟨baL x, N, ⟨#[]⟩, ⟨y.toArray⟩, asks'⟩ := by rw [HPE.out]; unfold pEnd; rw [if_pos ⟨rfl, rfl, HQ.out.symm⟩]
                    have b9 := HP8.out.below
                    go_wp2_with fail
                    refine bodyPost_ret (v := .tuple #[EVal (baL x) (.slice an j cn) ⟨#[]⟩ ⟨y.toArray⟩ (.slice ga asks'.length gc), .int .i64 0]) ?_ rfl ⟨⟨_, rfl, HP8.out.ev (store5 HP8.out.hR _ _ _ _ _)⟩, ?_⟩
                    · rw [results_cell_tmp rfl]
                      go_simp
                    · exact (((((b9.setCell (Nat.le_refl _) _).setCell (Nat.le_refl _) _).setCell (Nat.le_refl _) _).setCell (Nat.le_refl _) _).setCell (Nat.le_refl _) _)
                · obtain rfl : P = none := by rw [HPE.out]; unfold pEnd; rw [if_neg]; simp [hw0]
                  have h9 := HPQ.out
                  obtain ⟨⟨cL, cI⟩, ⟨x0, x1, x2, x3, x4⟩, ⟨e0, e1, e2, e3, e4⟩, ⟨r0, r1, r2, r3, r4⟩, fL, fI, fE, fR⟩ := h9.cells
                  have hvv := h9.hv
                  obtain ⟨av, cv, rfl, -⟩ := hvv
                  have b9 := h9.below
                  have hpos : 0 < ws'.length := List.length_pos_iff.2 hw0
                  have hpos' : (0 : Int) < (ws'.length : Int) := by omega
                  clear h9
                  go_wp2_with fail
                  refine bodyPost_ret (v := .tuple #[EVal ⟨#[]⟩ (.slice none 0 0) ⟨#[]⟩ ⟨#[]⟩ (.slice none 0 0), .int .i64 3]) ?_ rfl ⟨rfl, ?_⟩
                  · rw [results_cell_tmp rfl]
                    go_simp
                  · exact (((((b9.setCell (Nat.le_refl _) _).setCell (Nat.le_refl _) _).setCell (Nat.le_refl _) _).setCell (Nat.le_refl _) _).setCell (Nat.le_refl _) _)
      · obtain rfl : is0 = true := HIS.out (.inr (.inr hasks))
        have HPA : Hid (P = pAsks s (baL x) N ⟨#[]⟩ ⟨#[]⟩ [] true (ws.drop j)) := Lib.hid (by rw [HPNM.out]; unfold pName pData; rw [hname, hdata]; rfl)
        have HLW : Hid ((ws.drop j).length + ([] : List (Int × Int)).length ≤ 90000) := Lib.hid (by have e := HDL.out;  simp at e ⊢; omega)
        have HYW : Hid (∀ y, y ∈ ws.drop j → y.length ≤ 90000) := Lib.hid (by have e := HDY.out; exact e)
        have HSZ := HSZ0
        have HT := Lib.hid (take_off L (X + 1) true wo HPS.out.hI)
        go_wp2_with fail
        refine HT.out.mono ?_
        rintro e6 w4 ⟨rfl, hw4⟩
        have hp2 := HPS.out.setI true
        rw [hw4] at hp2
        have HP2 := Lib.hid (hp2.name ⟨#[]⟩)
        clear e0 e1 e2 e3 e4 x0 x1 x2 x3 x4 cL cI fL fI fE r0 r1 r2 r3 r4 fR
        obtain ⟨⟨cL, cI⟩, ⟨x0, x1, x2, x3, x4⟩, ⟨e0, e1, e2, e3, e4⟩, ⟨r0, r1, r2, r3, r4⟩, fL, fI, fE, fR⟩ := hp2.cells
        have z4 := hp2.o7
        clear hw4 HT
        clear hp2
        go_wp2_with fail
        go_loopw [] (fun wr => ∃ (v va : Value) (asks' : List (Int × Int)) (is' : Bool) (ws' : List (List UInt8)), PS w w.heap.size L X (X + 1) (X + 1 + 1) B2 v (.slice an j cn) va s is' ws' (baL x) ⟨#[]⟩ ⟨#[]⟩ N asks' wr ∧ P = pAsks s (baL x) N ⟨#[]⟩ ⟨#[]⟩ asks' is' ws' ∧ ws'.length + asks'.length ≤ 90000 ∧ ∀ y, y ∈ ws' → y.length ≤ 90000) (fun wr => lenAt wr L 0)
        case atStart => exact ⟨_, _, [], _, _, HP2.out, HPA.out, HLW.out, HYW.out⟩
        case round =>
          obtain ⟨v5, va5, asks', is', ws', hps5, hpa5, hle5, hyw5⟩ := hrel
          clear e0 e1 e2 e3 e4 x0 x1 x2 x3 x4 cL cI fL fI fE r0 r1 r2 r3 r4 fR
          have HPQ := Lib.hid hps5
          have HLE := Lib.hid hle5
          by_cases hw0 : ws' = []
          · subst hw0
            have hpe : P = pEnd (baL x) N ⟨#[]⟩ ⟨#[]⟩ asks' is' [] := by rw [hpa5]; unfold pAsks; rw [hasks]; simp
            have HPE := Lib.hid hpe
            clear hpe hpa5 hps5 hle5 hyw5
            cases is' with
            | false =>
              obtain rfl : P = none := by rw [HPE.out]; unfold pEnd; rw [if_neg]; simp
              have h9 := HPQ.out
              obtain ⟨⟨cL, cI⟩, ⟨x0, x1, x2, x3, x4⟩, ⟨e0, e1, e2, e3, e4⟩, ⟨r0, r1, r2, r3, r4⟩, fL, fI, fE, fR⟩ := h9.cells
              have hvv := h9.hv
              obtain ⟨av, cv, rfl, -⟩ := hvv
              have b9 := h9.below
              clear h9
              go_wp2_with fail
              refine bodyPost_ret (v := .tuple #[EVal ⟨#[]⟩ (.slice none 0 0) ⟨#[]⟩ ⟨#[]⟩ (.slice none 0 0), .int .i64 3]) ?_ rfl ⟨rfl, ?_⟩
              · rw [results_cell_tmp rfl]
                go_simp
              · exact (((((b9.setCell (Nat.le_refl _) _).setCell (Nat.le_refl _) _).setCell (Nat.le_refl _) _).setCell (Nat.le_refl _) _).setCell (Nat.le_refl _) _)
            | true =>
              obtain ⟨ga, gc, hva, -⟩ := ask_at HPQ.out.ha
              subst hva
              have h9 := HPQ.out
              have hvv := h9.hv
              obtain ⟨av, cv, rfl, -⟩ := hvv
              have hev := h9.ev (w' := wr) ⟨rfl, rfl, rfl, Nat.le_refl _, fun _ _ _ => rfl⟩
              have hck := check_any ⟨baL x, N, ⟨#[]⟩, ⟨#[]⟩, asks'⟩ _ (by dsimp only; have := HNL0.out; simp [nC] at this; omega) (by dsimp only; have := HLE.out; simp at this; omega) (by dsimp only; exact HSZ.out) wr hev
              obtain ⟨q, hq⟩ : ∃ q, q = evOk ⟨baL x, N, ⟨#[]⟩, ⟨#[]⟩, asks'⟩ := ⟨_, rfl⟩
              rw [← hq] at hck
              have HCK := Lib.hid hck
              have HQ := Lib.hid hq
              obtain ⟨⟨cL, cI⟩, ⟨x0, x1, x2, x3, x4⟩, ⟨e0, e1, e2, e3, e4⟩, ⟨r0, r1, r2, r3, r4⟩, fL, fI, fE, fR⟩ := h9.cells
              clear h9 hev hck hq
              go_wp2_with fail
              refine HCK.out.mono ?_
              rintro e8 w8 ⟨rfl, hb8⟩
              have h8 := HPQ.out.kept hb8
              have HP8 := Lib.hid h8
              clear e0 e1 e2 e3 e4 x0 x1 x2 x3 x4 cL cI fL fI fE r0 r1 r2 r3 r4 fR
              obtain ⟨⟨cL, cI⟩, ⟨x0, x1, x2, x3, x4⟩, ⟨e0, e1, e2, e3, e4⟩, ⟨r0, r1, r2, r3, r4⟩, fL, fI, fE, fR⟩ := h8.cells
              clear h8 hb8 HCK
              cases q with
              | false =>
                obtain rfl : P = none := by rw [HPE.out]; unfold pEnd; rw [if_neg]; rw [← HQ.out]; simp
                have b9 := HP8.out.below
                go_wp2_with fail
                refine bodyPost_ret (v := .tuple #[EVal ⟨#[]⟩ (.slice none 0 0) ⟨#[]⟩ ⟨#[]⟩ (.slice none 0 0), .int .i64 3]) ?_ rfl ⟨rfl, ?_⟩
                · rw [results_cell_tmp rfl]
                  go_simp
                · exact (((((b9.setCell (Nat.le_refl _) _).setCell (Nat.le_refl _) _).setCell (Nat.le_refl _) _).setCell (Nat.le_refl _) _).setCell (Nat.le_refl _) _)
              | true =>
                obtain rfl : P = some ⟨baL x, N, ⟨#[]⟩, ⟨#[]⟩, asks'⟩ := by rw [HPE.out]; unfold pEnd; rw [if_pos ⟨rfl, rfl, HQ.out.symm⟩]
                have b9 := HP8.out.below
                go_wp2_with fail
                refine bodyPost_ret (v := .tuple #[EVal (baL x) (.slice an j cn) ⟨#[]⟩ ⟨#[]⟩ (.slice ga asks'.length gc), .int .i64 0]) ?_ rfl ⟨⟨_, rfl, HP8.out.ev (store5 HP8.out.hR _ _ _ _ _)⟩, ?_⟩
                · rw [results_cell_tmp rfl]
                  go_simp
                · exact (((((b9.setCell (Nat.le_refl _) _).setCell (Nat.le_refl _) _).setCell (Nat.le_refl _) _).setCell (Nat.le_refl _) _).setCell (Nat.le_refl _) _)
          · obtain ⟨y, r, rfl⟩ : ∃ y r, ws' = y :: r := by
              cases ws' with
              | nil => exact absurd rfl hw0
              | cons y r => exact ⟨y, r, rfl⟩
            clear hw0
            have hpp : P = pAsks s (baL x) N ⟨#[]⟩ ⟨#[]⟩ (asks' ++ [askI y]) (is' && askOk y) r := by rw [hpa5]; unfold pAsks; rw [hasks]; simp [Bool.and_assoc]
            have HPP := Lib.hid hpp
            have hys : (ByteArray.mk y.toArray).size ≤ 1000000 := by
              have e := hyw5 y (List.mem_cons_self ..)
              rw [sz_list]
              simpa using Nat.le_trans e (by decide)
            have HYW5 : Hid (∀ z, z ∈ r → z.length ≤ 90000) := Lib.hid fun z hz => hyw5 z (List.mem_cons_of_mem _ hz)
            have hask := ask_any ⟨y.toArray⟩ hys
            rw [askV_eq] at hask
            have HASK := Lib.hid hask
            obtain ⟨ga, gc, hva, -⟩ := ask_at HPQ.out.ha
            subst hva
            have h9 := HPQ.out
            have hpv := h9.hv
            have hvv := hpv
            obtain ⟨av, cv, rfl, -⟩ := hvv
            have HT := Lib.hid (take_pop L (X + 1) _ L y r wr h9.hL hpv)
            have HMS : Hid (lenAt wr L 0 = (y :: r).length) := Lib.hid (lenAt_of (h9.hL.cell (i := 0) rfl))
            rw [List.length_cons] at h9
            obtain ⟨⟨cL, cI⟩, ⟨x0, x1, x2, x3, x4⟩, ⟨e0, e1, e2, e3, e4⟩, ⟨r0, r1, r2, r3, r4⟩, fL, fI, fE, fR⟩ := h9.cells
            have hp0 : (0 : Int) < (r.length : Int) + 1 := by omega
            have hcy : Hid (asks'.length + 1 ≤ 100000) := Lib.hid (by simp at hle5; omega)
            have HLE5 : Hid (r.length + (asks' ++ [askI y]).length ≤ 90000) := Lib.hid (by simp at hle5 ⊢; omega)
            clear h9 hpv hpp hpa5 hps5 hle5 hyw5 hask hys
            go_wp2_with fail
            refine HT.out.mono ?_
            rintro e6 w4 ⟨rfl, v2, hv2, hw4⟩
            have hp2 := HPQ.out.setL hv2
            rw [hw4] at hp2
            have HPL := Lib.hid hp2
            clear hv2 hw4 hp2 e0 e1 e2 e3 e4 x0 x1 x2 x3 x4 cL cI fL fI fE r0 r1 r2 r3 r4 fR
            go_wp2_with fail
            refine (HASK.out _).mono ?_
            rintro e7 w7 ⟨rfl, hb7⟩
            have hp7 := HPL.out.kept hb7
            have HP7 := Lib.hid hp7
            have z7 := hp7.o7
            generalize hpq : askI y = pq at *
            obtain ⟨pa, pb⟩ := pq
            have HPQQ := Lib.hid hpq
            generalize hok : askOk y = ok at *
            have HOK := Lib.hid hok
            clear hpq hok
            dsimp only
            obtain ⟨⟨cL, cI⟩, ⟨x0, x1, x2, x3, x4⟩, ⟨e0, e1, e2, e3, e4⟩, ⟨r0, r1, r2, r3, r4⟩, fL, fI, fE, fR⟩ := hp7.cells
            have zI : X + 1 < w7.heap.size := by omega
            have zE : X + 1 + 1 < w7.heap.size := by omega
            have zL : L < w7.heap.size := by omega
            have zI' : X + 1 < w7.heap.size + 1 := by omega
            have zE' : X + 1 + 1 < w7.heap.size + 1 := by omega
            clear hp7 hb7 HT HASK HPL
            cases is'
            all_goals
              have hZ : Hid (B2 ≤ (w7.setCell ⟨X + 1, 0, none⟩ (.bool false)).heap.size ∧ ∀ b, B2 ≤ (((w7.setCell ⟨X + 1, 0, none⟩ (.bool b)).alloc (.cells #[.int .i64 pa, .int .i64 pb] 78)).alloc (.cells #[.int .i64 pa, .int .i64 pb] 78)).heap.size) := Lib.hid ⟨by rw [HP7.out.hI.size]; exact z7, fun b => by simp; omega⟩
              have hPB : Hid (∀ b, PS w w.heap.size L X (X + 1) (X + 1 + 1) B2 v2 (.slice an j cn) (.slice ga asks'.length gc) s b r (baL x) ⟨#[]⟩ ⟨#[]⟩ N asks' (((w7.setCell ⟨X + 1, 0, none⟩ (.bool b)).alloc (.cells #[.int .i64 pa, .int .i64 pb] 78)).alloc (.cells #[.int .i64 pa, .int .i64 pb] 78))) := Lib.hid fun b => ((HP7.out.setI b).kept (bnew _ _)).kept (bnew _ _)
              have hCB : Hid (∀ b, SlC (w7.heap.size + 1) (askCells (pa, pb)) (((w7.setCell ⟨X + 1, 0, none⟩ (.bool b)).alloc (.cells #[.int .i64 pa, .int .i64 pb] 78)).alloc (.cells #[.int .i64 pa, .int .i64 pb] 78))) := Lib.hid fun b => by
                have e := SlC.lit ((w7.setCell ⟨X + 1, 0, none⟩ (.bool b)).alloc (.cells #[.int .i64 pa, .int .i64 pb] 78)) 78 (askCells (pa, pb))
                rw [show ((w7.setCell ⟨X + 1, 0, none⟩ (.bool b)).alloc (.cells #[.int .i64 pa, .int .i64 pb] 78)).heap.size = w7.heap.size + 1 from by simp] at e
                exact e
              go_wp2_with (at_builtin; refine wpList_pushA rfl _ _ rfl B2 _ asks' rfl (hPB.out _).ha (w7.heap.size + 1) 1 (pa, pb) rfl (hCB.out _) hcy.out (hZ.out.2 _) ?_)
              intro v3 w11 hO3 hg3 hB3
              obtain ⟨a3, c3, hv3, -⟩ := ask_at hO3
              subst hv3
              have hl3 : (asks' ++ [(pa, pb)]).length = asks'.length + 1 := by simp
              rw [hl3] at hO3 ⊢
              clear hl3
              have hp3 := (hPB.out _).ask hO3 hg3
              have hr := (hPB.out _).row hg3 (fun k hk => by have := (World.ownsRow.lt (hPB.out true).ha k hk).1; omega)
              obtain ⟨-, -, -, -, -, hE6, -⟩ := hr
              have fE6 := fun i => hE6.fz i
              have e61 := hE6.cell (i := 4) (v := .slice ga asks'.length gc) rfl
              have HP3 := Lib.hid hp3
              clear hO3 hg3 hB3 hp3 hE6 e0 e1 e2 e3 e4 x0 x1 x2 x3 x4 cL cI fL fI fE r0 r1 r2 r3 r4 fR
              go_wp2_with fail
              refine ⟨⟨v2, _, asks' ++ [(pa, pb)], _, r, HP3.out, ?_, ?_, HYW5.out⟩, ?_⟩
              · have e := HPP.out
                simpa using e
              · exact HLE5.out
              · rw [HMS.out]
                obtain ⟨av2, cv2, ev2, -⟩ := HP3.out.hv
                rw [lenAt_of (HP3.out.hL.cell (i := 0) (by rw [ev2]; rfl))]
                simp
      · have HPA : Hid (P = pAsks s (baL x) N ⟨#[]⟩ ⟨#[]⟩ [] is0 (ws.drop j)) := Lib.hid (by rw [HPNM.out]; unfold pName pData; rw [hname, hdata]; rfl)
        have HLW : Hid ((ws.drop j).length + ([] : List (Int × Int)).length ≤ 90000) := Lib.hid (by have e := HDL.out;  simp at e ⊢; omega)
        have HYW : Hid (∀ y, y ∈ ws.drop j → y.length ≤ 90000) := Lib.hid (by have e := HDY.out; exact e)
        have HSZ := HSZ0
        have HT := Lib.hid (take_off L (X + 1) is0 wo HPS.out.hI)
        go_wp2_with fail
        refine HT.out.mono ?_
        rintro e6 w4 ⟨rfl, hw4⟩
        have hp2 := HPS.out.setI is0
        rw [hw4] at hp2
        have HP2 := Lib.hid (hp2.name ⟨#[]⟩)
        clear e0 e1 e2 e3 e4 x0 x1 x2 x3 x4 cL cI fL fI fE r0 r1 r2 r3 r4 fR
        obtain ⟨⟨cL, cI⟩, ⟨x0, x1, x2, x3, x4⟩, ⟨e0, e1, e2, e3, e4⟩, ⟨r0, r1, r2, r3, r4⟩, fL, fI, fE, fR⟩ := hp2.cells
        have z4 := hp2.o7
        clear hw4 HT
        clear hp2
        go_wp2_with fail
        go_loopw [] (fun wr => ∃ (v va : Value) (asks' : List (Int × Int)) (is' : Bool) (ws' : List (List UInt8)), PS w w.heap.size L X (X + 1) (X + 1 + 1) B2 v (.slice an j cn) va s is' ws' (baL x) ⟨#[]⟩ ⟨#[]⟩ N asks' wr ∧ P = pAsks s (baL x) N ⟨#[]⟩ ⟨#[]⟩ asks' is' ws' ∧ ws'.length + asks'.length ≤ 90000 ∧ ∀ y, y ∈ ws' → y.length ≤ 90000) (fun wr => lenAt wr L 0)
        case atStart => exact ⟨_, _, [], _, _, HP2.out, HPA.out, HLW.out, HYW.out⟩
        case round =>
          obtain ⟨v5, va5, asks', is', ws', hps5, hpa5, hle5, hyw5⟩ := hrel
          clear e0 e1 e2 e3 e4 x0 x1 x2 x3 x4 cL cI fL fI fE r0 r1 r2 r3 r4 fR
          have HPQ := Lib.hid hps5
          have HLE := Lib.hid hle5
          have hpe : P = pEnd (baL x) N ⟨#[]⟩ ⟨#[]⟩ asks' is' ws' := by rw [hpa5]; unfold pAsks; rw [hasks]; rfl
          have HPE := Lib.hid hpe
          clear hpe hpa5 hps5 hle5 hyw5
          cases is' with
          | false =>
            obtain rfl : P = none := by rw [HPE.out]; unfold pEnd; rw [if_neg]; simp
            have h9 := HPQ.out
            obtain ⟨⟨cL, cI⟩, ⟨x0, x1, x2, x3, x4⟩, ⟨e0, e1, e2, e3, e4⟩, ⟨r0, r1, r2, r3, r4⟩, fL, fI, fE, fR⟩ := h9.cells
            have hvv := h9.hv
            obtain ⟨av, cv, rfl, -⟩ := hvv
            have b9 := h9.below
            clear h9
            go_wp2_with fail
            refine bodyPost_ret (v := .tuple #[EVal ⟨#[]⟩ (.slice none 0 0) ⟨#[]⟩ ⟨#[]⟩ (.slice none 0 0), .int .i64 3]) ?_ rfl ⟨rfl, ?_⟩
            · rw [results_cell_tmp rfl]
              go_simp
            · exact (((((b9.setCell (Nat.le_refl _) _).setCell (Nat.le_refl _) _).setCell (Nat.le_refl _) _).setCell (Nat.le_refl _) _).setCell (Nat.le_refl _) _)
          | true =>
            by_cases hw0 : ws' = []
            · subst hw0
              obtain ⟨ga, gc, hva, -⟩ := ask_at HPQ.out.ha
              subst hva
              have h9 := HPQ.out
              have hvv := h9.hv
              obtain ⟨av, cv, rfl, -⟩ := hvv
              have hev := h9.ev (w' := wr) ⟨rfl, rfl, rfl, Nat.le_refl _, fun _ _ _ => rfl⟩
              have hck := check_any ⟨baL x, N, ⟨#[]⟩, ⟨#[]⟩, asks'⟩ _ (by dsimp only; have := HNL0.out; simp [nC] at this; omega) (by dsimp only; have := HLE.out; simp at this; omega) (by dsimp only; exact HSZ.out) wr hev
              obtain ⟨q, hq⟩ : ∃ q, q = evOk ⟨baL x, N, ⟨#[]⟩, ⟨#[]⟩, asks'⟩ := ⟨_, rfl⟩
              rw [← hq] at hck
              have HCK := Lib.hid hck
              have HQ := Lib.hid hq
              obtain ⟨⟨cL, cI⟩, ⟨x0, x1, x2, x3, x4⟩, ⟨e0, e1, e2, e3, e4⟩, ⟨r0, r1, r2, r3, r4⟩, fL, fI, fE, fR⟩ := h9.cells
              clear h9 hev hck hq
              go_wp2_with fail
              refine HCK.out.mono ?_
              rintro e8 w8 ⟨rfl, hb8⟩
              have h8 := HPQ.out.kept hb8
              have HP8 := Lib.hid h8
              clear e0 e1 e2 e3 e4 x0 x1 x2 x3 x4 cL cI fL fI fE r0 r1 r2 r3 r4 fR
              obtain ⟨⟨cL, cI⟩, ⟨x0, x1, x2, x3, x4⟩, ⟨e0, e1, e2, e3, e4⟩, ⟨r0, r1, r2, r3, r4⟩, fL, fI, fE, fR⟩ := h8.cells
              clear h8 hb8 HCK
              cases q with
              | false =>
                obtain rfl : P = none := by rw [HPE.out]; unfold pEnd; rw [if_neg]; rw [← HQ.out]; simp
                have b9 := HP8.out.below
                go_wp2_with fail
                refine bodyPost_ret (v := .tuple #[EVal ⟨#[]⟩ (.slice none 0 0) ⟨#[]⟩ ⟨#[]⟩ (.slice none 0 0), .int .i64 3]) ?_ rfl ⟨rfl, ?_⟩
                · rw [results_cell_tmp rfl]
                  go_simp
                · exact (((((b9.setCell (Nat.le_refl _) _).setCell (Nat.le_refl _) _).setCell (Nat.le_refl _) _).setCell (Nat.le_refl _) _).setCell (Nat.le_refl _) _)
              | true =>
                obtain rfl : P = some ⟨baL x, N, ⟨#[]⟩, ⟨#[]⟩, asks'⟩ := by rw [HPE.out]; unfold pEnd; rw [if_pos ⟨rfl, rfl, HQ.out.symm⟩]
                have b9 := HP8.out.below
                go_wp2_with fail
                refine bodyPost_ret (v := .tuple #[EVal (baL x) (.slice an j cn) ⟨#[]⟩ ⟨#[]⟩ (.slice ga asks'.length gc), .int .i64 0]) ?_ rfl ⟨⟨_, rfl, HP8.out.ev (store5 HP8.out.hR _ _ _ _ _)⟩, ?_⟩
                · rw [results_cell_tmp rfl]
                  go_simp
                · exact (((((b9.setCell (Nat.le_refl _) _).setCell (Nat.le_refl _) _).setCell (Nat.le_refl _) _).setCell (Nat.le_refl _) _).setCell (Nat.le_refl _) _)
            · obtain rfl : P = none := by rw [HPE.out]; unfold pEnd; rw [if_neg]; simp [hw0]
              have h9 := HPQ.out
              obtain ⟨⟨cL, cI⟩, ⟨x0, x1, x2, x3, x4⟩, ⟨e0, e1, e2, e3, e4⟩, ⟨r0, r1, r2, r3, r4⟩, fL, fI, fE, fR⟩ := h9.cells
              have hvv := h9.hv
              obtain ⟨av, cv, rfl, -⟩ := hvv
              have b9 := h9.below
              have hpos : 0 < ws'.length := List.length_pos_iff.2 hw0
              have hpos' : (0 : Int) < (ws'.length : Int) := by omega
              clear h9
              go_wp2_with fail
              refine bodyPost_ret (v := .tuple #[EVal ⟨#[]⟩ (.slice none 0 0) ⟨#[]⟩ ⟨#[]⟩ (.slice none 0 0), .int .i64 3]) ?_ rfl ⟨rfl, ?_⟩
              · rw [results_cell_tmp rfl]
                go_simp
              · exact (((((b9.setCell (Nat.le_refl _) _).setCell (Nat.le_refl _) _).setCell (Nat.le_refl _) _).setCell (Nat.le_refl _) _).setCell (Nat.le_refl _) _)
end Go.Proofs.YtdpfcjhhabcheaaDoor

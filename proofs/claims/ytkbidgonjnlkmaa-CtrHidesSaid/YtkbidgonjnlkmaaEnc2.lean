/-
  The contracts of aes.New, aes.Encrypt. No condition. Own work.
-/
import Derived.Test.YtkbidgonjnlkmaaEnc1
namespace Go.Proofs.Ytkbidgonjnlkmaa
open Go.RowKit

theorem bthen2 {B : Nat} {a b c : World} (h1 : Below B a b) (h2 : Below b.heap.size b c) (hB : B ≤ b.heap.size) : Below B a c :=
  ⟨h2.os.trans h1.os, h2.tape.trans h1.tape, h2.output.trans h1.output, Nat.le_trans h1.size h2.size, fun j hj => (h2.block j (by omega)).trans (h1.block j hj)⟩

theorem wpList_built {P : Program} {ops : Array Oper} {rest : List Oper} {o : Oper} {a : Act} {w : World} {Q : Exit → Act → World → Prop} (hg : o.guard = none) (t : TypeId) (parts : Array (Nat × Operand)) (ho : o.op = .build t parts) (cells : Array Value) (L : List (Nat × Value)) (hL : (parts.map fun (i, x) => (i, a.eval x)).toList = L)
    (hb : P.built t L = some cells)
    (h : wpList P ops Q rest (a.put o.dst (.agg cells)) w) : wpList P ops Q (o :: rest) a w :=
  by
  subst hL
  exact wpList_build hg t parts ho (by rw [hb]; rfl) (by rw [hb]; exact h)

theorem new_any (s : ByteArray) (hs : s.size = 16) (w : World) :
    Calls Try.prog 12 #[.string s] w fun e w' => ∃ k, e = .returned (.tuple #[.pointer (some ⟨k, 0, none⟩), .int .i64 0]) ∧ w.heap.size ≤ k ∧ Ciph w' k (exL s.data.toList 40) boxT ∧ Below w.heap.size w w' := by
  have hsl : s.data.toList.length = 16 := by simp [hs]
  obtain ⟨E, hE⟩ : ∃ E, E = exL s.data.toList 40 := ⟨_, rfl⟩
  have hEl : E.length = 176 := by rw [hE, exL_len _ hsl]
  have HEX := Lib.hid (fun w => expand_any s hs w)
  rw [← hE] at HEX ⊢
  obtain ⟨B, hB⟩ : ∃ B, B = boxT := ⟨_, rfl⟩
  have hBl : B.length = 256 := by rw [hB, boxT_len]
  have HBX := Lib.hid boxes_any
  rw [← hB] at HBX ⊢
  have HBD := Lib.hid (built_ciph E B hEl hBl)
  clear hE hB
  go_enter Try.func12, Try.ntmps12
  go_wp2_with (first
    | (go_at_call 34; (with_reducible refine (HEX.out _).mono ?_); rintro e w1 ⟨rfl, hb1⟩)
    | (go_at_call 35; (with_reducible refine (HBX.out _).mono ?_); rintro e w2 ⟨rfl, hb2⟩)
    | (refine wpList_built rfl 31 _ rfl _ _ ?_ HBD.out ?_; · simp [Act.eval]))
  go_ret2
  have := hb1.size
  have := hb2.size
  set_option maxRecDepth 20000 in
  exact ⟨w2.heap.size, rfl, by omega, heap_alloc_new w2 (.cells (Value.bool true :: (E.map bv ++ B.map bv)).toArray 31), (bthen2 hb1 hb2 hb1.size).alloc (by omega) _⟩
theorem new_bad (s : ByteArray) (hs : s.size ≠ 16) (w : World) :
    Calls Try.prog 12 #[.string s] w fun e w' => e = .returned (.tuple #[.pointer none, .int .i64 2]) ∧ w = w' := by
  have h1 : ¬ (s.size : Int) = 16 := by omega
  go_enter Try.func12, Try.ntmps12
  go_wp2_with fail
  go_ret2
  exact ⟨rfl, rfl⟩
theorem cenc_bad (k : Nat) (W T : List UInt8) (s : ByteArray) (hs : s.size ≠ 16) (w : World) (hc : Ciph w k W T) :
    Calls Try.prog 14 #[.pointer (some ⟨k, 0, none⟩), .string s] w fun e w' => e = .returned (.tuple #[.string ⟨#[]⟩, .int .i64 2]) ∧ Below w.heap.size w w' := by
  have h1 : ¬ (s.size : Int) = 16 := by omega
  have hk := hc.lt
  obtain ⟨V, hV⟩ : ∃ V, V = w.alloc (.cells #[.pointer (some ⟨k, 0, none⟩)] 22) := ⟨_, rfl⟩
  have pV : V.cell? ⟨w.heap.size, 0, none⟩ = some (.pointer (some ⟨k, 0, none⟩)) := by rw [hV, cell_of_row _ w.heap.size 0 _ _ (0, 0) (heap_alloc_new w _)]; rfl
  have cV : Ciph V k W T := by rw [hV]; exact hc.below (bnew _ _) hk
  have mV := cV.made
  have BV : Below w.heap.size w V := by rw [hV]; exact bnew _ _
  have HV := Lib.hid hV
  clear hV cV hc
  go_enter Try.func14, Try.ntmps14
  go_upto_region 1 with (fail)
  rw [← HV.out]
  go_wp2_with fail
  go_ret2
  exact ⟨rfl, BV⟩
theorem cenc_nil (s : ByteArray) (w : World) :
    Calls Try.prog 14 #[.pointer none, .string s] w fun e w' => e = .returned (.tuple #[.string ⟨#[]⟩, .int .i64 1]) ∧ Below w.heap.size w w' := by
  go_enter Try.func14, Try.ntmps14
  go_wp2_with fail
  go_ret2
  exact ⟨rfl, bnew _ _⟩
theorem cenc_none (k : Nat) (s : ByteArray) (w : World) (hk : k < w.heap.size) (hc : w.cell? ⟨k, 0, none⟩ = some (.bool false)) :
    Calls Try.prog 14 #[.pointer (some ⟨k, 0, none⟩), .string s] w fun e w' => e = .returned (.tuple #[.string ⟨#[]⟩, .int .i64 1]) ∧ Below w.heap.size w w' := by
  obtain ⟨V, hV⟩ : ∃ V, V = w.alloc (.cells #[.pointer (some ⟨k, 0, none⟩)] 22) := ⟨_, rfl⟩
  have pV : V.cell? ⟨w.heap.size, 0, none⟩ = some (.pointer (some ⟨k, 0, none⟩)) := by rw [hV, cell_of_row _ w.heap.size 0 _ _ (0, 0) (heap_alloc_new w _)]; rfl
  have mV : V.cell? ⟨k, 0, none⟩ = some (.bool false) := by
    rw [← hc, hV]
    simp only [World.cell?]
    rw [(bnew w _).block k hk]
  have BV : Below w.heap.size w V := by rw [hV]; exact bnew _ _
  have HV := Lib.hid hV
  clear hV hc
  go_enter Try.func14, Try.ntmps14
  go_upto_region 1 with (fail)
  rw [← HV.out]
  go_wp2_with fail
  go_ret2
  exact ⟨rfl, BV⟩
/-- The encrypted block, plainly. -/
def encV (K X : List UInt8) : List UInt8 := encR (exL K 40) boxT X 10
theorem encV_len (K X : List UInt8) : (encV K X).length = 16 := encR_len _ _ _ _
theorem encrypt_any (key s : ByteArray) (hk : key.size = 16) (hs : s.size = 16) (w : World) :
    Calls Try.prog 13 #[.string key, .string s] w fun e w' => e = .returned (.tuple #[.string ⟨(encV key.data.toList s.data.toList).toArray⟩, .int .i64 0]) ∧ Below w.heap.size w w' := by
  have hkl : key.data.toList.length = 16 := by simp [hk]
  obtain ⟨V, hV⟩ : ∃ V, V = encV key.data.toList s.data.toList := ⟨_, rfl⟩
  have HC : Hid (∀ k w, Ciph w k (exL key.data.toList 40) boxT → Calls Try.prog 14 #[.pointer (some ⟨k, 0, none⟩), .string s] w fun e w' => e = .returned (.tuple #[.string ⟨V.toArray⟩, .int .i64 0]) ∧ Below w.heap.size w w') :=
    Lib.hid fun k w hc => by rw [hV]; exact cenc_any k _ _ (exL_len _ hkl 40) boxT_len s hs w hc
  have HN := Lib.hid (fun w => new_any key hk w)
  rw [← hV]
  clear hV
  go_enter Try.func13, Try.ntmps13
  go_wp2_with fail
  refine (HN.out _).mono ?_
  rintro e w1 ⟨k, rfl, hk1, hc1, hb1⟩
  have HC1 := Lib.hid hc1
  clear hc1
  go_wp2_with fail
  refine (HC.out k w1 HC1.out).mono ?_
  rintro e w2 ⟨rfl, hb2⟩
  go_wp2_with fail
  go_ret2
  exact ⟨rfl, bthen2 hb1 hb2 hb1.size⟩
theorem encrypt_bad (key s : ByteArray) (hk : key.size ≠ 16 ∨ s.size ≠ 16) (w : World) :
    Calls Try.prog 13 #[.string key, .string s] w fun e w' => e = .returned (.tuple #[.string ⟨#[]⟩, .int .i64 2]) ∧ Below w.heap.size w w' := by
  by_cases h16 : key.size = 16
  · have hs : s.size ≠ 16 := by omega
    have HN := Lib.hid (fun w => new_any key h16 w)
    have HC := Lib.hid (fun k w hc => cenc_bad k (exL key.data.toList 40) boxT s hs w hc)
    go_enter Try.func13, Try.ntmps13
    go_wp2_with fail
    refine (HN.out _).mono ?_
    rintro e w1 ⟨k, rfl, hk1, hc1, hb1⟩
    have HC1 := Lib.hid hc1
    clear hc1
    go_wp2_with fail
    refine (HC.out k w1 HC1.out).mono ?_
    rintro e w2 ⟨rfl, hb2⟩
    go_wp2_with fail
    go_ret2
    exact ⟨rfl, bthen2 hb1 hb2 hb1.size⟩
  · have HN := Lib.hid (fun w => new_bad key h16 w)
    go_enter Try.func13, Try.ntmps13
    go_wp2_with fail
    refine (HN.out _).mono ?_
    rintro e w1 ⟨rfl, rfl⟩
    go_wp2_with fail
    go_ret2
    exact ⟨rfl, Below.refl _ _⟩
end Go.Proofs.Ytkbidgonjnlkmaa

/-
  GeomBytes returns true for every shape and every text, and leaves its arguments as they were. No condition.
-/
import Derived.Test.YtdjlagjdbehafaaGRef
namespace Go.Proofs.Ytdjlagjdbehafaa
open Go.RowKit Go.ChangeShapes Go.WideShapes Go.ChangeAt

theorem kb {g : Nat} {W w1 : World} {o : Obj} (h : W.heap[g]? = some o) (hb : Below W.heap.size W w1) : w1.heap[g]? = some o :=
  (hb.block g (Array.getElem?_eq_some_iff.mp h).1).trans h
theorem cells3 {g : Nat} {w : World} {T : TypeId} {a b c : Value} (h : w.heap[g]? = some (.cells #[a, b, c] T (0, 0))) : w.cell? ⟨g, 0, none⟩ = some a ∧ w.cell? ⟨g, 1, none⟩ = some b ∧ w.cell? ⟨g, 2, none⟩ = some c :=
  ⟨by rw [cell_of_row _ _ _ _ _ _ h]; rfl, by rw [cell_of_row _ _ _ _ _ _ h]; rfl, by rw [cell_of_row _ _ _ _ _ _ h]; rfl⟩
/-- The contract of a call that returns this value whatever the world. -/
abbrev Gives (f : FuncId) (args : Array Value) (v : Value) : Prop := ∀ w, Calls Try.prog f args w fun e w' => e = .returned v ∧ Below w.heap.size w w'
theorem put_all (b l f : Int) : ∃ (a : ByteArray) (e : Int) (is : Bool), Gives 37 #[GVal b l f] (.tuple #[.string a, .int .i64 e]) ∧ Gives 38 #[GVal b l f] (.tuple #[.string a, .bool is]) ∧
    ((e = 0 ∧ is = true ∧ Gives 39 #[.string a] (.tuple #[GVal b l f, .int .i64 0])) ∨ (e = 2 ∧ is = false)) := by
  have hr := rgput_any b l f
  by_cases hg : GOk b l f
  · have e : rgP b l f = .tuple #[.string ⟨(gB b.toNat l.toNat f.toNat).toArray⟩, .bool true] := if_pos hg
    rw [e] at hr
    obtain ⟨x, rfl⟩ : ∃ x : Nat, b = (x : Int) := ⟨b.toNat, by unfold GOk at hg; omega⟩
    obtain ⟨y, rfl⟩ : ∃ x : Nat, l = (x : Int) := ⟨l.toNat, by unfold GOk at hg; omega⟩
    obtain ⟨z, rfl⟩ : ∃ x : Nat, f = (x : Int) := ⟨f.toNat, by unfold GOk at hg; omega⟩
    simp only [Int.toNat_natCast] at hr
    have ht := gtake_any ⟨(gB x y z).toArray⟩
    obtain ⟨h1, h2, h3⟩ := t_gB x y z (by unfold GOk at hg; omega) (by unfold GOk at hg; omega) (by unfold GOk at hg; omega)
    have e2 : tkR (gB x y z) = .tuple #[GVal x y z, .int .i64 0] := by
      unfold tkR
      rw [h1, h2, h3, if_pos ⟨gB_len x y z, hg⟩]
    have e3 : (⟨(gB x y z).toArray⟩ : ByteArray).data.toList = gB x y z := rfl
    rw [e3, e2] at ht
    exact ⟨_, 0, true, fun w => gput_yes x y z hg w, hr, .inl ⟨rfl, rfl, ht⟩⟩
  · have e : rgP b l f = .tuple #[.string ⟨#[]⟩, .bool false] := if_neg hg
    rw [e] at hr
    exact ⟨_, 2, false, fun w => gput_no b l f hg w, hr, .inr ⟨rfl, rfl⟩⟩
theorem take_all (s : ByteArray) : ∃ (x y z f : Int) (so : Bool), Gives 39 #[.string s] (.tuple #[GVal x y z, .int .i64 f]) ∧ Gives 40 #[.string s] (.tuple #[GVal x y z, .bool so]) ∧
    ((f = 0 ∧ so = true ∧ Gives 37 #[GVal x y z] (.tuple #[.string s, .int .i64 0])) ∨ (f = 3 ∧ so = false)) := by
  have h1 := gtake_any s
  have h2 := rgtake_any s
  by_cases hg : s.data.toList.length = 12 ∧ GOk (t1 s.data.toList) (t2 s.data.toList) (t3 s.data.toList)
  · have e1 : tkR s.data.toList = _ := if_pos hg
    have e2 : rtR s.data.toList = _ := if_pos hg
    rw [e1] at h1
    rw [e2] at h2
    have h3 := gput_yes (t1 s.data.toList) (t2 s.data.toList) (t3 s.data.toList) hg.2
    rw [gB_back _ hg.1] at h3
    exact ⟨_, _, _, 0, true, h1, h2, .inl ⟨rfl, rfl, h3⟩⟩
  · have e1 : tkR s.data.toList = _ := if_neg hg
    have e2 : rtR s.data.toList = _ := if_neg hg
    rw [e1] at h1
    rw [e2] at h2
    exact ⟨0, 0, 0, 3, false, h1, h2, .inr ⟨rfl, rfl⟩⟩

set_option maxHeartbeats 6400000 in
theorem geom_bytes_any (b l f : Int) (s : ByteArray) (w : World) :
    Calls Try.prog 12 #[GVal b l f, .string s] w fun e w' => e = .returned (.bool true) ∧ Below w.heap.size w w' := by
  obtain ⟨a, ec, is, P1, P2, P3⟩ := put_all b l f
  obtain ⟨x, y, z, fc, so, T1, T2, T3⟩ := take_all s
  have HP1 := Lib.hid P1
  have HP2 := Lib.hid P2
  have HP3 := Lib.hid P3
  have HT1 := Lib.hid T1
  have HT2 := Lib.hid T2
  have HT3 := Lib.hid T3
  have HAL := Lib.hid geom_alive
  clear P1 P2 P3 T1 T2 T3
  go_enter Try.func12, Try.ntmps12
  go_wp2_with fail
  refine (HP1.out _).mono ?_
  rintro e1 w1 ⟨rfl, hb1⟩
  have b1 := bthen (bnew w (.cells #[.int .i64 b, .int .i64 l, .int .i64 f] 23)) hb1
  have r1 := kb (heap_alloc_new w (.cells #[.int .i64 b, .int .i64 l, .int .i64 f] 23)) hb1
  obtain ⟨c0, c1, c2⟩ := cells3 r1
  clear hb1
  go_wp2_with fail
  refine (HP2.out _).mono ?_
  rintro e2 w2 ⟨rfl, hb2⟩
  have b2 := bthen b1 hb2
  have r2 := kb r1 hb2
  clear hb2 c0 c1 c2 r1 b1
  go_wp2_with fail
  refine (HT1.out _).mono ?_
  rintro e3 w3 ⟨rfl, hb3⟩
  have b3 := bthen b2 hb3
  have r3 := kb r2 hb3
  clear hb3 r2 b2
  go_wp2_with fail
  refine (HT2.out _).mono ?_
  rintro e4 w4 ⟨rfl, hb4⟩
  have b4 := bthen (bthen b3 (bnew w3 (.cells #[.int .i64 x, .int .i64 y, .int .i64 z] 23))) hb4
  have r4 := kb (kb r3 (bnew w3 (.cells #[.int .i64 x, .int .i64 y, .int .i64 z] 23))) hb4
  have q4 := kb (heap_alloc_new w3 (.cells #[.int .i64 x, .int .i64 y, .int .i64 z] 23)) hb4
  clear hb4 r3 b3
  go_upto_region 5 with (fail)
  obtain ⟨W5, hW5⟩ : ∃ W5, W5 = w4.alloc (.cells #[.int .i64 x, .int .i64 y, .int .i64 z] 23) := ⟨_, rfl⟩
  rw [← hW5]
  have b5 : Below w.heap.size w W5 := by rw [hW5]; exact bthen b4 (bnew w4 _)
  have r5 : W5.heap[w.heap.size]? = some (.cells #[.int .i64 b, .int .i64 l, .int .i64 f] 23 (0, 0)) := by rw [hW5]; exact kb r4 (bnew w4 _)
  have q5 : W5.heap[w3.heap.size]? = some (.cells #[.int .i64 x, .int .i64 y, .int .i64 z] 23 (0, 0)) := by rw [hW5]; exact kb q4 (bnew w4 _)
  have p5 : W5.heap[w4.heap.size]? = some (.cells #[.int .i64 x, .int .i64 y, .int .i64 z] 23 (0, 0)) := by rw [hW5]; exact heap_alloc_new w4 _
  obtain ⟨i0, i1, i2⟩ := cells3 q5
  obtain ⟨j0, j1, j2⟩ := cells3 p5
  clear hW5 r4 q4 b4 p5
  have h3 := HT3.out
  have hp3 := HP3.out
  clear HT3 HP3
  rcases h3 with ⟨rfl, rfl, h3⟩ | ⟨rfl, rfl⟩
  · have HQ := Lib.hid h3
    clear h3
    rcases hp3 with ⟨rfl, rfl, hp3⟩ | ⟨rfl, rfl⟩
    · have HPT := Lib.hid hp3
      clear hp3
      go_wp2_with fail
      refine (HQ.out _).mono ?_
      rintro e6 w6 ⟨rfl, hb6⟩
      have b6 := bthen b5 hb6
      have r6 := kb r5 hb6
      clear hb6 i0 i1 i2 j0 j1 j2 r5 q5 b5
      go_wp2_with fail
      refine (HPT.out _).mono ?_
      rintro e7 w7 ⟨rfl, hb7⟩
      have b7 := bthen b6 hb7
      have r7 := kb r6 hb7
      clear hb7
      go_upto_region 14 with (fail)
      obtain ⟨W7, hW7⟩ : ∃ W7, W7 = w7.alloc (.cells #[.int .i64 b, .int .i64 l, .int .i64 f] 23) := ⟨_, rfl⟩
      rw [← hW7]
      have b7n : Below w.heap.size w W7 := by rw [hW7]; exact bthen b7 (bnew w7 _)
      have r7n : W7.heap[w.heap.size]? = some (.cells #[.int .i64 b, .int .i64 l, .int .i64 f] 23 (0, 0)) := by rw [hW7]; exact kb r7 (bnew w7 _)
      have q7n : W7.heap[w7.heap.size]? = some (.cells #[.int .i64 b, .int .i64 l, .int .i64 f] 23 (0, 0)) := by rw [hW7]; exact heap_alloc_new w7 _
      obtain ⟨k0, k1, k2⟩ := cells3 r7n
      obtain ⟨m0, m1, m2⟩ := cells3 q7n
      clear hW7 r7 b7 r7n q7n
      go_wp2_with fail
      refine (HAL.out _).mono ?_
      rintro e8 w8 ⟨rfl, hb8⟩
      have b8 := bthen b7n hb8
      clear hb8
      go_wp2_with fail
      go_ret
      exact ⟨rfl, b8⟩
    · go_wp2_with fail
      refine (HQ.out _).mono ?_
      rintro e6 w6 ⟨rfl, hb6⟩
      have b6 := bthen b5 hb6
      have r6 := kb r5 hb6
      clear hb6 i0 i1 i2 j0 j1 j2 r5 q5 b5
      go_wp2_with fail
      refine (HAL.out _).mono ?_
      rintro e8 w8 ⟨rfl, hb8⟩
      have b8 := bthen b6 hb8
      clear hb8
      go_wp2_with fail
      go_ret
      exact ⟨rfl, b8⟩
  · rcases hp3 with ⟨rfl, rfl, hp3⟩ | ⟨rfl, rfl⟩
    · have HPT := Lib.hid hp3
      clear hp3
      go_wp2_with fail
      refine (HPT.out _).mono ?_
      rintro e7 w7 ⟨rfl, hb7⟩
      have b7 := bthen b5 hb7
      have r7 := kb r5 hb7
      clear hb7
      go_upto_region 14 with (fail)
      obtain ⟨W7, hW7⟩ : ∃ W7, W7 = w7.alloc (.cells #[.int .i64 b, .int .i64 l, .int .i64 f] 23) := ⟨_, rfl⟩
      rw [← hW7]
      have b7n : Below w.heap.size w W7 := by rw [hW7]; exact bthen b7 (bnew w7 _)
      have r7n : W7.heap[w.heap.size]? = some (.cells #[.int .i64 b, .int .i64 l, .int .i64 f] 23 (0, 0)) := by rw [hW7]; exact kb r7 (bnew w7 _)
      have q7n : W7.heap[w7.heap.size]? = some (.cells #[.int .i64 b, .int .i64 l, .int .i64 f] 23 (0, 0)) := by rw [hW7]; exact heap_alloc_new w7 _
      obtain ⟨k0, k1, k2⟩ := cells3 r7n
      obtain ⟨m0, m1, m2⟩ := cells3 q7n
      clear hW7 r7 b7 r7n q7n
      go_wp2_with fail
      refine (HAL.out _).mono ?_
      rintro e8 w8 ⟨rfl, hb8⟩
      have b8 := bthen b7n hb8
      clear hb8
      go_wp2_with fail
      go_ret
      exact ⟨rfl, b8⟩
    · go_wp2_with fail
      refine (HAL.out _).mono ?_
      rintro e8 w8 ⟨rfl, hb8⟩
      have b8 := bthen b5 hb8
      clear hb8
      go_wp2_with fail
      go_ret
      exact ⟨rfl, b8⟩

set_option maxRecDepth 100000 in
theorem geomBytes_lifted (os : Os) (started : os.Started) (H : Type) (enc : TypeId × Value → H) :
    ReturnsInHanded {} Try.checked os 12 .any (Rows.geomBytesSpec.pre6 enc Try.prog Try.f12 [] false) (Rows.geomBytesSpec.post enc Try.prog Try.f12 false true false false) := by
  refine LawKit.lifted (C := Try.checked) (tb := 4) own started (by kernel_rfl) Try.func12
    (ChangeSpec.witness6 (enc := enc) (C := Try.checked) false ⟨#[], #[GVal 0 0 0, .string ⟨#[]⟩], []⟩ 8 (by kernel_rfl) (by kernel_rfl) (by kernel_rfl) (by kernel_rfl))
    laidOut (by kernel_rfl) rfl (fun ds h => by match ds, h with | [_, _], _ => rfl) rfl Try.underlying4 ?_
  intro W base args ds ps hval0 hA0 hlt hsz
  have hval : ∀ (j : Nat) t v, Try.f12.params[j]? = some t → args[j]? = some v → Value.okWide Try.prog W .any base t v := hval0
  have hA : DataW.TrodAll enc Try.prog W 0 (fun _ => true) true Try.f12.params.toList args.toList ds ps := hA0
  rw [Try.params12] at hA hval
  clear hval0 hA0
  obtain ⟨v0, vs0, d0, ds0, p0, q0, hargs, rfl, rfl, t0, r0⟩ := trodAll_cons hA
  obtain ⟨v1, vs1, d1, ds1, p1, q1, rfl, rfl, rfl, t1, r1⟩ := trodAll_cons r0
  obtain ⟨rfl, rfl, rfl⟩ := trodAll_nil r1
  obtain rfl : args = #[v0, v1] := by cases args; simp_all
  obtain ⟨b, l, f, rfl⟩ := open_geo (hval 0 _ v0 rfl rfl) t0
  obtain ⟨s, rfl, -, -, w_s⟩ := Go.ChangeMaps.open_string Try.underlying9 (hval 1 _ v1 rfl rfl) t1
  exact geom_bytes_any b l f s W

theorem geomBytes_holds : Rows.GeomBytesSaid :=
  OpenClaim.holds_of_wide 12 Try.f12 rfl rfl rfl rfl rfl rfl rfl ⟨rfl, rfl, rfl, rfl, rfl⟩ rfl rfl rfl rfl rfl (by kernel_rfl) Try.func12 (by kernel_rfl)
    (of_decide_eq_true (by kernel_rfl)) (by unfold Func.isWrapper; first | (rw [if_pos (by decide +kernel)]; kernel_rfl) | (rw [if_neg (by decide +kernel)]; exact ⟨rfl, rfl⟩))
    (fun os started H enc _ => geomBytes_lifted os started H enc)
#print axioms geomBytes_holds
end Go.Proofs.Ytdjlagjdbehafaa

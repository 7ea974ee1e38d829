/-
  GeomApart returns true for every shape and every two numbers, and leaves its arguments as they were. No condition.
-/
import Derived.Test.YtdjlagjdbehafaaGeomLaw
import Derived.Test.YtdjlagjdbehafaaText
namespace Go.Proofs.Ytdjlagjdbehafaa
open Go.RowKit Go.ChangeShapes Go.WideShapes Go.ChangeAt

/-! ### The plain law -/
/-- All places: two superblocks, two keys, the first i blocks of data. -/
def allL (s k : Int) (i : Nat) : List Int := [s, 1 - s, 2 + k, 3 - k] ++ (List.range i).map (fun j : Nat => 4 + (j : Int))
theorem allL_len (s k : Int) (i : Nat) : (allL s k i).length = 4 + i := by simp [allL]; omega
theorem allL_succ (s k : Int) (i : Nat) : allL s k (i + 1) = allL s k i ++ [4 + (i : Int)] := by
  simp [allL, List.range_succ]
/-- How many of the first j are p. -/
def cnt (p : Int) (L : List Int) : Int := ((L.filter (· == p)).length : Nat)
theorem cnt_snoc (p : Int) (L : List Int) (x : Int) : cnt p (L ++ [x]) = cnt p L + if x = p then 1 else 0 := by
  unfold cnt
  rw [List.filter_append]
  by_cases h : x = p <;> simp [h]
theorem cnt_bd (p : Int) (L : List Int) : 0 ≤ cnt p L ∧ cnt p L ≤ L.length := by
  unfold cnt
  exact ⟨by omega, by exact_mod_cast List.length_filter_le _ _⟩
theorem cnt_rest (p : Int) (i : Nat) : cnt p ((List.range i).map (fun j : Nat => 4 + (j : Int))) = if 4 ≤ p ∧ p < 4 + i then 1 else 0 := by
  induction i with
  | zero => rw [if_neg (by omega)]; rfl
  | succ i ih =>
    rw [List.range_succ, List.map_append, List.map_singleton, cnt_snoc, ih]
    split <;> split <;> split <;> omega
theorem cnt_app (p : Int) (A B : List Int) : cnt p (A ++ B) = cnt p A + cnt p B := by unfold cnt; rw [List.filter_append, List.length_append]; omega
theorem cnt_all (s k : Int) (i : Nat) (p : Int) (hs : s = 0 ∨ s = 1) (hk : k = 0 ∨ k = 1) (h0 : 0 ≤ p) (h1 : p < 4 + i) : cnt p (allL s k i) = 1 := by
  unfold allL
  rw [cnt_app, cnt_rest]
  by_cases h4 : 4 ≤ p
  · rw [if_pos ⟨h4, h1⟩]
    have : cnt p [s, 1 - s, 2 + k, 3 - k] = 0 := by
      unfold cnt
      rcases hs with rfl | rfl <;> rcases hk with rfl | rfl <;> simp <;> omega
    omega
  · rw [if_neg (fun h => h4 h.1)]
    have h5 : p = 0 ∨ p = 1 ∨ p = 2 ∨ p = 3 := by omega
    rcases hs with rfl | rfl <;> rcases hk with rfl | rfl <;> rcases h5 with rfl | rfl | rfl | rfl <;> rfl
theorem take_snocI (L : List Int) (j : Nat) (h : j < L.length) : L.take (j + 1) = L.take j ++ [L.getD j 0] := by
  rw [List.take_add_one, List.getD_eq_getElem?_getD, List.getElem?_eq_getElem h]; rfl

theorem int_info : (Try.prog.info? 3).map (fun i => (i.zero, i.size, i.bytes)) = some (some (.int .i64 0), 1, 8) := by kernel_rfl

set_option maxRecDepth 100000 in
set_option maxHeartbeats 1600000 in
theorem geom_apart (D : Nat) (l f gen epoch : Int) (hg : GOk (D + 4) l f) (hg1 : 0 ≤ gen) (hg2 : gen ≤ 4611686018427387904) (he1 : 0 ≤ epoch) (he2 : epoch ≤ 4611686018427387904) (w : World) :
    Calls Try.prog 5 #[GVal (D + 4) l f, .int .i64 gen, .int .i64 epoch] w fun e w' => e = .returned (.bool true) ∧ Below w.heap.size w w' := by
  obtain ⟨i0, hi, iz0, iz1, iz2⟩ := info_parts int_info
  have hbd : 8 ≤ (D : Int) + 4 ∧ (D : Int) + 4 ≤ 1024 := ⟨hg.1, hg.2.1⟩
  obtain ⟨hb8, hb1024⟩ := hbd
  have HC := Lib.hid (check_yes (D + 4) l f hg)
  have hd := data_any (D + 4) l f
  have hpl := place_yes (D + 4) l f
  rw [dataV_yes hg, show (D : Int) + 4 - 4 = D from by omega] at hd hpl
  have HD := Lib.hid hd
  have HP := Lib.hid hpl
  clear hd hpl hg
  obtain ⟨s, hs⟩ : ∃ s, s = gen % 2 := ⟨_, rfl⟩
  obtain ⟨k, hk⟩ : ∃ k, k = epoch % 2 := ⟨_, rfl⟩
  have s1 := super_any gen
  have s2 := super_any (gen + 1)
  have s3 := key_any epoch
  have s4 := key_any (epoch + 1)
  rw [if_pos hg1, ← hs] at s1
  rw [if_pos (by omega), show (gen + 1) % 2 = 1 - s from by omega] at s2
  rw [if_pos he1, ← hk] at s3
  rw [if_pos (by omega), show 2 + (epoch + 1) % 2 = 3 - k from by omega] at s4
  have hs01 : s = 0 ∨ s = 1 := by omega
  have hk01 : k = 0 ∨ k = 1 := by omega
  clear hs hk
  have S1 := Lib.hid s1
  have S2 := Lib.hid s2
  have S3 := Lib.hid s3
  have S4 := Lib.hid s4
  clear s1 s2 s3 s4
  have HS := Lib.hid hs01
  have HK := Lib.hid hk01
  clear hs01 hk01
  have hD1 : D ≤ 1020 := by omega
  go_enter Try.func5, Try.ntmps5
  go_wp2_with (first
    | (go_at_call 18; (with_reducible refine (HC.out _).mono ?_); rintro e w1 ⟨rfl, hb1⟩; obtain ⟨hc1, hf1⟩ := bcell hb1; have hz := bsz hb1)
    | (go_at_call 21; (with_reducible refine (S1.out _).mono ?_); rintro e w' ⟨rfl, rfl⟩)
    | (go_at_call 21; (with_reducible refine (S2.out _).mono ?_); rintro e w' ⟨rfl, rfl⟩)
    | (go_at_call 22; (with_reducible refine (S3.out _).mono ?_); rintro e w' ⟨rfl, rfl⟩)
    | (go_at_call 22; (with_reducible refine (S4.out _).mono ?_); rintro e w' ⟨rfl, rfl⟩)
    | (go_at_call 15; (with_reducible refine (HD.out _).mono ?_); rintro e w2 ⟨rfl, hb2⟩))
  have hg1 : w1.heap.size < w2.heap.size := bsz hb2
  have hown : w2.ownsRow (w.heap.size + 1) 3 1 (.slice (some ⟨w1.heap.size, 0, none⟩) 4 4) (4 + 0) ((allL s k 0).map (Value.int .i64)) :=
    own_below (World.ownsRow_lit (base := w.heap.size + 1) (e := 3) (size := 1) w1 #[.int .i64 s, .int .i64 (1 - s), .int .i64 (2 + k), .int .i64 (3 - k)] 4 hz (by unfold maxLen; omega) rfl) hb2
  have hB2 : Below (w.heap.size + 1) (w.alloc (.cells #[.int .i64 ((D : Int) + 4), .int .i64 l, .int .i64 f] 23)) w2 :=
    ((hb1.mono (by simp)).alloc hz _).trans (hb2.mono (by simp; omega))
  have hz2 : w.heap.size + 1 ≤ w2.heap.size := by omega
  clear hb1 hc1 hf1 hb2 hz hg1
  obtain ⟨wo, hwo⟩ : ∃ wo, wo = w2 := ⟨_, rfl⟩
  subst hwo
  go_loopw [7, 48] (fun all c wr => ∃ i : Nat, i ≤ D ∧ c = .int .i64 i ∧ wr.ownsRow (w.heap.size + 1) 3 1 all (4 + i) ((allL s k i).map (Value.int .i64)) ∧
      Below (w.heap.size + 1) (w.alloc (.cells #[.int .i64 ((D : Int) + 4), .int .i64 l, .int .i64 f] 23)) wr ∧ w.heap.size + 1 ≤ wr.heap.size)
    (fun _ c _ => D - (intOf c).toNat)
  case atStart => exact ⟨0, Nat.zero_le _, rfl, hown, hB2, hz2⟩
  case round =>
    obtain ⟨i, hiD, rfl, hown1, hB, hzr⟩ := hrel
    have hbx : ∀ o, wr.cell? ⟨w.heap.size, o, none⟩ = (w.alloc (.cells #[.int .i64 ((D : Int) + 4), .int .i64 l, .int .i64 f] 23)).cell? ⟨w.heap.size, o, none⟩ := fun o => hB.cell (p := ⟨w.heap.size, o, none⟩) (by simp)
    have q0 : wr.cell? ⟨w.heap.size, 0, none⟩ = some (.int .i64 ((D : Int) + 4)) := by rw [hbx]; simp [go_sem]
    have q1 : wr.cell? ⟨w.heap.size, 1, none⟩ = some (.int .i64 l) := by rw [hbx]; simp [go_sem]
    have q2 : wr.cell? ⟨w.heap.size, 2, none⟩ = some (.int .i64 f) := by rw [hbx]; simp [go_sem]
    clear hbx
    by_cases hlt : i < D
    · have hp := HP.out i (by omega) (by omega)
      have HPi := Lib.hid hp
      clear hp
      go_wp2_with (first
        | (go_at_call 16; (with_reducible refine (HPi.out _).mono ?_); rintro e w3 ⟨rfl, hb3⟩; have hown3 := own_below hown1 hb3; have hz3 := hb3.size)
        | (at_builtin; refine wpList_append_own _ rfl _ _ 35 rfl (w.heap.size + 1) 3 i0 (.int .i64 0) 1 8 Try.underlying35 hi iz0 iz1 iz2 rfl (by decide) _ _ _ rfl (hown3.alloc _) ⟨w3.heap.size, 0, none⟩ 1 1 [.int .i64 (4 + i)] rfl rfl ?c1 ?c2 ?c3 ?c4 ?c5 ?_))
      case c1 => exact cell_one_new _ _ _
      case c2 => intro u hu; simp at hu; subst hu; rfl
      case c3 => unfold maxLen; omega
      case c4 => omega
      case c5 => simp; omega
      intro v' w4 hown4 hgrow _
      have hB4 : Below (w.heap.size + 1) wr w4 := ((hb3.mono hzr).alloc (by omega) _).grown hgrow (by simp; omega) (fun q hq => (hown3.lt q hq).1)
      have hz4 := hgrow.size
      clear hgrow hown3 hown1 hb3 q0 q1 q2
      go_wp2
      go_roundw
      case rel => exact ⟨i + 1, by omega, by go_num, by rw [allL_succ, List.map_append]; exact hown4, hB.trans hB4, by simp at hz4; omega⟩
      case measure => simp [intOf]; omega
    · have hiD' : i = D := by omega
      subst hiD'
      obtain ⟨g, cap, rfl, hgb, hgl⟩ := hown1.form (by omega)
      have hcell : ∀ j, j < 4 + i → wr.cell? ⟨g, j, none⟩ = some (.int .i64 ((allL s k i).getD j 0)) := by
        intro j hj
        rw [hown1.cellAt j (by omega), List.getElem?_map, List.getElem?_eq_getElem (by rw [allL_len]; exact hj), List.getD_eq_getElem?_getD, List.getElem?_eq_getElem (by rw [allL_len]; exact hj)]
        rfl
      have hc1 : ∀ p : Int, 0 ≤ p → p < 4 + i → cnt p (allL s k i) = 1 := fun p h0 h1 => cnt_all s k i p HS.out HK.out h0 h1
      have hlen := allL_len s k i
      generalize allL s k i = L at *
      have HCell := Lib.hid hcell
      have HOne := Lib.hid hc1
      have HLen := Lib.hid hlen
      clear hcell hc1 hlen hown1
      go_wp2_with fail
      go_loop [66] (fun c => ∃ p : Nat, p ≤ 4 + i ∧ c = .int .i64 p) (fun c => 4 + i - (intOf c).toNat)
      case atStart => exact ⟨0, Nat.zero_le _, rfl⟩
      case round =>
        obtain ⟨p, hp, rfl⟩ := hrel
        by_cases hpl : p < 4 + i
        · go_wp2_with fail
          go_loop [12, 71] (fun n c => ∃ j : Nat, j ≤ 4 + i ∧ c = .int .i64 j ∧ n = .int .i64 (cnt p (L.take j))) (fun _ c => 4 + i - (intOf c).toNat)
          case atStart => exact ⟨0, Nat.zero_le _, rfl, rfl⟩
          case round =>
            obtain ⟨j, hj, rfl, rfl⟩ := hrel
            by_cases hjl : j < 4 + i
            · have hc := HCell.out j hjl
              obtain ⟨x, hx⟩ : ∃ x, x = L.getD j 0 := ⟨_, rfl⟩
              rw [← hx] at hc
              have hcs : cnt p (L.take (j + 1)) = cnt p (L.take j) + if x = p then 1 else 0 := by
                rw [take_snocI L j (by rw [HLen.out]; exact hjl), cnt_snoc, hx]
              have hcb := cnt_bd p (L.take j)
              have hcl : (L.take j).length ≤ j := List.length_take_le _ _
              obtain ⟨hcb1, hcb2⟩ := hcb
              have HCS := Lib.hid hcs
              clear hx hcs
              by_cases hxp : x = p
              · have hxb : (x == p) = true := by simp [hxp]
                go_wp2_with fail
                go_round
                case rel => exact ⟨j + 1, by omega, by go_num, by rw [HCS.out, if_pos hxp]⟩
                case measure => simp [intOf]; omega
              · have hxb : (x == p) = false := by simp [hxp]
                go_wp2_with fail
                go_round
                case rel => exact ⟨j + 1, by omega, by go_num, by rw [HCS.out, if_neg hxp]; go_num⟩
                case measure => simp [intOf]; omega
            · have hji : j = 4 + i := by omega
              have hone : cnt p (L.take j) = 1 := by rw [hji, ← HLen.out, List.take_length]; exact HOne.out p (by omega) (by omega)
              rw [hone]
              go_wp2_with fail
              go_round
              case rel => exact ⟨p + 1, by omega, by go_num⟩
              case measure => simp [intOf]; omega
        · have hpi : p = 4 + i := by omega
          go_wp2_with (go_at_call 14; (with_reducible refine (geom_alive _).mono ?_); rintro e w5 ⟨rfl, hb5⟩)
          go_ret
          exact ⟨ret_bool (by simp), bthen ((bnew _ _).trans (hB.mono (by omega))) hb5⟩

set_option maxRecDepth 100000 in
set_option maxHeartbeats 1600000 in
theorem geom_apart_else (b l f gen epoch : Int) (h : ¬ (GOk b l f ∧ 0 ≤ gen ∧ gen ≤ 4611686018427387904 ∧ 0 ≤ epoch ∧ epoch ≤ 4611686018427387904)) (w : World) :
    Calls Try.prog 5 #[GVal b l f, .int .i64 gen, .int .i64 epoch] w fun e w' => e = .returned (.bool true) ∧ Below w.heap.size w w' := by
  by_cases hg : GOk b l f
  · have HC := Lib.hid (check_yes b l f hg)
    have h' : gen < 0 ∨ (0 ≤ gen ∧ epoch < 0) ∨ (0 ≤ gen ∧ 0 ≤ epoch ∧ 4611686018427387904 < gen) ∨ (0 ≤ gen ∧ 0 ≤ epoch ∧ gen ≤ 4611686018427387904 ∧ 4611686018427387904 < epoch) := by
      by_cases a1 : gen < 0
      · exact .inl a1
      · by_cases a2 : epoch < 0
        · exact .inr (.inl ⟨by omega, a2⟩)
        · by_cases a3 : 4611686018427387904 < gen
          · exact .inr (.inr (.inl ⟨by omega, by omega, a3⟩))
          · by_cases a4 : 4611686018427387904 < epoch
            · exact .inr (.inr (.inr ⟨by omega, by omega, by omega, a4⟩))
            · exact absurd ⟨hg, by omega, by omega, by omega, by omega⟩ h
    clear h hg
    rcases h' with h1 | ⟨h1, h2⟩ | ⟨h1, h2, h3⟩ | ⟨h1, h2, h3, h4⟩
    all_goals
      go_enter Try.func5, Try.ntmps5
      go_wp2_with (first
        | (go_at_call 18; (with_reducible refine (HC.out _).mono ?_); rintro e w1 ⟨rfl, hb1⟩; obtain ⟨hc1, hf1⟩ := bcell hb1; have hz := bsz hb1)
        | (go_at_call 14; (with_reducible refine (geom_alive _).mono ?_); rintro e w5 ⟨rfl, hb5⟩))
      go_ret
      exact ⟨rfl, bthen (bthen (bnew _ _) hb1) hb5⟩
  · have HC := Lib.hid (check_no b l f hg)
    clear h hg
    go_enter Try.func5, Try.ntmps5
    go_wp2_with (first
      | (go_at_call 18; (with_reducible refine (HC.out _).mono ?_); rintro e w1 ⟨rfl, hb1⟩; obtain ⟨hc1, hf1⟩ := bcell hb1; have hz := bsz hb1)
      | (go_at_call 14; (with_reducible refine (geom_alive _).mono ?_); rintro e w5 ⟨rfl, hb5⟩))
    go_ret
    exact ⟨rfl, bthen (bthen (bnew _ _) hb1) hb5⟩

theorem geom_apart_any (b l f gen epoch : Int) (w : World) :
    Calls Try.prog 5 #[GVal b l f, .int .i64 gen, .int .i64 epoch] w fun e w' => e = .returned (.bool true) ∧ Below w.heap.size w w' := by
  by_cases h : GOk b l f ∧ 0 ≤ gen ∧ gen ≤ 4611686018427387904 ∧ 0 ≤ epoch ∧ epoch ≤ 4611686018427387904
  · obtain ⟨hg, h1, h2, h3, h4⟩ := h
    obtain ⟨D, rfl⟩ : ∃ D : Nat, b = (D : Int) + 4 := ⟨(b - 4).toNat, by have := hg.1; omega⟩
    exact geom_apart D l f gen epoch hg h1 h2 h3 h4 w
  · exact geom_apart_else b l f gen epoch h w

set_option maxRecDepth 100000 in
theorem geomApart_lifted (os : Os) (started : os.Started) (H : Type) (enc : TypeId × Value → H) :
    ReturnsInHanded {} Try.checked os 5 .any (Rows.geomApartSpec.pre6 enc Try.prog Try.f5 [] false) (Rows.geomApartSpec.post enc Try.prog Try.f5 false true false false) := by
  refine LawKit.lifted (C := Try.checked) (tb := 4) own started (by kernel_rfl) Try.func5
    (ChangeSpec.witness6 (enc := enc) (C := Try.checked) false ⟨#[], #[GVal 0 0 0, .int .i64 0, .int .i64 0], []⟩ 8 (by kernel_rfl) (by kernel_rfl) (by kernel_rfl) (by kernel_rfl))
    laidOut (by kernel_rfl) rfl (fun ds h => by match ds, h with | [_, _, _], _ => rfl) rfl Try.underlying4 ?_
  intro W base args ds ps hval0 hA0 hlt hsz
  have hval : ∀ (j : Nat) t v, Try.f5.params[j]? = some t → args[j]? = some v → Value.okWide Try.prog W .any base t v := hval0
  have hA : DataW.TrodAll enc Try.prog W 0 (fun _ => true) true Try.f5.params.toList args.toList ds ps := hA0
  rw [Try.params5] at hA hval
  clear hval0 hA0
  obtain ⟨v0, vs0, d0, ds0, p0, q0, hargs, rfl, rfl, t0, r0⟩ := trodAll_cons hA
  obtain ⟨v1, vs1, d1, ds1, p1, q1, rfl, rfl, rfl, t1, r1⟩ := trodAll_cons r0
  obtain ⟨v2, vs2, d2, ds2, p2, q2, rfl, rfl, rfl, t2, r2⟩ := trodAll_cons r1
  obtain ⟨rfl, rfl, rfl⟩ := trodAll_nil r2
  obtain rfl : args = #[v0, v1, v2] := by cases args; simp_all
  obtain ⟨b, l, f, rfl⟩ := open_geo (hval 0 _ v0 rfl rfl) t0
  obtain ⟨gen, rfl, -, -, w_gen⟩ := open_int Try.underlying3 (hval 1 _ v1 rfl rfl) t1
  obtain ⟨epoch, rfl, -, -, w_epoch⟩ := open_int Try.underlying3 (hval 2 _ v2 rfl rfl) t2
  exact geom_apart_any b l f gen epoch W

theorem geomApart_holds : Rows.GeomApartSaid :=
  OpenClaim.holds_of_wide 5 Try.f5 rfl rfl rfl rfl rfl rfl rfl ⟨rfl, rfl, rfl, rfl, rfl⟩ rfl rfl rfl rfl rfl (by kernel_rfl) Try.func5 (by kernel_rfl)
    (of_decide_eq_true (by kernel_rfl)) (by unfold Func.isWrapper; first | (rw [if_pos (by decide +kernel)]; kernel_rfl) | (rw [if_neg (by decide +kernel)]; exact ⟨rfl, rfl⟩))
    (fun os started H enc _ => geomApart_lifted os started H enc)
#print axioms geomApart_holds

end Go.Proofs.Ytdjlagjdbehafaa

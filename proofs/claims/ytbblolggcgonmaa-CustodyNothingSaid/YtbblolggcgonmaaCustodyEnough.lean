/-
  CustodyEnough returns true for every secret, every two numbers, every noise, whichever shares are taken, and leaves its arguments as they were. No condition.
-/
import Derived.Test.YtbblolggcgonmaaCustodyJoins
namespace Go.Proofs.Ytbblolggcgonmaa
open Go.RowKit Go.ChangeShapes Go.WideShapes Go.ChangeAt

/-! ### The plain law -/
theorem sharesL_get (s n : List UInt8) (k m j : Nat) (p : Sh) (h : (sharesL s n k m)[j]? = some p) : j < m ∧ p.1 = UInt8.ofNat (j + 1) ∧ p.2 = ⟨(shareL s n k p.1).toArray⟩ := by
  unfold sharesL at h
  rw [List.getElem?_map] at h
  by_cases hj : j < m
  · rw [List.getElem?_range hj] at h
    have h := Option.some.inj h
    subst h
    exact ⟨hj, rfl, rfl⟩
  · rw [List.getElem?_eq_none (by simpa using hj)] at h
    simp at h
theorem sharesL_mem {s n : List UInt8} {k m : Nat} {p : Sh} (hm : m ≤ 255) (h : p ∈ sharesL s n k m) : p.1 ≠ 0 ∧ p.2 = ⟨(shareL s n k p.1).toArray⟩ := by
  obtain ⟨j, hj⟩ := List.mem_iff_getElem?.mp h
  obtain ⟨h1, h2, h3⟩ := sharesL_get s n k m j p hj
  refine ⟨fun e => ?_, h3⟩
  rw [h2] at e
  have := congrArg UInt8.toNat e
  rw [UInt8.toNat_ofNat'] at this
  simp at this
  omega
theorem sharesL_nodup {s n : List UInt8} {k m : Nat} (hm : m ≤ 255) : ((sharesL s n k m).map (·.1)).Nodup := by
  refine List.pairwise_iff_getElem.mpr fun i j hi hj hij e => ?_
  rw [List.length_map, sharesL_len] at hi hj
  rw [List.getElem_map, List.getElem_map] at e
  have a := (sharesL_get s n k m i _ (List.getElem?_eq_getElem (by rw [sharesL_len]; exact hi))).2.1
  have b := (sharesL_get s n k m j _ (List.getElem?_eq_getElem (by rw [sharesL_len]; exact hj))).2.1
  rw [a, b] at e
  have := congrArg UInt8.toNat e
  rw [UInt8.toNat_ofNat', UInt8.toNat_ofNat'] at this
  omega
theorem getD_map' {α : Type} (f : α → UInt8) (M : List α) (q : Nat) (p : α) (h : M[q]? = some p) : (M.map f).getD q 0 = f p := by
  rw [List.getD_eq_getElem?_getD, List.getElem?_map, h]; rfl
/-- So many are enough. -/
theorem enough_plain (s n : ByteArray) (k m : Nat) (M : List Sh) (hsub : M.Sublist (sharesL s.data.toList n.data.toList k m)) (hM : k ≤ M.length) (hk : 1 ≤ k) (hm : m ≤ 255) (h1 : 1 ≤ s.size) (h2 : s.size ≤ 64) :
    MayOk M ∧ (∀ p ∈ M, p.2.size = s.size) ∧ valueL M 0 s.size = s.data.toList := by
  have hmem : ∀ p ∈ M, p.1 ≠ 0 ∧ p.2 = ⟨(shareL s.data.toList n.data.toList k p.1).toArray⟩ := fun p hp => sharesL_mem hm (hsub.subset hp)
  have hsz : ∀ p ∈ M, p.2.size = s.size := fun p hp => by
    rw [(hmem p hp).2]
    show (shareL s.data.toList n.data.toList k p.1).toArray.size = _
    simp [shareL]
  have hnd : (M.map (·.1)).Nodup := List.Nodup.sublist (hsub.map _) (sharesL_nodup hm)
  refine ⟨?_, hsz, ?_⟩
  · cases M with
    | nil => simp at hM; omega
    | cons p0 L' =>
      have e := hsz p0 (by simp)
      exact ⟨p0, L', rfl, by omega, by omega, fun p hp => ⟨(hmem p hp).1, by rw [hsz p hp, e]⟩, hnd⟩
  · unfold valueL
    apply List.ext_getElem?
    intro b
    by_cases hb : b < s.size
    · rw [List.getElem?_map, List.getElem?_range hb]
      show some (lagr (M.map (·.1)) (col M b) 0) = _
      have hl : b < s.data.toList.length := by simpa using hb
      rw [lagr_eq (p := colP s.data.toList n.data.toList s.size k b) hnd (by rw [colP_length, List.length_map]; exact hM)]
      · have hg := colP_get s.data.toList n.data.toList s.size k b 0 (by omega)
        rw [if_pos rfl] at hg
        have := pe_drop hg 0
        rw [List.drop_zero] at this
        rw [this, zero_gm, UInt8.xor_zero, List.getD_eq_getElem?_getD, List.getElem?_eq_getElem hl]
        rfl
      · intro q hq
        rw [List.length_map] at hq
        have hp := List.getElem?_eq_getElem hq
        show (col M b).getD q 0 = pe _ ((places M).getD q 0)
        unfold col places
        rw [getD_map' _ M q _ hp, getD_map' _ M q _ hp]
        rw [(hmem M[q] (List.getElem_mem hq)).2]
        show (shareL s.data.toList n.data.toList k M[q].1).getD b 0 = _
        unfold shareL
        rw [List.getD_eq_getElem?_getD, List.getElem?_map, List.getElem?_range hl]
        simp
    · rw [List.getElem?_eq_none (by simpa using hb), List.getElem?_eq_none (by simpa using hb)]

theorem ShAt.drop {w : World} {B : Nat} {ad : Addr} {L : List Sh} (h : ShAt w B (some ad) L) (q : Nat) : ShAt w B (some (ad.add (q * 2))) (L.drop q) :=
  ⟨by simp, fun hn => by
    obtain ⟨ad', e, hl, hc⟩ := h.lies (by simp at hn; omega)
    cases e
    refine ⟨_, rfl, by rw [block_add']; exact hl, fun i cs hi => ?_⟩
    rw [List.map_drop, List.getElem?_drop] at hi
    obtain ⟨h1, h2⟩ := hc (q + i) cs hi
    refine ⟨h1, fun j hj => ?_⟩
    rw [add_add', show q * 2 + (i * 2 + j) = (q + i) * 2 + j from by omega]
    exact h2 j hj⟩

theorem open_flagsAt {H : Type} {enc : TypeId × Value → H} {W : World} {base : Nat} {v : Value} {d : DataW H} {ps : List MemPlace} (hval : Value.okWide Try.prog W .any base 24 v)
    (hd : DataW.Trod enc Try.prog W 0 (fun _ => true) true 24 v d ps) :
    ∃ (A : Option Addr) (n c : Nat) (bs : List Bool), v = .slice A n c ∧ RowsAt W W.heap.size A n 1 (bs.map fun b => [Value.bool b]) := by
  have hc : Try.prog.cellsOf 4 = 1 := by kernel_rfl
  obtain ⟨A, n, c, X, rfl, h1, h2, h3, h4⟩ := open_rowsAt Try.underlying24 (by rw [hc]; omega) hval hd
  rw [hc] at h3
  obtain ⟨bs, rfl⟩ := list_of (fun b => [Value.bool b]) X (fun cs hcs => by
    obtain ⟨fuel, y, hy⟩ := h4 cs hcs
    obtain ⟨b, hb, _⟩ := DataW.trod_bool Try.underlying4 hy
    exact ⟨b, hb⟩)
  exact ⟨A, n, c, bs, rfl, h3⟩
theorem flag_get {w : World} {B : Nat} {A : Option Addr} {n : Nat} {bs : List Bool} (h : RowsAt w B A n 1 (bs.map fun b => [Value.bool b])) {i : Nat} (hi : i < n) : ∃ ad b, A = some ad ∧ ad.block < B ∧ w.cell? (ad.add i) = some (.bool b) := by
  obtain ⟨ad, e, hl, hc⟩ := h.lies (by omega)
  have hlen := h.len
  rw [List.length_map] at hlen
  have := (hc i [.bool (bs[i]'(by omega))] (by rw [List.getElem?_map, List.getElem?_eq_getElem (by omega)]; rfl)).2 0 (by omega)
  rw [show i * 1 + 0 = i from by omega] at this
  exact ⟨ad, _, e, hl, this⟩

/-- The shares of a secret, with their room. -/
theorem split_room (s n : ByteArray) (k m : Nat) (h1 : 1 ≤ s.size) (h2 : s.size ≤ 64) (hk : 1 ≤ k) (hkm : k ≤ m) (hm : m ≤ 255) (hn : n.size = (k - 1) * s.size) (w : World) :
    Calls Try.prog 24 #[.string s, .int .i64 (k : Int), .int .i64 (m : Int), .string n] w fun e w' => (∃ ad cap, e = .returned (.tuple #[.slice (some ad) m cap, .int .i64 0]) ∧ m ≤ cap ∧ cap ≤ maxLen ∧ ShAt w' w'.heap.size (some ad) (sharesL s.data.toList n.data.toList k m)) ∧ Below w.heap.size w w' :=
  (split_ok s n k m h1 h2 hk hkm hm hn w).mono fun e w' ⟨⟨v, he, ho⟩, hb⟩ => by
    have ho' := ho
    have hs := ho
    obtain ⟨g, cap, rfl, _, hgl⟩ := ho.form (by omega)
    have hsh := ShAt.own hs (sharesL_len _ _ _ _).symm (sharesV_eq _ _ _ _) hgl
    refine ⟨⟨_, cap, he, ?_, ?_, hsh⟩, hb⟩
    · rcases ho'.2 with ⟨e, _⟩ | ⟨_, _, _, e, _, _, h, _⟩
      · cases e
      · cases e; exact h
    · rcases ho'.2 with ⟨e, _⟩ | ⟨_, _, _, e, _, _, _, h, _⟩
      · cases e
      · cases e; exact h

/-! ### The walk -/
theorem enough_refused (s n : ByteArray) (k m : Int) (At : Option Addr) (lt ct : Nat) (h : ¬ SOk s n k m) (hsm : s.size ≤ maxLen) (hnm : n.size ≤ maxLen) (w : World) :
    Calls Try.prog 8 #[.string s, .int .i64 k, .int .i64 m, .string n, .slice At lt ct] w fun e w' => e = .returned (.bool true) ∧ Below w.heap.size w w' := by
  have HS := Lib.hid (split_no s n k m h hsm hnm)
  clear h
  go_enter Try.func8, Try.ntmps8
  go_wp2_with fail
  refine (HS.out _).mono ?_; rintro e w1 ⟨rfl, hb1⟩
  go_wp2_with (go_at_call 23; (with_reducible refine (custody_alive _).mono ?_); rintro e w5 ⟨rfl, hb5⟩)
  go_ret
  exact ⟨rfl, bthen hb1 hb5⟩
theorem enough_many (s n : ByteArray) (k m : Nat) (At : Option Addr) (lt ct : Nat) (h1 : 1 ≤ s.size) (h2 : s.size ≤ 64) (hk : 1 ≤ k) (hkm : k ≤ m) (hm : m ≤ 255) (hn : n.size = (k - 1) * s.size) (h12 : 12 < m) (w : World) :
    Calls Try.prog 8 #[.string s, .int .i64 (k : Int), .int .i64 (m : Int), .string n, .slice At lt ct] w fun e w' => e = .returned (.bool true) ∧ Below w.heap.size w w' := by
  have HS := Lib.hid (split_yes s n k m h1 h2 hk hkm hm hn)
  have h12' : (12 : Int) < (m : Int) := by omega
  clear hn
  go_enter Try.func8, Try.ntmps8
  go_wp2_with fail
  refine (HS.out _).mono ?_; rintro e w1 ⟨⟨A1, c1, rfl, s1⟩, hb1⟩
  clear s1
  go_wp2_with (go_at_call 23; (with_reducible refine (custody_alive _).mono ?_); rintro e w5 ⟨rfl, hb5⟩)
  go_ret
  exact ⟨rfl, bthen hb1 hb5⟩

set_option maxRecDepth 100000 in
set_option maxHeartbeats 6400000 in
theorem enough_done (s n : ByteArray) (k m : Nat) (At : Option Addr) (lt ct : Nat) (bs : List Bool) (h1 : 1 ≤ s.size) (h2 : s.size ≤ 64) (hk : 1 ≤ k) (hkm : k ≤ m) (hm : m ≤ 12) (hn : n.size = (k - 1) * s.size) (w : World) (hAt : RowsAt w w.heap.size At lt 1 (bs.map fun b => [Value.bool b])) :
    Calls Try.prog 8 #[.string s, .int .i64 (k : Int), .int .i64 (m : Int), .string n, .slice At lt ct] w fun e w' => e = .returned (.bool true) ∧ Below w.heap.size w w' := by
  have HS := Lib.hid (split_room s n k m h1 h2 hk hkm (by omega) hn)
  obtain ⟨L, hL⟩ : ∃ L, L = sharesL s.data.toList n.data.toList k m := ⟨_, rfl⟩
  have hP : ∀ M : List Sh, M.Sublist L → k ≤ M.length → ∀ A cap w, ShAt w w.heap.size A M → Calls Try.prog 31 #[.slice A M.length cap] w fun e w' => e = .returned (.tuple #[.string s, .int .i64 0]) ∧ Below w.heap.size w w' := by
    intro M hs hkM A cap w hA
    rw [hL] at hs
    obtain ⟨p1, p2, p3⟩ := enough_plain s n k m M hs hkM hk (by omega) h1 h2
    have hml : M.length ≤ m := by have := hs.length_le; rw [sharesL_len] at this; exact this
    have := joins_yes M M.length rfl A cap s.size w hA (by omega) p1 p2
    rw [p3] at this
    exact this
  have hLl : L.length = m := by rw [hL, sharesL_len]
  rw [← hL] at HS
  have HP := Lib.hid hP
  have HLL := Lib.hid hLl
  have HAt := Lib.hid hAt
  clear hL hP hLl hn hAt
  obtain ⟨i0, hi, iz0, iz1, iz2⟩ := info_parts share_info
  have hkm2 : decide (m < k) = false := by simp; omega
  go_enter Try.func8, Try.ntmps8
  go_wp2_with fail
  refine (HS.out _).mono ?_; rintro e w1 ⟨⟨ad, c1, rfl, hc1, hc2, s1⟩, hb1⟩
  have hc1' : (m : Int) ≤ (c1 : Int) := by omega
  have S1 := Lib.hid s1
  have hz1 := hb1.size
  clear s1
  go_wp2_with fail
  go_loopw [13, 48] (fun out c wr => ∃ (j : Nat) (M : List Sh), j ≤ m ∧ c = .int .i64 j ∧ M.Sublist (L.take j) ∧ wr.ownsRow w1.heap.size 62 2 out M.length (M.map shCells).flatten ∧ Below w1.heap.size w1 wr) (fun _ c _ => m - (intOf c).toNat)
  case atStart => exact ⟨0, [], Nat.zero_le _, rfl, List.Sublist.refl _, World.ownsRow_nil _ _ _ _, Below.refl _ _⟩
  case round =>
    obtain ⟨j, M, hj, rfl, hsub, hown, hbw⟩ := hrel
    have hz := hbw.size
    by_cases hlt : j < m
    · obtain ⟨p, hp⟩ : ∃ p, L[j]? = some p := ⟨L[j]'(by rw [HLL.out]; exact hlt), List.getElem?_eq_getElem _⟩
      obtain ⟨ad', had, hadl, k0, k1⟩ := (S1.out.below hbw).get hp
      cases had
      obtain ⟨x, d⟩ := p
      simp only at k0 k1
      have hjm3 : (j : Int) < (m : Int) := by omega
      have HP1 := Lib.hid hp
      have HOwn := Lib.hid hown
      have hMl : M.length ≤ j := by have := hsub.length_le; rw [List.length_take] at this; omega
      have HSub := Lib.hid hsub
      obtain ⟨ml, hml⟩ : ∃ q, q = M.length := ⟨_, rfl⟩
      obtain ⟨X, hX⟩ : ∃ q, q = (M.map shCells).flatten := ⟨_, rfl⟩
      rw [← hml, ← hX] at HOwn
      rw [← hml] at hMl
      have HML := Lib.hid hml
      have HX := Lib.hid hX
      clear hp hown hsub hml hX
      by_cases hjt : j < lt
      · obtain ⟨at', b, rfl, hatl, ca⟩ := flag_get (RowsAt.below HAt.out (hb1.trans (hbw.mono hz1))) hjt
        have ca' : (wr.alloc (.cells #[.int .u8 ((x.toNat : Nat) : Int), .string d] 62)).cell? (at'.add j) = some (.bool b) := ((bnew wr _).cell (p := at'.add j) (by rw [block_add']; omega)).trans ca
        have hjt3 : (j : Int) < (lt : Int) := by omega
        cases b with
        | true =>
          go_wp2_with (at_builtin; refine wpList_append_own _ rfl _ _ 45 rfl w1.heap.size 62 i0 (.agg #[.int .u8 0, .string ⟨#[]⟩]) 2 24 Try.underlying45 hi iz0 iz1 iz2 rfl (by decide) _ _ _ rfl ((HOwn.out.alloc _).alloc _) ⟨wr.heap.size + 1, 0, none⟩ 1 1 [.int .u8 ((x.toNat : Nat) : Int), .string d] rfl rfl ?c1 ?c2 ?c3 ?c4 ?c5 ?_)
          case c1 => intro q u hu; match q, hu with
                                   | 0, hu => simp at hu; subst hu; simp [go_sem]
                                   | 1, hu => simp at hu; subst hu; simp [go_sem]
                                   | q + 2, hu => simp at hu
          case c2 => intro u hu; simp at hu; rcases hu with rfl | rfl <;> rfl
          case c3 => unfold maxLen; omega
          case c4 => omega
          case c5 => simp; omega
          intro v' w4 hown4 hgrow _
          have hB4 : Below w1.heap.size w1 w4 := ((hbw.alloc hz _).alloc (by simp; omega) _).grown hgrow (by simp; omega) (fun q hq => (HOwn.out.lt q hq).1)
          have HO4 := Lib.hid hown4
          clear hgrow hown4 HOwn
          go_wp2_with fail
          go_roundw
          case rel =>
            refine ⟨j + 1, M ++ [(x, d)], by omega, by go_num, ?_, ?_, hB4⟩
            · rw [take_snoc' HP1.out]
              exact HSub.out.append (List.Sublist.refl _)
            · rw [List.length_append, List.map_append, List.flatten_append, ← HML.out, ← HX.out]
              exact HO4.out
          case measure => simp [intOf]; omega
        | false =>
          go_wp2_with fail
          go_roundw
          case rel =>
            refine ⟨j + 1, M, by omega, by go_num, ?_, ?_, hbw.alloc hz _⟩
            · rw [take_snoc' HP1.out]
              exact HSub.out.trans (List.sublist_append_left _ _)
            · rw [← HML.out, ← HX.out]
              exact HOwn.out.alloc _
          case measure => simp [intOf]; omega
      · have hjt3 : ¬ (j : Int) < (lt : Int) := by omega
        go_wp2_with fail
        go_roundw
        case rel =>
          refine ⟨j + 1, M, by omega, by go_num, ?_, ?_, hbw.alloc hz _⟩
          · rw [take_snoc' HP1.out]
            exact HSub.out.trans (List.sublist_append_left _ _)
          · rw [← HML.out, ← HX.out]
            exact HOwn.out.alloc _
        case measure => simp [intOf]; omega
    · have hjm' : j = m := by omega
      rw [hjm', ← HLL.out, List.take_length] at hsub
      have hMl : M.length ≤ m := by have := hsub.length_le; have := HLL.out; omega
      by_cases hkM : k ≤ M.length
      · obtain ⟨A', cap', rfl, hsh⟩ := own_sh hown rfl rfl
        have HJ := Lib.hid (HP.out M hsub hkM A' cap' wr hsh)
        obtain ⟨ml, hml⟩ : ∃ q, q = M.length := ⟨_, rfl⟩
        rw [← hml] at HJ hkM ⊢
        clear hsub hown hsh hml
        go_wp2_with fail
        refine HJ.out.mono ?_; rintro e w2 ⟨rfl, hb2⟩
        go_wp2_with (go_at_call 23; (with_reducible refine (custody_alive _).mono ?_); rintro e w5 ⟨rfl, hb5⟩)
        go_ret
        exact ⟨rfl, bthen (bthen (bthen hb1 hbw) hb2) hb5⟩
      · have hdl : (L.drop (m - k)).length = k := by rw [List.length_drop, HLL.out]; omega
        have hj := fun cap => HP.out (L.drop (m - k)) (List.drop_sublist _ _) (by omega) (some (ad.add ((m - k) * 2))) cap wr (ShAt.drop (S1.out.up hbw hz) (m - k))
        rw [hdl] at hj
        have HJ := Lib.hid hj
        obtain ⟨A', cap', rfl, hsh⟩ := own_sh hown rfl rfl
        obtain ⟨ml, hml⟩ : ∃ q, q = M.length := ⟨_, rfl⟩
        rw [← hml] at hkM ⊢
        have hkM' : (ml : Int) < (k : Int) := by omega
        clear hsub hown hsh hml hj hdl
        go_wp2_with fail
        rw [show m - (m - k) = k from by omega]
        refine (HJ.out _).mono ?_; rintro e w2 ⟨rfl, hb2⟩
        go_wp2_with (go_at_call 23; (with_reducible refine (custody_alive _).mono ?_); rintro e w5 ⟨rfl, hb5⟩)
        go_ret
        exact ⟨rfl, bthen (bthen (bthen hb1 hbw) hb2) hb5⟩

theorem enough_any (s n : ByteArray) (k m : Int) (At : Option Addr) (lt ct : Nat) (bs : List Bool) (hsm : s.size ≤ maxLen) (hnm : n.size ≤ maxLen) (w : World) (hAt : RowsAt w w.heap.size At lt 1 (bs.map fun b => [Value.bool b])) :
    Calls Try.prog 8 #[.string s, .int .i64 k, .int .i64 m, .string n, .slice At lt ct] w fun e w' => e = .returned (.bool true) ∧ Below w.heap.size w w' := by
  by_cases h : SOk s n k m
  · obtain ⟨k, m, rfl, rfl, p1, p2, p3, p4, p5, p6⟩ := yes_nat h
    by_cases h12 : m ≤ 12
    · exact enough_done s n k m At lt ct bs p1 p2 p3 p4 h12 p6 w hAt
    · exact enough_many s n k m At lt ct p1 p2 p3 p4 p5 p6 (by omega) w
  · exact enough_refused s n k m At lt ct h hsm hnm w

set_option maxRecDepth 100000 in
theorem custodyEnough_lifted (os : Os) (started : os.Started) (H : Type) (enc : TypeId × Value → H) :
    ReturnsInHanded {} Try.checked os 8 .any (Rows.custodyEnoughSpec.pre6 enc Try.prog Try.f8 [] false) (Rows.custodyEnoughSpec.post enc Try.prog Try.f8 false true false false) := by
  refine LawKit.lifted (C := Try.checked) (tb := 4) own started (by kernel_rfl) Try.func8
    (ChangeSpec.witness6 (enc := enc) (C := Try.checked) false ⟨#[], #[.string ⟨#[]⟩, .int .i64 0, .int .i64 0, .string ⟨#[]⟩, .slice none 0 0], []⟩ 8 (by kernel_rfl) (by kernel_rfl) (by kernel_rfl) (by kernel_rfl))
    laidOut (by kernel_rfl) rfl (fun ds h => by match ds, h with | [_, _, _, _, _], _ => rfl) rfl Try.underlying4 ?_
  intro W base args ds ps hval0 hA0 hlt hsz
  have hval : ∀ (j : Nat) t v, Try.f8.params[j]? = some t → args[j]? = some v → Value.okWide Try.prog W .any base t v := hval0
  have hA : DataW.TrodAll enc Try.prog W 0 (fun _ => true) true Try.f8.params.toList args.toList ds ps := hA0
  rw [Try.params8] at hA hval
  clear hval0 hA0
  obtain ⟨v0, vs0, d0, ds0, p0, q0, hargs, rfl, rfl, t0, r0⟩ := trodAll_cons hA
  obtain ⟨v1, vs1, d1, ds1, p1, q1, rfl, rfl, rfl, t1, r1⟩ := trodAll_cons r0
  obtain ⟨v2, vs2, d2, ds2, p2, q2, rfl, rfl, rfl, t2, r2⟩ := trodAll_cons r1
  obtain ⟨v3, vs3, d3, ds3, p3, q3, rfl, rfl, rfl, t3, r3⟩ := trodAll_cons r2
  obtain ⟨v4, vs4, d4, ds4, p4, q4, rfl, rfl, rfl, t4, r4⟩ := trodAll_cons r3
  obtain ⟨rfl, rfl, rfl⟩ := trodAll_nil r4
  obtain rfl : args = #[v0, v1, v2, v3, v4] := by cases args; simp_all
  obtain ⟨s, rfl, -, -, w_s⟩ := Go.ChangeMaps.open_string Try.underlying9 (hval 0 _ v0 rfl rfl) t0
  obtain ⟨k, rfl, -, -, w_k⟩ := open_int Try.underlying3 (hval 1 _ v1 rfl rfl) t1
  obtain ⟨m, rfl, -, -, w_m⟩ := open_int Try.underlying3 (hval 2 _ v2 rfl rfl) t2
  obtain ⟨n, rfl, -, -, w_n⟩ := Go.ChangeMaps.open_string Try.underlying9 (hval 3 _ v3 rfl rfl) t3
  have hv4 := hval 4 _ v4 rfl rfl
  exact by obtain ⟨At, lt, ct, bs, rfl, hF⟩ := open_flagsAt hv4 t4; exact enough_any s n k m At lt ct bs w_s w_n W hF

theorem custodyEnough_holds : Rows.CustodyEnoughSaid :=
  OpenClaim.holds_of_wide 8 Try.f8 rfl rfl rfl rfl rfl rfl rfl ⟨rfl, rfl, rfl, rfl, rfl⟩ rfl rfl rfl rfl rfl (by kernel_rfl) Try.func8 (by kernel_rfl)
    (of_decide_eq_true (by kernel_rfl)) (by unfold Func.isWrapper; first | (rw [if_pos (by decide +kernel)]; kernel_rfl) | (rw [if_neg (by decide +kernel)]; exact ⟨rfl, rfl⟩))
    (fun os started H enc _ => custodyEnough_lifted os started H enc)
#print axioms custodyEnough_holds

end Go.Proofs.Ytbblolggcgonmaa

/-
  The contract of the reference's Split (chapter 37). No condition. Own work.
-/
import Derived.Test.YtbblolggcgonmaaAliveC
namespace Go.Proofs.Ytbblolggcgonmaa
open Go.RowKit

theorem rshare_info : (Try.prog.info? 74).map (fun i => (i.zero, i.size, i.bytes)) = some (some (.agg #[.int .u8 0, .string ⟨#[]⟩]), 2, 24) := by kernel_rfl

theorem rmul_u8 (a b : UInt8) (w : World) :
    Calls Try.prog 43 #[.int .i64 ((a.toNat : Nat) : Int), .int .i64 ((b.toNat : Nat) : Int)] w fun e w' => e = .returned (.int .i64 (((gm a b).toNat : Nat) : Int)) ∧ w = w' := by
  have := rmul_any a.toNat b.toNat a.toNat_lt b.toNat_lt w
  rw [← gm_nat] at this
  exact this
theorem rover_u8 (a : UInt8) (w : World) :
    Calls Try.prog 29 #[.int .i64 ((a.toNat : Nat) : Int)] w fun e w' => e = .returned (.int .i64 (((ov a).toNat : Nat) : Int)) ∧ w = w' := by
  have := rover_any a.toNat a.toNat_lt w
  rw [← ov_nat] at this
  exact this
theorem w64_byte (a : UInt8) : wrap64 ((a.toNat : Nat) : Int) = ((a.toNat : Nat) : Int) := by
  have := a.toNat_lt
  unfold wrap64
  omega
theorem bxor64 (a b : UInt8) : bits .xor .i64 ((a.toNat : Nat) : Int) ((b.toNat : Nat) : Int) = (((a ^^^ b).toNat : Nat) : Int) := by
  have h1 := a.toNat_lt
  have h2 := b.toNat_lt
  rw [i64_xor_nat a.toNat b.toNat (by omega) (by omega), UInt8.toNat_xor]

theorem str_app (A B : List UInt8) : (⟨A.toArray⟩ : ByteArray) ++ ⟨B.toArray⟩ = ⟨(A ++ B).toArray⟩ := by
  apply ByteArray.ext
  simp [ByteArray.data_append]
theorem str_snoc (A : List UInt8) (v : UInt8) : (⟨A.toArray⟩ : ByteArray) ++ ⟨#[v]⟩ = ⟨(A ++ [v]).toArray⟩ := str_app A [v]
/-- 'string([]byte{byte(n)})'. -/
theorem one_str (v : UInt8) (W : World) : (convert 72 9 (.slice (some ⟨W.heap.size, 0, none⟩) 1 1)).run Try.prog (W.alloc (.cells #[.int .u8 (((v.toNat : Nat) : Int) % 256)] 5)) = .ok (.string ⟨#[v]⟩) (W.alloc (.cells #[.int .u8 (((v.toNat : Nat) : Int) % 256)] 5)) := by
  have hF : Filled (W.alloc (.cells #[.int .u8 (((v.toNat : Nat) : Int) % 256)] 5)) W.heap.size 5 1 [v] (fun _ => True) := by
    refine ⟨#[.int .u8 (((v.toNat : Nat) : Int) % 256)], heap_alloc_new W _, rfl, fun j c _ hj => ?_⟩
    match j with
    | 0 =>
      simp at hj
      subst hj
      have := v.toNat_lt
      have e : ((v.toNat : Nat) : Int) % 256 = ((v.toNat : Nat) : Int) := by omega
      rw [e]; rfl
    | j + 1 => simp at hj
  exact hF.str (P := Try.prog) (fun _ _ => trivial) rfl 1 72 5 9 Try.underlying72 Try.underlying5 Try.underlying9

set_option maxHeartbeats 800000 in
theorem rsplit_short (s n : ByteArray) (k m : Int) (hs : s.size < 1 ∨ 64 < s.size) (_hsm : s.size ≤ maxLen) (_hnm : n.size ≤ maxLen) (w : World) :
    Calls Try.prog 25 #[.string s, .int .i64 k, .int .i64 m, .string n] w fun e w' => e = .returned (.tuple #[.slice none 0 0, .bool false]) ∧ Below w.heap.size w w' := by
  go_enter Try.func25, Try.ntmps25
  go_wp2_with fail
  all_goals
    go_ret2
    exact ⟨rfl, Below.refl _ _⟩

set_option maxHeartbeats 1600000 in
theorem rsplit_odd (s n : ByteArray) (k m : Int) (_h1 : 1 ≤ s.size) (_h2 : s.size ≤ 64) (h : k < 1 ∨ (1 ≤ k ∧ m < k) ∨ (1 ≤ k ∧ k ≤ m ∧ 255 < m)) (w : World) :
    Calls Try.prog 25 #[.string s, .int .i64 k, .int .i64 m, .string n] w fun e w' => e = .returned (.tuple #[.slice none 0 0, .bool false]) ∧ Below w.heap.size w w' := by
  rcases h with h | ⟨ha, h⟩ | ⟨ha, hb, h⟩
  all_goals
    go_enter Try.func25, Try.ntmps25
    go_wp2_with fail
    go_ret2
    exact ⟨rfl, Below.refl _ _⟩
theorem rsplit_noise (s n : ByteArray) (k : Nat) (m : Int) (_h1 : 1 ≤ s.size) (h2 : s.size ≤ 64) (hk : 1 ≤ k) (_hkm : (k : Int) ≤ m) (_hm : m ≤ 255) (hn : n.size ≠ (k - 1) * s.size) (w : World) :
    Calls Try.prog 25 #[.string s, .int .i64 (k : Int), .int .i64 m, .string n] w fun e w' => e = .returned (.tuple #[.slice none 0 0, .bool false]) ∧ Below w.heap.size w w' := by
  obtain ⟨q, hq⟩ : ∃ q, q = (k - 1) * s.size := ⟨_, rfl⟩
  have hqi : ((k : Int) - 1) * (s.size : Int) = (q : Int) := by rw [hq, show (k : Int) - 1 = ((k - 1 : Nat) : Int) from by omega]; simp
  have hql : q ≤ 255 * 64 := by rw [hq]; exact Nat.mul_le_mul (by omega) h2
  rw [← hq] at hn
  have hne : ((n.size : Int) != (q : Int)) = true := by simp; omega
  clear hq
  go_enter Try.func25, Try.ntmps25
  go_wp2_with fail
  go_ret2
  exact ⟨rfl, Below.refl _ _⟩

set_option maxRecDepth 100000 in
set_option maxHeartbeats 6400000 in
theorem rsplit_ok (s n : ByteArray) (k m : Nat) (h1 : 1 ≤ s.size) (h2 : s.size ≤ 64) (hk : 1 ≤ k) (hkm : k ≤ m) (hm : m ≤ 255) (hn : n.size = (k - 1) * s.size) (w : World) :
    Calls Try.prog 25 #[.string s, .int .i64 (k : Int), .int .i64 (m : Int), .string n] w fun e w' => (∃ v, e = .returned (.tuple #[v, .bool true]) ∧ w'.ownsRow w.heap.size 74 2 v m (sharesV s.data.toList n.data.toList k m)) ∧ Below w.heap.size w w' := by
  have HN := Lib.hid hn
  obtain ⟨q, hq⟩ : ∃ q, q = (k - 1) * s.size := ⟨_, rfl⟩
  have hqi : ((k : Int) - 1) * (s.size : Int) = (q : Int) := by rw [hq, show (k : Int) - 1 = ((k - 1 : Nat) : Int) from by omega]; simp
  have hql : q ≤ 255 * 64 := by rw [hq]; exact Nat.mul_le_mul (by omega) h2
  rw [← hq] at hn
  have hne : ((n.size : Int) != (q : Int)) = false := by simp; omega
  have hkm2 : decide (m < k) = false := by simp; omega
  clear hq
  obtain ⟨i0, hi, iz0, iz1, iz2⟩ := info_parts rshare_info
  go_enter Try.func25, Try.ntmps25
  go_wp2_with fail
  go_loopw [10, 11] (fun out c wr => ∃ j : Nat, j ≤ m ∧ c = .int .i64 ((j : Int) + 1) ∧ wr.ownsRow w.heap.size 74 2 out j (sharesV s.data.toList n.data.toList k j) ∧ Below w.heap.size w wr) (fun _ c _ => m + 1 - (intOf c).toNat)
  case atStart => exact ⟨0, Nat.zero_le _, rfl, World.ownsRow_nil _ _ _ _, Below.refl _ _⟩
  case round =>
    obtain ⟨j, hjm, rfl, hown, hB⟩ := hrel
    by_cases hlt : j < m
    · obtain ⟨x, hx⟩ : ∃ x, x = UInt8.ofNat (j + 1) := ⟨_, rfl⟩
      have hxn : (x.toNat : Int) = (j : Int) + 1 := by rw [hx, UInt8.toNat_ofNat']; omega
      obtain ⟨R, hR⟩ : ∃ R, R = shareL s.data.toList n.data.toList k x := ⟨_, rfl⟩
      have hRl : R.length = s.size := by rw [hR]; simp [shareL]
      have hRi : ∀ i, i < s.size → R[i]? = some (pe (colP s.data.toList n.data.toList s.size k i) x) := by
        intro i hi
        rw [hR, shareL, List.getElem?_map, List.getElem?_range (by simpa using hi)]
        simp
      have hsj : sharesV s.data.toList n.data.toList k (j + 1) = sharesV s.data.toList n.data.toList k j ++ [bv x, .string ⟨R.toArray⟩] := by
        rw [hR, hx]; simp [sharesV, List.range_succ]
      have HRI := Lib.hid hRi
      have HSJ := Lib.hid hsj
      clear hx hR hRi hsj
      have hz := hB.size
      have hjm3 : (j : Int) + 1 ≤ (m : Int) := by omega
      go_wp2_with fail
      obtain ⟨wo, hwo⟩ : ∃ wo, wo = wr := ⟨_, rfl⟩
      rw [← hwo] at hown hB hz ⊢
      clear hwo
      go_loopw [12, 13] (fun d c wi => ∃ i : Nat, i ≤ s.size ∧ c = .int .i64 i ∧ d = .string ⟨(R.take i).toArray⟩ ∧ Below wo.heap.size wo wi) (fun _ c _ => s.size - (intOf c).toNat)
      case atStart => exact ⟨0, Nat.zero_le _, rfl, rfl, Below.refl _ _⟩
      case round =>
        obtain ⟨i, his, rfl, rfl, hBi⟩ := hrel
        by_cases hil : i < s.size
        · have hri := HRI.out i hil
          obtain ⟨P, hP⟩ : ∃ P, P = colP s.data.toList n.data.toList s.size k i := ⟨_, rfl⟩
          rw [← hP] at hri
          have HP := Lib.hid hP
          clear hP
          go_wp2_with fail
          go_loop [14, 15, 16] (fun o p c => ∃ (a : Nat) (v u : UInt8), a + 1 ≤ k ∧ c = .int .i64 ((a : Int) + 1) ∧ o = .int .i64 ((v.toNat : Nat) : Int) ∧ p = .int .i64 ((u.toNat : Nat) : Int) ∧ v ^^^ gm (gm u x) (pe (P.drop (a + 1)) x) = pe P x) (fun _ _ c => k - (intOf c).toNat)
          case atStart =>
            refine ⟨0, s[i], 1, by omega, rfl, by rw [w64_byte], rfl, ?_⟩
            have hg := colP_get s.data.toList n.data.toList s.size k i 0 (by omega)
            rw [← HP.out, if_pos rfl] at hg
            have hsi : s.data.toList.getD i 0 = s[i] := by rw [List.getD_eq_getElem?_getD, List.getElem?_eq_getElem (by simpa using hil)]; rfl
            rw [hsi] at hg
            have := pe_drop hg x
            rw [List.drop_zero] at this
            rw [this, one_gm]
          case round =>
            obtain ⟨a, v, u, ha, rfl, rfl, rfl, hv⟩ := hrel
            by_cases hak : a + 1 = k
            · rw [hak, List.drop_of_length_le (by rw [HP.out, colP_length]; exact Nat.le_refl _)] at hv
              have hv' : v = pe P x := by rw [← hv]; simp [pe, gm_zero]
              have HV := Lib.hid hv'
              clear hv hv'
              have hak' : ((a : Int) + 1) = (k : Int) := by omega
              rw [hak']
              have hone := one_str v
              go_wp2_with fail
              refine ⟨⟨i + 1, by omega, by go_num, ?_, hBi.alloc hBi.size _⟩, by simp [intOf]; omega⟩
              rw [str_snoc, take_snoc' hri, HV.out]
            · have hg := colP_get s.data.toList n.data.toList s.size k i (a + 1) (by omega)
              rw [← HP.out, if_neg (by omega), Nat.add_sub_cancel] at hg
              have hlq : a * s.size + i < n.size := by
                have : (a + 1) * s.size ≤ (k - 1) * s.size := Nat.mul_le_mul_right _ (by omega)
                rw [Nat.add_mul, Nat.one_mul] at this
                have := HN.out
                omega
              obtain ⟨r, hr⟩ : ∃ r, r = a * s.size := ⟨_, rfl⟩
              have hri' : (a : Int) * (s.size : Int) = (r : Int) := by rw [hr]; simp
              rw [← hr] at hlq hg
              have hnq : n.data.toList.getD (r + i) 0 = n[r + i] := by rw [List.getD_eq_getElem?_getD, List.getElem?_eq_getElem (by simpa using hlq)]; rfl
              rw [hnq] at hg
              have hpd := pe_drop hg x
              rw [hpd, gm_xor, ← UInt8.xor_assoc, ← gm_assoc] at hv
              obtain ⟨c, hc⟩ : ∃ c, c = n[r + i] := ⟨_, rfl⟩
              rw [← hc] at hv
              have hM1 := fun w => rmul_u8 u x w
              obtain ⟨u2, hu2⟩ : ∃ u2, u2 = gm u x := ⟨_, rfl⟩
              rw [← hu2] at hM1 hv
              rw [hxn] at hM1
              have hM2 := fun w => rmul_u8 u2 c w
              obtain ⟨y, hy⟩ : ∃ y, y = gm u2 c := ⟨_, rfl⟩
              rw [← hy] at hM2 hv
              have hxo := bxor64 v y
              obtain ⟨v2, hv2⟩ : ∃ v2, v2 = v ^^^ y := ⟨_, rfl⟩
              rw [← hv2] at hxo hv
              have hcn : wrap64 ((n[r + i].toNat : Nat) : Int) = ((c.toNat : Nat) : Int) := by rw [← hc, w64_byte]
              have HM1 := Lib.hid hM1
              have HM2 := Lib.hid hM2
              have HV := Lib.hid hv
              have hak2 : ((a : Int) + 1) < (k : Int) := by omega
              clear hM1 hM2 hv hc hu2 hy hv2 hr hg hpd hnq hri
              go_wp2_with fail
              (with_reducible refine (HM1.out _).mono ?_); rintro e w1 ⟨rfl, rfl⟩
              go_wp2_with fail
              (with_reducible refine (HM2.out _).mono ?_); rintro e w1 ⟨rfl, rfl⟩
              go_wp2_with fail
              go_round
              case rel => exact ⟨a + 1, v2, u2, by omega, by go_num, rfl, rfl, HV.out⟩
              case measure => simp [intOf]; omega
        · have hii : i = s.size := by omega
          have hzi := hBi.size
          have hRt : R.take i = R := List.take_of_length_le (by omega)
          have hownI : wr.ownsRow w.heap.size 74 2 u10 j (sharesV s.data.toList n.data.toList k j) := own_below hown hBi
          rw [hRt]
          clear hRt
          go_wp2_with (at_builtin; refine wpList_append_own _ rfl _ _ 48 rfl w.heap.size 74 i0 (.agg #[.int .u8 0, .string ⟨#[]⟩]) 2 24 Try.underlying48 hi iz0 iz1 iz2 rfl (by decide) _ _ _ rfl (hownI.alloc _) ⟨wr.heap.size, 0, none⟩ 1 1 [.int .u8 ((j : Int) + 1), .string ⟨R.toArray⟩] rfl rfl ?c1 ?c2 ?c3 ?c4 ?c5 ?_)
          case c1 => intro q u hu; match q, hu with
                                   | 0, hu => simp at hu; subst hu; simp [go_sem]
                                   | 1, hu => simp at hu; subst hu; simp [go_sem]
                                   | q + 2, hu => simp at hu
          case c2 => intro u hu; simp at hu; rcases hu with rfl | rfl <;> rfl
          case c3 => unfold maxLen; omega
          case c4 => omega
          case c5 => simp; omega
          intro v' w4 hown4 hgrow _
          have hB5 : Below w.heap.size wo w4 := ((hBi.mono (by omega)).alloc (by omega) _).grown hgrow (by simp; omega) (fun q hq => (hownI.lt q hq).1)
          rw [← hxn, ← HSJ.out] at hown4
          clear hgrow hown hownI
          go_wp2_with fail
          go_roundw
          case rel => exact ⟨j + 1, by omega, by go_num, hown4, hB.trans hB5⟩
          case measure => simp [intOf]; omega
    · have hjm' : j = m := by omega
      subst hjm'
      go_wp2_with fail
      go_ret2
      exact ⟨⟨_, rfl, hown⟩, hB⟩
end Go.Proofs.Ytbblolggcgonmaa

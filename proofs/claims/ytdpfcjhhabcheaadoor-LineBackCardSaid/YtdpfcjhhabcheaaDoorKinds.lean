/-
  The contracts of the reference's in and Kinds (printed by a program of mine). No condition. Own work.
-/
import Derived.Test.YtdpfcjhhabcheaaDoorOf
namespace Go.Proofs.YtdpfcjhhabcheaaDoor
open Go Go.RowKit

def K9 : List (List UInt8) := [[114, 101, 97, 100], [112, 117, 114, 103, 101], [116, 105, 99, 107], [97, 114, 109], [118, 116, 105, 99, 107], [100, 101, 108, 105, 118, 101, 114], [108, 111, 115, 101], [116, 119, 105, 99, 101], [114, 117, 110]]
def K7 : List (List UInt8) := [[115, 121, 110, 99], [99, 108, 111, 115, 101], [115, 116, 97, 116], [109, 111, 117, 110, 116], [115, 101, 110, 100], [114, 101, 99, 101, 105, 112, 116, 115], [114, 111, 117, 110, 100]]
def mks (K : List (List UInt8)) : List ByteArray := K.map fun l => ⟨l.toArray⟩
set_option maxRecDepth 100000 in
set_option maxHeartbeats 3200000 in
theorem in_any (K : List (List UInt8)) (g cap : Nat) (s : ByteArray) (hlen : K.length ≤ 1000) (w : World) (hC : SlC g ((mks K).map Value.string) w) :
    Calls Tryd.prog 65 #[.slice (some ⟨g, 0, none⟩) K.length cap, .string s] w fun e w' => e = .returned (.bool (decide (s.toList ∈ K))) ∧ w = w' := by
  obtain ⟨n, hn⟩ : ∃ n, n = K.length := ⟨_, rfl⟩
  obtain ⟨R, hR⟩ : ∃ R, R = decide (s.toList ∈ K) := ⟨_, rfl⟩
  rw [← hn] at hlen ⊢
  rw [← hR]
  have HC := Lib.hid hC
  have HN := Lib.hid hn
  have HR := Lib.hid hR
  clear hC hn hR
  go_enter Tryd.func65, Tryd.ntmps65
  go_wp2_with fail
  go_loopw [5] (fun c wr => ∃ i : Nat, i ≤ n ∧ c = .int .i64 (i : Int) ∧ (∀ j x, j < i → K[j]? = some x → x ≠ s.toList) ∧ w = wr) (fun c _ => n - (intOf c).toNat)
  case atStart => exact ⟨0, by omega, rfl, fun j x h => by omega, rfl⟩
  case round =>
    obtain ⟨i, hi, rfl, hall, rfl⟩ := hrel
    have HALL := Lib.hid hall
    clear hall
    by_cases hik : i < n
    · have hii : (i : Int) < (n : Int) := by omega
      obtain ⟨x, hx⟩ : ∃ x, K[i]? = some x := ⟨K[i]'(by rw [← HN.out]; exact hik), List.getElem?_eq_getElem _⟩
      have c0 : w.cell? ⟨g, i, none⟩ = some (.string ⟨x.toArray⟩) := HC.out.2 i _ (by simp [mks, hx])
      obtain ⟨X, hX⟩ : ∃ X : ByteArray, X = ⟨x.toArray⟩ := ⟨_, rfl⟩
      rw [← hX] at c0
      have hXl : X.toList = x := by rw [str_tl, hX]
      have HX := Lib.hid hx
      by_cases he : x = s.toList
      · have hR : R = true := by rw [HR.out]; exact decide_eq_true (by rw [← he]; exact List.mem_of_getElem? hx)
        subst hR
        have he2 : X.toList = s.toList := hXl.trans he
        have he3 : (X.toList == s.toList) = true := by rw [he2]; simp
        clear hx hX hXl he HR
        go_wp2_with fail
        go_ret
        exact ⟨rfl, rfl⟩
      · have he2 : ¬ X.toList = s.toList := by rw [hXl]; exact he
        have he3 : (X.toList == s.toList) = false := by simpa using he2
        have HE := Lib.hid he
        clear hx hX hXl he
        go_wp2_with fail
        exact ⟨⟨i + 1, by omega, by go_num, fun j y hj hy => by
          by_cases hji : j = i
          · subst hji
            have e := HX.out
            rw [hy] at e
            cases e
            exact HE.out
          · exact HALL.out j y (by omega) hy, by first | trivial | rfl⟩, by simp [intOf]; omega⟩
    · have hi2 : i = n := by omega
      subst hi2
      have hR : R = false := by
        rw [HR.out]
        refine decide_eq_false fun hm => ?_
        obtain ⟨j, hj⟩ := List.getElem?_of_mem hm
        exact HALL.out j _ (by have := (List.getElem?_eq_some_iff.mp hj).1; have := HN.out; omega) hj rfl
      subst hR
      clear HR
      go_wp2_with fail
      go_ret
      exact ⟨rfl, rfl⟩
theorem in9 (s : ByteArray) (b : Bool) (h : decide (s.toList ∈ K9) = b) (W : World) : Calls Tryd.prog 65 #[.slice (some ⟨W.heap.size, 0, none⟩) 9 9, .string s] (W.alloc (.cells #[.string ⟨#[114, 101, 97, 100]⟩, .string ⟨#[112, 117, 114, 103, 101]⟩, .string ⟨#[116, 105, 99, 107]⟩, .string ⟨#[97, 114, 109]⟩, .string ⟨#[118, 116, 105, 99, 107]⟩, .string ⟨#[100, 101, 108, 105, 118, 101, 114]⟩, .string ⟨#[108, 111, 115, 101]⟩, .string ⟨#[116, 119, 105, 99, 101]⟩, .string ⟨#[114, 117, 110]⟩] 9)) fun e w' => e = .returned (.bool b) ∧ W.alloc (.cells #[.string ⟨#[114, 101, 97, 100]⟩, .string ⟨#[112, 117, 114, 103, 101]⟩, .string ⟨#[116, 105, 99, 107]⟩, .string ⟨#[97, 114, 109]⟩, .string ⟨#[118, 116, 105, 99, 107]⟩, .string ⟨#[100, 101, 108, 105, 118, 101, 114]⟩, .string ⟨#[108, 111, 115, 101]⟩, .string ⟨#[116, 119, 105, 99, 101]⟩, .string ⟨#[114, 117, 110]⟩] 9) = w' := by
  rw [← h]
  exact in_any K9 W.heap.size 9 s (by decide) _ (SlC.lit W 9 ((mks K9).map Value.string))
theorem in7 (s : ByteArray) (b : Bool) (h : decide (s.toList ∈ K7) = b) (W : World) : Calls Tryd.prog 65 #[.slice (some ⟨W.heap.size, 0, none⟩) 7 7, .string s] (W.alloc (.cells #[.string ⟨#[115, 121, 110, 99]⟩, .string ⟨#[99, 108, 111, 115, 101]⟩, .string ⟨#[115, 116, 97, 116]⟩, .string ⟨#[109, 111, 117, 110, 116]⟩, .string ⟨#[115, 101, 110, 100]⟩, .string ⟨#[114, 101, 99, 101, 105, 112, 116, 115]⟩, .string ⟨#[114, 111, 117, 110, 100]⟩] 9)) fun e w' => e = .returned (.bool b) ∧ W.alloc (.cells #[.string ⟨#[115, 121, 110, 99]⟩, .string ⟨#[99, 108, 111, 115, 101]⟩, .string ⟨#[115, 116, 97, 116]⟩, .string ⟨#[109, 111, 117, 110, 116]⟩, .string ⟨#[115, 101, 110, 100]⟩, .string ⟨#[114, 101, 99, 101, 105, 112, 116, 115]⟩, .string ⟨#[114, 111, 117, 110, 100]⟩] 9) = w' := by
  rw [← h]
  exact in_any K7 W.heap.size 7 s (by decide) _ (SlC.lit W 9 ((mks K7).map Value.string))
theorem in7b (s : ByteArray) (b : Bool) (h : decide (s.toList ∈ K7) = b) (w : World) : Calls Tryd.prog 65 #[.slice (some ⟨w.heap.size + 1, 0, none⟩) 7 7, .string s] ((w.alloc (.cells #[.string ⟨#[114, 101, 97, 100]⟩, .string ⟨#[112, 117, 114, 103, 101]⟩, .string ⟨#[116, 105, 99, 107]⟩, .string ⟨#[97, 114, 109]⟩, .string ⟨#[118, 116, 105, 99, 107]⟩, .string ⟨#[100, 101, 108, 105, 118, 101, 114]⟩, .string ⟨#[108, 111, 115, 101]⟩, .string ⟨#[116, 119, 105, 99, 101]⟩, .string ⟨#[114, 117, 110]⟩] 9)).alloc (.cells #[.string ⟨#[115, 121, 110, 99]⟩, .string ⟨#[99, 108, 111, 115, 101]⟩, .string ⟨#[115, 116, 97, 116]⟩, .string ⟨#[109, 111, 117, 110, 116]⟩, .string ⟨#[115, 101, 110, 100]⟩, .string ⟨#[114, 101, 99, 101, 105, 112, 116, 115]⟩, .string ⟨#[114, 111, 117, 110, 100]⟩] 9)) fun e w' => e = .returned (.bool b) ∧ (w.alloc (.cells #[.string ⟨#[114, 101, 97, 100]⟩, .string ⟨#[112, 117, 114, 103, 101]⟩, .string ⟨#[116, 105, 99, 107]⟩, .string ⟨#[97, 114, 109]⟩, .string ⟨#[118, 116, 105, 99, 107]⟩, .string ⟨#[100, 101, 108, 105, 118, 101, 114]⟩, .string ⟨#[108, 111, 115, 101]⟩, .string ⟨#[116, 119, 105, 99, 101]⟩, .string ⟨#[114, 117, 110]⟩] 9)).alloc (.cells #[.string ⟨#[115, 121, 110, 99]⟩, .string ⟨#[99, 108, 111, 115, 101]⟩, .string ⟨#[115, 116, 97, 116]⟩, .string ⟨#[109, 111, 117, 110, 116]⟩, .string ⟨#[115, 101, 110, 100]⟩, .string ⟨#[114, 101, 99, 101, 105, 112, 116, 115]⟩, .string ⟨#[114, 111, 117, 110, 100]⟩] 9) = w' := by
  have := in7 s b h (w.alloc (.cells #[.string ⟨#[114, 101, 97, 100]⟩, .string ⟨#[112, 117, 114, 103, 101]⟩, .string ⟨#[116, 105, 99, 107]⟩, .string ⟨#[97, 114, 109]⟩, .string ⟨#[118, 116, 105, 99, 107]⟩, .string ⟨#[100, 101, 108, 105, 118, 101, 114]⟩, .string ⟨#[108, 111, 115, 101]⟩, .string ⟨#[116, 119, 105, 99, 101]⟩, .string ⟨#[114, 117, 110]⟩] 9))
  rw [show (w.alloc (.cells #[.string ⟨#[114, 101, 97, 100]⟩, .string ⟨#[112, 117, 114, 103, 101]⟩, .string ⟨#[116, 105, 99, 107]⟩, .string ⟨#[97, 114, 109]⟩, .string ⟨#[118, 116, 105, 99, 107]⟩, .string ⟨#[100, 101, 108, 105, 118, 101, 114]⟩, .string ⟨#[108, 111, 115, 101]⟩, .string ⟨#[116, 119, 105, 99, 101]⟩, .string ⟨#[114, 117, 110]⟩] 9)).heap.size = w.heap.size + 1 from by simp] at this
  exact this
def kindV (o : Option Shp) : Value := match o with
  | some s => .tuple #[.int .i64 (s.least : Int), .int .i64 (s.most : Int), .bool s.name, .bool s.data, .bool s.asks]
  | none => .tuple #[.int .i64 (-1), .int .i64 (-1), .bool false, .bool false, .bool false]
theorem results_tmp5 {fn : Func} {t u v x y : Tmp} (h : fn.results = #[.tmp t, .tmp u, .tmp v, .tmp x, .tmp y]) (tmps : Array Value) (P : Program) (w : World) :
    (results fn tmps).run P w = .ok (.tuple #[tmps.getD t undef, tmps.getD u undef, tmps.getD v undef, tmps.getD x undef, tmps.getD y undef]) w := by
  simp [results, h]
set_option maxRecDepth 100000 in
set_option maxHeartbeats 3200000 in
theorem kd_write (s : ByteArray) (h : s.toList = [119, 114, 105, 116, 101]) (w : World) : Calls Tryd.prog 48 #[.string s] w fun e w' => e = .returned (kindV (some ⟨1, 1, false, true, false⟩)) ∧ Below w.heap.size w w' := by
  have H9 := Lib.hid (in9 s false (by rw [h]; decide))
  have H7 := Lib.hid (in7b s false (by rw [h]; decide) w)
  go_enter Tryd.func48, Tryd.ntmps48
  go_wp2_with (first | ((with_reducible refine (H9.out _).mono ?_); rintro e1 w1 ⟨rfl, rfl⟩) | ((with_reducible refine H7.out.mono ?_); rintro e2 w2 ⟨rfl, rfl⟩))
  refine bodyPost_ret (v := kindV (some ⟨1, 1, false, true, false⟩)) ?_ rfl ⟨rfl, ?_⟩
  · first | rfl | (rw [results_tmp5 rfl]; go_simp; rfl) | (rw [results_tmp5 rfl]; rfl)
  · first | exact Below.refl _ _ | exact bnew _ _ | exact bthen (bnew _ _) (bnew _ _)
set_option maxRecDepth 100000 in
set_option maxHeartbeats 3200000 in
theorem kd_read (s : ByteArray) (h : s.toList = [114, 101, 97, 100]) (w : World) : Calls Tryd.prog 48 #[.string s] w fun e w' => e = .returned (kindV (some ⟨1, 1, false, false, false⟩)) ∧ Below w.heap.size w w' := by
  have H9 := Lib.hid (in9 s true (by rw [h]; decide))
  have H7 := Lib.hid (in7b s false (by rw [h]; decide) w)
  go_enter Tryd.func48, Tryd.ntmps48
  go_wp2_with (first | ((with_reducible refine (H9.out _).mono ?_); rintro e1 w1 ⟨rfl, rfl⟩) | ((with_reducible refine H7.out.mono ?_); rintro e2 w2 ⟨rfl, rfl⟩))
  refine bodyPost_ret (v := kindV (some ⟨1, 1, false, false, false⟩)) ?_ rfl ⟨rfl, ?_⟩
  · first | rfl | (rw [results_tmp5 rfl]; go_simp; rfl) | (rw [results_tmp5 rfl]; rfl)
  · first | exact Below.refl _ _ | exact bnew _ _ | exact bthen (bnew _ _) (bnew _ _)
set_option maxRecDepth 100000 in
set_option maxHeartbeats 3200000 in
theorem kd_purge (s : ByteArray) (h : s.toList = [112, 117, 114, 103, 101]) (w : World) : Calls Tryd.prog 48 #[.string s] w fun e w' => e = .returned (kindV (some ⟨1, 1, false, false, false⟩)) ∧ Below w.heap.size w w' := by
  have H9 := Lib.hid (in9 s true (by rw [h]; decide))
  have H7 := Lib.hid (in7b s false (by rw [h]; decide) w)
  go_enter Tryd.func48, Tryd.ntmps48
  go_wp2_with (first | ((with_reducible refine (H9.out _).mono ?_); rintro e1 w1 ⟨rfl, rfl⟩) | ((with_reducible refine H7.out.mono ?_); rintro e2 w2 ⟨rfl, rfl⟩))
  refine bodyPost_ret (v := kindV (some ⟨1, 1, false, false, false⟩)) ?_ rfl ⟨rfl, ?_⟩
  · first | rfl | (rw [results_tmp5 rfl]; go_simp; rfl) | (rw [results_tmp5 rfl]; rfl)
  · first | exact Below.refl _ _ | exact bnew _ _ | exact bthen (bnew _ _) (bnew _ _)
set_option maxRecDepth 100000 in
set_option maxHeartbeats 3200000 in
theorem kd_tick (s : ByteArray) (h : s.toList = [116, 105, 99, 107]) (w : World) : Calls Tryd.prog 48 #[.string s] w fun e w' => e = .returned (kindV (some ⟨1, 1, false, false, false⟩)) ∧ Below w.heap.size w w' := by
  have H9 := Lib.hid (in9 s true (by rw [h]; decide))
  have H7 := Lib.hid (in7b s false (by rw [h]; decide) w)
  go_enter Tryd.func48, Tryd.ntmps48
  go_wp2_with (first | ((with_reducible refine (H9.out _).mono ?_); rintro e1 w1 ⟨rfl, rfl⟩) | ((with_reducible refine H7.out.mono ?_); rintro e2 w2 ⟨rfl, rfl⟩))
  refine bodyPost_ret (v := kindV (some ⟨1, 1, false, false, false⟩)) ?_ rfl ⟨rfl, ?_⟩
  · first | rfl | (rw [results_tmp5 rfl]; go_simp; rfl) | (rw [results_tmp5 rfl]; rfl)
  · first | exact Below.refl _ _ | exact bnew _ _ | exact bthen (bnew _ _) (bnew _ _)
set_option maxRecDepth 100000 in
set_option maxHeartbeats 3200000 in
theorem kd_arm (s : ByteArray) (h : s.toList = [97, 114, 109]) (w : World) : Calls Tryd.prog 48 #[.string s] w fun e w' => e = .returned (kindV (some ⟨1, 1, false, false, false⟩)) ∧ Below w.heap.size w w' := by
  have H9 := Lib.hid (in9 s true (by rw [h]; decide))
  have H7 := Lib.hid (in7b s false (by rw [h]; decide) w)
  go_enter Tryd.func48, Tryd.ntmps48
  go_wp2_with (first | ((with_reducible refine (H9.out _).mono ?_); rintro e1 w1 ⟨rfl, rfl⟩) | ((with_reducible refine H7.out.mono ?_); rintro e2 w2 ⟨rfl, rfl⟩))
  refine bodyPost_ret (v := kindV (some ⟨1, 1, false, false, false⟩)) ?_ rfl ⟨rfl, ?_⟩
  · first | rfl | (rw [results_tmp5 rfl]; go_simp; rfl) | (rw [results_tmp5 rfl]; rfl)
  · first | exact Below.refl _ _ | exact bnew _ _ | exact bthen (bnew _ _) (bnew _ _)
set_option maxRecDepth 100000 in
set_option maxHeartbeats 3200000 in
theorem kd_vtick (s : ByteArray) (h : s.toList = [118, 116, 105, 99, 107]) (w : World) : Calls Tryd.prog 48 #[.string s] w fun e w' => e = .returned (kindV (some ⟨1, 1, false, false, false⟩)) ∧ Below w.heap.size w w' := by
  have H9 := Lib.hid (in9 s true (by rw [h]; decide))
  have H7 := Lib.hid (in7b s false (by rw [h]; decide) w)
  go_enter Tryd.func48, Tryd.ntmps48
  go_wp2_with (first | ((with_reducible refine (H9.out _).mono ?_); rintro e1 w1 ⟨rfl, rfl⟩) | ((with_reducible refine H7.out.mono ?_); rintro e2 w2 ⟨rfl, rfl⟩))
  refine bodyPost_ret (v := kindV (some ⟨1, 1, false, false, false⟩)) ?_ rfl ⟨rfl, ?_⟩
  · first | rfl | (rw [results_tmp5 rfl]; go_simp; rfl) | (rw [results_tmp5 rfl]; rfl)
  · first | exact Below.refl _ _ | exact bnew _ _ | exact bthen (bnew _ _) (bnew _ _)
set_option maxRecDepth 100000 in
set_option maxHeartbeats 3200000 in
theorem kd_deliver (s : ByteArray) (h : s.toList = [100, 101, 108, 105, 118, 101, 114]) (w : World) : Calls Tryd.prog 48 #[.string s] w fun e w' => e = .returned (kindV (some ⟨1, 1, false, false, false⟩)) ∧ Below w.heap.size w w' := by
  have H9 := Lib.hid (in9 s true (by rw [h]; decide))
  have H7 := Lib.hid (in7b s false (by rw [h]; decide) w)
  go_enter Tryd.func48, Tryd.ntmps48
  go_wp2_with (first | ((with_reducible refine (H9.out _).mono ?_); rintro e1 w1 ⟨rfl, rfl⟩) | ((with_reducible refine H7.out.mono ?_); rintro e2 w2 ⟨rfl, rfl⟩))
  refine bodyPost_ret (v := kindV (some ⟨1, 1, false, false, false⟩)) ?_ rfl ⟨rfl, ?_⟩
  · first | rfl | (rw [results_tmp5 rfl]; go_simp; rfl) | (rw [results_tmp5 rfl]; rfl)
  · first | exact Below.refl _ _ | exact bnew _ _ | exact bthen (bnew _ _) (bnew _ _)
set_option maxRecDepth 100000 in
set_option maxHeartbeats 3200000 in
theorem kd_lose (s : ByteArray) (h : s.toList = [108, 111, 115, 101]) (w : World) : Calls Tryd.prog 48 #[.string s] w fun e w' => e = .returned (kindV (some ⟨1, 1, false, false, false⟩)) ∧ Below w.heap.size w w' := by
  have H9 := Lib.hid (in9 s true (by rw [h]; decide))
  have H7 := Lib.hid (in7b s false (by rw [h]; decide) w)
  go_enter Tryd.func48, Tryd.ntmps48
  go_wp2_with (first | ((with_reducible refine (H9.out _).mono ?_); rintro e1 w1 ⟨rfl, rfl⟩) | ((with_reducible refine H7.out.mono ?_); rintro e2 w2 ⟨rfl, rfl⟩))
  refine bodyPost_ret (v := kindV (some ⟨1, 1, false, false, false⟩)) ?_ rfl ⟨rfl, ?_⟩
  · first | rfl | (rw [results_tmp5 rfl]; go_simp; rfl) | (rw [results_tmp5 rfl]; rfl)
  · first | exact Below.refl _ _ | exact bnew _ _ | exact bthen (bnew _ _) (bnew _ _)
set_option maxRecDepth 100000 in
set_option maxHeartbeats 3200000 in
theorem kd_twice (s : ByteArray) (h : s.toList = [116, 119, 105, 99, 101]) (w : World) : Calls Tryd.prog 48 #[.string s] w fun e w' => e = .returned (kindV (some ⟨1, 1, false, false, false⟩)) ∧ Below w.heap.size w w' := by
  have H9 := Lib.hid (in9 s true (by rw [h]; decide))
  have H7 := Lib.hid (in7b s false (by rw [h]; decide) w)
  go_enter Tryd.func48, Tryd.ntmps48
  go_wp2_with (first | ((with_reducible refine (H9.out _).mono ?_); rintro e1 w1 ⟨rfl, rfl⟩) | ((with_reducible refine H7.out.mono ?_); rintro e2 w2 ⟨rfl, rfl⟩))
  refine bodyPost_ret (v := kindV (some ⟨1, 1, false, false, false⟩)) ?_ rfl ⟨rfl, ?_⟩
  · first | rfl | (rw [results_tmp5 rfl]; go_simp; rfl) | (rw [results_tmp5 rfl]; rfl)
  · first | exact Below.refl _ _ | exact bnew _ _ | exact bthen (bnew _ _) (bnew _ _)
set_option maxRecDepth 100000 in
set_option maxHeartbeats 3200000 in
theorem kd_run (s : ByteArray) (h : s.toList = [114, 117, 110]) (w : World) : Calls Tryd.prog 48 #[.string s] w fun e w' => e = .returned (kindV (some ⟨1, 1, false, false, false⟩)) ∧ Below w.heap.size w w' := by
  have H9 := Lib.hid (in9 s true (by rw [h]; decide))
  have H7 := Lib.hid (in7b s false (by rw [h]; decide) w)
  go_enter Tryd.func48, Tryd.ntmps48
  go_wp2_with (first | ((with_reducible refine (H9.out _).mono ?_); rintro e1 w1 ⟨rfl, rfl⟩) | ((with_reducible refine H7.out.mono ?_); rintro e2 w2 ⟨rfl, rfl⟩))
  refine bodyPost_ret (v := kindV (some ⟨1, 1, false, false, false⟩)) ?_ rfl ⟨rfl, ?_⟩
  · first | rfl | (rw [results_tmp5 rfl]; go_simp; rfl) | (rw [results_tmp5 rfl]; rfl)
  · first | exact Below.refl _ _ | exact bnew _ _ | exact bthen (bnew _ _) (bnew _ _)
set_option maxRecDepth 100000 in
set_option maxHeartbeats 3200000 in
theorem kd_readat (s : ByteArray) (h : s.toList = [114, 101, 97, 100, 97, 116]) (w : World) : Calls Tryd.prog 48 #[.string s] w fun e w' => e = .returned (kindV (some ⟨2, 2, false, false, false⟩)) ∧ Below w.heap.size w w' := by
  have H9 := Lib.hid (in9 s false (by rw [h]; decide))
  have H7 := Lib.hid (in7b s false (by rw [h]; decide) w)
  go_enter Tryd.func48, Tryd.ntmps48
  go_wp2_with (first | ((with_reducible refine (H9.out _).mono ?_); rintro e1 w1 ⟨rfl, rfl⟩) | ((with_reducible refine H7.out.mono ?_); rintro e2 w2 ⟨rfl, rfl⟩))
  refine bodyPost_ret (v := kindV (some ⟨2, 2, false, false, false⟩)) ?_ rfl ⟨rfl, ?_⟩
  · first | rfl | (rw [results_tmp5 rfl]; go_simp; rfl) | (rw [results_tmp5 rfl]; rfl)
  · first | exact Below.refl _ _ | exact bnew _ _ | exact bthen (bnew _ _) (bnew _ _)
set_option maxRecDepth 100000 in
set_option maxHeartbeats 3200000 in
theorem kd_retain (s : ByteArray) (h : s.toList = [114, 101, 116, 97, 105, 110]) (w : World) : Calls Tryd.prog 48 #[.string s] w fun e w' => e = .returned (kindV (some ⟨2, 2, false, false, false⟩)) ∧ Below w.heap.size w w' := by
  have H9 := Lib.hid (in9 s false (by rw [h]; decide))
  have H7 := Lib.hid (in7b s false (by rw [h]; decide) w)
  go_enter Tryd.func48, Tryd.ntmps48
  go_wp2_with (first | ((with_reducible refine (H9.out _).mono ?_); rintro e1 w1 ⟨rfl, rfl⟩) | ((with_reducible refine H7.out.mono ?_); rintro e2 w2 ⟨rfl, rfl⟩))
  refine bodyPost_ret (v := kindV (some ⟨2, 2, false, false, false⟩)) ?_ rfl ⟨rfl, ?_⟩
  · first | rfl | (rw [results_tmp5 rfl]; go_simp; rfl) | (rw [results_tmp5 rfl]; rfl)
  · first | exact Below.refl _ _ | exact bnew _ _ | exact bthen (bnew _ _) (bnew _ _)
set_option maxRecDepth 100000 in
set_option maxHeartbeats 3200000 in
theorem kd_hold (s : ByteArray) (h : s.toList = [104, 111, 108, 100]) (w : World) : Calls Tryd.prog 48 #[.string s] w fun e w' => e = .returned (kindV (some ⟨1, 1, true, false, false⟩)) ∧ Below w.heap.size w w' := by
  have H9 := Lib.hid (in9 s false (by rw [h]; decide))
  have H7 := Lib.hid (in7b s false (by rw [h]; decide) w)
  go_enter Tryd.func48, Tryd.ntmps48
  go_wp2_with (first | ((with_reducible refine (H9.out _).mono ?_); rintro e1 w1 ⟨rfl, rfl⟩) | ((with_reducible refine H7.out.mono ?_); rintro e2 w2 ⟨rfl, rfl⟩))
  refine bodyPost_ret (v := kindV (some ⟨1, 1, true, false, false⟩)) ?_ rfl ⟨rfl, ?_⟩
  · first | rfl | (rw [results_tmp5 rfl]; go_simp; rfl) | (rw [results_tmp5 rfl]; rfl)
  · first | exact Below.refl _ _ | exact bnew _ _ | exact bthen (bnew _ _) (bnew _ _)
set_option maxRecDepth 100000 in
set_option maxHeartbeats 3200000 in
theorem kd_vhold (s : ByteArray) (h : s.toList = [118, 104, 111, 108, 100]) (w : World) : Calls Tryd.prog 48 #[.string s] w fun e w' => e = .returned (kindV (some ⟨1, 1, true, false, false⟩)) ∧ Below w.heap.size w w' := by
  have H9 := Lib.hid (in9 s false (by rw [h]; decide))
  have H7 := Lib.hid (in7b s false (by rw [h]; decide) w)
  go_enter Tryd.func48, Tryd.ntmps48
  go_wp2_with (first | ((with_reducible refine (H9.out _).mono ?_); rintro e1 w1 ⟨rfl, rfl⟩) | ((with_reducible refine H7.out.mono ?_); rintro e2 w2 ⟨rfl, rfl⟩))
  refine bodyPost_ret (v := kindV (some ⟨1, 1, true, false, false⟩)) ?_ rfl ⟨rfl, ?_⟩
  · first | rfl | (rw [results_tmp5 rfl]; go_simp; rfl) | (rw [results_tmp5 rfl]; rfl)
  · first | exact Below.refl _ _ | exact bnew _ _ | exact bthen (bnew _ _) (bnew _ _)
set_option maxRecDepth 100000 in
set_option maxHeartbeats 3200000 in
theorem kd_release (s : ByteArray) (h : s.toList = [114, 101, 108, 101, 97, 115, 101]) (w : World) : Calls Tryd.prog 48 #[.string s] w fun e w' => e = .returned (kindV (some ⟨0, 0, true, false, false⟩)) ∧ Below w.heap.size w w' := by
  have H9 := Lib.hid (in9 s false (by rw [h]; decide))
  have H7 := Lib.hid (in7b s false (by rw [h]; decide) w)
  go_enter Tryd.func48, Tryd.ntmps48
  go_wp2_with (first | ((with_reducible refine (H9.out _).mono ?_); rintro e1 w1 ⟨rfl, rfl⟩) | ((with_reducible refine H7.out.mono ?_); rintro e2 w2 ⟨rfl, rfl⟩))
  refine bodyPost_ret (v := kindV (some ⟨0, 0, true, false, false⟩)) ?_ rfl ⟨rfl, ?_⟩
  · first | rfl | (rw [results_tmp5 rfl]; go_simp; rfl) | (rw [results_tmp5 rfl]; rfl)
  · first | exact Below.refl _ _ | exact bnew _ _ | exact bthen (bnew _ _) (bnew _ _)
set_option maxRecDepth 100000 in
set_option maxHeartbeats 3200000 in
theorem kd_vrelease (s : ByteArray) (h : s.toList = [118, 114, 101, 108, 101, 97, 115, 101]) (w : World) : Calls Tryd.prog 48 #[.string s] w fun e w' => e = .returned (kindV (some ⟨0, 0, true, false, false⟩)) ∧ Below w.heap.size w w' := by
  have H9 := Lib.hid (in9 s false (by rw [h]; decide))
  have H7 := Lib.hid (in7b s false (by rw [h]; decide) w)
  go_enter Tryd.func48, Tryd.ntmps48
  go_wp2_with (first | ((with_reducible refine (H9.out _).mono ?_); rintro e1 w1 ⟨rfl, rfl⟩) | ((with_reducible refine H7.out.mono ?_); rintro e2 w2 ⟨rfl, rfl⟩))
  refine bodyPost_ret (v := kindV (some ⟨0, 0, true, false, false⟩)) ?_ rfl ⟨rfl, ?_⟩
  · first | rfl | (rw [results_tmp5 rfl]; go_simp; rfl) | (rw [results_tmp5 rfl]; rfl)
  · first | exact Below.refl _ _ | exact bnew _ _ | exact bthen (bnew _ _) (bnew _ _)
set_option maxRecDepth 100000 in
set_option maxHeartbeats 3200000 in
theorem kd_crash (s : ByteArray) (h : s.toList = [99, 114, 97, 115, 104]) (w : World) : Calls Tryd.prog 48 #[.string s] w fun e w' => e = .returned (kindV (some ⟨0, 64, false, false, false⟩)) ∧ Below w.heap.size w w' := by
  have H9 := Lib.hid (in9 s false (by rw [h]; decide))
  have H7 := Lib.hid (in7b s false (by rw [h]; decide) w)
  go_enter Tryd.func48, Tryd.ntmps48
  go_wp2_with (first | ((with_reducible refine (H9.out _).mono ?_); rintro e1 w1 ⟨rfl, rfl⟩) | ((with_reducible refine H7.out.mono ?_); rintro e2 w2 ⟨rfl, rfl⟩))
  refine bodyPost_ret (v := kindV (some ⟨0, 64, false, false, false⟩)) ?_ rfl ⟨rfl, ?_⟩
  · first | rfl | (rw [results_tmp5 rfl]; go_simp; rfl) | (rw [results_tmp5 rfl]; rfl)
  · first | exact Below.refl _ _ | exact bnew _ _ | exact bthen (bnew _ _) (bnew _ _)
set_option maxRecDepth 100000 in
set_option maxHeartbeats 3200000 in
theorem kd_audit (s : ByteArray) (h : s.toList = [97, 117, 100, 105, 116]) (w : World) : Calls Tryd.prog 48 #[.string s] w fun e w' => e = .returned (kindV (some ⟨0, 0, false, false, true⟩)) ∧ Below w.heap.size w w' := by
  have H9 := Lib.hid (in9 s false (by rw [h]; decide))
  have H7 := Lib.hid (in7b s false (by rw [h]; decide) w)
  go_enter Tryd.func48, Tryd.ntmps48
  go_wp2_with (first | ((with_reducible refine (H9.out _).mono ?_); rintro e1 w1 ⟨rfl, rfl⟩) | ((with_reducible refine H7.out.mono ?_); rintro e2 w2 ⟨rfl, rfl⟩))
  refine bodyPost_ret (v := kindV (some ⟨0, 0, false, false, true⟩)) ?_ rfl ⟨rfl, ?_⟩
  · first | rfl | (rw [results_tmp5 rfl]; go_simp; rfl) | (rw [results_tmp5 rfl]; rfl)
  · first | exact Below.refl _ _ | exact bnew _ _ | exact bthen (bnew _ _) (bnew _ _)
set_option maxRecDepth 100000 in
set_option maxHeartbeats 3200000 in
theorem kd_sync (s : ByteArray) (h : s.toList = [115, 121, 110, 99]) (w : World) : Calls Tryd.prog 48 #[.string s] w fun e w' => e = .returned (kindV (some ⟨0, 0, false, false, false⟩)) ∧ Below w.heap.size w w' := by
  have H9 := Lib.hid (in9 s false (by rw [h]; decide))
  have H7 := Lib.hid (in7b s true (by rw [h]; decide) w)
  go_enter Tryd.func48, Tryd.ntmps48
  go_wp2_with (first | ((with_reducible refine (H9.out _).mono ?_); rintro e1 w1 ⟨rfl, rfl⟩) | ((with_reducible refine H7.out.mono ?_); rintro e2 w2 ⟨rfl, rfl⟩))
  refine bodyPost_ret (v := kindV (some ⟨0, 0, false, false, false⟩)) ?_ rfl ⟨rfl, ?_⟩
  · first | rfl | (rw [results_tmp5 rfl]; go_simp; rfl) | (rw [results_tmp5 rfl]; rfl)
  · first | exact Below.refl _ _ | exact bnew _ _ | exact bthen (bnew _ _) (bnew _ _)
set_option maxRecDepth 100000 in
set_option maxHeartbeats 3200000 in
theorem kd_close (s : ByteArray) (h : s.toList = [99, 108, 111, 115, 101]) (w : World) : Calls Tryd.prog 48 #[.string s] w fun e w' => e = .returned (kindV (some ⟨0, 0, false, false, false⟩)) ∧ Below w.heap.size w w' := by
  have H9 := Lib.hid (in9 s false (by rw [h]; decide))
  have H7 := Lib.hid (in7b s true (by rw [h]; decide) w)
  go_enter Tryd.func48, Tryd.ntmps48
  go_wp2_with (first | ((with_reducible refine (H9.out _).mono ?_); rintro e1 w1 ⟨rfl, rfl⟩) | ((with_reducible refine H7.out.mono ?_); rintro e2 w2 ⟨rfl, rfl⟩))
  refine bodyPost_ret (v := kindV (some ⟨0, 0, false, false, false⟩)) ?_ rfl ⟨rfl, ?_⟩
  · first | rfl | (rw [results_tmp5 rfl]; go_simp; rfl) | (rw [results_tmp5 rfl]; rfl)
  · first | exact Below.refl _ _ | exact bnew _ _ | exact bthen (bnew _ _) (bnew _ _)
set_option maxRecDepth 100000 in
set_option maxHeartbeats 3200000 in
theorem kd_stat (s : ByteArray) (h : s.toList = [115, 116, 97, 116]) (w : World) : Calls Tryd.prog 48 #[.string s] w fun e w' => e = .returned (kindV (some ⟨0, 0, false, false, false⟩)) ∧ Below w.heap.size w w' := by
  have H9 := Lib.hid (in9 s false (by rw [h]; decide))
  have H7 := Lib.hid (in7b s true (by rw [h]; decide) w)
  go_enter Tryd.func48, Tryd.ntmps48
  go_wp2_with (first | ((with_reducible refine (H9.out _).mono ?_); rintro e1 w1 ⟨rfl, rfl⟩) | ((with_reducible refine H7.out.mono ?_); rintro e2 w2 ⟨rfl, rfl⟩))
  refine bodyPost_ret (v := kindV (some ⟨0, 0, false, false, false⟩)) ?_ rfl ⟨rfl, ?_⟩
  · first | rfl | (rw [results_tmp5 rfl]; go_simp; rfl) | (rw [results_tmp5 rfl]; rfl)
  · first | exact Below.refl _ _ | exact bnew _ _ | exact bthen (bnew _ _) (bnew _ _)
set_option maxRecDepth 100000 in
set_option maxHeartbeats 3200000 in
theorem kd_mount (s : ByteArray) (h : s.toList = [109, 111, 117, 110, 116]) (w : World) : Calls Tryd.prog 48 #[.string s] w fun e w' => e = .returned (kindV (some ⟨0, 0, false, false, false⟩)) ∧ Below w.heap.size w w' := by
  have H9 := Lib.hid (in9 s false (by rw [h]; decide))
  have H7 := Lib.hid (in7b s true (by rw [h]; decide) w)
  go_enter Tryd.func48, Tryd.ntmps48
  go_wp2_with (first | ((with_reducible refine (H9.out _).mono ?_); rintro e1 w1 ⟨rfl, rfl⟩) | ((with_reducible refine H7.out.mono ?_); rintro e2 w2 ⟨rfl, rfl⟩))
  refine bodyPost_ret (v := kindV (some ⟨0, 0, false, false, false⟩)) ?_ rfl ⟨rfl, ?_⟩
  · first | rfl | (rw [results_tmp5 rfl]; go_simp; rfl) | (rw [results_tmp5 rfl]; rfl)
  · first | exact Below.refl _ _ | exact bnew _ _ | exact bthen (bnew _ _) (bnew _ _)
set_option maxRecDepth 100000 in
set_option maxHeartbeats 3200000 in
theorem kd_send (s : ByteArray) (h : s.toList = [115, 101, 110, 100]) (w : World) : Calls Tryd.prog 48 #[.string s] w fun e w' => e = .returned (kindV (some ⟨0, 0, false, false, false⟩)) ∧ Below w.heap.size w w' := by
  have H9 := Lib.hid (in9 s false (by rw [h]; decide))
  have H7 := Lib.hid (in7b s true (by rw [h]; decide) w)
  go_enter Tryd.func48, Tryd.ntmps48
  go_wp2_with (first | ((with_reducible refine (H9.out _).mono ?_); rintro e1 w1 ⟨rfl, rfl⟩) | ((with_reducible refine H7.out.mono ?_); rintro e2 w2 ⟨rfl, rfl⟩))
  refine bodyPost_ret (v := kindV (some ⟨0, 0, false, false, false⟩)) ?_ rfl ⟨rfl, ?_⟩
  · first | rfl | (rw [results_tmp5 rfl]; go_simp; rfl) | (rw [results_tmp5 rfl]; rfl)
  · first | exact Below.refl _ _ | exact bnew _ _ | exact bthen (bnew _ _) (bnew _ _)
set_option maxRecDepth 100000 in
set_option maxHeartbeats 3200000 in
theorem kd_receipts (s : ByteArray) (h : s.toList = [114, 101, 99, 101, 105, 112, 116, 115]) (w : World) : Calls Tryd.prog 48 #[.string s] w fun e w' => e = .returned (kindV (some ⟨0, 0, false, false, false⟩)) ∧ Below w.heap.size w w' := by
  have H9 := Lib.hid (in9 s false (by rw [h]; decide))
  have H7 := Lib.hid (in7b s true (by rw [h]; decide) w)
  go_enter Tryd.func48, Tryd.ntmps48
  go_wp2_with (first | ((with_reducible refine (H9.out _).mono ?_); rintro e1 w1 ⟨rfl, rfl⟩) | ((with_reducible refine H7.out.mono ?_); rintro e2 w2 ⟨rfl, rfl⟩))
  refine bodyPost_ret (v := kindV (some ⟨0, 0, false, false, false⟩)) ?_ rfl ⟨rfl, ?_⟩
  · first | rfl | (rw [results_tmp5 rfl]; go_simp; rfl) | (rw [results_tmp5 rfl]; rfl)
  · first | exact Below.refl _ _ | exact bnew _ _ | exact bthen (bnew _ _) (bnew _ _)
set_option maxRecDepth 100000 in
set_option maxHeartbeats 3200000 in
theorem kd_round (s : ByteArray) (h : s.toList = [114, 111, 117, 110, 100]) (w : World) : Calls Tryd.prog 48 #[.string s] w fun e w' => e = .returned (kindV (some ⟨0, 0, false, false, false⟩)) ∧ Below w.heap.size w w' := by
  have H9 := Lib.hid (in9 s false (by rw [h]; decide))
  have H7 := Lib.hid (in7b s true (by rw [h]; decide) w)
  go_enter Tryd.func48, Tryd.ntmps48
  go_wp2_with (first | ((with_reducible refine (H9.out _).mono ?_); rintro e1 w1 ⟨rfl, rfl⟩) | ((with_reducible refine H7.out.mono ?_); rintro e2 w2 ⟨rfl, rfl⟩))
  refine bodyPost_ret (v := kindV (some ⟨0, 0, false, false, false⟩)) ?_ rfl ⟨rfl, ?_⟩
  · first | rfl | (rw [results_tmp5 rfl]; go_simp; rfl) | (rw [results_tmp5 rfl]; rfl)
  · first | exact Below.refl _ _ | exact bnew _ _ | exact bthen (bnew _ _) (bnew _ _)
set_option maxRecDepth 100000 in
set_option maxHeartbeats 3200000 in
theorem kd_none (s : ByteArray) (h0 : ¬ s.toList = [119, 114, 105, 116, 101]) (h1 : ¬ s.toList = [114, 101, 97, 100]) (h2 : ¬ s.toList = [112, 117, 114, 103, 101]) (h3 : ¬ s.toList = [116, 105, 99, 107]) (h4 : ¬ s.toList = [97, 114, 109]) (h5 : ¬ s.toList = [118, 116, 105, 99, 107]) (h6 : ¬ s.toList = [100, 101, 108, 105, 118, 101, 114]) (h7 : ¬ s.toList = [108, 111, 115, 101]) (h8 : ¬ s.toList = [116, 119, 105, 99, 101]) (h9 : ¬ s.toList = [114, 117, 110]) (h10 : ¬ s.toList = [114, 101, 97, 100, 97, 116]) (h11 : ¬ s.toList = [114, 101, 116, 97, 105, 110]) (h12 : ¬ s.toList = [104, 111, 108, 100]) (h13 : ¬ s.toList = [118, 104, 111, 108, 100]) (h14 : ¬ s.toList = [114, 101, 108, 101, 97, 115, 101]) (h15 : ¬ s.toList = [118, 114, 101, 108, 101, 97, 115, 101]) (h16 : ¬ s.toList = [99, 114, 97, 115, 104]) (h17 : ¬ s.toList = [97, 117, 100, 105, 116]) (h18 : ¬ s.toList = [115, 121, 110, 99]) (h19 : ¬ s.toList = [99, 108, 111, 115, 101]) (h20 : ¬ s.toList = [115, 116, 97, 116]) (h21 : ¬ s.toList = [109, 111, 117, 110, 116]) (h22 : ¬ s.toList = [115, 101, 110, 100]) (h23 : ¬ s.toList = [114, 101, 99, 101, 105, 112, 116, 115]) (h24 : ¬ s.toList = [114, 111, 117, 110, 100]) (w : World) : Calls Tryd.prog 48 #[.string s] w fun e w' => e = .returned (kindV none) ∧ Below w.heap.size w w' := by
  have H9 := Lib.hid (in9 s false (decide_eq_false (by simp [K9, h1, h2, h3, h4, h5, h6, h7, h8, h9])))
  have H7 := Lib.hid (in7b s false (decide_eq_false (by simp [K7, h18, h19, h20, h21, h22, h23, h24])) w)
  have b0 : (s.toList == [119, 114, 105, 116, 101]) = false := by simpa using h0
  have b10 : (s.toList == [114, 101, 97, 100, 97, 116]) = false := by simpa using h10
  have b11 : (s.toList == [114, 101, 116, 97, 105, 110]) = false := by simpa using h11
  have b12 : (s.toList == [104, 111, 108, 100]) = false := by simpa using h12
  have b13 : (s.toList == [118, 104, 111, 108, 100]) = false := by simpa using h13
  have b14 : (s.toList == [114, 101, 108, 101, 97, 115, 101]) = false := by simpa using h14
  have b15 : (s.toList == [118, 114, 101, 108, 101, 97, 115, 101]) = false := by simpa using h15
  have b16 : (s.toList == [99, 114, 97, 115, 104]) = false := by simpa using h16
  have b17 : (s.toList == [97, 117, 100, 105, 116]) = false := by simpa using h17
  clear h0 h1 h2 h3 h4 h5 h6 h7 h8 h9 h10 h11 h12 h13 h14 h15 h16 h17 h18 h19 h20 h21 h22 h23 h24
  go_enter Tryd.func48, Tryd.ntmps48
  go_wp2_with (first | ((with_reducible refine (H9.out _).mono ?_); rintro e1 w1 ⟨rfl, rfl⟩) | ((with_reducible refine H7.out.mono ?_); rintro e2 w2 ⟨rfl, rfl⟩))
  refine bodyPost_ret (v := kindV (none)) ?_ rfl ⟨rfl, ?_⟩
  · first | rfl | (rw [results_tmp5 rfl]; go_simp; rfl) | (rw [results_tmp5 rfl]; rfl)
  · first | exact Below.refl _ _ | exact bnew _ _ | exact bthen (bnew _ _) (bnew _ _)
theorem kinds_any (s : ByteArray) (w : World) : Calls Tryd.prog 48 #[.string s] w fun e w' => e = .returned (kindV (ofW s.toList)) ∧ Below w.heap.size w w' := by
  unfold ofW
  by_cases h0 : s.toList = [119, 114, 105, 116, 101]
  · rw [if_pos h0]; exact kd_write s h0 w
  rw [if_neg h0]
  by_cases h1 : s.toList = [114, 101, 97, 100]
  · rw [if_pos h1]; exact kd_read s h1 w
  rw [if_neg h1]
  by_cases h2 : s.toList = [112, 117, 114, 103, 101]
  · rw [if_pos h2]; exact kd_purge s h2 w
  rw [if_neg h2]
  by_cases h3 : s.toList = [116, 105, 99, 107]
  · rw [if_pos h3]; exact kd_tick s h3 w
  rw [if_neg h3]
  by_cases h4 : s.toList = [97, 114, 109]
  · rw [if_pos h4]; exact kd_arm s h4 w
  rw [if_neg h4]
  by_cases h5 : s.toList = [118, 116, 105, 99, 107]
  · rw [if_pos h5]; exact kd_vtick s h5 w
  rw [if_neg h5]
  by_cases h6 : s.toList = [100, 101, 108, 105, 118, 101, 114]
  · rw [if_pos h6]; exact kd_deliver s h6 w
  rw [if_neg h6]
  by_cases h7 : s.toList = [108, 111, 115, 101]
  · rw [if_pos h7]; exact kd_lose s h7 w
  rw [if_neg h7]
  by_cases h8 : s.toList = [116, 119, 105, 99, 101]
  · rw [if_pos h8]; exact kd_twice s h8 w
  rw [if_neg h8]
  by_cases h9 : s.toList = [114, 117, 110]
  · rw [if_pos h9]; exact kd_run s h9 w
  rw [if_neg h9]
  by_cases h10 : s.toList = [114, 101, 97, 100, 97, 116]
  · rw [if_pos h10]; exact kd_readat s h10 w
  rw [if_neg h10]
  by_cases h11 : s.toList = [114, 101, 116, 97, 105, 110]
  · rw [if_pos h11]; exact kd_retain s h11 w
  rw [if_neg h11]
  by_cases h12 : s.toList = [104, 111, 108, 100]
  · rw [if_pos h12]; exact kd_hold s h12 w
  rw [if_neg h12]
  by_cases h13 : s.toList = [118, 104, 111, 108, 100]
  · rw [if_pos h13]; exact kd_vhold s h13 w
  rw [if_neg h13]
  by_cases h14 : s.toList = [114, 101, 108, 101, 97, 115, 101]
  · rw [if_pos h14]; exact kd_release s h14 w
  rw [if_neg h14]
  by_cases h15 : s.toList = [118, 114, 101, 108, 101, 97, 115, 101]
  · rw [if_pos h15]; exact kd_vrelease s h15 w
  rw [if_neg h15]
  by_cases h16 : s.toList = [99, 114, 97, 115, 104]
  · rw [if_pos h16]; exact kd_crash s h16 w
  rw [if_neg h16]
  by_cases h17 : s.toList = [97, 117, 100, 105, 116]
  · rw [if_pos h17]; exact kd_audit s h17 w
  rw [if_neg h17]
  by_cases h18 : s.toList = [115, 121, 110, 99]
  · rw [if_pos h18]; exact kd_sync s h18 w
  rw [if_neg h18]
  by_cases h19 : s.toList = [99, 108, 111, 115, 101]
  · rw [if_pos h19]; exact kd_close s h19 w
  rw [if_neg h19]
  by_cases h20 : s.toList = [115, 116, 97, 116]
  · rw [if_pos h20]; exact kd_stat s h20 w
  rw [if_neg h20]
  by_cases h21 : s.toList = [109, 111, 117, 110, 116]
  · rw [if_pos h21]; exact kd_mount s h21 w
  rw [if_neg h21]
  by_cases h22 : s.toList = [115, 101, 110, 100]
  · rw [if_pos h22]; exact kd_send s h22 w
  rw [if_neg h22]
  by_cases h23 : s.toList = [114, 101, 99, 101, 105, 112, 116, 115]
  · rw [if_pos h23]; exact kd_receipts s h23 w
  rw [if_neg h23]
  by_cases h24 : s.toList = [114, 111, 117, 110, 100]
  · rw [if_pos h24]; exact kd_round s h24 w
  rw [if_neg h24]
  exact kd_none s h0 h1 h2 h3 h4 h5 h6 h7 h8 h9 h10 h11 h12 h13 h14 h15 h16 h17 h18 h19 h20 h21 h22 h23 h24 w
end Go.Proofs.YtdpfcjhhabcheaaDoor

/-
  The contract of the reference's Parse, whichever its words. No condition. Own work.
-/
import Derived.Test.YtdpfcjhhabcheaaRParse1
import Derived.Test.YtdpfcjhhabcheaaRParse2
import Derived.Test.YtdpfcjhhabcheaaRParse3
namespace Go.Proofs.Ytdpfcjhhabcheaa
open Go Go.RowKit

set_option maxRecDepth 100000 in
set_option maxHeartbeats 6400000 in
theorem rparse_nil (sb : ByteArray) (hs : sb.size ≤ 90000) (HX : wordsL sb.data.toList = []) (w : World) :
    Calls Try.prog 6 #[.string sb] w fun e w' => RRes none w' e ∧ Below w.heap.size w w' := by
  have h1 := rwords_any sb hs
  have hwl : (wordsL sb.data.toList).length ≤ 90000 := by have := words_len sb.data.toList; have := sz_list sb; omega
  have hwy : ∀ y ∈ wordsL sb.data.toList, y.length ≤ 90000 := fun y hy => by have := words_each sb.data.toList y hy; have := sz_list sb; omega
  obtain ⟨ws0, hws⟩ : ∃ ws0, ws0 = wordsL sb.data.toList := ⟨_, rfl⟩
  rw [← hws] at h1 hwl hwy HX
  have HWY := Lib.hid hwy
  clear hws hwy
  have H1 := Lib.hid h1
  clear h1
  go_enter Try.func6, Try.ntmps6
  go_wp2_with fail
  refine (H1.out _).mono ?_
  rintro e1 w1 ⟨⟨v, rfl, hO⟩, hb1⟩
  have b1 := bthen (bnew w _) hb1
  have z1 := bsz hb1
  have r1 : Blk w1 w.heap.size _ _ := (hb1.block w.heap.size (by simp)).trans (heap_alloc_new w _)
  have hv : WAt v ws0 w1.heap.size w1 := wat_of hO (by omega)
  clear hb1 hO
  subst HX
  obtain ⟨a, cap, rfl, -⟩ := hv
  have f0 := fun i => Blk.fz r1 i
  obtain ⟨g0, g1, g2, g3, g4⟩ := five_row r1
  rw [List.length_nil]
  go_wp2_with fail
  refine bodyPost_ret (v := .tuple #[EVal ⟨#[]⟩ (.slice none 0 0) ⟨#[]⟩ ⟨#[]⟩ (.slice none 0 0), .bool false]) ?_ rfl ⟨rfl, ?_⟩
  · rw [results_cell_tmp rfl]
    go_simp
  · exact (((((b1.setCell (Nat.le_refl _) _).setCell (Nat.le_refl _) _).setCell (Nat.le_refl _) _).setCell (Nat.le_refl _) _).setCell (Nat.le_refl _) _)
set_option maxRecDepth 100000 in
set_option maxHeartbeats 6400000 in
theorem rparse_none (sb : ByteArray) (hs : sb.size ≤ 90000) (x : List UInt8) (ws : List (List UInt8)) (HX : wordsL sb.data.toList = x :: ws) (ho : ofW x = none) (w : World) :
    Calls Try.prog 6 #[.string sb] w fun e w' => RRes none w' e ∧ Below w.heap.size w w' := by
  have h1 := rwords_any sb hs
  have hwl : (wordsL sb.data.toList).length ≤ 90000 := by have := words_len sb.data.toList; have := sz_list sb; omega
  have hwy : ∀ y ∈ wordsL sb.data.toList, y.length ≤ 90000 := fun y hy => by have := words_each sb.data.toList y hy; have := sz_list sb; omega
  obtain ⟨ws0, hws⟩ : ∃ ws0, ws0 = wordsL sb.data.toList := ⟨_, rfl⟩
  rw [← hws] at h1 hwl hwy HX
  have HWY := Lib.hid hwy
  clear hws hwy
  have H1 := Lib.hid h1
  clear h1
  go_enter Try.func6, Try.ntmps6
  go_wp2_with fail
  refine (H1.out _).mono ?_
  rintro e1 w1 ⟨⟨v, rfl, hO⟩, hb1⟩
  have b1 := bthen (bnew w _) hb1
  have z1 := bsz hb1
  have r1 : Blk w1 w.heap.size _ _ := (hb1.block w.heap.size (by simp)).trans (heap_alloc_new w _)
  have hv : WAt v ws0 w1.heap.size w1 := wat_of hO (by omega)
  clear hb1 hO
  subst HX
  have h2 := kindB_any x
  rw [ho] at h2
  have H2 := Lib.hid h2
  have HO := Lib.hid ho
  clear h2 ho
  obtain ⟨nw, hnw⟩ : ∃ nw, nw = ws.length := ⟨_, rfl⟩
  have HNW := Lib.hid hnw
  have hwl' : nw < 90000 := by rw [List.length_cons] at hwl; omega
  obtain ⟨a, cap, rfl, hcap, hmax, hc⟩ := hv
  obtain ⟨g, o, rfl, hg, hx⟩ := hc (by simp)
  have cx : w1.cell? ⟨g, o, none⟩ = some (.string ⟨x.toArray⟩) := hx 0 _ rfl
  have hvv : WAt (.slice (some ⟨g, o, none⟩) (x :: ws).length cap) (x :: ws) w1.heap.size w1 := ⟨_, _, rfl, hcap, hmax, fun _ => ⟨g, o, rfl, hg, hx⟩⟩
  have hst := rs_start (wd := ⟨x.toArray⟩) (Nat.le_refl _) hvv r1 b1
  have HST := Lib.hid hst
  clear hst hvv hx hc hcap hmax b1 r1
  rw [List.length_cons, ← hnw]
  clear hnw hwl
  have n1 : ¬ ((nw : Int) + 1) = 0 := by omega
  have n2 : ((((nw : Int) + 1) == 0) = false) := by simpa using n1
  have n3 : (0 : Int) < (nw : Int) + 1 := by omega
  go_wp2_with fail
  refine (H2.out _).mono ?_
  rintro e2 w2 ⟨rfl, hb2⟩
  have hs2 := HST.out.kept hb2
  rw [List.length_cons, ← HNW.out] at hs2
  have HS2 := Lib.hid hs2
  clear hs2 hb2 cx hg z1 HST H1 H2 n1 n2 n3
  dsimp only [kindV]
  go_wp2_with fail
  go_loopw [11] (fun c wr => c = .int .i64 1 ∧ w2 = wr) (fun _ _ => 0)
  case atStart => exact ⟨rfl, rfl⟩
  case round =>
    obtain ⟨rfl, rfl⟩ := hrel
    generalize w1.heap.size = E at *
    have hps := HS2.out
    obtain ⟨⟨e0, e1, e2, e3, e4⟩, ⟨r0, r1, r2, r3, r4⟩, fE, fR⟩ := hps.cells
    clear hps
    by_cases h0 : nw = 0
    · have k1 : ¬ (1 : Int) < (nw : Int) + 1 := by omega
      go_wp2_with fail
      go_loopw [11] (fun c wr => c = .int .i64 1 ∧ w2 = wr) (fun _ _ => 0)
      case atStart => exact ⟨rfl, rfl⟩
      case round =>
        obtain ⟨rfl, rfl⟩ := hrel
        have hev := HS2.out.ev (w' := w2) ⟨rfl, rfl, rfl, Nat.le_refl _, fun _ _ _ => rfl⟩
        have hck := rright_any ⟨⟨x.toArray⟩, [], ⟨#[]⟩, ⟨#[]⟩, []⟩ _ (by simp) (by simp) (by dsimp only; decide) (by dsimp only; decide) w2 hev
        have hq : evOk ⟨⟨x.toArray⟩, [], ⟨#[]⟩, ⟨#[]⟩, []⟩ = false := by unfold evOk; dsimp only; rw [str_tl]; dsimp only; rw [HO.out]
        rw [hq] at hck
        have HCK := Lib.hid hck
        clear hev hck hq
        go_wp2_with fail
        refine HCK.out.mono ?_
        rintro e8 w8 ⟨rfl, hb8⟩
        have h8 := HS2.out.kept hb8
        have b9 := h8.below
        clear e0 e1 e2 e3 e4 r0 r1 r2 r3 r4 fE fR
        obtain ⟨⟨e0, e1, e2, e3, e4⟩, ⟨r0, r1, r2, r3, r4⟩, fE, fR⟩ := h8.cells
        clear h8 hb8 HCK
        go_wp2_with fail
        refine bodyPost_ret (v := .tuple #[EVal ⟨#[]⟩ (.slice none 0 0) ⟨#[]⟩ ⟨#[]⟩ (.slice none 0 0), .bool false]) ?_ rfl ⟨rfl, ?_⟩
        · rw [results_cell_tmp rfl]
          go_simp
        · exact (((((b9.setCell (Nat.le_refl _) _).setCell (Nat.le_refl _) _).setCell (Nat.le_refl _) _).setCell (Nat.le_refl _) _).setCell (Nat.le_refl _) _)
    · have k1 : (1 : Int) < (nw : Int) + 1 := by omega
      have b9 := HS2.out.below
      go_wp2_with fail
      go_loopw [11] (fun c wr => c = .int .i64 1 ∧ w2 = wr) (fun _ _ => 0)
      case atStart => exact ⟨rfl, rfl⟩
      case round =>
        obtain ⟨rfl, rfl⟩ := hrel
        go_wp2_with fail
        refine bodyPost_ret (v := .tuple #[EVal ⟨#[]⟩ (.slice none 0 0) ⟨#[]⟩ ⟨#[]⟩ (.slice none 0 0), .bool false]) ?_ rfl ⟨rfl, ?_⟩
        · rw [results_cell_tmp rfl]
          go_simp
        · exact (((((b9.setCell (Nat.le_refl _) _).setCell (Nat.le_refl _) _).setCell (Nat.le_refl _) _).setCell (Nat.le_refl _) _).setCell (Nat.le_refl _) _)
theorem rparse_some (sb : ByteArray) (hs : sb.size ≤ 90000) (x : List UInt8) (ws : List (List UInt8)) (s : Shp) (HX : wordsL sb.data.toList = x :: ws) (ho : ofW x = some s) (w : World) :
    Calls Try.prog 6 #[.string sb] w fun e w' => RRes (rShape s ⟨x.toArray⟩ ((ws.take s.most).map numR) (ws.drop s.most)) w' e ∧ Below w.heap.size w w' := by
  rcases of_one ho with h | h | h | h
  · exact rparse_name sb hs x ws s HX ho h w
  · exact rparse_data sb hs x ws s HX ho h w
  · exact rparse_asks sb hs x ws s HX ho h w
  · exact rparse_none4 sb hs x ws s HX ho h w
theorem rparse_any (sb : ByteArray) (hs : sb.size ≤ 90000) (w : World) : Calls Try.prog 6 #[.string sb] w fun e w' => RRes (rW (wordsL sb.data.toList)) w' e ∧ Below w.heap.size w w' := by
  cases hx : wordsL sb.data.toList with
  | nil => exact rparse_nil sb hs hx w
  | cons x ws =>
    unfold rW
    dsimp only
    cases ho : ofW x with
    | none => exact rparse_none sb hs x ws hx ho w
    | some s => exact rparse_some sb hs x ws s hx ho w
end Go.Proofs.Ytdpfcjhhabcheaa
